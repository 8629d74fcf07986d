/- Functions with the same answers as the Go functions that they are named for, and the proofs of it, by a program of this project (gen.py). -/
import Derived.Test.YtecolkjlpklaaaaDoorT
import Derived.Test.YtecolkjlpklaaaaDoorShelf
import Derived.Test.YtecolkjlpklaaaaDoorW
import Derived.Test.YtecolkjlpklaaaaDoorL
import Derived.Test.YtecolkjlpklaaaaDoorS
import Derived.Test.YtecolkjlpklaaaaDoorJ
import Derived.Test.YtecolkjlpklaaaaDoorK
import Derived.Test.YtecolkjlpklaaaaDoorProg
import Derived.Test.YtecolkjlpklaaaaDoorG1
import Derived.Test.YtecolkjlpklaaaaDoorG2
set_option linter.unusedVariables false
set_option linter.unusedSimpArgs false
namespace Go.Proofs.YtecolkjlpklaaaaDoor
open E Go.RowKit

theorem infoG39_is : (Tryd.prog.info? 9).isSome = true := by kernel_rfl
noncomputable def infoG39_v : TypeInfo := (Tryd.prog.info? 9).get infoG39_is
theorem infoG39 : Tryd.prog.info? 9 = some infoG39_v := (Option.some_get _).symm

def quad_Text.l0 (x0 : (Vector Int 4)) (i4 : Int) (i5 : (Vector ByteArray 4)) : Option ((Vector ByteArray 4)) :=
  if (decide (i4 < 4)) = true then (if (0 : Int) ≤ i4 ∧ i4 < 4 then decimal_Text (wr .u64 (vget x0 i4)) >>= fun t8 => if (0 : Int) ≤ i4 ∧ i4 < 4 then quad_Text.l0 x0 (wr .i64 (i4 + 1)) (vset i5 i4 t8) else none else none) else (some i5)
  partial_fixpoint
def quad_Text (x0 : (Vector Int 4)) : Option (ByteArray) :=
  quad_Text.l0 x0 0 (Vector.replicate 4 (⟨#[]⟩ : ByteArray) : (Vector ByteArray 4)) >>= fun q3 => if List.length (Vector.toList q3) ≤ 140737488355328 then if (bjoin (Vector.toList q3) (⟨#[46]⟩ : ByteArray)).size ≤ 140737488355328 then some (bjoin (Vector.toList q3) (⟨#[46]⟩ : ByteArray)) else none else none
theorem quad_Text_ok (x0 : (Vector Int 4)) (r : ByteArray) (hF : quad_Text x0 = some r) (w : World) (hg_strconv_uint64pow10 : GV_strconv_uint64pow10 w) :
    Calls Tryd.prog 72 #[.agg (Cd.cs (cVec (cInt .u8) 4 (by decide)) x0).toArray] w (fun e w' => e = .returned (.string r) ∧ Below w.heap.size w w') := by
  unfold quad_Text at hF
  refine calls_enter (l := [.agg (Cd.cs (cVec (cInt .u8) 4 (by decide)) x0).toArray]) Tryd.func72 rfl rfl rfl ?_
  refine at_start ?_
  refine at_weak [(0, _)] ⟨rfl, trivial⟩ ?_
  refine at_seq ?_
  refine at_region ?_
  refine at_box (cs := Cd.cs (cVec (cInt .u8) 4 (by decide)) x0) rfl rfl rfl ?_
  intro b1
  refine at_val rfl rfl rfl (r_assign rfl) ?_
  refine at_nil ?_
  refine at_weak [(1, _)] ⟨rfl, trivial⟩ ?_
  refine at_then_normal ?_
  refine at_seq ?_
  refine at_region ?_
  refine at_alloc (cs := Cd.cs (cVec cStr 4 (by decide)) (Vector.replicate 4 (⟨#[]⟩ : ByteArray) : (Vector ByteArray 4))) Tryd.zeroValue109 rfl rfl ?_
  intro b2
  refine at_nil ?_
  refine at_weak [(1, _), (3, _)] ⟨rfl, rfl, trivial⟩ ?_
  refine at_then_normal ?_
  refine at_seq ?_
  refine at_seq ?_
  refine at_region ?_
  refine at_val rfl rfl rfl (r_load_aggc (c := (cVec (cInt .u8) 4 (by decide))) (z := x0) Tryd.isAgg47 Tryd.sizeOf47 rfl (lens_cell (.s .z) (Lens.whole _ _))) ?_
  refine at_val rfl rfl rfl (r_move rfl) ?_
  refine at_nil ?_
  refine at_drop (H := _) (.s .z) ?_
  refine at_weak [(3, _), (6, _), (7, _)] ⟨rfl, rfl, rfl, trivial⟩ ?_
  refine at_then_normal ?_
  refine at_block ?_
  obtain ⟨q3, hq3, hF⟩ := of_bindM hF
  refine at_weak [(3, _), (6, _), (7, _)] ⟨rfl, rfl, rfl, trivial⟩ ?_
  refine at_loop_n (B := 0) (A := fun Y => At 19 [(3, .pointer (some ⟨b2, 0, none⟩))] (Wd w [cellsE b2 (Cd.cs (cVec cStr 4 (by decide)) q3) 109]) Y) ?_ ?_
  · intro K
    refine quad_Text.l0.partial_correctness x0 (motive := fun i4 i5 x => KN (fun Y => At 19 [(3, .pointer (some ⟨b2, 0, none⟩))] (Wd w [cellsE b2 (Cd.cs (cVec cStr 4 (by decide)) x) 109]) Y) _ 0 → Round (fun Y => At 19 [(3, .pointer (some ⟨b2, 0, none⟩)), (6, .agg (Cd.cs (cVec (cInt .u8) 4 (by decide)) x0).toArray), (7, .int .i64 i4)] (Wd w [cellsE b2 (Cd.cs (cVec cStr 4 (by decide)) i5) 109]) Y) _ _ _) ?_ _ _ _ hq3 K
    · clear K hF
      intro g ih i4 i5 x hF K
      refine at_round ?_
      refine at_seq ?_
      refine at_region ?_
      refine at_val rfl rfl rfl (r_ilss rfl rfl) ?_
      refine at_nil ?_
      refine at_weak [(3, _), (6, _), (7, _), (8, _)] ⟨rfl, rfl, rfl, rfl, trivial⟩ ?_
      refine at_then_normal ?_
      refine at_seq ?_
      rcases of_ite hF with ⟨h6, hF⟩ | ⟨h6, hF⟩
      · refine at_cond_true rfl h6 ?_
        refine at_skip ?_
        refine at_then_normal ?_
        refine at_seq ?_
        refine at_block ?_
        refine at_seq ?_
        refine at_region ?_
        refine at_val rfl rfl rfl (r_move rfl) ?_
        obtain ⟨h7, hF⟩ := of_guard hF
        refine at_val rfl rfl rfl (r_idxVal Tryd.underlying47 Tryd.sizeOf5 rfl rfl h7 (part_vOf (Lens.vec (cInt .u8) (by decide) x0 i4 h7) Tryd.isAgg5 Tryd.sizeOf5 (.inr rfl))) ?_
        refine at_val rfl rfl rfl (r_assign rfl) ?_
        refine at_val rfl rfl rfl (r_assign rfl) ?_
        refine at_nil ?_
        refine at_weak [(3, _), (4, _), (5, _), (6, _), (7, _)] ⟨rfl, rfl, rfl, rfl, rfl, trivial⟩ ?_
        refine at_then_normal ?_
        refine at_region ?_
        refine at_val rfl rfl rfl (r_move rfl) ?_
        refine at_val rfl rfl rfl (r_move rfl) ?_
        refine at_val rfl rfl rfl (r_conv Tryd.underlying5 Tryd.underlying83 rfl) ?_
        obtain ⟨t8, ht8, hF⟩ := of_bindM hF
        refine at_callB Tryd.func74 rfl (by kernel_rfl) rfl rfl (fun w hw => decimal_Text_ok _ _ ht8 w (hg_strconv_uint64pow10.on hw.below)) ?_
        obtain ⟨h9, hF⟩ := of_guard hF
        refine at_val rfl rfl rfl (r_idxArr Tryd.underlying109 Tryd.sizeOf9 rfl rfl h9) ?_
        refine at_store (c := cStr) (z := t8) .z (Lens.comp (Lens.whole _ _) (fun z => vset i5 i4 z) (Lens.vec cStr (by decide) i5 i4 h9)) Tryd.sizeOf9 rfl rfl rfl ?_
        refine at_nil ?_
        refine at_weak [(3, _), (6, _), (7, _)] ⟨rfl, rfl, rfl, trivial⟩ ?_
        refine at_blk_normal (at_then_normal ?_)
        refine at_region ?_
        refine at_val rfl rfl rfl (r_iadd rfl rfl) ?_
        refine at_val rfl rfl rfl (r_move rfl) ?_
        refine at_nil ?_
        refine at_weak [(3, _), (6, _), (7, _)] ⟨rfl, rfl, rfl, trivial⟩ ?_
        refine at_then_normal ?_
        exact at_weak_k (ih _ _ _ hF K) ⟨rfl, rfl, rfl, trivial⟩
      · refine at_cond_false rfl h6 ?_
        refine at_exit ?_
        refine at_then_exit (at_then_exit ?_)
        obtain rfl := of_some hF
        exact at_weak_k K ⟨rfl, trivial⟩
  · skip
    skip
    refine at_blk_same ?_
    refine at_then_normal ?_
    refine at_seq ?_
    refine at_region ?_
    refine at_val rfl rfl rfl (r_slice_vec q3 Tryd.underlying109 Tryd.sizeOf9 rfl) ?_
    obtain ⟨h10, hF⟩ := of_guard hF
    obtain ⟨h11, hF⟩ := of_guard hF
    refine at_callB Tryd.func91 rfl (by kernel_rfl) rfl rfl (fun w1 hw => join_ok _ _ h10 h11 _ _ w1 (vec_row (hw.ok (Upd.mem .z)))) ?_
    refine at_val rfl rfl rfl (r_assign rfl) ?_
    refine at_nil ?_
    refine at_drop (H := _) .z ?_
    refine at_weak [(2, _)] ⟨rfl, trivial⟩ ?_
    refine at_then_normal ?_
    refine at_ret ?_
    have K := of_some hF
    subst K
    exact at_return1 rfl rfl (fun w1 hw => ⟨rfl, hw.below⟩)

def lines_Cut (x0 : ByteArray) (x1 : Int) : Option (ByteArray × ByteArray × Bool) :=
  if (decide (Lib.indexByte x0.data.toList (Nat.toUInt8 (Int.toNat x1)) < 0)) = true then (some (x0, ⟨#[]⟩, false)) else (if (0 : Int) ≤ 0 ∧ 0 ≤ Lib.indexByte x0.data.toList (Nat.toUInt8 (Int.toNat x1)) ∧ Lib.indexByte x0.data.toList (Nat.toUInt8 (Int.toNat x1)) ≤ (x0.size : Int) then if (0 : Int) ≤ wr .i64 ((Lib.indexByte x0.data.toList (Nat.toUInt8 (Int.toNat x1))) + 1) ∧ wr .i64 ((Lib.indexByte x0.data.toList (Nat.toUInt8 (Int.toNat x1))) + 1) ≤ (x0.size : Int) ∧ (x0.size : Int) ≤ (x0.size : Int) then some (x0.extract (Int.toNat 0) (Int.toNat (Lib.indexByte x0.data.toList (Nat.toUInt8 (Int.toNat x1)))), x0.extract (Int.toNat (wr .i64 ((Lib.indexByte x0.data.toList (Nat.toUInt8 (Int.toNat x1))) + 1))) (Int.toNat (x0.size : Int)), true) else none else none)
theorem lines_Cut_ok (x0 : ByteArray) (x1 : Int) (r : ByteArray × ByteArray × Bool) (hF : lines_Cut x0 x1 = some r) (w : World) :
    Calls Tryd.prog 67 #[.string x0, .int .u8 x1] w (fun e w' => e = .returned (.tuple #[.string r.1, .string r.2.1, .bool r.2.2]) ∧ Below w.heap.size w w') := by
  unfold lines_Cut at hF
  refine calls_enter (l := [.string x0, .int .u8 x1]) Tryd.func67 rfl rfl rfl ?_
  refine at_start ?_
  refine at_weak [(0, _), (1, _)] ⟨rfl, rfl, trivial⟩ ?_
  refine at_seq ?_
  refine at_region ?_
  refine at_val rfl rfl rfl (r_assign rfl) ?_
  refine at_val rfl rfl rfl (r_assign rfl) ?_
  refine at_val rfl rfl rfl (r_assign rfl) ?_
  refine at_nil ?_
  refine at_weak [(0, _), (1, _)] ⟨rfl, rfl, trivial⟩ ?_
  refine at_then_normal ?_
  refine at_seq ?_
  refine at_region ?_
  refine at_val rfl rfl rfl (r_move rfl) ?_
  refine at_val rfl rfl rfl (r_move rfl) ?_
  refine at_call0 Tryd.func89 rfl (by kernel_rfl) rfl rfl (fun w => Tryd.strings_IndexByte _ _ w) ?_
  refine at_val rfl rfl rfl (r_assign rfl) ?_
  refine at_nil ?_
  refine at_weak [(0, _), (7, _)] ⟨rfl, rfl, trivial⟩ ?_
  refine at_then_normal ?_
  refine at_seq ?_
  refine at_seq ?_
  refine at_region ?_
  refine at_val rfl rfl rfl (r_move rfl) ?_
  refine at_val rfl rfl rfl (r_ilss rfl rfl) ?_
  refine at_nil ?_
  refine at_weak [(0, _), (7, _), (12, _)] ⟨rfl, rfl, rfl, trivial⟩ ?_
  refine at_then_normal ?_
  rcases of_ite hF with ⟨h1, hF⟩ | ⟨h1, hF⟩
  · refine at_cond_true rfl h1 ?_
    refine at_seq ?_
    refine at_region ?_
    refine at_val rfl rfl rfl (r_move rfl) ?_
    refine at_val rfl rfl rfl (r_assign rfl) ?_
    refine at_val rfl rfl rfl (r_assign rfl) ?_
    refine at_val rfl rfl rfl (r_assign rfl) ?_
    refine at_nil ?_
    refine at_weak [(4, _), (5, _), (6, _)] ⟨rfl, rfl, rfl, trivial⟩ ?_
    refine at_then_normal ?_
    refine at_ret ?_
    refine at_then_ret ?_
    have K := of_some hF
    subst K
    exact at_return3 rfl rfl rfl rfl (fun w1 hw => ⟨rfl, hw.below⟩)
  · refine at_cond_false rfl h1 ?_
    refine at_skip ?_
    refine at_then_normal ?_
    refine at_seq ?_
    refine at_draw (by kernel_rfl) (by kernel_rfl) (fun _ h => h.drew) ?_
    refine atq_val rfl rfl rfl (r_move rfl) ?_
    refine atq_val rfl rfl rfl (r_move rfl) ?_
    obtain ⟨h2, hF⟩ := of_guard hF
    refine atq_val rfl rfl rfl (r_slice_str Tryd.underlying9 rfl rfl ⟨_, rfl⟩ h2) ?_
    refine atq_val rfl rfl rfl (r_move rfl) ?_
    refine atq_val rfl rfl rfl (r_move rfl) ?_
    refine atq_val rfl rfl rfl (r_iadd rfl rfl) ?_
    obtain ⟨h3, hF⟩ := of_guard hF
    refine atq_val rfl rfl rfl (r_slice_str Tryd.underlying9 rfl ⟨_, rfl⟩ rfl h3) ?_
    refine atq_val rfl rfl rfl (r_assign rfl) ?_
    refine atq_val rfl rfl rfl (r_assign rfl) ?_
    refine atq_val rfl rfl rfl (r_assign rfl) ?_
    refine atq_nil ?_
    refine at_weak [(4, _), (5, _), (6, _)] ⟨rfl, rfl, rfl, trivial⟩ ?_
    refine at_then_normal ?_
    refine at_ret ?_
    have K := of_some hF
    subst K
    exact at_return3 rfl rfl rfl rfl (fun w1 hw => ⟨rfl, hw.below⟩)

def lines_Parts.l0 (x1 : Int) (i4 : ByteArray) (i5 : List ByteArray) : Option (List ByteArray) :=
  lines_Cut i4 x1 >>= fun t8 => if (i5.length + 1) * 16 ≤ 140737488355328 then if (!t8.2.2) = true then (some (i5 ++ [t8.1])) else (lines_Parts.l0 x1 t8.2.1 (i5 ++ [t8.1])) else none
  partial_fixpoint
def lines_Parts (x0 : ByteArray) (x1 : Int) : Option (List ByteArray) :=
  lines_Parts.l0 x1 x0 ([] : List ByteArray) >>= fun q3 => some q3
theorem lines_Parts_ok (x0 : ByteArray) (x1 : Int) (r : List ByteArray) (hF : lines_Parts x0 x1 = some r) (w : World) :
    Calls Tryd.prog 90 #[.string x0, .int .u8 x1] w (fun e w' => ∃ p cap, e = .returned (.slice p r.length cap) ∧ Own cStr 9 w.heap.size w' p cap r ∧ Below w.heap.size w w') := by
  unfold lines_Parts at hF
  refine calls_enter (l := [.string x0, .int .u8 x1]) Tryd.func90 rfl rfl rfl ?_
  refine at_start ?_
  refine at_weak [(0, _), (1, _)] ⟨rfl, rfl, trivial⟩ ?_
  refine at_seq ?_
  refine at_region ?_
  refine at_val rfl rfl rfl (r_assign rfl) ?_
  refine at_nil ?_
  refine at_weak [(0, _), (1, _)] ⟨rfl, rfl, trivial⟩ ?_
  refine at_then_normal ?_
  refine at_seq ?_
  refine at_region ?_
  refine at_val rfl rfl rfl (r_assign rfl) ?_
  refine at_nil ?_
  refine at_weak [(0, _), (1, _), (5, _)] ⟨rfl, rfl, rfl, trivial⟩ ?_
  refine at_then_normal ?_
  refine at_block ?_
  refine at_own_nil cStr 9 ?_
  refine at_weak [(0, _), (1, _), (5, .slice none ([] : List ByteArray).length 0)] ⟨rfl, rfl, rfl, trivial⟩ ?_
  obtain ⟨q3, hq3, hF⟩ := of_bindM hF
  refine at_weak [(0, _), (1, _), (5, _)] ⟨rfl, rfl, rfl, trivial⟩ ?_
  refine at_loop_only (r := r) (q := q3) ?_ ?_
  · intro K
    refine lines_Parts.l0.partial_correctness x1 (motive := fun i4 i5 x => x = r → Round (fun Y => ∀ (p6 : Option Addr) (c7 : Nat), At 24 [(0, .string i4), (1, .int .u8 x1), (5, .slice p6 i5.length c7)] (Wd w [rowE cStr 9 p6 c7 i5]) Y) _ _ _) ?_ _ _ _ hq3 K none 0
    · clear K hF
      intro g ih i4 i5 x hF K p6 c7
      refine at_round ?_
      refine at_block ?_
      refine at_seq ?_
      refine at_region ?_
      refine at_val rfl rfl rfl (r_move rfl) ?_
      refine at_val rfl rfl rfl (r_move rfl) ?_
      obtain ⟨t8, ht8, hF⟩ := of_bindM hF
      refine at_callB Tryd.func67 rfl (by kernel_rfl) rfl rfl (fun w hw => lines_Cut_ok _ _ _ ht8 w) ?_
      refine at_val rfl rfl rfl (r_move rfl) ?_
      refine at_val rfl rfl rfl (r_extract rfl rfl) ?_
      refine at_val rfl rfl rfl (r_extract rfl rfl) ?_
      refine at_val rfl rfl rfl (r_extract rfl rfl) ?_
      refine at_val rfl rfl rfl (r_assign rfl) ?_
      refine at_val rfl rfl rfl (r_assign rfl) ?_
      refine at_val rfl rfl rfl (r_assign rfl) ?_
      refine at_nil ?_
      refine at_weak [(1, _), (5, _), (6, _), (7, _), (8, _)] ⟨rfl, rfl, rfl, rfl, rfl, trivial⟩ ?_
      refine at_then_normal ?_
      refine at_seq ?_
      refine at_region ?_
      refine at_val rfl rfl rfl (r_move rfl) ?_
      refine at_val rfl rfl rfl (r_move rfl) ?_
      refine at_lit (cs := cStr.all ([t8.1] : List ByteArray)) Tryd.underlying76 Tryd.sizeOf9 Tryd.zeroValue9 rfl rfl rfl (by kernel_rfl) rfl ?_
      intro b9
      obtain ⟨h10, hF⟩ := of_guard hF
      refine at_append (z := .string ⟨#[]⟩) (c := cStr) (ys := ([t8.1] : List ByteArray)) (.s .z) Tryd.underlying76 infoG39 (by kernel_rfl) (by kernel_rfl) rfl rfl rfl rfl (fun _ hw => cells_src (hw.ok (Upd.mem .z))) (by kernel_rfl) h10 (app_small h10) rfl ?_
      intro p11 c12
      refine at_val rfl rfl rfl (r_assign rfl) ?_
      refine at_nil ?_
      refine at_drop (H := _) .z ?_
      refine at_weak [(1, _), (5, _), (7, _), (8, _)] ⟨rfl, rfl, rfl, rfl, trivial⟩ ?_
      refine at_then_normal ?_
      refine at_seq ?_
      refine at_seq ?_
      refine at_region ?_
      refine at_val rfl rfl rfl (r_move rfl) ?_
      refine at_val rfl rfl rfl (r_not rfl) ?_
      refine at_nil ?_
      refine at_weak [(1, _), (5, _), (7, _), (21, _)] ⟨rfl, rfl, rfl, rfl, trivial⟩ ?_
      refine at_then_normal ?_
      rcases of_ite hF with ⟨h13, hF⟩ | ⟨h13, hF⟩
      · refine at_cond_true rfl h13 ?_
        refine at_seq ?_
        refine at_region ?_
        refine at_val rfl rfl rfl (r_move rfl) ?_
        refine at_val rfl rfl rfl (r_assign rfl) ?_
        refine at_nil ?_
        refine at_weak [(4, _)] ⟨rfl, trivial⟩ ?_
        refine at_then_normal ?_
        refine at_ret ?_
        refine at_then_ret (at_blk_ret (at_then_ret (at_blk_ret ?_)))
        obtain rfl := of_some hF
        subst K
        exact at_return1 rfl rfl (fun w1 hw => ⟨p11, c12, rfl, hw.own .z, hw.below⟩)
      · refine at_cond_false rfl h13 ?_
        refine at_skip ?_
        refine at_then_normal ?_
        refine at_region ?_
        refine at_val rfl rfl rfl (r_move rfl) ?_
        refine at_val rfl rfl rfl (r_assign rfl) ?_
        refine at_nil ?_
        refine at_weak [(0, _), (1, _), (5, _)] ⟨rfl, rfl, rfl, trivial⟩ ?_
        refine at_blk_normal (at_then_normal ?_)
        exact at_weak_k (ih _ _ _ hF K p11 c12) ⟨rfl, rfl, rfl, trivial⟩
  · exact of_some hF

def crawlwayref06_Parts.l0 (x0 : ByteArray) (x1 : Int) (i4 : Int) (i5 : List ByteArray) (i6 : Int) : Option (Int × List ByteArray) :=
  if (decide (i6 < (x0.size : Int))) = true then (if (0 : Int) ≤ i6 ∧ i6 < (x0.size : Int) then if (bt x0 i6 == x1) = true then (if (0 : Int) ≤ i4 ∧ i4 ≤ i6 ∧ i6 ≤ (x0.size : Int) then if (i5.length + 1) * 16 ≤ 140737488355328 then crawlwayref06_Parts.l0 x0 x1 (wr .i64 (i6 + 1)) (i5 ++ [x0.extract (Int.toNat i4) (Int.toNat i6)]) (wr .i64 (i6 + 1)) else none else none) else (crawlwayref06_Parts.l0 x0 x1 i4 i5 (wr .i64 (i6 + 1))) else none) else (some (i4, i5))
  partial_fixpoint
def crawlwayref06_Parts (x0 : ByteArray) (x1 : Int) : Option (List ByteArray) :=
  crawlwayref06_Parts.l0 x0 x1 0 ([] : List ByteArray) 0 >>= fun q3 => if (0 : Int) ≤ q3.1 ∧ q3.1 ≤ (x0.size : Int) ∧ (x0.size : Int) ≤ (x0.size : Int) then if (q3.2.length + 1) * 16 ≤ 140737488355328 then some (q3.2 ++ [x0.extract (Int.toNat q3.1) (Int.toNat (x0.size : Int))]) else none else none
theorem crawlwayref06_Parts_ok (x0 : ByteArray) (x1 : Int) (r : List ByteArray) (hF : crawlwayref06_Parts x0 x1 = some r) (w : World) :
    Calls Tryd.prog 69 #[.string x0, .int .u8 x1] w (fun e w' => ∃ p cap, e = .returned (.slice p r.length cap) ∧ Own cStr 9 w.heap.size w' p cap r ∧ Below w.heap.size w w') := by
  unfold crawlwayref06_Parts at hF
  refine calls_enter (l := [.string x0, .int .u8 x1]) Tryd.func69 rfl rfl rfl ?_
  refine at_start ?_
  refine at_weak [(0, _), (1, _)] ⟨rfl, rfl, trivial⟩ ?_
  refine at_seq ?_
  refine at_region ?_
  refine at_val rfl rfl rfl (r_assign rfl) ?_
  refine at_nil ?_
  refine at_weak [(0, _), (1, _)] ⟨rfl, rfl, trivial⟩ ?_
  refine at_then_normal ?_
  refine at_seq ?_
  refine at_region ?_
  refine at_val rfl rfl rfl (r_assign rfl) ?_
  refine at_nil ?_
  refine at_weak [(0, _), (1, _), (5, _)] ⟨rfl, rfl, rfl, trivial⟩ ?_
  refine at_then_normal ?_
  refine at_seq ?_
  refine at_region ?_
  refine at_val rfl rfl rfl (r_assign rfl) ?_
  refine at_nil ?_
  refine at_weak [(0, _), (1, _), (5, _), (6, _)] ⟨rfl, rfl, rfl, rfl, trivial⟩ ?_
  refine at_then_normal ?_
  refine at_seq ?_
  refine at_seq ?_
  refine at_region ?_
  refine at_val rfl rfl rfl (r_assign rfl) ?_
  refine at_nil ?_
  refine at_weak [(0, _), (1, _), (5, _), (6, _), (7, _)] ⟨rfl, rfl, rfl, rfl, rfl, trivial⟩ ?_
  refine at_then_normal ?_
  refine at_block ?_
  refine at_own_nil cStr 9 ?_
  refine at_weak [(0, _), (1, _), (5, _), (6, .slice none ([] : List ByteArray).length 0), (7, _)] ⟨rfl, rfl, rfl, rfl, rfl, trivial⟩ ?_
  obtain ⟨q3, hq3, hF⟩ := of_bindM hF
  refine at_weak [(0, _), (1, _), (5, _), (6, _), (7, _)] ⟨rfl, rfl, rfl, rfl, rfl, trivial⟩ ?_
  refine at_loop_n (B := 0) (A := fun Y => ∀ (p9 : Option Addr) (c10 : Nat), At 34 [(0, .string x0), (5, .int .i64 q3.1), (6, .slice p9 q3.2.length c10)] (Wd w [rowE cStr 9 p9 c10 q3.2]) Y) ?_ ?_
  · intro K
    refine crawlwayref06_Parts.l0.partial_correctness x0 x1 (motive := fun i4 i5 i6 x => KN (fun Y => ∀ (p9 : Option Addr) (c10 : Nat), At 34 [(0, .string x0), (5, .int .i64 x.1), (6, .slice p9 x.2.length c10)] (Wd w [rowE cStr 9 p9 c10 x.2]) Y) _ 0 → Round (fun Y => ∀ (p7 : Option Addr) (c8 : Nat), At 34 [(0, .string x0), (1, .int .u8 x1), (5, .int .i64 i4), (6, .slice p7 i5.length c8), (7, .int .i64 i6)] (Wd w [rowE cStr 9 p7 c8 i5]) Y) _ _ _) ?_ _ _ _ _ hq3 K none 0
    · clear K hF
      intro g ih i4 i5 i6 x hF K p7 c8
      refine at_round ?_
      refine at_seq ?_
      refine at_seq ?_
      refine at_region ?_
      refine at_val rfl rfl rfl (r_move rfl) ?_
      refine at_val rfl rfl rfl (r_move rfl) ?_
      refine at_val rfl rfl rfl (r_len_str Tryd.underlying9 rfl) ?_
      refine at_val rfl rfl rfl (r_ilss rfl rfl) ?_
      refine at_nil ?_
      refine at_weak [(0, _), (1, _), (5, _), (6, _), (7, _), (11, _)] ⟨rfl, rfl, rfl, rfl, rfl, rfl, trivial⟩ ?_
      refine at_then_normal ?_
      rcases of_ite hF with ⟨h11, hF⟩ | ⟨h11, hF⟩
      · refine at_cond_true rfl h11 ?_
        refine at_skip ?_
        refine at_then_normal ?_
        refine at_seq ?_
        refine at_block ?_
        refine at_seq ?_
        refine at_region ?_
        refine at_val rfl rfl rfl (r_move rfl) ?_
        refine at_val rfl rfl rfl (r_move rfl) ?_
        obtain ⟨h12, hF⟩ := of_guard hF
        refine at_val rfl rfl rfl (r_index_str Tryd.underlying9 rfl rfl h12) ?_
        refine at_val rfl rfl rfl (r_move rfl) ?_
        refine at_val rfl rfl rfl (r_ieql rfl rfl) ?_
        refine at_nil ?_
        refine at_weak [(0, _), (1, _), (5, _), (6, _), (7, _), (18, _)] ⟨rfl, rfl, rfl, rfl, rfl, rfl, trivial⟩ ?_
        refine at_then_normal ?_
        rcases of_ite hF with ⟨h13, hF⟩ | ⟨h13, hF⟩
        · refine at_cond_true rfl h13 ?_
          refine at_seq ?_
          refine at_region ?_
          refine at_val rfl rfl rfl (r_move rfl) ?_
          refine at_val rfl rfl rfl (r_move rfl) ?_
          refine at_val rfl rfl rfl (r_move rfl) ?_
          refine at_val rfl rfl rfl (r_move rfl) ?_
          obtain ⟨h14, hF⟩ := of_guard hF
          refine at_val rfl rfl rfl (r_slice_str Tryd.underlying9 rfl ⟨_, rfl⟩ ⟨_, rfl⟩ h14) ?_
          refine at_lit (cs := cStr.all ([x0.extract (Int.toNat i4) (Int.toNat i6)] : List ByteArray)) Tryd.underlying76 Tryd.sizeOf9 Tryd.zeroValue9 rfl rfl rfl (by kernel_rfl) rfl ?_
          intro b15
          obtain ⟨h16, hF⟩ := of_guard hF
          refine at_append (z := .string ⟨#[]⟩) (c := cStr) (ys := ([x0.extract (Int.toNat i4) (Int.toNat i6)] : List ByteArray)) (.s .z) Tryd.underlying76 infoG39 (by kernel_rfl) (by kernel_rfl) rfl rfl rfl rfl (fun _ hw => cells_src (hw.ok (Upd.mem .z))) (by kernel_rfl) h16 (app_small h16) rfl ?_
          intro p17 c18
          refine at_val rfl rfl rfl (r_assign rfl) ?_
          refine at_nil ?_
          refine at_drop (H := _) .z ?_
          refine at_weak [(0, _), (1, _), (6, _), (7, _)] ⟨rfl, rfl, rfl, rfl, trivial⟩ ?_
          refine at_then_normal ?_
          refine at_region ?_
          refine at_val rfl rfl rfl (r_move rfl) ?_
          refine at_val rfl rfl rfl (r_iadd rfl rfl) ?_
          refine at_val rfl rfl rfl (r_assign rfl) ?_
          refine at_nil ?_
          refine at_weak [(0, _), (1, _), (5, _), (6, _), (7, _)] ⟨rfl, rfl, rfl, rfl, rfl, trivial⟩ ?_
          refine at_blk_normal (at_then_normal ?_)
          refine at_region ?_
          refine at_val rfl rfl rfl (r_move rfl) ?_
          refine at_val rfl rfl rfl (r_iadd rfl rfl) ?_
          refine at_val rfl rfl rfl (r_assign rfl) ?_
          refine at_nil ?_
          refine at_weak [(0, _), (1, _), (5, _), (6, _), (7, _)] ⟨rfl, rfl, rfl, rfl, rfl, trivial⟩ ?_
          refine at_then_normal ?_
          exact at_weak_k (ih _ _ _ _ hF K p17 c18) ⟨rfl, rfl, rfl, rfl, rfl, trivial⟩
        · refine at_cond_false rfl h13 ?_
          refine at_skip ?_
          refine at_blk_normal (at_then_normal ?_)
          refine at_region ?_
          refine at_val rfl rfl rfl (r_move rfl) ?_
          refine at_val rfl rfl rfl (r_iadd rfl rfl) ?_
          refine at_val rfl rfl rfl (r_assign rfl) ?_
          refine at_nil ?_
          refine at_weak [(0, _), (1, _), (5, _), (6, _), (7, _)] ⟨rfl, rfl, rfl, rfl, rfl, trivial⟩ ?_
          refine at_then_normal ?_
          exact at_weak_k (ih _ _ _ _ hF K p7 c8) ⟨rfl, rfl, rfl, rfl, rfl, trivial⟩
      · refine at_cond_false rfl h11 ?_
        refine at_exit ?_
        refine at_then_exit (at_then_exit ?_)
        obtain rfl := of_some hF
        exact at_weak_k (K p7 c8) ⟨rfl, rfl, rfl, trivial⟩
  · skip
    intro p9 c10
    refine at_blk_same ?_
    refine at_then_normal ?_
    refine at_seq ?_
    refine at_region ?_
    refine at_val rfl rfl rfl (r_move rfl) ?_
    refine at_val rfl rfl rfl (r_move rfl) ?_
    refine at_val rfl rfl rfl (r_move rfl) ?_
    obtain ⟨h19, hF⟩ := of_guard hF
    refine at_val rfl rfl rfl (r_slice_str Tryd.underlying9 rfl ⟨_, rfl⟩ rfl h19) ?_
    refine at_lit (cs := cStr.all ([x0.extract (Int.toNat q3.1) (Int.toNat (x0.size : Int))] : List ByteArray)) Tryd.underlying76 Tryd.sizeOf9 Tryd.zeroValue9 rfl rfl rfl (by kernel_rfl) rfl ?_
    intro b20
    obtain ⟨h21, hF⟩ := of_guard hF
    refine at_append (z := .string ⟨#[]⟩) (c := cStr) (ys := ([x0.extract (Int.toNat q3.1) (Int.toNat (x0.size : Int))] : List ByteArray)) (.s .z) Tryd.underlying76 infoG39 (by kernel_rfl) (by kernel_rfl) rfl rfl rfl rfl (fun _ hw => cells_src (hw.ok (Upd.mem .z))) (by kernel_rfl) h21 (app_small h21) rfl ?_
    intro p22 c23
    refine at_val rfl rfl rfl (r_assign rfl) ?_
    refine at_nil ?_
    refine at_drop (H := _) .z ?_
    refine at_weak [(4, _)] ⟨rfl, trivial⟩ ?_
    refine at_then_normal ?_
    refine at_ret ?_
    have K := of_some hF
    subst K
    exact at_return1 rfl rfl (fun w1 hw => ⟨p22, c23, rfl, hw.own .z, hw.below⟩)

def quad_Parse.l0 (t2 : List ByteArray) (i8 : Int) (i9 : (Vector Int 4)) : Option (Ctl ((Vector Int 4) × Int) ((Vector Int 4))) :=
  if (decide (i8 < (t2.length : Int))) = true then (if (0 : Int) ≤ i8 ∧ i8 < (t2.length : Int) then decimal_Read (lget t2 i8) 255 >>= fun t15 => if (t15.2 != 0) = true then (some (.ret ((Vector.replicate 4 (0 : Int) : (Vector Int 4)), t15.2))) else (if (0 : Int) ≤ i8 ∧ i8 < 4 then quad_Parse.l0 t2 (wr .i64 (i8 + 1)) (vset i9 i8 (wr .u8 t15.1)) else none) else none) else (some (.nx i9))
  partial_fixpoint
def quad_Parse (x0 : ByteArray) : Option ((Vector Int 4) × Int) :=
  lines_Parts x0 46 >>= fun t2 => if ((t2.length : Int) != 4) = true then (some ((Vector.replicate 4 (0 : Int) : (Vector Int 4)), 5)) else (quad_Parse.l0 t2 0 (Vector.replicate 4 (0 : Int) : (Vector Int 4)) >>= fun q7 => match q7 with | .ret r' => some r' | .nx sq7 => (some (sq7, 0)))
theorem quad_Parse_ok (x0 : ByteArray) (r : (Vector Int 4) × Int) (hF : quad_Parse x0 = some r) (w : World) (hg_strconv_ErrRange : GV_strconv_ErrRange w) (hg_strconv_ErrSyntax : GV_strconv_ErrSyntax w) :
    Calls Tryd.prog 68 #[.string x0] w (fun e w' => e = .returned (.tuple #[.agg (Cd.cs (cVec (cInt .u8) 4 (by decide)) r.1).toArray, .int .i64 r.2]) ∧ Below w.heap.size w w') := by
  unfold quad_Parse at hF
  refine calls_enter (l := [.string x0]) Tryd.func68 rfl rfl rfl ?_
  refine at_start ?_
  refine at_weak [(0, _)] ⟨rfl, trivial⟩ ?_
  refine at_seq ?_
  refine at_region ?_
  refine at_alloc (cs := Cd.cs (cVec (cInt .u8) 4 (by decide)) (Vector.replicate 4 (0 : Int) : (Vector Int 4))) Tryd.zeroValue47 rfl rfl ?_
  intro b1
  refine at_val rfl rfl rfl (r_assign rfl) ?_
  refine at_nil ?_
  refine at_weak [(0, _), (2, _)] ⟨rfl, rfl, trivial⟩ ?_
  refine at_then_normal ?_
  refine at_seq ?_
  refine at_region ?_
  refine at_val rfl rfl rfl (r_move rfl) ?_
  obtain ⟨t2, ht2, hF⟩ := of_bindM hF
  refine at_callO (c := cStr) (e := 9) (ys := t2) (V := fun p cap => .slice p t2.length cap) Tryd.func90 rfl (by kernel_rfl) rfl rfl (fun w hw => lines_Parts_ok _ _ _ ht2 w) ?_
  intro p3 c4
  refine at_val rfl rfl rfl (r_assign rfl) ?_
  refine at_nil ?_
  refine at_weak [(2, _), (4, _)] ⟨rfl, rfl, trivial⟩ ?_
  refine at_then_normal ?_
  refine at_seq ?_
  refine at_region ?_
  refine at_alloc (cs := Cd.cs (cVec (cInt .u8) 4 (by decide)) (Vector.replicate 4 (0 : Int) : (Vector Int 4))) Tryd.zeroValue47 rfl rfl ?_
  intro b5
  refine at_nil ?_
  refine at_weak [(2, _), (4, _), (5, _)] ⟨rfl, rfl, rfl, trivial⟩ ?_
  refine at_then_normal ?_
  refine at_seq ?_
  refine at_seq ?_
  refine at_region ?_
  refine at_val rfl rfl rfl (r_move rfl) ?_
  refine at_val rfl rfl rfl (r_len_sl Tryd.underlying76 rfl) ?_
  refine at_val rfl rfl rfl (r_ineq rfl rfl) ?_
  refine at_nil ?_
  refine at_weak [(2, _), (4, _), (5, _), (14, _)] ⟨rfl, rfl, rfl, rfl, trivial⟩ ?_
  refine at_then_normal ?_
  rcases of_ite hF with ⟨h6, hF⟩ | ⟨h6, hF⟩
  · refine at_cond_true rfl h6 ?_
    refine at_seq ?_
    refine at_region ?_
    refine at_val rfl rfl rfl (r_load_aggc (c := (cVec (cInt .u8) 4 (by decide))) (z := (Vector.replicate 4 (0 : Int) : (Vector Int 4))) Tryd.isAgg47 Tryd.sizeOf47 rfl (lens_cell .z (Lens.whole _ _))) ?_
    refine at_store (c := (cVec (cInt .u8) 4 (by decide))) (z := (Vector.replicate 4 (0 : Int) : (Vector Int 4))) (.s (.s .z)) (Lens.whole _ _) Tryd.sizeOf47 rfl rfl rfl ?_
    refine at_val rfl rfl rfl (r_assign rfl) ?_
    refine at_nil ?_
    refine at_drop (H := _) .z ?_
    refine at_drop (H := _) .z ?_
    refine at_weak [(2, _), (3, _)] ⟨rfl, rfl, trivial⟩ ?_
    refine at_then_normal ?_
    refine at_ret ?_
    refine at_then_ret ?_
    have K := of_some hF
    subst K
    exact at_res2 rfl (res_cell (c := (cVec (cInt .u8) 4 (by decide))) (y := (Vector.replicate 4 (0 : Int) : (Vector Int 4))) rfl .z (Lens.whole _ _) Tryd.isAgg47 Tryd.sizeOf47 (.inl rfl)) (res_tmp rfl) (fun w1 hw => ⟨rfl, hw.below⟩)
  · refine at_cond_false rfl h6 ?_
    refine at_skip ?_
    refine at_then_normal ?_
    refine at_seq ?_
    refine at_seq ?_
    refine at_region ?_
    refine at_val rfl rfl rfl (r_move rfl) ?_
    refine at_val rfl rfl rfl (r_len_sl Tryd.underlying76 rfl) ?_
    refine at_val rfl rfl rfl (r_move rfl) ?_
    refine at_nil ?_
    refine at_weak [(2, _), (5, _), (16, _), (17, _), (18, _)] ⟨rfl, rfl, rfl, rfl, rfl, trivial⟩ ?_
    refine at_then_normal ?_
    refine at_block ?_
    obtain ⟨q7, hq7, hF⟩ := of_bindM hF
    refine at_weak [(2, _), (5, _), (16, _), (17, _), (18, _)] ⟨rfl, rfl, rfl, rfl, rfl, trivial⟩ ?_
    refine at_loop_r (B := 0) (r := r) (q := q7) (A := fun sq7 Y => At 38 [(2, .pointer (some ⟨b1, 0, none⟩)), (5, .pointer (some ⟨b5, 0, none⟩))] (Wd w [cellsE b5 (Cd.cs (cVec (cInt .u8) 4 (by decide)) sq7) 47, cellsE b1 (Cd.cs (cVec (cInt .u8) 4 (by decide)) (Vector.replicate 4 (0 : Int) : (Vector Int 4))) 47]) Y) ?_ ?_
    · intro K
      refine quad_Parse.l0.partial_correctness t2 (motive := fun i8 i9 x => KR (fun sq7 Y => At 38 [(2, .pointer (some ⟨b1, 0, none⟩)), (5, .pointer (some ⟨b5, 0, none⟩))] (Wd w [cellsE b5 (Cd.cs (cVec (cInt .u8) 4 (by decide)) sq7) 47, cellsE b1 (Cd.cs (cVec (cInt .u8) 4 (by decide)) (Vector.replicate 4 (0 : Int) : (Vector Int 4))) 47]) Y) _ 0 r x → Round (fun Y => At 38 [(2, .pointer (some ⟨b1, 0, none⟩)), (5, .pointer (some ⟨b5, 0, none⟩)), (16, .slice p3 t2.length c4), (17, .int .i64 (t2.length : Int)), (18, .int .i64 i8)] (Wd w [cellsE b5 (Cd.cs (cVec (cInt .u8) 4 (by decide)) i9) 47, rowE cStr 9 p3 c4 t2, cellsE b1 (Cd.cs (cVec (cInt .u8) 4 (by decide)) (Vector.replicate 4 (0 : Int) : (Vector Int 4))) 47]) Y) _ _ _) ?_ _ _ _ hq7 K
      · clear K hF
        intro g ih i8 i9 x hF K
        refine at_round ?_
        refine at_seq ?_
        refine at_region ?_
        refine at_val rfl rfl rfl (r_ilss rfl rfl) ?_
        refine at_nil ?_
        refine at_weak [(2, _), (5, _), (16, _), (17, _), (18, _), (19, _)] ⟨rfl, rfl, rfl, rfl, rfl, rfl, trivial⟩ ?_
        refine at_then_normal ?_
        refine at_seq ?_
        rcases of_ite hF with ⟨h10, hF⟩ | ⟨h10, hF⟩
        · refine at_cond_true rfl h10 ?_
          refine at_skip ?_
          refine at_then_normal ?_
          refine at_seq ?_
          refine at_block ?_
          refine at_seq ?_
          refine at_region ?_
          refine at_val rfl rfl rfl (r_move rfl) ?_
          obtain ⟨h11, hF⟩ := of_guard hF
          refine at_pure (φ := ∃ b o, p3 = some ⟨b, o, none⟩) (fun _ hw => row_ptr (hw.own (.s .z)).row h11) ?_
          rintro ⟨b13, o14, hp12⟩
          refine at_val rfl rfl rfl (r_idx Tryd.underlying76 Tryd.sizeOf9 rfl rfl h11 hp12) ?_
          refine at_val rfl rfl rfl (r_load_cell Tryd.isAgg9 rfl (fun _ hw => row_cell0 (W := fun w1 => w1 = _) (fun w1 h => by subst h; exact Below.refl _ _) (hw.own (.s .z)).row h11 hp12 rfl _ rfl)) ?_
          refine at_val rfl rfl rfl (r_assign rfl) ?_
          refine at_val rfl rfl rfl (r_assign rfl) ?_
          refine at_nil ?_
          refine at_weak [(2, _), (5, _), (6, _), (7, _), (16, _), (17, _), (18, _)] ⟨rfl, rfl, rfl, rfl, rfl, rfl, rfl, trivial⟩ ?_
          refine at_then_normal ?_
          refine at_seq ?_
          refine at_region ?_
          refine at_val rfl rfl rfl (r_move rfl) ?_
          obtain ⟨t15, ht15, hF⟩ := of_bindM hF
          refine at_callB Tryd.func76 rfl (by kernel_rfl) rfl rfl (fun w hw => decimal_Read_ok _ _ _ ht15 w (hg_strconv_ErrRange.on hw.below) (hg_strconv_ErrSyntax.on hw.below)) ?_
          refine at_val rfl rfl rfl (r_move rfl) ?_
          refine at_val rfl rfl rfl (r_extract rfl rfl) ?_
          refine at_val rfl rfl rfl (r_extract rfl rfl) ?_
          refine at_val rfl rfl rfl (r_assign rfl) ?_
          refine at_val rfl rfl rfl (r_assign rfl) ?_
          refine at_nil ?_
          refine at_weak [(2, _), (5, _), (6, _), (8, _), (9, _), (16, _), (17, _), (18, _)] ⟨rfl, rfl, rfl, rfl, rfl, rfl, rfl, rfl, trivial⟩ ?_
          refine at_then_normal ?_
          refine at_seq ?_
          refine at_seq ?_
          refine at_region ?_
          refine at_val rfl rfl rfl (r_move rfl) ?_
          refine at_val rfl rfl rfl (r_ineq rfl rfl) ?_
          refine at_nil ?_
          refine at_weak [(2, _), (5, _), (6, _), (8, _), (9, _), (16, _), (17, _), (18, _), (29, _)] ⟨rfl, rfl, rfl, rfl, rfl, rfl, rfl, rfl, rfl, trivial⟩ ?_
          refine at_then_normal ?_
          rcases of_ite hF with ⟨h16, hF⟩ | ⟨h16, hF⟩
          · refine at_cond_true rfl h16 ?_
            refine at_seq ?_
            refine at_region ?_
            refine at_val rfl rfl rfl (r_build_array (zs := Cd.cs (cVec (cInt .u8) 4 (by decide)) (Vector.replicate 4 (0 : Int) : (Vector Int 4))) (cs := Cd.cs (cVec (cInt .u8) 4 (by decide)) (Vector.replicate 4 (0 : Int) : (Vector Int 4))) Tryd.underlying47 Tryd.zeroValue47 rfl Tryd.sizeOf5 rfl rfl) ?_
            refine at_val rfl rfl rfl (r_move rfl) ?_
            refine at_store (c := (cVec (cInt .u8) 4 (by decide))) (z := (Vector.replicate 4 (0 : Int) : (Vector Int 4))) (.s (.s .z)) (Lens.whole _ _) Tryd.sizeOf47 rfl rfl rfl ?_
            refine at_val rfl rfl rfl (r_assign rfl) ?_
            refine at_nil ?_
            refine at_drop (H := _) .z ?_
            refine at_drop (H := _) .z ?_
            refine at_weak [(2, _), (3, _)] ⟨rfl, rfl, trivial⟩ ?_
            refine at_then_normal ?_
            refine at_ret ?_
            refine at_then_ret (at_blk_ret (at_then_ret (at_then_ret (at_blk_ret (at_then_ret ?_)))))
            obtain rfl := of_some hF
            subst K
            exact at_res2 rfl (res_cell (c := (cVec (cInt .u8) 4 (by decide))) (y := (Vector.replicate 4 (0 : Int) : (Vector Int 4))) rfl .z (Lens.whole _ _) Tryd.isAgg47 Tryd.sizeOf47 (.inl rfl)) (res_tmp rfl) (fun w1 hw => ⟨rfl, hw.below⟩)
          · refine at_cond_false rfl h16 ?_
            refine at_skip ?_
            refine at_then_normal ?_
            refine at_region ?_
            refine at_val rfl rfl rfl (r_move rfl) ?_
            refine at_val rfl rfl rfl (r_move rfl) ?_
            refine at_val rfl rfl rfl (r_conv Tryd.underlying83 Tryd.underlying5 rfl) ?_
            obtain ⟨h17, hF⟩ := of_guard hF
            refine at_val rfl rfl rfl (r_idxArr Tryd.underlying47 Tryd.sizeOf5 rfl rfl h17) ?_
            refine at_store (c := (cInt .u8)) (z := wr .u8 t15.1) .z (Lens.comp (Lens.whole _ _) (fun z => vset i9 i8 z) (Lens.vec (cInt .u8) (by decide) i9 i8 h17)) Tryd.sizeOf5 rfl rfl rfl ?_
            refine at_nil ?_
            refine at_weak [(2, _), (5, _), (16, _), (17, _), (18, _)] ⟨rfl, rfl, rfl, rfl, rfl, trivial⟩ ?_
            refine at_blk_normal (at_then_normal ?_)
            refine at_region ?_
            refine at_val rfl rfl rfl (r_iadd rfl rfl) ?_
            refine at_val rfl rfl rfl (r_move rfl) ?_
            refine at_nil ?_
            refine at_weak [(2, _), (5, _), (16, _), (17, _), (18, _)] ⟨rfl, rfl, rfl, rfl, rfl, trivial⟩ ?_
            refine at_then_normal ?_
            exact at_weak_k (ih _ _ _ hF K) ⟨rfl, rfl, rfl, rfl, rfl, trivial⟩
        · refine at_cond_false rfl h10 ?_
          refine at_exit ?_
          refine at_then_exit (at_then_exit ?_)
          refine at_drop (H := _) (.s .z) ?_
          obtain rfl := of_some hF
          exact at_weak_k K ⟨rfl, rfl, trivial⟩
    · cases q7 with
      | ret r' => exact of_some hF
      | nx sq7 =>
        skip
        refine at_blk_same ?_
        refine at_then_normal ?_
        refine at_seq ?_
        refine at_region ?_
        refine at_val rfl rfl rfl (r_load_aggc (c := (cVec (cInt .u8) 4 (by decide))) (z := sq7) Tryd.isAgg47 Tryd.sizeOf47 rfl (lens_cell .z (Lens.whole _ _))) ?_
        refine at_store (c := (cVec (cInt .u8) 4 (by decide))) (z := sq7) (.s .z) (Lens.whole _ _) Tryd.sizeOf47 rfl rfl rfl ?_
        refine at_val rfl rfl rfl (r_assign rfl) ?_
        refine at_nil ?_
        refine at_drop (H := _) .z ?_
        refine at_weak [(2, _), (3, _)] ⟨rfl, rfl, trivial⟩ ?_
        refine at_then_normal ?_
        refine at_ret ?_
        have K := of_some hF
        subst K
        exact at_res2 rfl (res_cell (c := (cVec (cInt .u8) 4 (by decide))) (y := sq7) rfl .z (Lens.whole _ _) Tryd.isAgg47 Tryd.sizeOf47 (.inl rfl)) (res_tmp rfl) (fun w1 hw => ⟨rfl, hw.below⟩)

def crawlwayref08_Text.l0 (x0 : (Vector Int 4)) (i4 : ByteArray) (i5 : Int) : Option (ByteArray) :=
  if (decide (i5 < 4)) = true then (if i4.size + (⟨#[46]⟩ : ByteArray).size ≤ 140737488355328 then if (0 : Int) ≤ i5 ∧ i5 < 4 then crawlwayref03_Text (wr .u64 (vget x0 i5)) >>= fun t9 => if (i4 ++ (⟨#[46]⟩ : ByteArray)).size + t9.size ≤ 140737488355328 then crawlwayref08_Text.l0 x0 ((i4 ++ (⟨#[46]⟩ : ByteArray)) ++ t9) (wr .i64 (i5 + 1)) else none else none else none) else (some i4)
  partial_fixpoint
def crawlwayref08_Text (x0 : (Vector Int 4)) : Option (ByteArray) :=
  crawlwayref03_Text (wr .u64 (vget x0 0)) >>= fun t2 => crawlwayref08_Text.l0 x0 t2 1 >>= fun q3 => some q3
theorem crawlwayref08_Text_ok (x0 : (Vector Int 4)) (r : ByteArray) (hF : crawlwayref08_Text x0 = some r) (w : World) :
    Calls Tryd.prog 73 #[.agg (Cd.cs (cVec (cInt .u8) 4 (by decide)) x0).toArray] w (fun e w' => e = .returned (.string r) ∧ Below w.heap.size w w') := by
  unfold crawlwayref08_Text at hF
  refine calls_enter (l := [.agg (Cd.cs (cVec (cInt .u8) 4 (by decide)) x0).toArray]) Tryd.func73 rfl rfl rfl ?_
  refine at_start ?_
  refine at_weak [(0, _)] ⟨rfl, trivial⟩ ?_
  refine at_seq ?_
  refine at_region ?_
  refine at_box (cs := Cd.cs (cVec (cInt .u8) 4 (by decide)) x0) rfl rfl rfl ?_
  intro b1
  refine at_val rfl rfl rfl (r_assign rfl) ?_
  refine at_nil ?_
  refine at_weak [(1, _)] ⟨rfl, trivial⟩ ?_
  refine at_then_normal ?_
  refine at_seq ?_
  refine at_region ?_
  refine at_val rfl rfl rfl (r_idxArr Tryd.underlying47 Tryd.sizeOf5 rfl rfl (by decide)) ?_
  refine at_val rfl rfl rfl (r_load_cell Tryd.isAgg5 rfl (lens_cell0 (c := (cInt .u8)) (y := vget x0 0) .z (Lens.comp (Lens.whole _ _) (fun z => vset x0 0 z) (Lens.vec (cInt .u8) (by decide) x0 0 (by decide))) rfl)) ?_
  refine at_val rfl rfl rfl (r_conv Tryd.underlying5 Tryd.underlying83 rfl) ?_
  obtain ⟨t2, ht2, hF⟩ := of_bindM hF
  refine at_callB Tryd.func75 rfl (by kernel_rfl) rfl rfl (fun w hw => crawlwayref03_Text_ok _ _ ht2 w) ?_
  refine at_val rfl rfl rfl (r_assign rfl) ?_
  refine at_nil ?_
  refine at_weak [(1, _), (3, _)] ⟨rfl, rfl, trivial⟩ ?_
  refine at_then_normal ?_
  refine at_seq ?_
  refine at_seq ?_
  refine at_region ?_
  refine at_val rfl rfl rfl (r_assign rfl) ?_
  refine at_nil ?_
  refine at_weak [(1, _), (3, _), (4, _)] ⟨rfl, rfl, rfl, trivial⟩ ?_
  refine at_then_normal ?_
  refine at_block ?_
  obtain ⟨q3, hq3, hF⟩ := of_bindM hF
  refine at_weak [(1, _), (3, _), (4, _)] ⟨rfl, rfl, rfl, trivial⟩ ?_
  refine at_loop_n (B := 0) (A := fun Y => At 22 [(3, .string q3)] (Wd w []) Y) ?_ ?_
  · intro K
    refine crawlwayref08_Text.l0.partial_correctness x0 (motive := fun i4 i5 x => KN (fun Y => At 22 [(3, .string x)] (Wd w []) Y) _ 0 → Round (fun Y => At 22 [(1, .pointer (some ⟨b1, 0, none⟩)), (3, .string i4), (4, .int .i64 i5)] (Wd w [cellsE b1 (Cd.cs (cVec (cInt .u8) 4 (by decide)) x0) 47]) Y) _ _ _) ?_ _ _ _ hq3 K
    · clear K hF
      intro g ih i4 i5 x hF K
      refine at_round ?_
      refine at_seq ?_
      refine at_seq ?_
      refine at_region ?_
      refine at_val rfl rfl rfl (r_move rfl) ?_
      refine at_val rfl rfl rfl (r_ilss rfl rfl) ?_
      refine at_nil ?_
      refine at_weak [(1, _), (3, _), (4, _), (10, _)] ⟨rfl, rfl, rfl, rfl, trivial⟩ ?_
      refine at_then_normal ?_
      rcases of_ite hF with ⟨h6, hF⟩ | ⟨h6, hF⟩
      · refine at_cond_true rfl h6 ?_
        refine at_skip ?_
        refine at_then_normal ?_
        refine at_seq ?_
        refine at_block ?_
        refine at_region ?_
        refine at_val rfl rfl rfl (r_move rfl) ?_
        obtain ⟨h7, hF⟩ := of_guard hF
        refine at_val rfl rfl rfl (r_concat rfl rfl h7) ?_
        refine at_val rfl rfl rfl (r_move rfl) ?_
        obtain ⟨h8, hF⟩ := of_guard hF
        refine at_val rfl rfl rfl (r_idxArr Tryd.underlying47 Tryd.sizeOf5 rfl rfl h8) ?_
        refine at_val rfl rfl rfl (r_load_cell Tryd.isAgg5 rfl (lens_cell0 (c := (cInt .u8)) (y := vget x0 i5) .z (Lens.comp (Lens.whole _ _) (fun z => vset x0 i5 z) (Lens.vec (cInt .u8) (by decide) x0 i5 h8)) rfl)) ?_
        refine at_val rfl rfl rfl (r_conv Tryd.underlying5 Tryd.underlying83 rfl) ?_
        obtain ⟨t9, ht9, hF⟩ := of_bindM hF
        refine at_callB Tryd.func75 rfl (by kernel_rfl) rfl rfl (fun w hw => crawlwayref03_Text_ok _ _ ht9 w) ?_
        obtain ⟨h10, hF⟩ := of_guard hF
        refine at_val rfl rfl rfl (r_concat rfl rfl h10) ?_
        refine at_val rfl rfl rfl (r_assign rfl) ?_
        refine at_nil ?_
        refine at_weak [(1, _), (3, _), (4, _)] ⟨rfl, rfl, rfl, trivial⟩ ?_
        refine at_blk_normal (at_then_normal ?_)
        refine at_region ?_
        refine at_val rfl rfl rfl (r_move rfl) ?_
        refine at_val rfl rfl rfl (r_iadd rfl rfl) ?_
        refine at_val rfl rfl rfl (r_assign rfl) ?_
        refine at_nil ?_
        refine at_weak [(1, _), (3, _), (4, _)] ⟨rfl, rfl, rfl, trivial⟩ ?_
        refine at_then_normal ?_
        exact at_weak_k (ih _ _ _ hF K) ⟨rfl, rfl, rfl, trivial⟩
      · refine at_cond_false rfl h6 ?_
        refine at_exit ?_
        refine at_then_exit (at_then_exit ?_)
        refine at_drop (H := _) .z ?_
        obtain rfl := of_some hF
        exact at_weak_k K ⟨rfl, trivial⟩
  · skip
    skip
    refine at_blk_same ?_
    refine at_then_normal ?_
    refine at_seq ?_
    refine at_region ?_
    refine at_val rfl rfl rfl (r_move rfl) ?_
    refine at_val rfl rfl rfl (r_assign rfl) ?_
    refine at_nil ?_
    refine at_weak [(2, _)] ⟨rfl, trivial⟩ ?_
    refine at_then_normal ?_
    refine at_ret ?_
    have K := of_some hF
    subst K
    exact at_return1 rfl rfl (fun w1 hw => ⟨rfl, hw.below⟩)

def crawlwayref08_Parse.l0 (t3 : List ByteArray) (i8 : Int) (i9 : (Vector Int 4)) : Option (Ctl ((Vector Int 4) × Int) ((Vector Int 4))) :=
  if (decide (i8 < 4)) = true then (if (0 : Int) ≤ i8 ∧ i8 < (t3.length : Int) then crawlwayref03_Read (lget t3 i8) 255 >>= fun t15 => if (t15.2 != 0) = true then (some (.ret ((Vector.replicate 4 (0 : Int) : (Vector Int 4)), t15.2))) else (if (0 : Int) ≤ i8 ∧ i8 < 4 then crawlwayref08_Parse.l0 t3 (wr .i64 (i8 + 1)) (vset i9 i8 (wr .u8 t15.1)) else none) else none) else (some (.nx i9))
  partial_fixpoint
def crawlwayref08_Parse (x0 : ByteArray) : Option ((Vector Int 4) × Int) :=
  crawlwayref06_Parts x0 46 >>= fun t3 => if ((t3.length : Int) != 4) = true then (some ((Vector.replicate 4 (0 : Int) : (Vector Int 4)), 5)) else (crawlwayref08_Parse.l0 t3 0 (Vector.replicate 4 (0 : Int) : (Vector Int 4)) >>= fun q7 => match q7 with | .ret r' => some r' | .nx sq7 => (some (sq7, 0)))
theorem crawlwayref08_Parse_ok (x0 : ByteArray) (r : (Vector Int 4) × Int) (hF : crawlwayref08_Parse x0 = some r) (w : World) :
    Calls Tryd.prog 70 #[.string x0] w (fun e w' => e = .returned (.tuple #[.agg (Cd.cs (cVec (cInt .u8) 4 (by decide)) r.1).toArray, .int .i64 r.2]) ∧ Below w.heap.size w w') := by
  unfold crawlwayref08_Parse at hF
  refine calls_enter (l := [.string x0]) Tryd.func70 rfl rfl rfl ?_
  refine at_start ?_
  refine at_weak [(0, _)] ⟨rfl, trivial⟩ ?_
  refine at_seq ?_
  refine at_region ?_
  refine at_alloc (cs := Cd.cs (cVec (cInt .u8) 4 (by decide)) (Vector.replicate 4 (0 : Int) : (Vector Int 4))) Tryd.zeroValue47 rfl rfl ?_
  intro b1
  refine at_val rfl rfl rfl (r_assign rfl) ?_
  refine at_nil ?_
  refine at_weak [(0, _), (2, _)] ⟨rfl, rfl, trivial⟩ ?_
  refine at_then_normal ?_
  refine at_seq ?_
  refine at_region ?_
  refine at_alloc (cs := Cd.cs (cVec (cInt .u8) 4 (by decide)) (Vector.replicate 4 (0 : Int) : (Vector Int 4))) Tryd.zeroValue47 rfl rfl ?_
  intro b2
  refine at_nil ?_
  refine at_weak [(0, _), (2, _), (4, _)] ⟨rfl, rfl, rfl, trivial⟩ ?_
  refine at_then_normal ?_
  refine at_seq ?_
  refine at_region ?_
  refine at_val rfl rfl rfl (r_move rfl) ?_
  obtain ⟨t3, ht3, hF⟩ := of_bindM hF
  refine at_callO (c := cStr) (e := 9) (ys := t3) (V := fun p cap => .slice p t3.length cap) Tryd.func69 rfl (by kernel_rfl) rfl rfl (fun w hw => crawlwayref06_Parts_ok _ _ _ ht3 w) ?_
  intro p4 c5
  refine at_val rfl rfl rfl (r_assign rfl) ?_
  refine at_nil ?_
  refine at_weak [(2, _), (4, _), (5, _)] ⟨rfl, rfl, rfl, trivial⟩ ?_
  refine at_then_normal ?_
  refine at_seq ?_
  refine at_seq ?_
  refine at_region ?_
  refine at_val rfl rfl rfl (r_move rfl) ?_
  refine at_val rfl rfl rfl (r_len_sl Tryd.underlying76 rfl) ?_
  refine at_val rfl rfl rfl (r_ineq rfl rfl) ?_
  refine at_nil ?_
  refine at_weak [(2, _), (4, _), (5, _), (13, _)] ⟨rfl, rfl, rfl, rfl, trivial⟩ ?_
  refine at_then_normal ?_
  rcases of_ite hF with ⟨h6, hF⟩ | ⟨h6, hF⟩
  · refine at_cond_true rfl h6 ?_
    refine at_seq ?_
    refine at_region ?_
    refine at_val rfl rfl rfl (r_build_array (zs := Cd.cs (cVec (cInt .u8) 4 (by decide)) (Vector.replicate 4 (0 : Int) : (Vector Int 4))) (cs := Cd.cs (cVec (cInt .u8) 4 (by decide)) (Vector.replicate 4 (0 : Int) : (Vector Int 4))) Tryd.underlying47 Tryd.zeroValue47 rfl Tryd.sizeOf5 rfl rfl) ?_
    refine at_store (c := (cVec (cInt .u8) 4 (by decide))) (z := (Vector.replicate 4 (0 : Int) : (Vector Int 4))) (.s (.s .z)) (Lens.whole _ _) Tryd.sizeOf47 rfl rfl rfl ?_
    refine at_val rfl rfl rfl (r_assign rfl) ?_
    refine at_nil ?_
    refine at_drop (H := _) .z ?_
    refine at_drop (H := _) .z ?_
    refine at_weak [(2, _), (3, _)] ⟨rfl, rfl, trivial⟩ ?_
    refine at_then_normal ?_
    refine at_ret ?_
    refine at_then_ret ?_
    have K := of_some hF
    subst K
    exact at_res2 rfl (res_cell (c := (cVec (cInt .u8) 4 (by decide))) (y := (Vector.replicate 4 (0 : Int) : (Vector Int 4))) rfl .z (Lens.whole _ _) Tryd.isAgg47 Tryd.sizeOf47 (.inl rfl)) (res_tmp rfl) (fun w1 hw => ⟨rfl, hw.below⟩)
  · refine at_cond_false rfl h6 ?_
    refine at_skip ?_
    refine at_then_normal ?_
    refine at_seq ?_
    refine at_seq ?_
    refine at_region ?_
    refine at_val rfl rfl rfl (r_assign rfl) ?_
    refine at_nil ?_
    refine at_weak [(2, _), (4, _), (5, _), (6, _)] ⟨rfl, rfl, rfl, rfl, trivial⟩ ?_
    refine at_then_normal ?_
    refine at_block ?_
    obtain ⟨q7, hq7, hF⟩ := of_bindM hF
    refine at_weak [(2, _), (4, _), (5, _), (6, _)] ⟨rfl, rfl, rfl, rfl, trivial⟩ ?_
    refine at_loop_r (B := 0) (r := r) (q := q7) (A := fun sq7 Y => At 36 [(2, .pointer (some ⟨b1, 0, none⟩)), (4, .pointer (some ⟨b2, 0, none⟩))] (Wd w [cellsE b2 (Cd.cs (cVec (cInt .u8) 4 (by decide)) sq7) 47, cellsE b1 (Cd.cs (cVec (cInt .u8) 4 (by decide)) (Vector.replicate 4 (0 : Int) : (Vector Int 4))) 47]) Y) ?_ ?_
    · intro K
      refine crawlwayref08_Parse.l0.partial_correctness t3 (motive := fun i8 i9 x => KR (fun sq7 Y => At 36 [(2, .pointer (some ⟨b1, 0, none⟩)), (4, .pointer (some ⟨b2, 0, none⟩))] (Wd w [cellsE b2 (Cd.cs (cVec (cInt .u8) 4 (by decide)) sq7) 47, cellsE b1 (Cd.cs (cVec (cInt .u8) 4 (by decide)) (Vector.replicate 4 (0 : Int) : (Vector Int 4))) 47]) Y) _ 0 r x → Round (fun Y => At 36 [(2, .pointer (some ⟨b1, 0, none⟩)), (4, .pointer (some ⟨b2, 0, none⟩)), (5, .slice p4 t3.length c5), (6, .int .i64 i8)] (Wd w [rowE cStr 9 p4 c5 t3, cellsE b2 (Cd.cs (cVec (cInt .u8) 4 (by decide)) i9) 47, cellsE b1 (Cd.cs (cVec (cInt .u8) 4 (by decide)) (Vector.replicate 4 (0 : Int) : (Vector Int 4))) 47]) Y) _ _ _) ?_ _ _ _ hq7 K
      · clear K hF
        intro g ih i8 i9 x hF K
        refine at_round ?_
        refine at_seq ?_
        refine at_seq ?_
        refine at_region ?_
        refine at_val rfl rfl rfl (r_move rfl) ?_
        refine at_val rfl rfl rfl (r_ilss rfl rfl) ?_
        refine at_nil ?_
        refine at_weak [(2, _), (4, _), (5, _), (6, _), (16, _)] ⟨rfl, rfl, rfl, rfl, rfl, trivial⟩ ?_
        refine at_then_normal ?_
        rcases of_ite hF with ⟨h10, hF⟩ | ⟨h10, hF⟩
        · refine at_cond_true rfl h10 ?_
          refine at_skip ?_
          refine at_then_normal ?_
          refine at_seq ?_
          refine at_block ?_
          refine at_seq ?_
          refine at_region ?_
          refine at_val rfl rfl rfl (r_move rfl) ?_
          refine at_val rfl rfl rfl (r_move rfl) ?_
          obtain ⟨h11, hF⟩ := of_guard hF
          refine at_pure (φ := ∃ b o, p4 = some ⟨b, o, none⟩) (fun _ hw => row_ptr (hw.own .z).row h11) ?_
          rintro ⟨b13, o14, hp12⟩
          refine at_val rfl rfl rfl (r_idx Tryd.underlying76 Tryd.sizeOf9 rfl rfl h11 hp12) ?_
          refine at_val rfl rfl rfl (r_load_cell Tryd.isAgg9 rfl (fun _ hw => row_cell0 (W := fun w1 => w1 = _) (fun w1 h => by subst h; exact Below.refl _ _) (hw.own .z).row h11 hp12 rfl _ rfl)) ?_
          obtain ⟨t15, ht15, hF⟩ := of_bindM hF
          refine at_call0 Tryd.func77 rfl (by kernel_rfl) rfl rfl (fun w => crawlwayref03_Read_ok _ _ _ ht15 w) ?_
          refine at_val rfl rfl rfl (r_move rfl) ?_
          refine at_val rfl rfl rfl (r_extract rfl rfl) ?_
          refine at_val rfl rfl rfl (r_extract rfl rfl) ?_
          refine at_val rfl rfl rfl (r_assign rfl) ?_
          refine at_val rfl rfl rfl (r_assign rfl) ?_
          refine at_nil ?_
          refine at_weak [(2, _), (4, _), (5, _), (6, _), (7, _), (8, _)] ⟨rfl, rfl, rfl, rfl, rfl, rfl, trivial⟩ ?_
          refine at_then_normal ?_
          refine at_seq ?_
          refine at_seq ?_
          refine at_region ?_
          refine at_val rfl rfl rfl (r_move rfl) ?_
          refine at_val rfl rfl rfl (r_ineq rfl rfl) ?_
          refine at_nil ?_
          refine at_weak [(2, _), (4, _), (5, _), (6, _), (7, _), (8, _), (28, _)] ⟨rfl, rfl, rfl, rfl, rfl, rfl, rfl, trivial⟩ ?_
          refine at_then_normal ?_
          rcases of_ite hF with ⟨h16, hF⟩ | ⟨h16, hF⟩
          · refine at_cond_true rfl h16 ?_
            refine at_seq ?_
            refine at_region ?_
            refine at_val rfl rfl rfl (r_build_array (zs := Cd.cs (cVec (cInt .u8) 4 (by decide)) (Vector.replicate 4 (0 : Int) : (Vector Int 4))) (cs := Cd.cs (cVec (cInt .u8) 4 (by decide)) (Vector.replicate 4 (0 : Int) : (Vector Int 4))) Tryd.underlying47 Tryd.zeroValue47 rfl Tryd.sizeOf5 rfl rfl) ?_
            refine at_val rfl rfl rfl (r_move rfl) ?_
            refine at_store (c := (cVec (cInt .u8) 4 (by decide))) (z := (Vector.replicate 4 (0 : Int) : (Vector Int 4))) (.s (.s .z)) (Lens.whole _ _) Tryd.sizeOf47 rfl rfl rfl ?_
            refine at_val rfl rfl rfl (r_assign rfl) ?_
            refine at_nil ?_
            refine at_drop (H := _) .z ?_
            refine at_drop (H := _) .z ?_
            refine at_weak [(2, _), (3, _)] ⟨rfl, rfl, trivial⟩ ?_
            refine at_then_normal ?_
            refine at_ret ?_
            refine at_then_ret (at_blk_ret (at_then_ret (at_then_ret (at_blk_ret (at_then_ret ?_)))))
            obtain rfl := of_some hF
            subst K
            exact at_res2 rfl (res_cell (c := (cVec (cInt .u8) 4 (by decide))) (y := (Vector.replicate 4 (0 : Int) : (Vector Int 4))) rfl .z (Lens.whole _ _) Tryd.isAgg47 Tryd.sizeOf47 (.inl rfl)) (res_tmp rfl) (fun w1 hw => ⟨rfl, hw.below⟩)
          · refine at_cond_false rfl h16 ?_
            refine at_skip ?_
            refine at_then_normal ?_
            refine at_region ?_
            refine at_val rfl rfl rfl (r_move rfl) ?_
            refine at_val rfl rfl rfl (r_move rfl) ?_
            refine at_val rfl rfl rfl (r_conv Tryd.underlying83 Tryd.underlying5 rfl) ?_
            obtain ⟨h17, hF⟩ := of_guard hF
            refine at_val rfl rfl rfl (r_idxArr Tryd.underlying47 Tryd.sizeOf5 rfl rfl h17) ?_
            refine at_store (c := (cInt .u8)) (z := wr .u8 t15.1) (.s .z) (Lens.comp (Lens.whole _ _) (fun z => vset i9 i8 z) (Lens.vec (cInt .u8) (by decide) i9 i8 h17)) Tryd.sizeOf5 rfl rfl rfl ?_
            refine at_nil ?_
            refine at_weak [(2, _), (4, _), (5, _), (6, _)] ⟨rfl, rfl, rfl, rfl, trivial⟩ ?_
            refine at_blk_normal (at_then_normal ?_)
            refine at_region ?_
            refine at_val rfl rfl rfl (r_move rfl) ?_
            refine at_val rfl rfl rfl (r_iadd rfl rfl) ?_
            refine at_val rfl rfl rfl (r_assign rfl) ?_
            refine at_nil ?_
            refine at_weak [(2, _), (4, _), (5, _), (6, _)] ⟨rfl, rfl, rfl, rfl, trivial⟩ ?_
            refine at_then_normal ?_
            exact at_weak_k (ih _ _ _ hF K) ⟨rfl, rfl, rfl, rfl, trivial⟩
        · refine at_cond_false rfl h10 ?_
          refine at_exit ?_
          refine at_then_exit (at_then_exit ?_)
          refine at_drop (H := _) .z ?_
          obtain rfl := of_some hF
          exact at_weak_k K ⟨rfl, rfl, trivial⟩
    · cases q7 with
      | ret r' => exact of_some hF
      | nx sq7 =>
        skip
        refine at_blk_same ?_
        refine at_then_normal ?_
        refine at_seq ?_
        refine at_region ?_
        refine at_val rfl rfl rfl (r_load_aggc (c := (cVec (cInt .u8) 4 (by decide))) (z := sq7) Tryd.isAgg47 Tryd.sizeOf47 rfl (lens_cell .z (Lens.whole _ _))) ?_
        refine at_store (c := (cVec (cInt .u8) 4 (by decide))) (z := sq7) (.s .z) (Lens.whole _ _) Tryd.sizeOf47 rfl rfl rfl ?_
        refine at_val rfl rfl rfl (r_assign rfl) ?_
        refine at_nil ?_
        refine at_drop (H := _) .z ?_
        refine at_weak [(2, _), (3, _)] ⟨rfl, rfl, trivial⟩ ?_
        refine at_then_normal ?_
        refine at_ret ?_
        have K := of_some hF
        subst K
        exact at_res2 rfl (res_cell (c := (cVec (cInt .u8) 4 (by decide))) (y := sq7) rfl .z (Lens.whole _ _) Tryd.isAgg47 Tryd.sizeOf47 (.inl rfl)) (res_tmp rfl) (fun w1 hw => ⟨rfl, hw.below⟩)
end Go.Proofs.YtecolkjlpklaaaaDoor
