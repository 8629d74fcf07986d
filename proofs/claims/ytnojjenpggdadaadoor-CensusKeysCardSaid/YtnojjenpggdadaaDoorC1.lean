/- Functions with the same answers as the Go functions that they are named for, and the proofs of it, by a program of this project (gen.py). -/
import Derived.Test.YtnojjenpggdadaaDoorT
import Derived.Test.YtnojjenpggdadaaDoorShelf
import Derived.Test.YtnojjenpggdadaaDoorW
import Derived.Test.YtnojjenpggdadaaDoorL
import Derived.Test.YtnojjenpggdadaaDoorS
import Derived.Test.YtnojjenpggdadaaDoorI
import Derived.Test.YtnojjenpggdadaaDoorR
import Derived.Test.YtnojjenpggdadaaDoorProg

set_option linter.unusedVariables false
set_option linter.unusedSimpArgs false
namespace Go.Proofs.YtnojjenpggdadaaDoor
open E Go.RowKit


def crawlwayref03_Text (x0 : Int) : Option (ByteArray) :=
  if (decide (x0 < 10)) = true then (some (⟨(unb ([wr .u8 (wr .u64 (48 + (Int.tmod x0 10)))])).toArray⟩ : ByteArray)) else (crawlwayref03_Text (wr .u64 (Int.tdiv x0 10)) >>= fun t3 => if t3.size + (⟨(unb ([wr .u8 (wr .u64 (48 + (Int.tmod x0 10)))])).toArray⟩ : ByteArray).size ≤ 140737488355328 then some (t3 ++ (⟨(unb ([wr .u8 (wr .u64 (48 + (Int.tmod x0 10)))])).toArray⟩ : ByteArray)) else none)
  partial_fixpoint
theorem crawlwayref03_Text_ok (x0 : Int) (r : ByteArray) (hF : crawlwayref03_Text x0 = some r) (w : World) :
    Calls Tryd.prog 11 #[.int .u64 x0] w (fun e w' => e = .returned (.string r) ∧ Below w.heap.size w w') := by
  refine crawlwayref03_Text.partial_correctness (motive := fun x0 r => ∀ (w : World), Calls Tryd.prog 11 #[.int .u64 x0] w (fun e w' => e = .returned (.string r) ∧ Below w.heap.size w w')) ?_ _ _ hF w
  clear hF
  intro g ihf0 x0 r hF w
  have ihf : ∀ (x0 : Int) (r : ByteArray) (hF : g x0 = some r) (w : World), Calls Tryd.prog 11 #[.int .u64 x0] w (fun e w' => e = .returned (.string r) ∧ Below w.heap.size w w') := fun x0 r hF w => ihf0 x0 r hF w
  refine calls_enter (l := [.int .u64 x0]) Tryd.func11 rfl rfl rfl ?_
  refine at_start ?_
  refine at_weak [(0, _)] ⟨rfl, trivial⟩ ?_
  refine at_seq ?_
  refine at_region ?_
  refine at_val rfl rfl rfl (r_assign rfl) ?_
  refine at_nil ?_
  refine at_weak [(0, _)] ⟨rfl, trivial⟩ ?_
  refine at_then_normal ?_
  refine at_seq ?_
  refine at_region ?_
  refine at_val rfl rfl rfl (r_move rfl) ?_
  refine at_val rfl rfl rfl (r_irem rfl rfl (by decide)) ?_
  refine at_val rfl rfl rfl (r_iadd rfl rfl) ?_
  refine at_val rfl rfl rfl (r_conv Tryd.underlying22 Tryd.underlying5 rfl) ?_
  refine at_lit (cs := (cInt .u8).all ([wr .u8 (wr .u64 (48 + (Int.tmod x0 10)))] : List Int)) Tryd.underlying51 Tryd.sizeOf5 Tryd.zeroValue5 rfl rfl rfl (by kernel_rfl) rfl ?_
  intro b1
  refine at_val rfl rfl rfl (r_conv_bytes (xs := ([wr .u8 (wr .u64 (48 + (Int.tmod x0 10)))] : List Int)) Tryd.underlying51 Tryd.underlying5 Tryd.underlying9 rfl (fun w1 hw => (cells_row (hw.ok (Upd.mem .z))))) ?_
  refine at_val rfl rfl rfl (r_assign rfl) ?_
  refine at_nil ?_
  refine at_drop (H := _) .z ?_
  refine at_weak [(0, _), (3, _)] ⟨rfl, rfl, trivial⟩ ?_
  refine at_then_normal ?_
  refine at_seq ?_
  refine at_seq ?_
  refine at_region ?_
  refine at_val rfl rfl rfl (r_move rfl) ?_
  refine at_val rfl rfl rfl (r_ilss rfl rfl) ?_
  refine at_nil ?_
  refine at_weak [(0, _), (3, _), (11, _)] ⟨rfl, rfl, rfl, trivial⟩ ?_
  refine at_then_normal ?_
  rcases of_ite hF with ⟨h2, hF⟩ | ⟨h2, hF⟩
  · refine at_cond_true rfl h2 ?_
    refine at_seq ?_
    refine at_region ?_
    refine at_val rfl rfl rfl (r_move rfl) ?_
    refine at_val rfl rfl rfl (r_assign rfl) ?_
    refine at_nil ?_
    refine at_weak [(2, _)] ⟨rfl, trivial⟩ ?_
    refine at_then_normal ?_
    refine at_ret ?_
    refine at_then_ret ?_
    have K := of_some hF
    subst K
    exact at_return1 rfl rfl (fun w1 hw => ⟨rfl, hw.below⟩)
  · refine at_cond_false rfl h2 ?_
    refine at_skip ?_
    refine at_then_normal ?_
    refine at_seq ?_
    refine at_region ?_
    refine at_val rfl rfl rfl (r_move rfl) ?_
    refine at_val rfl rfl rfl (r_iquo rfl rfl (by decide)) ?_
    obtain ⟨t3, ht3, hF⟩ := of_bindM hF
    refine at_callB Tryd.func11 rfl (by kernel_rfl) rfl rfl (fun w hw => ihf _ _ ht3 w) ?_
    refine at_val rfl rfl rfl (r_move rfl) ?_
    obtain ⟨h4, hF⟩ := of_guard hF
    refine at_val rfl rfl rfl (r_concat rfl rfl h4) ?_
    refine at_val rfl rfl rfl (r_assign rfl) ?_
    refine at_nil ?_
    refine at_weak [(2, _)] ⟨rfl, trivial⟩ ?_
    refine at_then_normal ?_
    refine at_ret ?_
    have K := of_some hF
    subst K
    exact at_return1 rfl rfl (fun w1 hw => ⟨rfl, hw.below⟩)

def census_Text.l0 (x0 : S_census_Count) (i5 : Int) (i6 : ByteArray) : Option (ByteArray) :=
  if (decide (i5 < 7)) = true then (if (0 : Int) ≤ i5 ∧ i5 < 7 then if (decide (i5 > 0)) = true then (if (vget x0.f_Kinds i5 != 0) = true then (if (0 : Int) ≤ i5 ∧ i5 < 7 then if (vget gval_census_names i5).size + (⟨#[32]⟩ : ByteArray).size ≤ 140737488355328 then if (-9223372036854775808 : Int) ≤ vget x0.f_Kinds i5 ∧ vget x0.f_Kinds i5 ≤ 9223372036854775807 then if ((vget gval_census_names i5) ++ (⟨#[32]⟩ : ByteArray)).size + (fmtI (vget x0.f_Kinds i5)).size ≤ 140737488355328 then if (((vget gval_census_names i5) ++ (⟨#[32]⟩ : ByteArray)) ++ (fmtI (vget x0.f_Kinds i5))).size + (⟨#[32]⟩ : ByteArray).size ≤ 140737488355328 then if (0 : Int) ≤ i5 ∧ i5 < 7 then if (-9223372036854775808 : Int) ≤ vget x0.f_Bytes i5 ∧ vget x0.f_Bytes i5 ≤ 9223372036854775807 then if ((((vget gval_census_names i5) ++ (⟨#[32]⟩ : ByteArray)) ++ (fmtI (vget x0.f_Kinds i5))) ++ (⟨#[32]⟩ : ByteArray)).size + (fmtI (vget x0.f_Bytes i5)).size ≤ 140737488355328 then if (((((vget gval_census_names i5) ++ (⟨#[32]⟩ : ByteArray)) ++ (fmtI (vget x0.f_Kinds i5))) ++ (⟨#[32]⟩ : ByteArray)) ++ (fmtI (vget x0.f_Bytes i5))).size + (⟨#[10]⟩ : ByteArray).size ≤ 140737488355328 then if i6.size + ((((((vget gval_census_names i5) ++ (⟨#[32]⟩ : ByteArray)) ++ (fmtI (vget x0.f_Kinds i5))) ++ (⟨#[32]⟩ : ByteArray)) ++ (fmtI (vget x0.f_Bytes i5))) ++ (⟨#[10]⟩ : ByteArray)).size ≤ 140737488355328 then census_Text.l0 x0 (wr .i64 (i5 + 1)) (i6 ++ ((((((vget gval_census_names i5) ++ (⟨#[32]⟩ : ByteArray)) ++ (fmtI (vget x0.f_Kinds i5))) ++ (⟨#[32]⟩ : ByteArray)) ++ (fmtI (vget x0.f_Bytes i5))) ++ (⟨#[10]⟩ : ByteArray))) else none else none else none else none else none else none else none else none else none else none) else (census_Text.l0 x0 (wr .i64 (i5 + 1)) i6)) else (census_Text.l0 x0 (wr .i64 (i5 + 1)) i6) else none) else (some i6)
  partial_fixpoint
def census_Text.l1 (x0 : S_census_Count) (i27 : Int) (i28 : ByteArray) : Option (ByteArray) :=
  if (decide (i27 < 21)) = true then (if (0 : Int) ≤ i27 ∧ i27 < 21 then if (decide (i27 > 0)) = true then (if (vget x0.f_Whys i27 != 0) = true then (if (-9223372036854775808 : Int) ≤ i27 ∧ i27 ≤ 9223372036854775807 then if (⟨#[119, 104, 121, 32]⟩ : ByteArray).size + (fmtI i27).size ≤ 140737488355328 then if ((⟨#[119, 104, 121, 32]⟩ : ByteArray) ++ (fmtI i27)).size + (⟨#[32]⟩ : ByteArray).size ≤ 140737488355328 then if (-9223372036854775808 : Int) ≤ vget x0.f_Whys i27 ∧ vget x0.f_Whys i27 ≤ 9223372036854775807 then if (((⟨#[119, 104, 121, 32]⟩ : ByteArray) ++ (fmtI i27)) ++ (⟨#[32]⟩ : ByteArray)).size + (fmtI (vget x0.f_Whys i27)).size ≤ 140737488355328 then if ((((⟨#[119, 104, 121, 32]⟩ : ByteArray) ++ (fmtI i27)) ++ (⟨#[32]⟩ : ByteArray)) ++ (fmtI (vget x0.f_Whys i27))).size + (⟨#[10]⟩ : ByteArray).size ≤ 140737488355328 then if i28.size + (((((⟨#[119, 104, 121, 32]⟩ : ByteArray) ++ (fmtI i27)) ++ (⟨#[32]⟩ : ByteArray)) ++ (fmtI (vget x0.f_Whys i27))) ++ (⟨#[10]⟩ : ByteArray)).size ≤ 140737488355328 then census_Text.l1 x0 (wr .i64 (i27 + 1)) (i28 ++ (((((⟨#[119, 104, 121, 32]⟩ : ByteArray) ++ (fmtI i27)) ++ (⟨#[32]⟩ : ByteArray)) ++ (fmtI (vget x0.f_Whys i27))) ++ (⟨#[10]⟩ : ByteArray))) else none else none else none else none else none else none else none) else (census_Text.l1 x0 (wr .i64 (i27 + 1)) i28)) else (census_Text.l1 x0 (wr .i64 (i27 + 1)) i28) else none) else (some i28)
  partial_fixpoint
def census_Text (x0 : S_census_Count) : Option (ByteArray) :=
  census_Text.l0 x0 0 ByteArray.empty >>= fun q4 => census_Text.l1 x0 0 q4 >>= fun q26 => some q26
set_option maxHeartbeats 3200000 in
theorem census_Text_ok (x0 : S_census_Count) (r : ByteArray) (hF : census_Text x0 = some r) (w : World) (hg_census_names : GV_census_names w) (hg_strconv_uint64pow10 : GV_strconv_uint64pow10 w) :
    Calls Tryd.prog 19 #[.agg (Cd.cs c_census_Count x0).toArray] w (fun e w' => e = .returned (.string r) ∧ Below w.heap.size w w') := by
  unfold census_Text at hF
  refine calls_enter (l := [.agg (Cd.cs c_census_Count x0).toArray]) Tryd.func19 rfl rfl rfl ?_
  refine at_start ?_
  refine at_weak [(0, _)] ⟨rfl, trivial⟩ ?_
  refine at_seq ?_
  refine at_region ?_
  refine at_box (cs := Cd.cs c_census_Count x0) rfl rfl rfl ?_
  intro b1
  refine at_val rfl rfl rfl (r_assign rfl) ?_
  refine at_nil ?_
  refine at_weak [(1, _)] ⟨rfl, trivial⟩ ?_
  refine at_then_normal ?_
  refine at_seq ?_
  refine at_region ?_
  refine at_alloc_bld (e := 5) Tryd.zeroValue71 rfl ?_
  intro b2
  refine at_nil ?_
  refine at_weak [(1, _), (3, _)] ⟨rfl, rfl, trivial⟩ ?_
  refine at_then_normal ?_
  refine at_seq ?_
  refine at_seq ?_
  refine at_region ?_
  refine at_val rfl rfl rfl (r_fieldAddr (fo := 0) Tryd.underlying37 rfl rfl (fun w => ⟨_, Tryd.sizeOf34 w⟩) rfl) ?_
  refine at_val rfl rfl rfl (r_load_aggc (c := (cVec (cInt .i64) 7 (by decide))) (z := x0.f_Kinds) Tryd.isAgg34 Tryd.sizeOf34 rfl (lens_cell (.s .z) (Lens.comp (Lens.whole _ _) (fun z => { x0 with f_Kinds := z }) (c_census_Count_f_Kinds x0)))) ?_
  refine at_val rfl rfl rfl (r_move rfl) ?_
  refine at_nil ?_
  refine at_weak [(1, _), (3, _), (9, _), (10, _)] ⟨rfl, rfl, rfl, rfl, trivial⟩ ?_
  refine at_then_normal ?_
  refine at_block ?_
  obtain ⟨q4, hq4, hF⟩ := of_bindM hF
  refine at_weak [(1, _), (3, _), (9, _), (10, _)] ⟨rfl, rfl, rfl, rfl, trivial⟩ ?_
  refine at_loop_n (B := 0) (A := fun Y => ∀ (g8 : Option Nat), At 60 [(1, .pointer (some ⟨b1, 0, none⟩)), (3, .pointer (some ⟨b2, 0, none⟩))] (Wd w [bldE 71 5 b2 g8 q4, cellsE b1 (Cd.cs c_census_Count x0) 37]) Y) ?_ ?_
  · intro K
    refine census_Text.l0.partial_correctness x0 (motive := fun i5 i6 x => KN (fun Y => ∀ (g8 : Option Nat), At 60 [(1, .pointer (some ⟨b1, 0, none⟩)), (3, .pointer (some ⟨b2, 0, none⟩))] (Wd w [bldE 71 5 b2 g8 x, cellsE b1 (Cd.cs c_census_Count x0) 37]) Y) _ 0 → Round (fun Y => ∀ (g7 : Option Nat), At 60 [(1, .pointer (some ⟨b1, 0, none⟩)), (3, .pointer (some ⟨b2, 0, none⟩)), (9, .agg (Cd.cs (cVec (cInt .i64) 7 (by decide)) x0.f_Kinds).toArray), (10, .int .i64 i5)] (Wd w [bldE 71 5 b2 g7 i6, cellsE b1 (Cd.cs c_census_Count x0) 37]) Y) _ _ _) ?_ _ _ _ hq4 K none
    · clear K hF
      intro g ih i5 i6 x hF K g7
      refine at_round ?_
      refine at_seq ?_
      refine at_region ?_
      refine at_val rfl rfl rfl (r_ilss rfl rfl) ?_
      refine at_nil ?_
      refine at_weak [(1, _), (3, _), (9, _), (10, _), (11, _)] ⟨rfl, rfl, rfl, rfl, rfl, trivial⟩ ?_
      refine at_then_normal ?_
      refine at_seq ?_
      rcases of_ite hF with ⟨h9, hF⟩ | ⟨h9, hF⟩
      · refine at_cond_true rfl h9 ?_
        refine at_skip ?_
        refine at_then_normal ?_
        refine at_seq ?_
        refine at_block ?_
        refine at_seq ?_
        refine at_region ?_
        refine at_val rfl rfl rfl (r_move rfl) ?_
        obtain ⟨h10, hF⟩ := of_guard hF
        refine at_val rfl rfl rfl (r_idxVal Tryd.underlying34 Tryd.sizeOf3 rfl rfl h10 (part_vOf (Lens.vec (cInt .i64) (by decide) x0.f_Kinds i5 h10) Tryd.isAgg3 Tryd.sizeOf3 (.inr rfl))) ?_
        refine at_val rfl rfl rfl (r_assign rfl) ?_
        refine at_val rfl rfl rfl (r_assign rfl) ?_
        refine at_nil ?_
        refine at_weak [(1, _), (3, _), (4, _), (5, _), (9, _), (10, _)] ⟨rfl, rfl, rfl, rfl, rfl, rfl, trivial⟩ ?_
        refine at_then_normal ?_
        refine at_seq ?_
        refine at_region ?_
        refine at_val rfl rfl rfl (r_move rfl) ?_
        refine at_val rfl rfl rfl (r_igtr rfl rfl) ?_
        refine at_val rfl rfl rfl (r_move rfl) ?_
        rcases of_ite hF with ⟨h11, hF⟩ | ⟨h11, hF⟩
        · refine at_fix (g := 16) rfl h11 ?_
          refine at_guard_yes rfl rfl rfl ?_
          refine at_val rfl rfl rfl (r_move rfl) ?_
          refine at_guard_yes rfl rfl rfl ?_
          refine at_val rfl rfl rfl (r_ineq rfl rfl) ?_
          refine at_val rfl rfl rfl (r_pick rfl rfl rfl) ?_
          refine at_nil ?_
          refine at_weak [(1, _), (3, _), (4, _), (5, _), (9, _), (10, _), (19, _)] ⟨rfl, rfl, rfl, rfl, rfl, rfl, rfl, trivial⟩ ?_
          refine at_then_normal ?_
          rcases of_ite hF with ⟨h12, hF⟩ | ⟨h12, hF⟩
          · refine at_cond_true rfl h12 ?_
            refine at_weak [(1, _), (3, _), (4, _), (5, _), (9, _), (10, _)] ⟨rfl, rfl, rfl, rfl, rfl, rfl, trivial⟩ ?_
            obtain ⟨h13, hF⟩ := of_guard hF
            obtain ⟨h14, hF⟩ := of_guard hF
            obtain ⟨h15, hF⟩ := of_guard hF
            obtain ⟨h16, hF⟩ := of_guard hF
            obtain ⟨h17, hF⟩ := of_guard hF
            obtain ⟨h18, hF⟩ := of_guard hF
            obtain ⟨h19, hF⟩ := of_guard hF
            obtain ⟨h20, hF⟩ := of_guard hF
            obtain ⟨h21, hF⟩ := of_guard hF
            obtain ⟨h23, hF⟩ := of_guard hF
            refine at_inv [.q 20 (fun g24 => .int .i64 i5) [] 0 1, .q 21 (fun g24 => .pointer (some ⟨1, 0 + Int.toNat i5 * 1, none⟩)) [0] 0 1, .q 22 (fun g24 => .string (vget gval_census_names i5)) [1] 0 1, .q 23 (fun g24 => .string ((vget gval_census_names i5) ++ (⟨#[32]⟩ : ByteArray))) [2] 0 1, .q 24 (fun g24 => .int .i64 (vget x0.f_Kinds i5)) [] 0 1, .q 25 (fun g24 => .string (fmtI (vget x0.f_Kinds i5))) [4] 0 1, .q 26 (fun g24 => .string (((vget gval_census_names i5) ++ (⟨#[32]⟩ : ByteArray)) ++ (fmtI (vget x0.f_Kinds i5)))) [3, 5] 0 1, .q 27 (fun g24 => .string ((((vget gval_census_names i5) ++ (⟨#[32]⟩ : ByteArray)) ++ (fmtI (vget x0.f_Kinds i5))) ++ (⟨#[32]⟩ : ByteArray))) [6] 0 1, .q 28 (fun g24 => .int .i64 i5) [] 0 1, .q 29 (fun g24 => .pointer (some ⟨b1, 0 + 7, none⟩)) [] 0 1, .q 30 (fun g24 => .pointer (some ⟨b1, 0 + 7 + Int.toNat i5 * 1, none⟩)) [8, 9] 0 1, .q 31 (fun g24 => .int .i64 (vget x0.f_Bytes i5)) [10] 0 1, .q 32 (fun g24 => .string (fmtI (vget x0.f_Bytes i5))) [11] 0 0, .q 33 (fun g24 => .string (((((vget gval_census_names i5) ++ (⟨#[32]⟩ : ByteArray)) ++ (fmtI (vget x0.f_Kinds i5))) ++ (⟨#[32]⟩ : ByteArray)) ++ (fmtI (vget x0.f_Bytes i5)))) [7, 12] 0 1, .q 34 (fun g24 => .string ((((((vget gval_census_names i5) ++ (⟨#[32]⟩ : ByteArray)) ++ (fmtI (vget x0.f_Kinds i5))) ++ (⟨#[32]⟩ : ByteArray)) ++ (fmtI (vget x0.f_Bytes i5))) ++ (⟨#[10]⟩ : ByteArray))) [13] 0 0, .al 0 35 (fun g24 => .tuple #[.int .i64 (((((((vget gval_census_names i5) ++ (⟨#[32]⟩ : ByteArray)) ++ (fmtI (vget x0.f_Kinds i5))) ++ (⟨#[32]⟩ : ByteArray)) ++ (fmtI (vget x0.f_Bytes i5))) ++ (⟨#[10]⟩ : ByteArray)).size : Int), .nilIface]) [14]] (fun g24 s => match s with | 0 => (Wd w [bldE 71 5 b2 g7 i6, cellsE b1 (Cd.cs c_census_Count x0) 37]) | _ => (Wd w [bldE 71 5 b2 ((g24 0).2.2.2) (i6 ++ ((((((vget gval_census_names i5) ++ (⟨#[32]⟩ : ByteArray)) ++ (fmtI (vget x0.f_Kinds i5))) ++ (⟨#[32]⟩ : ByteArray)) ++ (fmtI (vget x0.f_Bytes i5))) ++ (⟨#[10]⟩ : ByteArray))), cellsE b1 (Cd.cs c_census_Count x0) 37])) 1 (by kernel_rfl) (by kernel_rfl) (by kernel_rfl) (by kernel_rfl) (by kernel_rfl) ⟨fun _ _ _ => rfl, fun _ _ _ => rfl, fun _ _ _ => rfl, fun _ _ _ => rfl, fun _ _ _ => rfl, fun _ _ _ => rfl, fun _ _ _ => rfl, fun _ _ _ => rfl, fun _ _ _ => rfl, fun _ _ _ => rfl, fun _ _ _ => rfl, fun _ _ _ => rfl, fun _ _ _ => rfl, fun _ _ _ => rfl, fun _ _ _ => rfl, fun _ _ _ => rfl, trivial⟩ (by kernel_rfl) (fun _ h => ⟨fun _ => (0, none, 0, none), h.drew⟩) ⟨?_, ?_, ?_, ?_, ?_, ?_, ?_, ?_, ?_, ?_, ?_, ?_, ?_, ?_, ?_, ?_, trivial⟩ ?_
            · intro Lx g24 s K hl hh k
              show At 60 ((1, _) :: (3, _) :: (4, _) :: (5, _) :: (9, _) :: (10, _) :: Lx) _ _
              refine at_val rfl rfl rfl (r_move rfl) ?_
              exact at_nil k
            · intro Lx g24 s K hl hh k
              show At 60 ((20, _) :: (1, _) :: (3, _) :: (4, _) :: (5, _) :: (9, _) :: (10, _) :: Lx) _ _
              refine at_val rfl rfl rfl (r_idxArr Tryd.underlying74 Tryd.sizeOf9 rfl rfl h13) ?_
              exact at_nil k
            · intro Lx g24 s K hl hh k
              show At 60 ((21, _) :: (1, _) :: (3, _) :: (4, _) :: (5, _) :: (9, _) :: (10, _) :: Lx) _ _
              rcases (by omega : s = 0 ∨ s = 1) with rfl | rfl
              · skip
                refine at_val rfl rfl rfl (r_load_cell Tryd.isAgg9 rfl (glob_cell0 (c' := cStr) (y := vget gval_census_names i5) (fun _ h => h.below) hg_census_names g_census_names (Lens.comp (Lens.whole _ _) (fun z => vset gval_census_names i5 z) (Lens.vec cStr (by decide) gval_census_names i5 h13)) rfl)) ?_
                exact at_nil k
              · skip
                refine at_val rfl rfl rfl (r_load_cell Tryd.isAgg9 rfl (glob_cell0 (c' := cStr) (y := vget gval_census_names i5) (fun _ h => h.below) hg_census_names g_census_names (Lens.comp (Lens.whole _ _) (fun z => vset gval_census_names i5 z) (Lens.vec cStr (by decide) gval_census_names i5 h13)) rfl)) ?_
                exact at_nil k
            · intro Lx g24 s K hl hh k
              show At 60 ((22, _) :: (1, _) :: (3, _) :: (4, _) :: (5, _) :: (9, _) :: (10, _) :: Lx) _ _
              refine at_val rfl rfl rfl (r_concat rfl rfl h14) ?_
              exact at_nil k
            · intro Lx g24 s K hl hh k
              show At 60 ((1, _) :: (3, _) :: (4, _) :: (5, _) :: (9, _) :: (10, _) :: Lx) _ _
              refine at_val rfl rfl rfl (r_move rfl) ?_
              exact at_nil k
            · intro Lx g24 s K hl hh k
              show At 60 ((24, _) :: (1, _) :: (3, _) :: (4, _) :: (5, _) :: (9, _) :: (10, _) :: Lx) _ _
              rcases (by omega : s = 0 ∨ s = 1) with rfl | rfl
              · skip
                refine at_callB Tryd.func31 rfl (by kernel_rfl) rfl rfl (fun w1 hw => itoa_ok _ h15 w1 (hg_strconv_uint64pow10.on hw.below)) ?_
                exact at_nil k
              · skip
                refine at_callB Tryd.func31 rfl (by kernel_rfl) rfl rfl (fun w1 hw => itoa_ok _ h15 w1 (hg_strconv_uint64pow10.on hw.below)) ?_
                exact at_nil k
            · intro Lx g24 s K hl hh k
              show At 60 ((23, _) :: (25, _) :: (1, _) :: (3, _) :: (4, _) :: (5, _) :: (9, _) :: (10, _) :: Lx) _ _
              refine at_val rfl rfl rfl (r_concat rfl rfl h16) ?_
              exact at_nil k
            · intro Lx g24 s K hl hh k
              show At 60 ((26, _) :: (1, _) :: (3, _) :: (4, _) :: (5, _) :: (9, _) :: (10, _) :: Lx) _ _
              refine at_val rfl rfl rfl (r_concat rfl rfl h17) ?_
              exact at_nil k
            · intro Lx g24 s K hl hh k
              show At 60 ((1, _) :: (3, _) :: (4, _) :: (5, _) :: (9, _) :: (10, _) :: Lx) _ _
              refine at_val rfl rfl rfl (r_move rfl) ?_
              exact at_nil k
            · intro Lx g24 s K hl hh k
              show At 60 ((1, _) :: (3, _) :: (4, _) :: (5, _) :: (9, _) :: (10, _) :: Lx) _ _
              refine at_val rfl rfl rfl (r_fieldAddr (fo := 7) Tryd.underlying37 rfl rfl (fun w => ⟨_, Tryd.sizeOf34 w⟩) rfl) ?_
              exact at_nil k
            · intro Lx g24 s K hl hh k
              show At 60 ((28, _) :: (29, _) :: (1, _) :: (3, _) :: (4, _) :: (5, _) :: (9, _) :: (10, _) :: Lx) _ _
              refine at_val rfl rfl rfl (r_idxArr Tryd.underlying34 Tryd.sizeOf3 rfl rfl h18) ?_
              exact at_nil k
            · intro Lx g24 s K hl hh k
              show At 60 ((30, _) :: (1, _) :: (3, _) :: (4, _) :: (5, _) :: (9, _) :: (10, _) :: Lx) _ _
              rcases (by omega : s = 0 ∨ s = 1) with rfl | rfl
              · skip
                refine at_val rfl rfl rfl (r_load_cell Tryd.isAgg3 rfl (lens_cell0 (c := (cInt .i64)) (y := vget x0.f_Bytes i5) (.s .z) (Lens.comp (Lens.comp (Lens.whole _ _) (fun z => { x0 with f_Bytes := z }) (c_census_Count_f_Bytes x0)) (fun z => vset x0.f_Bytes i5 z) (Lens.vec (cInt .i64) (by decide) x0.f_Bytes i5 h18)) rfl)) ?_
                exact at_nil k
              · skip
                refine at_val rfl rfl rfl (r_load_cell Tryd.isAgg3 rfl (lens_cell0 (c := (cInt .i64)) (y := vget x0.f_Bytes i5) (.s .z) (Lens.comp (Lens.comp (Lens.whole _ _) (fun z => { x0 with f_Bytes := z }) (c_census_Count_f_Bytes x0)) (fun z => vset x0.f_Bytes i5 z) (Lens.vec (cInt .i64) (by decide) x0.f_Bytes i5 h18)) rfl)) ?_
                exact at_nil k
            · intro Lx g24 s K hl hh k
              show At 60 ((31, _) :: (1, _) :: (3, _) :: (4, _) :: (5, _) :: (9, _) :: (10, _) :: Lx) _ _
              obtain rfl : s = 0 := by omega
              refine at_callB Tryd.func31 rfl (by kernel_rfl) rfl rfl (fun w1 hw => itoa_ok _ h19 w1 (hg_strconv_uint64pow10.on hw.below)) ?_
              exact at_nil k
            · intro Lx g24 s K hl hh k
              show At 60 ((27, _) :: (32, _) :: (1, _) :: (3, _) :: (4, _) :: (5, _) :: (9, _) :: (10, _) :: Lx) _ _
              refine at_val rfl rfl rfl (r_concat rfl rfl h20) ?_
              exact at_nil k
            · intro Lx g24 s K hl hh k
              show At 60 ((33, _) :: (1, _) :: (3, _) :: (4, _) :: (5, _) :: (9, _) :: (10, _) :: Lx) _ _
              refine at_val rfl rfl rfl (r_concat rfl rfl h21) ?_
              exact at_nil k
            · intro Lx g24 K k
              show At 60 ((34, _) :: (1, _) :: (3, _) :: (4, _) :: (5, _) :: (9, _) :: (10, _) :: Lx) _ _
              refine at_bld_str (s := ((((((vget gval_census_names i5) ++ (⟨#[32]⟩ : ByteArray)) ++ (fmtI (vget x0.f_Kinds i5))) ++ (⟨#[32]⟩ : ByteArray)) ++ (fmtI (vget x0.f_Bytes i5))) ++ (⟨#[10]⟩ : ByteArray))) .z ⟨other_cells rfl, trivial⟩ Tryd.func30 rfl (by kernel_rfl) rfl rfl h23 Tryd.Builder_WriteString_k ?_
              intro g22
              exact at_nil (k (0, none, 0, g22))
            intro g24
            show At 60 [(20, _), (21, _), (22, _), (23, _), (24, _), (25, _), (26, _), (27, _), (28, _), (29, _), (30, _), (31, _), (32, _), (33, _), (34, _), (35, _), (1, _), (3, _), (4, _), (5, _), (9, _), (10, _)] _ _
            refine at_weak [(1, _), (3, _), (9, _), (10, _)] ⟨rfl, rfl, rfl, rfl, trivial⟩ ?_
            refine at_blk_normal (at_then_normal ?_)
            refine at_region ?_
            refine at_val rfl rfl rfl (r_iadd rfl rfl) ?_
            refine at_val rfl rfl rfl (r_move rfl) ?_
            refine at_nil ?_
            refine at_weak [(1, _), (3, _), (9, _), (10, _)] ⟨rfl, rfl, rfl, rfl, trivial⟩ ?_
            refine at_then_normal ?_
            exact at_weak_k (ih _ _ _ hF K (g24 0).2.2.2) ⟨rfl, rfl, rfl, rfl, trivial⟩
          · refine at_cond_false rfl h12 ?_
            refine at_skip ?_
            refine at_blk_normal (at_then_normal ?_)
            refine at_region ?_
            refine at_val rfl rfl rfl (r_iadd rfl rfl) ?_
            refine at_val rfl rfl rfl (r_move rfl) ?_
            refine at_nil ?_
            refine at_weak [(1, _), (3, _), (9, _), (10, _)] ⟨rfl, rfl, rfl, rfl, trivial⟩ ?_
            refine at_then_normal ?_
            exact at_weak_k (ih _ _ _ hF K g7) ⟨rfl, rfl, rfl, rfl, trivial⟩
        · refine at_fix (g := 16) rfl h11 ?_
          refine at_guard_no rfl rfl rfl rfl rfl ?_
          refine at_guard_no rfl rfl rfl rfl rfl ?_
          refine at_val rfl rfl rfl (r_pick rfl rfl rfl) ?_
          refine at_nil ?_
          refine at_weak [(1, _), (3, _), (4, _), (5, _), (9, _), (10, _), (19, _)] ⟨rfl, rfl, rfl, rfl, rfl, rfl, rfl, trivial⟩ ?_
          refine at_then_normal ?_
          refine at_cond_false rfl rfl ?_
          refine at_skip ?_
          refine at_blk_normal (at_then_normal ?_)
          refine at_region ?_
          refine at_val rfl rfl rfl (r_iadd rfl rfl) ?_
          refine at_val rfl rfl rfl (r_move rfl) ?_
          refine at_nil ?_
          refine at_weak [(1, _), (3, _), (9, _), (10, _)] ⟨rfl, rfl, rfl, rfl, trivial⟩ ?_
          refine at_then_normal ?_
          exact at_weak_k (ih _ _ _ hF K g7) ⟨rfl, rfl, rfl, rfl, trivial⟩
      · refine at_cond_false rfl h9 ?_
        refine at_exit ?_
        refine at_then_exit (at_then_exit ?_)
        obtain rfl := of_some hF
        exact at_weak_k (K g7) ⟨rfl, rfl, trivial⟩
  · skip
    intro g8
    refine at_blk_same ?_
    refine at_then_normal ?_
    refine at_seq ?_
    refine at_seq ?_
    refine at_region ?_
    refine at_val rfl rfl rfl (r_fieldAddr (fo := 14) Tryd.underlying37 rfl rfl (fun w => ⟨_, Tryd.sizeOf35 w⟩) rfl) ?_
    refine at_val rfl rfl rfl (r_load_aggc (c := (cVec (cInt .i64) 21 (by decide))) (z := x0.f_Whys) Tryd.isAgg35 Tryd.sizeOf35 rfl (lens_cell (.s .z) (Lens.comp (Lens.whole _ _) (fun z => { x0 with f_Whys := z }) (c_census_Count_f_Whys x0)))) ?_
    refine at_val rfl rfl rfl (r_move rfl) ?_
    refine at_nil ?_
    refine at_drop (H := _) (.s .z) ?_
    refine at_weak [(3, _), (38, _), (39, _)] ⟨rfl, rfl, rfl, trivial⟩ ?_
    refine at_then_normal ?_
    refine at_block ?_
    obtain ⟨q26, hq26, hF⟩ := of_bindM hF
    refine at_weak [(3, _), (38, _), (39, _)] ⟨rfl, rfl, rfl, trivial⟩ ?_
    refine at_loop_n (B := 2) (A := fun Y => ∀ (g30 : Option Nat), At 60 [(3, .pointer (some ⟨b2, 0, none⟩))] (Wd w [bldE 71 5 b2 g30 q26]) Y) ?_ ?_
    · intro K
      refine census_Text.l1.partial_correctness x0 (motive := fun i27 i28 x => KN (fun Y => ∀ (g30 : Option Nat), At 60 [(3, .pointer (some ⟨b2, 0, none⟩))] (Wd w [bldE 71 5 b2 g30 x]) Y) _ 2 → Round (fun Y => ∀ (g29 : Option Nat), At 60 [(3, .pointer (some ⟨b2, 0, none⟩)), (38, .agg (Cd.cs (cVec (cInt .i64) 21 (by decide)) x0.f_Whys).toArray), (39, .int .i64 i27)] (Wd w [bldE 71 5 b2 g29 i28]) Y) _ _ _) ?_ _ _ _ hq26 K g8
      · clear K hF
        intro g ih i27 i28 x hF K g29
        refine at_round ?_
        refine at_seq ?_
        refine at_region ?_
        refine at_val rfl rfl rfl (r_ilss rfl rfl) ?_
        refine at_nil ?_
        refine at_weak [(3, _), (38, _), (39, _), (40, _)] ⟨rfl, rfl, rfl, rfl, trivial⟩ ?_
        refine at_then_normal ?_
        refine at_seq ?_
        rcases of_ite hF with ⟨h31, hF⟩ | ⟨h31, hF⟩
        · refine at_cond_true rfl h31 ?_
          refine at_skip ?_
          refine at_then_normal ?_
          refine at_seq ?_
          refine at_block ?_
          refine at_seq ?_
          refine at_region ?_
          refine at_val rfl rfl rfl (r_move rfl) ?_
          obtain ⟨h32, hF⟩ := of_guard hF
          refine at_val rfl rfl rfl (r_idxVal Tryd.underlying35 Tryd.sizeOf3 rfl rfl h32 (part_vOf (Lens.vec (cInt .i64) (by decide) x0.f_Whys i27 h32) Tryd.isAgg3 Tryd.sizeOf3 (.inr rfl))) ?_
          refine at_val rfl rfl rfl (r_assign rfl) ?_
          refine at_val rfl rfl rfl (r_assign rfl) ?_
          refine at_nil ?_
          refine at_weak [(3, _), (6, _), (7, _), (38, _), (39, _)] ⟨rfl, rfl, rfl, rfl, rfl, trivial⟩ ?_
          refine at_then_normal ?_
          refine at_seq ?_
          refine at_region ?_
          refine at_val rfl rfl rfl (r_move rfl) ?_
          refine at_val rfl rfl rfl (r_igtr rfl rfl) ?_
          refine at_val rfl rfl rfl (r_move rfl) ?_
          rcases of_ite hF with ⟨h33, hF⟩ | ⟨h33, hF⟩
          · refine at_fix (g := 45) rfl h33 ?_
            refine at_guard_yes rfl rfl rfl ?_
            refine at_val rfl rfl rfl (r_move rfl) ?_
            refine at_guard_yes rfl rfl rfl ?_
            refine at_val rfl rfl rfl (r_ineq rfl rfl) ?_
            refine at_val rfl rfl rfl (r_pick rfl rfl rfl) ?_
            refine at_nil ?_
            refine at_weak [(3, _), (6, _), (7, _), (38, _), (39, _), (48, _)] ⟨rfl, rfl, rfl, rfl, rfl, rfl, trivial⟩ ?_
            refine at_then_normal ?_
            rcases of_ite hF with ⟨h34, hF⟩ | ⟨h34, hF⟩
            · refine at_cond_true rfl h34 ?_
              refine at_region ?_
              refine at_val rfl rfl rfl (r_move rfl) ?_
              obtain ⟨h35, hF⟩ := of_guard hF
              refine at_callB Tryd.func31 rfl (by kernel_rfl) rfl rfl (fun w1 hw => itoa_ok _ h35 w1 (hg_strconv_uint64pow10.on hw.below)) ?_
              obtain ⟨h36, hF⟩ := of_guard hF
              refine at_val rfl rfl rfl (r_concat rfl rfl h36) ?_
              obtain ⟨h37, hF⟩ := of_guard hF
              refine at_val rfl rfl rfl (r_concat rfl rfl h37) ?_
              refine at_val rfl rfl rfl (r_move rfl) ?_
              obtain ⟨h38, hF⟩ := of_guard hF
              refine at_callB Tryd.func31 rfl (by kernel_rfl) rfl rfl (fun w1 hw => itoa_ok _ h38 w1 (hg_strconv_uint64pow10.on hw.below)) ?_
              obtain ⟨h39, hF⟩ := of_guard hF
              refine at_val rfl rfl rfl (r_concat rfl rfl h39) ?_
              obtain ⟨h40, hF⟩ := of_guard hF
              refine at_val rfl rfl rfl (r_concat rfl rfl h40) ?_
              obtain ⟨h42, hF⟩ := of_guard hF
              refine at_bld_str (s := (((((⟨#[119, 104, 121, 32]⟩ : ByteArray) ++ (fmtI i27)) ++ (⟨#[32]⟩ : ByteArray)) ++ (fmtI (vget x0.f_Whys i27))) ++ (⟨#[10]⟩ : ByteArray))) .z trivial Tryd.func30 rfl (by kernel_rfl) rfl rfl h42 Tryd.Builder_WriteString_k ?_
              intro g41
              refine at_nil ?_
              refine at_weak [(3, _), (38, _), (39, _)] ⟨rfl, rfl, rfl, trivial⟩ ?_
              refine at_blk_normal (at_then_normal ?_)
              refine at_region ?_
              refine at_val rfl rfl rfl (r_iadd rfl rfl) ?_
              refine at_val rfl rfl rfl (r_move rfl) ?_
              refine at_nil ?_
              refine at_weak [(3, _), (38, _), (39, _)] ⟨rfl, rfl, rfl, trivial⟩ ?_
              refine at_then_normal ?_
              exact at_weak_k (ih _ _ _ hF K g41) ⟨rfl, rfl, rfl, trivial⟩
            · refine at_cond_false rfl h34 ?_
              refine at_skip ?_
              refine at_blk_normal (at_then_normal ?_)
              refine at_region ?_
              refine at_val rfl rfl rfl (r_iadd rfl rfl) ?_
              refine at_val rfl rfl rfl (r_move rfl) ?_
              refine at_nil ?_
              refine at_weak [(3, _), (38, _), (39, _)] ⟨rfl, rfl, rfl, trivial⟩ ?_
              refine at_then_normal ?_
              exact at_weak_k (ih _ _ _ hF K g29) ⟨rfl, rfl, rfl, trivial⟩
          · refine at_fix (g := 45) rfl h33 ?_
            refine at_guard_no rfl rfl rfl rfl rfl ?_
            refine at_guard_no rfl rfl rfl rfl rfl ?_
            refine at_val rfl rfl rfl (r_pick rfl rfl rfl) ?_
            refine at_nil ?_
            refine at_weak [(3, _), (6, _), (7, _), (38, _), (39, _), (48, _)] ⟨rfl, rfl, rfl, rfl, rfl, rfl, trivial⟩ ?_
            refine at_then_normal ?_
            refine at_cond_false rfl rfl ?_
            refine at_skip ?_
            refine at_blk_normal (at_then_normal ?_)
            refine at_region ?_
            refine at_val rfl rfl rfl (r_iadd rfl rfl) ?_
            refine at_val rfl rfl rfl (r_move rfl) ?_
            refine at_nil ?_
            refine at_weak [(3, _), (38, _), (39, _)] ⟨rfl, rfl, rfl, trivial⟩ ?_
            refine at_then_normal ?_
            exact at_weak_k (ih _ _ _ hF K g29) ⟨rfl, rfl, rfl, trivial⟩
        · refine at_cond_false rfl h31 ?_
          refine at_exit ?_
          refine at_then_exit (at_then_exit ?_)
          obtain rfl := of_some hF
          exact at_weak_k (K g29) ⟨rfl, trivial⟩
    · skip
      intro g30
      refine at_blk_same ?_
      refine at_then_normal ?_
      refine at_seq ?_
      refine at_region ?_
      refine at_bld_string .z trivial Tryd.func32 rfl (by kernel_rfl) rfl rfl Tryd.Builder_String_any_k ?_
      intro g43
      refine at_val rfl rfl rfl (r_assign rfl) ?_
      refine at_nil ?_
      refine at_drop (H := _) .z ?_
      refine at_weak [(2, _)] ⟨rfl, trivial⟩ ?_
      refine at_then_normal ?_
      refine at_ret ?_
      have K := of_some hF
      subst K
      exact at_return1 rfl rfl (fun w1 hw => ⟨rfl, hw.below⟩)

def crawlwayref52_number (x0 : Int) : Option (ByteArray) :=
  if (decide (x0 < 0)) = true then (crawlwayref03_Text (wr .u64 ((wr .u64 (wr .i64 (0 - (wr .i64 (x0 + 1))))) + 1)) >>= fun t2 => if (⟨#[45]⟩ : ByteArray).size + t2.size ≤ 140737488355328 then some ((⟨#[45]⟩ : ByteArray) ++ t2) else none) else (crawlwayref03_Text (wr .u64 x0) >>= fun t4 => some t4)
theorem crawlwayref52_number_ok (x0 : Int) (r : ByteArray) (hF : crawlwayref52_number x0 = some r) (w : World) :
    Calls Tryd.prog 33 #[.int .i64 x0] w (fun e w' => e = .returned (.string r) ∧ Below w.heap.size w w') := by
  unfold crawlwayref52_number at hF
  refine calls_enter (l := [.int .i64 x0]) Tryd.func33 rfl rfl rfl ?_
  refine at_start ?_
  refine at_weak [(0, _)] ⟨rfl, trivial⟩ ?_
  refine at_seq ?_
  refine at_region ?_
  refine at_val rfl rfl rfl (r_assign rfl) ?_
  refine at_nil ?_
  refine at_weak [(0, _)] ⟨rfl, trivial⟩ ?_
  refine at_then_normal ?_
  refine at_seq ?_
  refine at_seq ?_
  refine at_region ?_
  refine at_val rfl rfl rfl (r_move rfl) ?_
  refine at_val rfl rfl rfl (r_ilss rfl rfl) ?_
  refine at_nil ?_
  refine at_weak [(0, _), (4, _)] ⟨rfl, rfl, trivial⟩ ?_
  refine at_then_normal ?_
  rcases of_ite hF with ⟨h1, hF⟩ | ⟨h1, hF⟩
  · refine at_cond_true rfl h1 ?_
    refine at_seq ?_
    refine at_region ?_
    refine at_val rfl rfl rfl (r_move rfl) ?_
    refine at_val rfl rfl rfl (r_iadd rfl rfl) ?_
    refine at_val rfl rfl rfl (r_neg rfl) ?_
    refine at_val rfl rfl rfl (r_conv Tryd.underlying3 Tryd.underlying22 rfl) ?_
    refine at_val rfl rfl rfl (r_iadd rfl rfl) ?_
    obtain ⟨t2, ht2, hF⟩ := of_bindM hF
    refine at_callB Tryd.func11 rfl (by kernel_rfl) rfl rfl (fun w hw => crawlwayref03_Text_ok _ _ ht2 w) ?_
    obtain ⟨h3, hF⟩ := of_guard hF
    refine at_val rfl rfl rfl (r_concat rfl rfl h3) ?_
    refine at_val rfl rfl rfl (r_assign rfl) ?_
    refine at_nil ?_
    refine at_weak [(2, _)] ⟨rfl, trivial⟩ ?_
    refine at_then_normal ?_
    refine at_ret ?_
    refine at_then_ret ?_
    have K := of_some hF
    subst K
    exact at_return1 rfl rfl (fun w1 hw => ⟨rfl, hw.below⟩)
  · refine at_cond_false rfl h1 ?_
    refine at_skip ?_
    refine at_then_normal ?_
    refine at_seq ?_
    refine at_region ?_
    refine at_val rfl rfl rfl (r_move rfl) ?_
    refine at_val rfl rfl rfl (r_conv Tryd.underlying3 Tryd.underlying22 rfl) ?_
    obtain ⟨t4, ht4, hF⟩ := of_bindM hF
    refine at_callB Tryd.func11 rfl (by kernel_rfl) rfl rfl (fun w hw => crawlwayref03_Text_ok _ _ ht4 w) ?_
    refine at_val rfl rfl rfl (r_assign rfl) ?_
    refine at_nil ?_
    refine at_weak [(2, _)] ⟨rfl, trivial⟩ ?_
    refine at_then_normal ?_
    refine at_ret ?_
    have K := of_some hF
    subst K
    exact at_return1 rfl rfl (fun w1 hw => ⟨rfl, hw.below⟩)

def crawlwayref52_Text.l0 (x0 : (Vector Int 7)) (x1 : (Vector Int 7)) (i6 : ByteArray) (i7 : Int) : Option (ByteArray) :=
  if (decide (i7 ≤ 6)) = true then (if (0 : Int) ≤ i7 ∧ i7 < 7 then if (vget x0 i7 != 0) = true then (if (0 : Int) ≤ i7 ∧ i7 < (([⟨#[]⟩, ⟨#[114, 101, 112, 108, 121]⟩, ⟨#[115, 101, 110, 100]⟩, ⟨#[100, 101, 108, 105, 118, 101, 114]⟩, ⟨#[114, 101, 102, 117, 115, 101]⟩, ⟨#[100, 114, 111, 112]⟩, ⟨#[112, 97, 115, 115]⟩] : List ByteArray).length : Int) then if i6.size + (lget ([⟨#[]⟩, ⟨#[114, 101, 112, 108, 121]⟩, ⟨#[115, 101, 110, 100]⟩, ⟨#[100, 101, 108, 105, 118, 101, 114]⟩, ⟨#[114, 101, 102, 117, 115, 101]⟩, ⟨#[100, 114, 111, 112]⟩, ⟨#[112, 97, 115, 115]⟩] : List ByteArray) i7).size ≤ 140737488355328 then if (i6 ++ (lget ([⟨#[]⟩, ⟨#[114, 101, 112, 108, 121]⟩, ⟨#[115, 101, 110, 100]⟩, ⟨#[100, 101, 108, 105, 118, 101, 114]⟩, ⟨#[114, 101, 102, 117, 115, 101]⟩, ⟨#[100, 114, 111, 112]⟩, ⟨#[112, 97, 115, 115]⟩] : List ByteArray) i7)).size + (⟨#[32]⟩ : ByteArray).size ≤ 140737488355328 then if (0 : Int) ≤ i7 ∧ i7 < 7 then crawlwayref52_number (vget x0 i7) >>= fun t15 => if ((i6 ++ (lget ([⟨#[]⟩, ⟨#[114, 101, 112, 108, 121]⟩, ⟨#[115, 101, 110, 100]⟩, ⟨#[100, 101, 108, 105, 118, 101, 114]⟩, ⟨#[114, 101, 102, 117, 115, 101]⟩, ⟨#[100, 114, 111, 112]⟩, ⟨#[112, 97, 115, 115]⟩] : List ByteArray) i7)) ++ (⟨#[32]⟩ : ByteArray)).size + t15.size ≤ 140737488355328 then if (((i6 ++ (lget ([⟨#[]⟩, ⟨#[114, 101, 112, 108, 121]⟩, ⟨#[115, 101, 110, 100]⟩, ⟨#[100, 101, 108, 105, 118, 101, 114]⟩, ⟨#[114, 101, 102, 117, 115, 101]⟩, ⟨#[100, 114, 111, 112]⟩, ⟨#[112, 97, 115, 115]⟩] : List ByteArray) i7)) ++ (⟨#[32]⟩ : ByteArray)) ++ t15).size + (⟨#[32]⟩ : ByteArray).size ≤ 140737488355328 then if (0 : Int) ≤ i7 ∧ i7 < 7 then crawlwayref52_number (vget x1 i7) >>= fun t19 => if ((((i6 ++ (lget ([⟨#[]⟩, ⟨#[114, 101, 112, 108, 121]⟩, ⟨#[115, 101, 110, 100]⟩, ⟨#[100, 101, 108, 105, 118, 101, 114]⟩, ⟨#[114, 101, 102, 117, 115, 101]⟩, ⟨#[100, 114, 111, 112]⟩, ⟨#[112, 97, 115, 115]⟩] : List ByteArray) i7)) ++ (⟨#[32]⟩ : ByteArray)) ++ t15) ++ (⟨#[32]⟩ : ByteArray)).size + t19.size ≤ 140737488355328 then if (((((i6 ++ (lget ([⟨#[]⟩, ⟨#[114, 101, 112, 108, 121]⟩, ⟨#[115, 101, 110, 100]⟩, ⟨#[100, 101, 108, 105, 118, 101, 114]⟩, ⟨#[114, 101, 102, 117, 115, 101]⟩, ⟨#[100, 114, 111, 112]⟩, ⟨#[112, 97, 115, 115]⟩] : List ByteArray) i7)) ++ (⟨#[32]⟩ : ByteArray)) ++ t15) ++ (⟨#[32]⟩ : ByteArray)) ++ t19).size + (⟨#[10]⟩ : ByteArray).size ≤ 140737488355328 then crawlwayref52_Text.l0 x0 x1 ((((((i6 ++ (lget ([⟨#[]⟩, ⟨#[114, 101, 112, 108, 121]⟩, ⟨#[115, 101, 110, 100]⟩, ⟨#[100, 101, 108, 105, 118, 101, 114]⟩, ⟨#[114, 101, 102, 117, 115, 101]⟩, ⟨#[100, 114, 111, 112]⟩, ⟨#[112, 97, 115, 115]⟩] : List ByteArray) i7)) ++ (⟨#[32]⟩ : ByteArray)) ++ t15) ++ (⟨#[32]⟩ : ByteArray)) ++ t19) ++ (⟨#[10]⟩ : ByteArray)) (wr .i64 (i7 + 1)) else none else none else none else none else none else none else none else none else none) else (crawlwayref52_Text.l0 x0 x1 i6 (wr .i64 (i7 + 1))) else none) else (some i6)
  partial_fixpoint
def crawlwayref52_Text.l1 (x2 : (Vector Int 21)) (i23 : ByteArray) (i24 : Int) : Option (ByteArray) :=
  if (decide (i24 ≤ 20)) = true then (if (0 : Int) ≤ i24 ∧ i24 < 21 then if (vget x2 i24 != 0) = true then (if i23.size + (⟨#[119, 104, 121, 32]⟩ : ByteArray).size ≤ 140737488355328 then crawlwayref52_number i24 >>= fun t29 => if (i23 ++ (⟨#[119, 104, 121, 32]⟩ : ByteArray)).size + t29.size ≤ 140737488355328 then if ((i23 ++ (⟨#[119, 104, 121, 32]⟩ : ByteArray)) ++ t29).size + (⟨#[32]⟩ : ByteArray).size ≤ 140737488355328 then if (0 : Int) ≤ i24 ∧ i24 < 21 then crawlwayref52_number (vget x2 i24) >>= fun t33 => if (((i23 ++ (⟨#[119, 104, 121, 32]⟩ : ByteArray)) ++ t29) ++ (⟨#[32]⟩ : ByteArray)).size + t33.size ≤ 140737488355328 then if ((((i23 ++ (⟨#[119, 104, 121, 32]⟩ : ByteArray)) ++ t29) ++ (⟨#[32]⟩ : ByteArray)) ++ t33).size + (⟨#[10]⟩ : ByteArray).size ≤ 140737488355328 then crawlwayref52_Text.l1 x2 (((((i23 ++ (⟨#[119, 104, 121, 32]⟩ : ByteArray)) ++ t29) ++ (⟨#[32]⟩ : ByteArray)) ++ t33) ++ (⟨#[10]⟩ : ByteArray)) (wr .i64 (i24 + 1)) else none else none else none else none else none else none) else (crawlwayref52_Text.l1 x2 i23 (wr .i64 (i24 + 1))) else none) else (some i23)
  partial_fixpoint
def crawlwayref52_Text (x0 : (Vector Int 7)) (x1 : (Vector Int 7)) (x2 : (Vector Int 21)) : Option (ByteArray) :=
  crawlwayref52_Text.l0 x0 x1 (⟨#[]⟩) 1 >>= fun q5 => crawlwayref52_Text.l1 x2 q5 1 >>= fun q22 => some q22
theorem crawlwayref52_Text_ok (x0 : (Vector Int 7)) (x1 : (Vector Int 7)) (x2 : (Vector Int 21)) (r : ByteArray) (hF : crawlwayref52_Text x0 x1 x2 = some r) (w : World) :
    Calls Tryd.prog 20 #[.agg (Cd.cs (cVec (cInt .i64) 7 (by decide)) x0).toArray, .agg (Cd.cs (cVec (cInt .i64) 7 (by decide)) x1).toArray, .agg (Cd.cs (cVec (cInt .i64) 21 (by decide)) x2).toArray] w (fun e w' => e = .returned (.string r) ∧ Below w.heap.size w w') := by
  unfold crawlwayref52_Text at hF
  refine calls_enter (l := [.agg (Cd.cs (cVec (cInt .i64) 7 (by decide)) x0).toArray, .agg (Cd.cs (cVec (cInt .i64) 7 (by decide)) x1).toArray, .agg (Cd.cs (cVec (cInt .i64) 21 (by decide)) x2).toArray]) Tryd.func20 rfl rfl rfl ?_
  refine at_start ?_
  refine at_weak [(0, _), (1, _), (2, _)] ⟨rfl, rfl, rfl, trivial⟩ ?_
  refine at_seq ?_
  refine at_region ?_
  refine at_box (cs := Cd.cs (cVec (cInt .i64) 7 (by decide)) x0) rfl rfl rfl ?_
  intro b1
  refine at_box (cs := Cd.cs (cVec (cInt .i64) 7 (by decide)) x1) rfl rfl rfl ?_
  intro b2
  refine at_box (cs := Cd.cs (cVec (cInt .i64) 21 (by decide)) x2) rfl rfl rfl ?_
  intro b3
  refine at_val rfl rfl rfl (r_assign rfl) ?_
  refine at_nil ?_
  refine at_weak [(3, _), (4, _), (5, _)] ⟨rfl, rfl, rfl, trivial⟩ ?_
  refine at_then_normal ?_
  refine at_seq ?_
  refine at_region ?_
  refine at_lit (cs := cStr.all ([⟨#[]⟩, ⟨#[114, 101, 112, 108, 121]⟩, ⟨#[115, 101, 110, 100]⟩, ⟨#[100, 101, 108, 105, 118, 101, 114]⟩, ⟨#[114, 101, 102, 117, 115, 101]⟩, ⟨#[100, 114, 111, 112]⟩, ⟨#[112, 97, 115, 115]⟩] : List ByteArray)) Tryd.underlying68 Tryd.sizeOf9 Tryd.zeroValue9 rfl rfl rfl (by kernel_rfl) rfl ?_
  intro b4
  refine at_val rfl rfl rfl (r_assign rfl) ?_
  refine at_nil ?_
  refine at_weak [(3, _), (4, _), (5, _), (7, _)] ⟨rfl, rfl, rfl, rfl, trivial⟩ ?_
  refine at_then_normal ?_
  refine at_seq ?_
  refine at_region ?_
  refine at_val rfl rfl rfl (r_assign rfl) ?_
  refine at_nil ?_
  refine at_weak [(3, _), (4, _), (5, _), (7, _), (8, _)] ⟨rfl, rfl, rfl, rfl, rfl, trivial⟩ ?_
  refine at_then_normal ?_
  refine at_seq ?_
  refine at_seq ?_
  refine at_region ?_
  refine at_val rfl rfl rfl (r_assign rfl) ?_
  refine at_nil ?_
  refine at_weak [(3, _), (4, _), (5, _), (7, _), (8, _), (9, _)] ⟨rfl, rfl, rfl, rfl, rfl, rfl, trivial⟩ ?_
  refine at_then_normal ?_
  refine at_block ?_
  obtain ⟨q5, hq5, hF⟩ := of_bindM hF
  refine at_weak [(3, _), (4, _), (5, _), (7, _), (8, _), (9, _)] ⟨rfl, rfl, rfl, rfl, rfl, rfl, trivial⟩ ?_
  refine at_loop_n (B := 0) (A := fun Y => At 60 [(5, .pointer (some ⟨b3, 0, none⟩)), (8, .string q5)] (Wd w [cellsE b3 (Cd.cs (cVec (cInt .i64) 21 (by decide)) x2) 35]) Y) ?_ ?_
  · intro K
    refine crawlwayref52_Text.l0.partial_correctness x0 x1 (motive := fun i6 i7 x => KN (fun Y => At 60 [(5, .pointer (some ⟨b3, 0, none⟩)), (8, .string x)] (Wd w [cellsE b3 (Cd.cs (cVec (cInt .i64) 21 (by decide)) x2) 35]) Y) _ 0 → Round (fun Y => At 60 [(3, .pointer (some ⟨b1, 0, none⟩)), (4, .pointer (some ⟨b2, 0, none⟩)), (5, .pointer (some ⟨b3, 0, none⟩)), (7, .slice (some ⟨b4, 0, none⟩) ([⟨#[]⟩, ⟨#[114, 101, 112, 108, 121]⟩, ⟨#[115, 101, 110, 100]⟩, ⟨#[100, 101, 108, 105, 118, 101, 114]⟩, ⟨#[114, 101, 102, 117, 115, 101]⟩, ⟨#[100, 114, 111, 112]⟩, ⟨#[112, 97, 115, 115]⟩] : List ByteArray).length 7), (8, .string i6), (9, .int .i64 i7)] (Wd w [cellsE b4 (cStr.all ([⟨#[]⟩, ⟨#[114, 101, 112, 108, 121]⟩, ⟨#[115, 101, 110, 100]⟩, ⟨#[100, 101, 108, 105, 118, 101, 114]⟩, ⟨#[114, 101, 102, 117, 115, 101]⟩, ⟨#[100, 114, 111, 112]⟩, ⟨#[112, 97, 115, 115]⟩] : List ByteArray)) 9, cellsE b3 (Cd.cs (cVec (cInt .i64) 21 (by decide)) x2) 35, cellsE b2 (Cd.cs (cVec (cInt .i64) 7 (by decide)) x1) 34, cellsE b1 (Cd.cs (cVec (cInt .i64) 7 (by decide)) x0) 34]) Y) _ _ _) ?_ _ _ _ hq5 K
    · clear K hF
      intro g ih i6 i7 x hF K
      refine at_round ?_
      refine at_seq ?_
      refine at_seq ?_
      refine at_region ?_
      refine at_val rfl rfl rfl (r_move rfl) ?_
      refine at_val rfl rfl rfl (r_ileq rfl rfl) ?_
      refine at_nil ?_
      refine at_weak [(3, _), (4, _), (5, _), (7, _), (8, _), (9, _), (13, _)] ⟨rfl, rfl, rfl, rfl, rfl, rfl, rfl, trivial⟩ ?_
      refine at_then_normal ?_
      rcases of_ite hF with ⟨h8, hF⟩ | ⟨h8, hF⟩
      · refine at_cond_true rfl h8 ?_
        refine at_skip ?_
        refine at_then_normal ?_
        refine at_seq ?_
        refine at_block ?_
        refine at_seq ?_
        refine at_region ?_
        refine at_val rfl rfl rfl (r_move rfl) ?_
        obtain ⟨h9, hF⟩ := of_guard hF
        refine at_val rfl rfl rfl (r_idxArr Tryd.underlying34 Tryd.sizeOf3 rfl rfl h9) ?_
        refine at_val rfl rfl rfl (r_load_cell Tryd.isAgg3 rfl (lens_cell0 (c := (cInt .i64)) (y := vget x0 i7) (.s (.s (.s .z))) (Lens.comp (Lens.whole _ _) (fun z => vset x0 i7 z) (Lens.vec (cInt .i64) (by decide) x0 i7 h9)) rfl)) ?_
        refine at_val rfl rfl rfl (r_ineq rfl rfl) ?_
        refine at_nil ?_
        refine at_weak [(3, _), (4, _), (5, _), (7, _), (8, _), (9, _), (19, _)] ⟨rfl, rfl, rfl, rfl, rfl, rfl, rfl, trivial⟩ ?_
        refine at_then_normal ?_
        rcases of_ite hF with ⟨h10, hF⟩ | ⟨h10, hF⟩
        · refine at_cond_true rfl h10 ?_
          refine at_draw (by kernel_rfl) (by kernel_rfl) (fun _ h => h.drew) ?_
          refine atq_val rfl rfl rfl (r_move rfl) ?_
          refine atq_val rfl rfl rfl (r_move rfl) ?_
          refine atq_val rfl rfl rfl (r_move rfl) ?_
          obtain ⟨h11, hF⟩ := of_guard hF
          refine atq_val rfl rfl rfl (r_idx Tryd.underlying68 Tryd.sizeOf9 rfl rfl h11 rfl) ?_
          refine atq_val rfl rfl rfl (r_load_cell Tryd.isAgg9 rfl (fun _ hw => row_cell0 (W := fun w1 => w1 = _) (fun w1 h => by subst h; exact Below.refl _ _) (cells_row (hw.ok (Upd.mem .z))) h11 rfl rfl _ rfl)) ?_
          obtain ⟨h12, hF⟩ := of_guard hF
          refine atq_val rfl rfl rfl (r_concat rfl rfl h12) ?_
          obtain ⟨h13, hF⟩ := of_guard hF
          refine atq_val rfl rfl rfl (r_concat rfl rfl h13) ?_
          refine atq_val rfl rfl rfl (r_move rfl) ?_
          obtain ⟨h14, hF⟩ := of_guard hF
          refine atq_val rfl rfl rfl (r_idxArr Tryd.underlying34 Tryd.sizeOf3 rfl rfl h14) ?_
          refine atq_val rfl rfl rfl (r_load_cell Tryd.isAgg3 rfl (lens_cell0 (c := (cInt .i64)) (y := vget x0 i7) (.s (.s (.s .z))) (Lens.comp (Lens.whole _ _) (fun z => vset x0 i7 z) (Lens.vec (cInt .i64) (by decide) x0 i7 h14)) rfl)) ?_
          obtain ⟨t15, ht15, hF⟩ := of_bindM hF
          refine atq_call Tryd.func33 rfl (by kernel_rfl) rfl rfl (fun w hw => (crawlwayref52_number_ok _ _ ht15 w).mono fun _ _ h => ⟨h.1, hw.call h.2⟩) ?_
          obtain ⟨h16, hF⟩ := of_guard hF
          refine atq_val rfl rfl rfl (r_concat rfl rfl h16) ?_
          obtain ⟨h17, hF⟩ := of_guard hF
          refine atq_val rfl rfl rfl (r_concat rfl rfl h17) ?_
          refine atq_val rfl rfl rfl (r_move rfl) ?_
          obtain ⟨h18, hF⟩ := of_guard hF
          refine atq_val rfl rfl rfl (r_idxArr Tryd.underlying34 Tryd.sizeOf3 rfl rfl h18) ?_
          refine atq_val rfl rfl rfl (r_load_cell Tryd.isAgg3 rfl (lens_cell0 (c := (cInt .i64)) (y := vget x1 i7) (.s (.s .z)) (Lens.comp (Lens.whole _ _) (fun z => vset x1 i7 z) (Lens.vec (cInt .i64) (by decide) x1 i7 h18)) rfl)) ?_
          obtain ⟨t19, ht19, hF⟩ := of_bindM hF
          refine atq_call Tryd.func33 rfl (by kernel_rfl) rfl rfl (fun w hw => (crawlwayref52_number_ok _ _ ht19 w).mono fun _ _ h => ⟨h.1, hw.call h.2⟩) ?_
          obtain ⟨h20, hF⟩ := of_guard hF
          refine atq_val rfl rfl rfl (r_concat rfl rfl h20) ?_
          obtain ⟨h21, hF⟩ := of_guard hF
          refine atq_val rfl rfl rfl (r_concat rfl rfl h21) ?_
          refine atq_val rfl rfl rfl (r_assign rfl) ?_
          refine atq_nil ?_
          refine at_weak [(3, _), (4, _), (5, _), (7, _), (8, _), (9, _)] ⟨rfl, rfl, rfl, rfl, rfl, rfl, trivial⟩ ?_
          refine at_blk_normal (at_then_normal ?_)
          refine at_region ?_
          refine at_val rfl rfl rfl (r_move rfl) ?_
          refine at_val rfl rfl rfl (r_iadd rfl rfl) ?_
          refine at_val rfl rfl rfl (r_assign rfl) ?_
          refine at_nil ?_
          refine at_weak [(3, _), (4, _), (5, _), (7, _), (8, _), (9, _)] ⟨rfl, rfl, rfl, rfl, rfl, rfl, trivial⟩ ?_
          refine at_then_normal ?_
          exact at_weak_k (ih _ _ _ hF K) ⟨rfl, rfl, rfl, rfl, rfl, rfl, trivial⟩
        · refine at_cond_false rfl h10 ?_
          refine at_skip ?_
          refine at_blk_normal (at_then_normal ?_)
          refine at_region ?_
          refine at_val rfl rfl rfl (r_move rfl) ?_
          refine at_val rfl rfl rfl (r_iadd rfl rfl) ?_
          refine at_val rfl rfl rfl (r_assign rfl) ?_
          refine at_nil ?_
          refine at_weak [(3, _), (4, _), (5, _), (7, _), (8, _), (9, _)] ⟨rfl, rfl, rfl, rfl, rfl, rfl, trivial⟩ ?_
          refine at_then_normal ?_
          exact at_weak_k (ih _ _ _ hF K) ⟨rfl, rfl, rfl, rfl, rfl, rfl, trivial⟩
      · refine at_cond_false rfl h8 ?_
        refine at_exit ?_
        refine at_then_exit (at_then_exit ?_)
        refine at_drop (H := _) .z ?_
        refine at_drop (H := _) (.s .z) ?_
        refine at_drop (H := _) (.s .z) ?_
        obtain rfl := of_some hF
        exact at_weak_k K ⟨rfl, rfl, trivial⟩
  · skip
    skip
    refine at_blk_same ?_
    refine at_then_normal ?_
    refine at_seq ?_
    refine at_seq ?_
    refine at_region ?_
    refine at_val rfl rfl rfl (r_assign rfl) ?_
    refine at_nil ?_
    refine at_weak [(5, _), (8, _), (10, _)] ⟨rfl, rfl, rfl, trivial⟩ ?_
    refine at_then_normal ?_
    refine at_block ?_
    obtain ⟨q22, hq22, hF⟩ := of_bindM hF
    refine at_weak [(5, _), (8, _), (10, _)] ⟨rfl, rfl, rfl, trivial⟩ ?_
    refine at_loop_n (B := 2) (A := fun Y => At 60 [(8, .string q22)] (Wd w []) Y) ?_ ?_
    · intro K
      refine crawlwayref52_Text.l1.partial_correctness x2 (motive := fun i23 i24 x => KN (fun Y => At 60 [(8, .string x)] (Wd w []) Y) _ 2 → Round (fun Y => At 60 [(5, .pointer (some ⟨b3, 0, none⟩)), (8, .string i23), (10, .int .i64 i24)] (Wd w [cellsE b3 (Cd.cs (cVec (cInt .i64) 21 (by decide)) x2) 35]) Y) _ _ _) ?_ _ _ _ hq22 K
      · clear K hF
        intro g ih i23 i24 x hF K
        refine at_round ?_
        refine at_seq ?_
        refine at_seq ?_
        refine at_region ?_
        refine at_val rfl rfl rfl (r_move rfl) ?_
        refine at_val rfl rfl rfl (r_ileq rfl rfl) ?_
        refine at_nil ?_
        refine at_weak [(5, _), (8, _), (10, _), (40, _)] ⟨rfl, rfl, rfl, rfl, trivial⟩ ?_
        refine at_then_normal ?_
        rcases of_ite hF with ⟨h25, hF⟩ | ⟨h25, hF⟩
        · refine at_cond_true rfl h25 ?_
          refine at_skip ?_
          refine at_then_normal ?_
          refine at_seq ?_
          refine at_block ?_
          refine at_seq ?_
          refine at_region ?_
          refine at_val rfl rfl rfl (r_move rfl) ?_
          obtain ⟨h26, hF⟩ := of_guard hF
          refine at_val rfl rfl rfl (r_idxArr Tryd.underlying35 Tryd.sizeOf3 rfl rfl h26) ?_
          refine at_val rfl rfl rfl (r_load_cell Tryd.isAgg3 rfl (lens_cell0 (c := (cInt .i64)) (y := vget x2 i24) .z (Lens.comp (Lens.whole _ _) (fun z => vset x2 i24 z) (Lens.vec (cInt .i64) (by decide) x2 i24 h26)) rfl)) ?_
          refine at_val rfl rfl rfl (r_ineq rfl rfl) ?_
          refine at_nil ?_
          refine at_weak [(5, _), (8, _), (10, _), (46, _)] ⟨rfl, rfl, rfl, rfl, trivial⟩ ?_
          refine at_then_normal ?_
          rcases of_ite hF with ⟨h27, hF⟩ | ⟨h27, hF⟩
          · refine at_cond_true rfl h27 ?_
            refine at_draw (by kernel_rfl) (by kernel_rfl) (fun _ h => h.drew) ?_
            refine atq_val rfl rfl rfl (r_move rfl) ?_
            obtain ⟨h28, hF⟩ := of_guard hF
            refine atq_val rfl rfl rfl (r_concat rfl rfl h28) ?_
            refine atq_val rfl rfl rfl (r_move rfl) ?_
            obtain ⟨t29, ht29, hF⟩ := of_bindM hF
            refine atq_call Tryd.func33 rfl (by kernel_rfl) rfl rfl (fun w hw => (crawlwayref52_number_ok _ _ ht29 w).mono fun _ _ h => ⟨h.1, hw.call h.2⟩) ?_
            obtain ⟨h30, hF⟩ := of_guard hF
            refine atq_val rfl rfl rfl (r_concat rfl rfl h30) ?_
            obtain ⟨h31, hF⟩ := of_guard hF
            refine atq_val rfl rfl rfl (r_concat rfl rfl h31) ?_
            refine atq_val rfl rfl rfl (r_move rfl) ?_
            obtain ⟨h32, hF⟩ := of_guard hF
            refine atq_val rfl rfl rfl (r_idxArr Tryd.underlying35 Tryd.sizeOf3 rfl rfl h32) ?_
            refine atq_val rfl rfl rfl (r_load_cell Tryd.isAgg3 rfl (lens_cell0 (c := (cInt .i64)) (y := vget x2 i24) .z (Lens.comp (Lens.whole _ _) (fun z => vset x2 i24 z) (Lens.vec (cInt .i64) (by decide) x2 i24 h32)) rfl)) ?_
            obtain ⟨t33, ht33, hF⟩ := of_bindM hF
            refine atq_call Tryd.func33 rfl (by kernel_rfl) rfl rfl (fun w hw => (crawlwayref52_number_ok _ _ ht33 w).mono fun _ _ h => ⟨h.1, hw.call h.2⟩) ?_
            obtain ⟨h34, hF⟩ := of_guard hF
            refine atq_val rfl rfl rfl (r_concat rfl rfl h34) ?_
            obtain ⟨h35, hF⟩ := of_guard hF
            refine atq_val rfl rfl rfl (r_concat rfl rfl h35) ?_
            refine atq_val rfl rfl rfl (r_assign rfl) ?_
            refine atq_nil ?_
            refine at_weak [(5, _), (8, _), (10, _)] ⟨rfl, rfl, rfl, trivial⟩ ?_
            refine at_blk_normal (at_then_normal ?_)
            refine at_region ?_
            refine at_val rfl rfl rfl (r_move rfl) ?_
            refine at_val rfl rfl rfl (r_iadd rfl rfl) ?_
            refine at_val rfl rfl rfl (r_assign rfl) ?_
            refine at_nil ?_
            refine at_weak [(5, _), (8, _), (10, _)] ⟨rfl, rfl, rfl, trivial⟩ ?_
            refine at_then_normal ?_
            exact at_weak_k (ih _ _ _ hF K) ⟨rfl, rfl, rfl, trivial⟩
          · refine at_cond_false rfl h27 ?_
            refine at_skip ?_
            refine at_blk_normal (at_then_normal ?_)
            refine at_region ?_
            refine at_val rfl rfl rfl (r_move rfl) ?_
            refine at_val rfl rfl rfl (r_iadd rfl rfl) ?_
            refine at_val rfl rfl rfl (r_assign rfl) ?_
            refine at_nil ?_
            refine at_weak [(5, _), (8, _), (10, _)] ⟨rfl, rfl, rfl, trivial⟩ ?_
            refine at_then_normal ?_
            exact at_weak_k (ih _ _ _ hF K) ⟨rfl, rfl, rfl, trivial⟩
        · refine at_cond_false rfl h25 ?_
          refine at_exit ?_
          refine at_then_exit (at_then_exit ?_)
          refine at_drop (H := _) .z ?_
          obtain rfl := of_some hF
          exact at_weak_k K ⟨rfl, trivial⟩
    · skip
      skip
      refine at_blk_same ?_
      refine at_then_normal ?_
      refine at_seq ?_
      refine at_region ?_
      refine at_val rfl rfl rfl (r_move rfl) ?_
      refine at_val rfl rfl rfl (r_assign rfl) ?_
      refine at_nil ?_
      refine at_weak [(6, _)] ⟨rfl, trivial⟩ ?_
      refine at_then_normal ?_
      refine at_ret ?_
      have K := of_some hF
      subst K
      exact at_return1 rfl rfl (fun w1 hw => ⟨rfl, hw.below⟩)

def census_within (x0 : Int) (x1 : Int) : Option (Int) :=
  if (decide (x0 < 0)) = true then (some 0) else (if (decide (x0 ≥ x1)) = true then (some 0) else (some x0))
theorem census_within_ok (x0 : Int) (x1 : Int) (r : Int) (hF : census_within x0 x1 = some r) (w : World) :
    Calls Tryd.prog 42 #[.int .i64 x0, .int .i64 x1] w (fun e w' => e = .returned (.int .i64 r) ∧ w' = w) := by
  unfold census_within at hF
  refine calls_enter (l := [.int .i64 x0, .int .i64 x1]) Tryd.func42 rfl rfl rfl ?_
  refine at_weak [(0, _), (1, _)] ⟨rfl, rfl, trivial⟩ ?_
  refine at_seq ?_
  refine at_region ?_
  refine at_val rfl rfl rfl (r_assign rfl) ?_
  refine at_nil ?_
  refine at_weak [(0, _), (1, _)] ⟨rfl, rfl, trivial⟩ ?_
  refine at_then_normal ?_
  refine at_seq ?_
  refine at_seq ?_
  refine at_region ?_
  refine at_val rfl rfl rfl (r_move rfl) ?_
  refine at_val rfl rfl rfl (r_ilss rfl rfl) ?_
  refine at_val rfl rfl rfl (r_move rfl) ?_
  rcases of_ite hF with ⟨h1, hF⟩ | ⟨h1, hF⟩
  · refine at_fix (g := 7) rfl h1 ?_
    refine at_guard_no rfl rfl rfl rfl rfl ?_
    refine at_guard_no rfl rfl rfl rfl rfl ?_
    refine at_guard_no rfl rfl rfl rfl rfl ?_
    refine at_val rfl rfl rfl (r_pick rfl rfl rfl) ?_
    refine at_nil ?_
    refine at_weak [(0, _), (11, _)] ⟨rfl, rfl, trivial⟩ ?_
    refine at_then_normal ?_
    refine at_cond_true rfl rfl ?_
    refine at_seq ?_
    refine at_region ?_
    refine at_val rfl rfl rfl (r_assign rfl) ?_
    refine at_nil ?_
    refine at_weak [(4, _)] ⟨rfl, trivial⟩ ?_
    refine at_then_normal ?_
    refine at_ret ?_
    refine at_then_ret ?_
    have K := of_some hF
    subst K
    exact at_return1 rfl rfl (fun w1 hw => ⟨rfl, hw⟩)
  · refine at_fix (g := 7) rfl h1 ?_
    refine at_guard_yes rfl rfl rfl ?_
    refine at_val rfl rfl rfl (r_move rfl) ?_
    refine at_guard_yes rfl rfl rfl ?_
    refine at_val rfl rfl rfl (r_move rfl) ?_
    refine at_guard_yes rfl rfl rfl ?_
    refine at_val rfl rfl rfl (r_igeq rfl rfl) ?_
    refine at_val rfl rfl rfl (r_pick rfl rfl rfl) ?_
    refine at_nil ?_
    refine at_weak [(0, _), (11, _)] ⟨rfl, rfl, trivial⟩ ?_
    refine at_then_normal ?_
    rcases of_ite hF with ⟨h2, hF⟩ | ⟨h2, hF⟩
    · refine at_cond_true rfl h2 ?_
      refine at_seq ?_
      refine at_region ?_
      refine at_val rfl rfl rfl (r_assign rfl) ?_
      refine at_nil ?_
      refine at_weak [(4, _)] ⟨rfl, trivial⟩ ?_
      refine at_then_normal ?_
      refine at_ret ?_
      refine at_then_ret ?_
      have K := of_some hF
      subst K
      exact at_return1 rfl rfl (fun w1 hw => ⟨rfl, hw⟩)
    · refine at_cond_false rfl h2 ?_
      refine at_skip ?_
      refine at_then_normal ?_
      refine at_seq ?_
      refine at_region ?_
      refine at_val rfl rfl rfl (r_move rfl) ?_
      refine at_val rfl rfl rfl (r_assign rfl) ?_
      refine at_nil ?_
      refine at_weak [(4, _)] ⟨rfl, trivial⟩ ?_
      refine at_then_normal ?_
      refine at_ret ?_
      have K := of_some hF
      subst K
      exact at_return1 rfl rfl (fun w1 hw => ⟨rfl, hw⟩)

def census_Count_one (x0 : S_census_Count) (x1 : S_api_Event) : Option (S_census_Count) :=
  census_within x1.f_Kind 7 >>= fun t2 => if (0 : Int) ≤ t2 ∧ t2 < 7 then if (0 : Int) ≤ t2 ∧ t2 < 7 then if (0 : Int) ≤ t2 ∧ t2 < 7 then if (0 : Int) ≤ t2 ∧ t2 < 7 then if (x1.f_Kind == 5) = true then (census_within x1.f_Why 21 >>= fun t10 => if (0 : Int) ≤ t10 ∧ t10 < 21 then if (0 : Int) ≤ t10 ∧ t10 < 21 then some ({ { { x0 with f_Kinds := vset x0.f_Kinds t2 (wr .i64 ((vget x0.f_Kinds t2) + 1)) } with f_Bytes := vset (({ x0 with f_Kinds := vset x0.f_Kinds t2 (wr .i64 ((vget x0.f_Kinds t2) + 1)) }).f_Bytes) t2 (wr .i64 ((vget (({ x0 with f_Kinds := vset x0.f_Kinds t2 (wr .i64 ((vget x0.f_Kinds t2) + 1)) }).f_Bytes) t2) + (x1.f_Bytes.n : Int))) } with f_Whys := vset (({ { x0 with f_Kinds := vset x0.f_Kinds t2 (wr .i64 ((vget x0.f_Kinds t2) + 1)) } with f_Bytes := vset (({ x0 with f_Kinds := vset x0.f_Kinds t2 (wr .i64 ((vget x0.f_Kinds t2) + 1)) }).f_Bytes) t2 (wr .i64 ((vget (({ x0 with f_Kinds := vset x0.f_Kinds t2 (wr .i64 ((vget x0.f_Kinds t2) + 1)) }).f_Bytes) t2) + (x1.f_Bytes.n : Int))) }).f_Whys) t10 (wr .i64 ((vget (({ { x0 with f_Kinds := vset x0.f_Kinds t2 (wr .i64 ((vget x0.f_Kinds t2) + 1)) } with f_Bytes := vset (({ x0 with f_Kinds := vset x0.f_Kinds t2 (wr .i64 ((vget x0.f_Kinds t2) + 1)) }).f_Bytes) t2 (wr .i64 ((vget (({ x0 with f_Kinds := vset x0.f_Kinds t2 (wr .i64 ((vget x0.f_Kinds t2) + 1)) }).f_Bytes) t2) + (x1.f_Bytes.n : Int))) }).f_Whys) t10) + 1)) }) else none else none) else (some ({ { x0 with f_Kinds := vset x0.f_Kinds t2 (wr .i64 ((vget x0.f_Kinds t2) + 1)) } with f_Bytes := vset (({ x0 with f_Kinds := vset x0.f_Kinds t2 (wr .i64 ((vget x0.f_Kinds t2) + 1)) }).f_Bytes) t2 (wr .i64 ((vget (({ x0 with f_Kinds := vset x0.f_Kinds t2 (wr .i64 ((vget x0.f_Kinds t2) + 1)) }).f_Bytes) t2) + (x1.f_Bytes.n : Int))) })) else none else none else none else none
set_option maxHeartbeats 3200000 in
theorem census_Count_one_ok (x0 : S_census_Count) (b0_ : Nat) (x1 : S_api_Event) (r : S_census_Count) (hF : census_Count_one x0 x1 = some r) (w : World) {w0 : World} {H_ G_ : List Ent} {f_ : Ent → List Ent} (hu_ : Upd H_ (cellsE b0_ (Cd.cs c_census_Count x0) 37) f_ G_) (hw_ : Wd w0 H_ w) :
    Calls Tryd.prog 34 #[.pointer (some ⟨b0_, 0, none⟩), .agg (Cd.cs c_api_Event x1).toArray] w (fun e w' => e = .returned (.tuple #[]) ∧ Wd w0 (f_ (cellsE b0_ (Cd.cs c_census_Count r) 37)) w') := by
  unfold census_Count_one at hF
  refine calls_enter (l := [.pointer (some ⟨b0_, 0, none⟩), .agg (Cd.cs c_api_Event x1).toArray]) Tryd.func34 rfl rfl rfl ?_
  refine at_enter_ptr hu_ hw_ ?_
  refine at_weak [(0, _), (1, _)] ⟨rfl, rfl, trivial⟩ ?_
  refine at_seq ?_
  refine at_region ?_
  refine at_box (cs := Cd.cs c_api_Event x1) rfl rfl rfl ?_
  intro b1
  refine at_nil ?_
  refine at_weak [(0, _), (3, _)] ⟨rfl, rfl, trivial⟩ ?_
  refine at_then_normal ?_
  refine at_seq ?_
  refine at_region ?_
  refine at_val rfl rfl rfl (r_fieldAddr (fo := 0) Tryd.underlying58 rfl rfl (fun w => ⟨_, Tryd.sizeOf3 w⟩) rfl) ?_
  refine at_val rfl rfl rfl (r_load_cell Tryd.isAgg3 rfl (lens_cell0 (c := (cInt .i64)) (y := x1.f_Kind) .z (Lens.comp (Lens.whole _ _) (fun z => { x1 with f_Kind := z }) (c_api_Event_f_Kind x1)) rfl)) ?_
  obtain ⟨t2, ht2, hF⟩ := of_bindM hF
  refine at_call0 Tryd.func42 rfl (by kernel_rfl) rfl rfl (fun w => census_within_ok _ _ _ ht2 w) ?_
  refine at_val rfl rfl rfl (r_assign rfl) ?_
  refine at_nil ?_
  refine at_weak [(0, _), (3, _), (4, _)] ⟨rfl, rfl, rfl, trivial⟩ ?_
  refine at_then_normal ?_
  refine at_seq ?_
  refine at_weak [(0, _), (3, _), (4, _)] ⟨rfl, rfl, rfl, trivial⟩ ?_
  obtain ⟨h3, hF⟩ := of_guard hF
  obtain ⟨h4, hF⟩ := of_guard hF
  refine at_inv [.q 8 (fun g5 => .pointer (some ⟨b0_, 0, none⟩)) [] 0 0, .q 9 (fun g5 => .int .i64 t2) [] 0 0, .q 10 (fun g5 => .pointer (some ⟨b0_, 0, none⟩)) [0] 0 0, .q 11 (fun g5 => .pointer (some ⟨b0_, 0 + 0, none⟩)) [2] 0 0, .q 12 (fun g5 => .pointer (some ⟨b0_, 0 + 0 + Int.toNat t2 * 1, none⟩)) [1, 3] 0 0, .q 13 (fun g5 => .int .i64 (vget x0.f_Kinds t2)) [4] 0 0, .q 14 (fun g5 => .int .i64 (wr .i64 ((vget x0.f_Kinds t2) + 1))) [5] 0 0, .q 15 (fun g5 => .pointer (some ⟨b0_, 0, none⟩)) [0] 0 1, .q 16 (fun g5 => .pointer (some ⟨b0_, 0 + 0, none⟩)) [7] 0 1, .q 17 (fun g5 => .pointer (some ⟨b0_, 0 + 0 + Int.toNat t2 * 1, none⟩)) [1, 8] 0 0, .st 0 none [6, 9]] (fun g5 s => match s with | 0 => (Wd w0 (cellsE b1 (Cd.cs c_api_Event x1) 58 :: f_ (cellsE b0_ (Cd.cs c_census_Count x0) 37))) | _ => (Wd w0 (cellsE b1 (Cd.cs c_api_Event x1) 58 :: f_ (cellsE b0_ (Cd.cs c_census_Count ({ x0 with f_Kinds := vset x0.f_Kinds t2 (wr .i64 ((vget x0.f_Kinds t2) + 1)) })) 37)))) 1 (by kernel_rfl) (by kernel_rfl) (by kernel_rfl) (by kernel_rfl) (by kernel_rfl) ⟨fun _ _ _ => rfl, fun _ _ _ => rfl, fun _ _ _ => rfl, fun _ _ _ => rfl, fun _ _ _ => rfl, fun _ _ _ => rfl, fun _ _ _ => rfl, fun _ _ _ => rfl, fun _ _ _ => rfl, fun _ _ _ => rfl, fun _ _ _ => rfl, trivial⟩ (by kernel_rfl) (fun _ h => ⟨fun _ => (0, none, 0, none), h.drew⟩) ⟨?_, ?_, ?_, ?_, ?_, ?_, ?_, ?_, ?_, ?_, ?_, trivial⟩ ?_
  · intro Lx g5 s K hl hh k
    show At 46 ((0, _) :: (3, _) :: (4, _) :: Lx) _ _
    refine at_val rfl rfl rfl (r_move rfl) ?_
    exact at_nil k
  · intro Lx g5 s K hl hh k
    show At 46 ((0, _) :: (3, _) :: (4, _) :: Lx) _ _
    refine at_val rfl rfl rfl (r_move rfl) ?_
    exact at_nil k
  · intro Lx g5 s K hl hh k
    show At 46 ((8, _) :: (0, _) :: (3, _) :: (4, _) :: Lx) _ _
    refine at_val rfl rfl rfl (r_nilCheck rfl) ?_
    exact at_nil k
  · intro Lx g5 s K hl hh k
    show At 46 ((10, _) :: (0, _) :: (3, _) :: (4, _) :: Lx) _ _
    refine at_val rfl rfl rfl (r_fieldAddr (fo := 0) Tryd.underlying37 rfl rfl (fun w => ⟨_, Tryd.sizeOf34 w⟩) rfl) ?_
    exact at_nil k
  · intro Lx g5 s K hl hh k
    show At 46 ((9, _) :: (11, _) :: (0, _) :: (3, _) :: (4, _) :: Lx) _ _
    refine at_val rfl rfl rfl (r_idxArr Tryd.underlying34 Tryd.sizeOf3 rfl rfl h3) ?_
    exact at_nil k
  · intro Lx g5 s K hl hh k
    show At 46 ((12, _) :: (0, _) :: (3, _) :: (4, _) :: Lx) _ _
    obtain rfl : s = 0 := by omega
    refine at_val rfl rfl rfl (r_load_cell Tryd.isAgg3 rfl (lens_cell0 (c := (cInt .i64)) (y := vget x0.f_Kinds t2) (.s (Upd.again hu_ _)) (Lens.comp (Lens.comp (Lens.whole _ _) (fun z => { x0 with f_Kinds := z }) (c_census_Count_f_Kinds x0)) (fun z => vset x0.f_Kinds t2 z) (Lens.vec (cInt .i64) (by decide) x0.f_Kinds t2 h3)) rfl)) ?_
    exact at_nil k
  · intro Lx g5 s K hl hh k
    show At 46 ((13, _) :: (0, _) :: (3, _) :: (4, _) :: Lx) _ _
    refine at_val rfl rfl rfl (r_iadd rfl rfl) ?_
    exact at_nil k
  · intro Lx g5 s K hl hh k
    show At 46 ((8, _) :: (0, _) :: (3, _) :: (4, _) :: Lx) _ _
    refine at_val rfl rfl rfl (r_nilCheck rfl) ?_
    exact at_nil k
  · intro Lx g5 s K hl hh k
    show At 46 ((15, _) :: (0, _) :: (3, _) :: (4, _) :: Lx) _ _
    refine at_val rfl rfl rfl (r_fieldAddr (fo := 0) Tryd.underlying37 rfl rfl (fun w => ⟨_, Tryd.sizeOf34 w⟩) rfl) ?_
    exact at_nil k
  · intro Lx g5 s K hl hh k
    show At 46 ((9, _) :: (16, _) :: (0, _) :: (3, _) :: (4, _) :: Lx) _ _
    refine at_val rfl rfl rfl (r_idxArr Tryd.underlying34 Tryd.sizeOf3 rfl rfl h4) ?_
    exact at_nil k
  · intro Lx g5 K k
    show At 46 ((14, _) :: (17, _) :: (0, _) :: (3, _) :: (4, _) :: Lx) _ _
    refine at_store (c := (cInt .i64)) (z := wr .i64 ((vget x0.f_Kinds t2) + 1)) (.s (Upd.again hu_ _)) (Lens.comp (Lens.comp (Lens.whole _ _) (fun z => { x0 with f_Kinds := z }) (c_census_Count_f_Kinds x0)) (fun z => vset x0.f_Kinds t2 z) (Lens.vec (cInt .i64) (by decide) x0.f_Kinds t2 h4)) Tryd.sizeOf3 rfl rfl rfl ?_
    exact at_nil k
  intro g5
  show At 46 [(8, _), (9, _), (10, _), (11, _), (12, _), (13, _), (14, _), (15, _), (16, _), (17, _), (0, _), (3, _), (4, _)] _ _
  refine at_weak [(0, _), (3, _), (4, _)] ⟨rfl, rfl, rfl, trivial⟩ ?_
  refine at_then_normal ?_
  refine at_seq ?_
  refine at_weak [(0, _), (3, _), (4, _)] ⟨rfl, rfl, rfl, trivial⟩ ?_
  obtain ⟨h6, hF⟩ := of_guard hF
  obtain ⟨h7, hF⟩ := of_guard hF
  refine at_inv [.q 18 (fun g8 => .pointer (some ⟨b0_, 0, none⟩)) [] 0 0, .q 19 (fun g8 => .int .i64 t2) [] 0 0, .q 20 (fun g8 => .pointer (some ⟨b0_, 0, none⟩)) [0] 0 0, .q 21 (fun g8 => .pointer (some ⟨b0_, 0 + 7, none⟩)) [2] 0 0, .q 22 (fun g8 => .pointer (some ⟨b0_, 0 + 7 + Int.toNat t2 * 1, none⟩)) [1, 3] 0 0, .q 23 (fun g8 => .int .i64 (vget (({ x0 with f_Kinds := vset x0.f_Kinds t2 (wr .i64 ((vget x0.f_Kinds t2) + 1)) }).f_Bytes) t2)) [4] 0 0, .q 24 (fun g8 => .pointer (some ⟨b1, 0 + 1, none⟩)) [] 0 0, .q 25 (fun g8 => .slice x1.f_Bytes.p x1.f_Bytes.n x1.f_Bytes.cap) [6] 0 0, .q 26 (fun g8 => .int .i64 (x1.f_Bytes.n : Int)) [7] 0 0, .q 27 (fun g8 => .int .i64 (wr .i64 ((vget (({ x0 with f_Kinds := vset x0.f_Kinds t2 (wr .i64 ((vget x0.f_Kinds t2) + 1)) }).f_Bytes) t2) + (x1.f_Bytes.n : Int)))) [5, 8] 0 0, .q 28 (fun g8 => .pointer (some ⟨b0_, 0, none⟩)) [0] 0 1, .q 29 (fun g8 => .pointer (some ⟨b0_, 0 + 7, none⟩)) [10] 0 1, .q 30 (fun g8 => .pointer (some ⟨b0_, 0 + 7 + Int.toNat t2 * 1, none⟩)) [1, 11] 0 0, .st 0 none [9, 12]] (fun g8 s => match s with | 0 => (Wd w0 (cellsE b1 (Cd.cs c_api_Event x1) 58 :: f_ (cellsE b0_ (Cd.cs c_census_Count ({ x0 with f_Kinds := vset x0.f_Kinds t2 (wr .i64 ((vget x0.f_Kinds t2) + 1)) })) 37))) | _ => (Wd w0 (cellsE b1 (Cd.cs c_api_Event x1) 58 :: f_ (cellsE b0_ (Cd.cs c_census_Count ({ { x0 with f_Kinds := vset x0.f_Kinds t2 (wr .i64 ((vget x0.f_Kinds t2) + 1)) } with f_Bytes := vset (({ x0 with f_Kinds := vset x0.f_Kinds t2 (wr .i64 ((vget x0.f_Kinds t2) + 1)) }).f_Bytes) t2 (wr .i64 ((vget (({ x0 with f_Kinds := vset x0.f_Kinds t2 (wr .i64 ((vget x0.f_Kinds t2) + 1)) }).f_Bytes) t2) + (x1.f_Bytes.n : Int))) })) 37)))) 1 (by kernel_rfl) (by kernel_rfl) (by kernel_rfl) (by kernel_rfl) (by kernel_rfl) ⟨fun _ _ _ => rfl, fun _ _ _ => rfl, fun _ _ _ => rfl, fun _ _ _ => rfl, fun _ _ _ => rfl, fun _ _ _ => rfl, fun _ _ _ => rfl, fun _ _ _ => rfl, fun _ _ _ => rfl, fun _ _ _ => rfl, fun _ _ _ => rfl, fun _ _ _ => rfl, fun _ _ _ => rfl, fun _ _ _ => rfl, trivial⟩ (by kernel_rfl) (fun _ h => ⟨fun _ => (0, none, 0, none), h.drew⟩) ⟨?_, ?_, ?_, ?_, ?_, ?_, ?_, ?_, ?_, ?_, ?_, ?_, ?_, ?_, trivial⟩ ?_
  · intro Lx g8 s K hl hh k
    show At 46 ((0, _) :: (3, _) :: (4, _) :: Lx) _ _
    refine at_val rfl rfl rfl (r_move rfl) ?_
    exact at_nil k
  · intro Lx g8 s K hl hh k
    show At 46 ((0, _) :: (3, _) :: (4, _) :: Lx) _ _
    refine at_val rfl rfl rfl (r_move rfl) ?_
    exact at_nil k
  · intro Lx g8 s K hl hh k
    show At 46 ((18, _) :: (0, _) :: (3, _) :: (4, _) :: Lx) _ _
    refine at_val rfl rfl rfl (r_nilCheck rfl) ?_
    exact at_nil k
  · intro Lx g8 s K hl hh k
    show At 46 ((20, _) :: (0, _) :: (3, _) :: (4, _) :: Lx) _ _
    refine at_val rfl rfl rfl (r_fieldAddr (fo := 7) Tryd.underlying37 rfl rfl (fun w => ⟨_, Tryd.sizeOf34 w⟩) rfl) ?_
    exact at_nil k
  · intro Lx g8 s K hl hh k
    show At 46 ((19, _) :: (21, _) :: (0, _) :: (3, _) :: (4, _) :: Lx) _ _
    refine at_val rfl rfl rfl (r_idxArr Tryd.underlying34 Tryd.sizeOf3 rfl rfl h6) ?_
    exact at_nil k
  · intro Lx g8 s K hl hh k
    show At 46 ((22, _) :: (0, _) :: (3, _) :: (4, _) :: Lx) _ _
    obtain rfl : s = 0 := by omega
    refine at_val rfl rfl rfl (r_load_cell Tryd.isAgg3 rfl (lens_cell0 (c := (cInt .i64)) (y := vget (({ x0 with f_Kinds := vset x0.f_Kinds t2 (wr .i64 ((vget x0.f_Kinds t2) + 1)) }).f_Bytes) t2) (.s (Upd.again hu_ _)) (Lens.comp (Lens.comp (Lens.whole _ _) (fun z => { { x0 with f_Kinds := vset x0.f_Kinds t2 (wr .i64 ((vget x0.f_Kinds t2) + 1)) } with f_Bytes := z }) (c_census_Count_f_Bytes ({ x0 with f_Kinds := vset x0.f_Kinds t2 (wr .i64 ((vget x0.f_Kinds t2) + 1)) }))) (fun z => vset (({ x0 with f_Kinds := vset x0.f_Kinds t2 (wr .i64 ((vget x0.f_Kinds t2) + 1)) }).f_Bytes) t2 z) (Lens.vec (cInt .i64) (by decide) (({ x0 with f_Kinds := vset x0.f_Kinds t2 (wr .i64 ((vget x0.f_Kinds t2) + 1)) }).f_Bytes) t2 h6)) rfl)) ?_
    exact at_nil k
  · intro Lx g8 s K hl hh k
    show At 46 ((0, _) :: (3, _) :: (4, _) :: Lx) _ _
    refine at_val rfl rfl rfl (r_fieldAddr (fo := 1) Tryd.underlying58 rfl rfl (fun w => ⟨_, Tryd.sizeOf51 w⟩) rfl) ?_
    exact at_nil k
  · intro Lx g8 s K hl hh k
    show At 46 ((24, _) :: (0, _) :: (3, _) :: (4, _) :: Lx) _ _
    obtain rfl : s = 0 := by omega
    refine at_val rfl rfl rfl (r_load_cell Tryd.isAgg51 rfl (lens_cell0 (c := cHd) (y := x1.f_Bytes) .z (Lens.comp (Lens.whole _ _) (fun z => { x1 with f_Bytes := z }) (c_api_Event_f_Bytes x1)) rfl)) ?_
    exact at_nil k
  · intro Lx g8 s K hl hh k
    show At 46 ((25, _) :: (0, _) :: (3, _) :: (4, _) :: Lx) _ _
    obtain rfl : s = 0 := by omega
    refine at_val rfl rfl rfl (r_len_sl Tryd.underlying51 rfl) ?_
    exact at_nil k
  · intro Lx g8 s K hl hh k
    show At 46 ((23, _) :: (26, _) :: (0, _) :: (3, _) :: (4, _) :: Lx) _ _
    refine at_val rfl rfl rfl (r_iadd rfl rfl) ?_
    exact at_nil k
  · intro Lx g8 s K hl hh k
    show At 46 ((18, _) :: (0, _) :: (3, _) :: (4, _) :: Lx) _ _
    refine at_val rfl rfl rfl (r_nilCheck rfl) ?_
    exact at_nil k
  · intro Lx g8 s K hl hh k
    show At 46 ((28, _) :: (0, _) :: (3, _) :: (4, _) :: Lx) _ _
    refine at_val rfl rfl rfl (r_fieldAddr (fo := 7) Tryd.underlying37 rfl rfl (fun w => ⟨_, Tryd.sizeOf34 w⟩) rfl) ?_
    exact at_nil k
  · intro Lx g8 s K hl hh k
    show At 46 ((19, _) :: (29, _) :: (0, _) :: (3, _) :: (4, _) :: Lx) _ _
    refine at_val rfl rfl rfl (r_idxArr Tryd.underlying34 Tryd.sizeOf3 rfl rfl h7) ?_
    exact at_nil k
  · intro Lx g8 K k
    show At 46 ((27, _) :: (30, _) :: (0, _) :: (3, _) :: (4, _) :: Lx) _ _
    refine at_store (c := (cInt .i64)) (z := wr .i64 ((vget (({ x0 with f_Kinds := vset x0.f_Kinds t2 (wr .i64 ((vget x0.f_Kinds t2) + 1)) }).f_Bytes) t2) + (x1.f_Bytes.n : Int))) (.s (Upd.again hu_ _)) (Lens.comp (Lens.comp (Lens.whole _ _) (fun z => { { x0 with f_Kinds := vset x0.f_Kinds t2 (wr .i64 ((vget x0.f_Kinds t2) + 1)) } with f_Bytes := z }) (c_census_Count_f_Bytes ({ x0 with f_Kinds := vset x0.f_Kinds t2 (wr .i64 ((vget x0.f_Kinds t2) + 1)) }))) (fun z => vset (({ x0 with f_Kinds := vset x0.f_Kinds t2 (wr .i64 ((vget x0.f_Kinds t2) + 1)) }).f_Bytes) t2 z) (Lens.vec (cInt .i64) (by decide) (({ x0 with f_Kinds := vset x0.f_Kinds t2 (wr .i64 ((vget x0.f_Kinds t2) + 1)) }).f_Bytes) t2 h7)) Tryd.sizeOf3 rfl rfl rfl ?_
    exact at_nil k
  intro g8
  show At 46 [(18, _), (19, _), (20, _), (21, _), (22, _), (23, _), (24, _), (25, _), (26, _), (27, _), (28, _), (29, _), (30, _), (0, _), (3, _), (4, _)] _ _
  refine at_weak [(0, _), (3, _)] ⟨rfl, rfl, trivial⟩ ?_
  refine at_then_normal ?_
  refine at_seq ?_
  refine at_region ?_
  refine at_val rfl rfl rfl (r_fieldAddr (fo := 0) Tryd.underlying58 rfl rfl (fun w => ⟨_, Tryd.sizeOf3 w⟩) rfl) ?_
  refine at_val rfl rfl rfl (r_load_cell Tryd.isAgg3 rfl (lens_cell0 (c := (cInt .i64)) (y := x1.f_Kind) .z (Lens.comp (Lens.whole _ _) (fun z => { x1 with f_Kind := z }) (c_api_Event_f_Kind x1)) rfl)) ?_
  refine at_val rfl rfl rfl (r_ieql rfl rfl) ?_
  refine at_nil ?_
  refine at_weak [(0, _), (3, _), (33, _)] ⟨rfl, rfl, rfl, trivial⟩ ?_
  refine at_then_normal ?_
  rcases of_ite hF with ⟨h9, hF⟩ | ⟨h9, hF⟩
  · refine at_cond_true rfl h9 ?_
    refine at_weak [(0, _), (3, _)] ⟨rfl, rfl, trivial⟩ ?_
    obtain ⟨t10, ht10, hF⟩ := of_bindM hF
    obtain ⟨h11, hF⟩ := of_guard hF
    obtain ⟨h12, hF⟩ := of_guard hF
    refine at_inv [.q 34 (fun g13 => .pointer (some ⟨b0_, 0, none⟩)) [] 0 0, .q 35 (fun g13 => .pointer (some ⟨b1, 0 + 52, none⟩)) [] 0 0, .q 36 (fun g13 => .int .i64 x1.f_Why) [1] 0 0, .q 37 (fun g13 => .int .i64 t10) [2] 0 0, .q 38 (fun g13 => .pointer (some ⟨b0_, 0, none⟩)) [0] 0 0, .q 39 (fun g13 => .pointer (some ⟨b0_, 0 + 14, none⟩)) [4] 0 0, .q 40 (fun g13 => .pointer (some ⟨b0_, 0 + 14 + Int.toNat t10 * 1, none⟩)) [3, 5] 0 0, .q 41 (fun g13 => .int .i64 (vget (({ { x0 with f_Kinds := vset x0.f_Kinds t2 (wr .i64 ((vget x0.f_Kinds t2) + 1)) } with f_Bytes := vset (({ x0 with f_Kinds := vset x0.f_Kinds t2 (wr .i64 ((vget x0.f_Kinds t2) + 1)) }).f_Bytes) t2 (wr .i64 ((vget (({ x0 with f_Kinds := vset x0.f_Kinds t2 (wr .i64 ((vget x0.f_Kinds t2) + 1)) }).f_Bytes) t2) + (x1.f_Bytes.n : Int))) }).f_Whys) t10)) [6] 0 0, .q 42 (fun g13 => .int .i64 (wr .i64 ((vget (({ { x0 with f_Kinds := vset x0.f_Kinds t2 (wr .i64 ((vget x0.f_Kinds t2) + 1)) } with f_Bytes := vset (({ x0 with f_Kinds := vset x0.f_Kinds t2 (wr .i64 ((vget x0.f_Kinds t2) + 1)) }).f_Bytes) t2 (wr .i64 ((vget (({ x0 with f_Kinds := vset x0.f_Kinds t2 (wr .i64 ((vget x0.f_Kinds t2) + 1)) }).f_Bytes) t2) + (x1.f_Bytes.n : Int))) }).f_Whys) t10) + 1))) [7] 0 0, .q 43 (fun g13 => .pointer (some ⟨b0_, 0, none⟩)) [0] 0 1, .q 44 (fun g13 => .pointer (some ⟨b0_, 0 + 14, none⟩)) [9] 0 1, .q 45 (fun g13 => .pointer (some ⟨b0_, 0 + 14 + Int.toNat t10 * 1, none⟩)) [3, 10] 0 0, .st 0 none [8, 11]] (fun g13 s => match s with | 0 => (Wd w0 (cellsE b1 (Cd.cs c_api_Event x1) 58 :: f_ (cellsE b0_ (Cd.cs c_census_Count ({ { x0 with f_Kinds := vset x0.f_Kinds t2 (wr .i64 ((vget x0.f_Kinds t2) + 1)) } with f_Bytes := vset (({ x0 with f_Kinds := vset x0.f_Kinds t2 (wr .i64 ((vget x0.f_Kinds t2) + 1)) }).f_Bytes) t2 (wr .i64 ((vget (({ x0 with f_Kinds := vset x0.f_Kinds t2 (wr .i64 ((vget x0.f_Kinds t2) + 1)) }).f_Bytes) t2) + (x1.f_Bytes.n : Int))) })) 37))) | _ => (Wd w0 (cellsE b1 (Cd.cs c_api_Event x1) 58 :: f_ (cellsE b0_ (Cd.cs c_census_Count ({ { { x0 with f_Kinds := vset x0.f_Kinds t2 (wr .i64 ((vget x0.f_Kinds t2) + 1)) } with f_Bytes := vset (({ x0 with f_Kinds := vset x0.f_Kinds t2 (wr .i64 ((vget x0.f_Kinds t2) + 1)) }).f_Bytes) t2 (wr .i64 ((vget (({ x0 with f_Kinds := vset x0.f_Kinds t2 (wr .i64 ((vget x0.f_Kinds t2) + 1)) }).f_Bytes) t2) + (x1.f_Bytes.n : Int))) } with f_Whys := vset (({ { x0 with f_Kinds := vset x0.f_Kinds t2 (wr .i64 ((vget x0.f_Kinds t2) + 1)) } with f_Bytes := vset (({ x0 with f_Kinds := vset x0.f_Kinds t2 (wr .i64 ((vget x0.f_Kinds t2) + 1)) }).f_Bytes) t2 (wr .i64 ((vget (({ x0 with f_Kinds := vset x0.f_Kinds t2 (wr .i64 ((vget x0.f_Kinds t2) + 1)) }).f_Bytes) t2) + (x1.f_Bytes.n : Int))) }).f_Whys) t10 (wr .i64 ((vget (({ { x0 with f_Kinds := vset x0.f_Kinds t2 (wr .i64 ((vget x0.f_Kinds t2) + 1)) } with f_Bytes := vset (({ x0 with f_Kinds := vset x0.f_Kinds t2 (wr .i64 ((vget x0.f_Kinds t2) + 1)) }).f_Bytes) t2 (wr .i64 ((vget (({ x0 with f_Kinds := vset x0.f_Kinds t2 (wr .i64 ((vget x0.f_Kinds t2) + 1)) }).f_Bytes) t2) + (x1.f_Bytes.n : Int))) }).f_Whys) t10) + 1)) })) 37)))) 1 (by kernel_rfl) (by kernel_rfl) (by kernel_rfl) (by kernel_rfl) (by kernel_rfl) ⟨fun _ _ _ => rfl, fun _ _ _ => rfl, fun _ _ _ => rfl, fun _ _ _ => rfl, fun _ _ _ => rfl, fun _ _ _ => rfl, fun _ _ _ => rfl, fun _ _ _ => rfl, fun _ _ _ => rfl, fun _ _ _ => rfl, fun _ _ _ => rfl, fun _ _ _ => rfl, fun _ _ _ => rfl, trivial⟩ (by kernel_rfl) (fun _ h => ⟨fun _ => (0, none, 0, none), h.drew⟩) ⟨?_, ?_, ?_, ?_, ?_, ?_, ?_, ?_, ?_, ?_, ?_, ?_, ?_, trivial⟩ ?_
    · intro Lx g13 s K hl hh k
      show At 46 ((0, _) :: (3, _) :: Lx) _ _
      refine at_val rfl rfl rfl (r_move rfl) ?_
      exact at_nil k
    · intro Lx g13 s K hl hh k
      show At 46 ((0, _) :: (3, _) :: Lx) _ _
      refine at_val rfl rfl rfl (r_fieldAddr (fo := 52) Tryd.underlying58 rfl rfl (fun w => ⟨_, Tryd.sizeOf24 w⟩) rfl) ?_
      exact at_nil k
    · intro Lx g13 s K hl hh k
      show At 46 ((35, _) :: (0, _) :: (3, _) :: Lx) _ _
      obtain rfl : s = 0 := by omega
      refine at_val rfl rfl rfl (r_load_cell Tryd.isAgg24 rfl (lens_cell0 (c := (cInt .i64)) (y := x1.f_Why) .z (Lens.comp (Lens.whole _ _) (fun z => { x1 with f_Why := z }) (c_api_Event_f_Why x1)) rfl)) ?_
      exact at_nil k
    · intro Lx g13 s K hl hh k
      show At 46 ((36, _) :: (0, _) :: (3, _) :: Lx) _ _
      obtain rfl : s = 0 := by omega
      refine at_call0 Tryd.func42 rfl (by kernel_rfl) rfl rfl (fun w => census_within_ok _ _ _ ht10 w) ?_
      exact at_nil k
    · intro Lx g13 s K hl hh k
      show At 46 ((34, _) :: (0, _) :: (3, _) :: Lx) _ _
      refine at_val rfl rfl rfl (r_nilCheck rfl) ?_
      exact at_nil k
    · intro Lx g13 s K hl hh k
      show At 46 ((38, _) :: (0, _) :: (3, _) :: Lx) _ _
      refine at_val rfl rfl rfl (r_fieldAddr (fo := 14) Tryd.underlying37 rfl rfl (fun w => ⟨_, Tryd.sizeOf35 w⟩) rfl) ?_
      exact at_nil k
    · intro Lx g13 s K hl hh k
      show At 46 ((37, _) :: (39, _) :: (0, _) :: (3, _) :: Lx) _ _
      refine at_val rfl rfl rfl (r_idxArr Tryd.underlying35 Tryd.sizeOf3 rfl rfl h11) ?_
      exact at_nil k
    · intro Lx g13 s K hl hh k
      show At 46 ((40, _) :: (0, _) :: (3, _) :: Lx) _ _
      obtain rfl : s = 0 := by omega
      refine at_val rfl rfl rfl (r_load_cell Tryd.isAgg3 rfl (lens_cell0 (c := (cInt .i64)) (y := vget (({ { x0 with f_Kinds := vset x0.f_Kinds t2 (wr .i64 ((vget x0.f_Kinds t2) + 1)) } with f_Bytes := vset (({ x0 with f_Kinds := vset x0.f_Kinds t2 (wr .i64 ((vget x0.f_Kinds t2) + 1)) }).f_Bytes) t2 (wr .i64 ((vget (({ x0 with f_Kinds := vset x0.f_Kinds t2 (wr .i64 ((vget x0.f_Kinds t2) + 1)) }).f_Bytes) t2) + (x1.f_Bytes.n : Int))) }).f_Whys) t10) (.s (Upd.again hu_ _)) (Lens.comp (Lens.comp (Lens.whole _ _) (fun z => { { { x0 with f_Kinds := vset x0.f_Kinds t2 (wr .i64 ((vget x0.f_Kinds t2) + 1)) } with f_Bytes := vset (({ x0 with f_Kinds := vset x0.f_Kinds t2 (wr .i64 ((vget x0.f_Kinds t2) + 1)) }).f_Bytes) t2 (wr .i64 ((vget (({ x0 with f_Kinds := vset x0.f_Kinds t2 (wr .i64 ((vget x0.f_Kinds t2) + 1)) }).f_Bytes) t2) + (x1.f_Bytes.n : Int))) } with f_Whys := z }) (c_census_Count_f_Whys ({ { x0 with f_Kinds := vset x0.f_Kinds t2 (wr .i64 ((vget x0.f_Kinds t2) + 1)) } with f_Bytes := vset (({ x0 with f_Kinds := vset x0.f_Kinds t2 (wr .i64 ((vget x0.f_Kinds t2) + 1)) }).f_Bytes) t2 (wr .i64 ((vget (({ x0 with f_Kinds := vset x0.f_Kinds t2 (wr .i64 ((vget x0.f_Kinds t2) + 1)) }).f_Bytes) t2) + (x1.f_Bytes.n : Int))) }))) (fun z => vset (({ { x0 with f_Kinds := vset x0.f_Kinds t2 (wr .i64 ((vget x0.f_Kinds t2) + 1)) } with f_Bytes := vset (({ x0 with f_Kinds := vset x0.f_Kinds t2 (wr .i64 ((vget x0.f_Kinds t2) + 1)) }).f_Bytes) t2 (wr .i64 ((vget (({ x0 with f_Kinds := vset x0.f_Kinds t2 (wr .i64 ((vget x0.f_Kinds t2) + 1)) }).f_Bytes) t2) + (x1.f_Bytes.n : Int))) }).f_Whys) t10 z) (Lens.vec (cInt .i64) (by decide) (({ { x0 with f_Kinds := vset x0.f_Kinds t2 (wr .i64 ((vget x0.f_Kinds t2) + 1)) } with f_Bytes := vset (({ x0 with f_Kinds := vset x0.f_Kinds t2 (wr .i64 ((vget x0.f_Kinds t2) + 1)) }).f_Bytes) t2 (wr .i64 ((vget (({ x0 with f_Kinds := vset x0.f_Kinds t2 (wr .i64 ((vget x0.f_Kinds t2) + 1)) }).f_Bytes) t2) + (x1.f_Bytes.n : Int))) }).f_Whys) t10 h11)) rfl)) ?_
      exact at_nil k
    · intro Lx g13 s K hl hh k
      show At 46 ((41, _) :: (0, _) :: (3, _) :: Lx) _ _
      refine at_val rfl rfl rfl (r_iadd rfl rfl) ?_
      exact at_nil k
    · intro Lx g13 s K hl hh k
      show At 46 ((34, _) :: (0, _) :: (3, _) :: Lx) _ _
      refine at_val rfl rfl rfl (r_nilCheck rfl) ?_
      exact at_nil k
    · intro Lx g13 s K hl hh k
      show At 46 ((43, _) :: (0, _) :: (3, _) :: Lx) _ _
      refine at_val rfl rfl rfl (r_fieldAddr (fo := 14) Tryd.underlying37 rfl rfl (fun w => ⟨_, Tryd.sizeOf35 w⟩) rfl) ?_
      exact at_nil k
    · intro Lx g13 s K hl hh k
      show At 46 ((37, _) :: (44, _) :: (0, _) :: (3, _) :: Lx) _ _
      refine at_val rfl rfl rfl (r_idxArr Tryd.underlying35 Tryd.sizeOf3 rfl rfl h12) ?_
      exact at_nil k
    · intro Lx g13 K k
      show At 46 ((42, _) :: (45, _) :: (0, _) :: (3, _) :: Lx) _ _
      refine at_store (c := (cInt .i64)) (z := wr .i64 ((vget (({ { x0 with f_Kinds := vset x0.f_Kinds t2 (wr .i64 ((vget x0.f_Kinds t2) + 1)) } with f_Bytes := vset (({ x0 with f_Kinds := vset x0.f_Kinds t2 (wr .i64 ((vget x0.f_Kinds t2) + 1)) }).f_Bytes) t2 (wr .i64 ((vget (({ x0 with f_Kinds := vset x0.f_Kinds t2 (wr .i64 ((vget x0.f_Kinds t2) + 1)) }).f_Bytes) t2) + (x1.f_Bytes.n : Int))) }).f_Whys) t10) + 1)) (.s (Upd.again hu_ _)) (Lens.comp (Lens.comp (Lens.whole _ _) (fun z => { { { x0 with f_Kinds := vset x0.f_Kinds t2 (wr .i64 ((vget x0.f_Kinds t2) + 1)) } with f_Bytes := vset (({ x0 with f_Kinds := vset x0.f_Kinds t2 (wr .i64 ((vget x0.f_Kinds t2) + 1)) }).f_Bytes) t2 (wr .i64 ((vget (({ x0 with f_Kinds := vset x0.f_Kinds t2 (wr .i64 ((vget x0.f_Kinds t2) + 1)) }).f_Bytes) t2) + (x1.f_Bytes.n : Int))) } with f_Whys := z }) (c_census_Count_f_Whys ({ { x0 with f_Kinds := vset x0.f_Kinds t2 (wr .i64 ((vget x0.f_Kinds t2) + 1)) } with f_Bytes := vset (({ x0 with f_Kinds := vset x0.f_Kinds t2 (wr .i64 ((vget x0.f_Kinds t2) + 1)) }).f_Bytes) t2 (wr .i64 ((vget (({ x0 with f_Kinds := vset x0.f_Kinds t2 (wr .i64 ((vget x0.f_Kinds t2) + 1)) }).f_Bytes) t2) + (x1.f_Bytes.n : Int))) }))) (fun z => vset (({ { x0 with f_Kinds := vset x0.f_Kinds t2 (wr .i64 ((vget x0.f_Kinds t2) + 1)) } with f_Bytes := vset (({ x0 with f_Kinds := vset x0.f_Kinds t2 (wr .i64 ((vget x0.f_Kinds t2) + 1)) }).f_Bytes) t2 (wr .i64 ((vget (({ x0 with f_Kinds := vset x0.f_Kinds t2 (wr .i64 ((vget x0.f_Kinds t2) + 1)) }).f_Bytes) t2) + (x1.f_Bytes.n : Int))) }).f_Whys) t10 z) (Lens.vec (cInt .i64) (by decide) (({ { x0 with f_Kinds := vset x0.f_Kinds t2 (wr .i64 ((vget x0.f_Kinds t2) + 1)) } with f_Bytes := vset (({ x0 with f_Kinds := vset x0.f_Kinds t2 (wr .i64 ((vget x0.f_Kinds t2) + 1)) }).f_Bytes) t2 (wr .i64 ((vget (({ x0 with f_Kinds := vset x0.f_Kinds t2 (wr .i64 ((vget x0.f_Kinds t2) + 1)) }).f_Bytes) t2) + (x1.f_Bytes.n : Int))) }).f_Whys) t10 h12)) Tryd.sizeOf3 rfl rfl rfl ?_
      exact at_nil k
    intro g13
    show At 46 [(34, _), (35, _), (36, _), (37, _), (38, _), (39, _), (40, _), (41, _), (42, _), (43, _), (44, _), (45, _), (0, _), (3, _)] _ _
    refine at_drop (H := _) .z ?_
    refine at_weak [] trivial ?_
    have K := of_some hF
    subst K
    exact at_return0 rfl (fun w1 hw => ⟨rfl, hw⟩)
  · refine at_cond_false rfl h9 ?_
    refine at_skip ?_
    have K := of_some hF
    subst K
    exact at_return0 rfl (fun w1 hw => ⟨rfl, hw.pop⟩)

def census_Of.l0 (x0 : List S_api_Event) (i4 : Int) (i5 : S_census_Count) : Option (S_census_Count) :=
  if (decide (i4 < (x0.length : Int))) = true then (if (0 : Int) ≤ i4 ∧ i4 < (x0.length : Int) then census_Count_one i5 (lget x0 i4) >>= fun t12 => census_Of.l0 x0 (wr .i64 (i4 + 1)) t12 else none) else (some i5)
  partial_fixpoint
def census_Of (x0 : List S_api_Event) : Option (S_census_Count) :=
  census_Of.l0 x0 0 ({ f_Kinds := (Vector.replicate 7 (0 : Int) : (Vector Int 7)), f_Bytes := (Vector.replicate 7 (0 : Int) : (Vector Int 7)), f_Whys := (Vector.replicate 21 (0 : Int) : (Vector Int 21)) } : S_census_Count) >>= fun q3 => some q3
theorem census_Of_ok (x0 : List S_api_Event) (p0_ : Option Addr) (c0_ : Nat) (r : S_census_Count) (hF : census_Of x0 = some r) (w : World) (hr0 : Row c_api_Event w p0_ c0_ x0) :
    Calls Tryd.prog 23 #[.slice p0_ x0.length c0_] w (fun e w' => e = .returned (.agg (Cd.cs c_census_Count r).toArray) ∧ Below w.heap.size w w') := by
  unfold census_Of at hF
  refine calls_enter (l := [.slice p0_ x0.length c0_]) Tryd.func23 rfl rfl rfl ?_
  refine at_start ?_
  refine at_weak [(0, _)] ⟨rfl, trivial⟩ ?_
  refine at_seq ?_
  refine at_region ?_
  refine at_alloc (cs := Cd.cs c_census_Count ({ f_Kinds := (Vector.replicate 7 (0 : Int) : (Vector Int 7)), f_Bytes := (Vector.replicate 7 (0 : Int) : (Vector Int 7)), f_Whys := (Vector.replicate 21 (0 : Int) : (Vector Int 21)) } : S_census_Count)) Tryd.zeroValue37 rfl rfl ?_
  intro b1
  refine at_nil ?_
  refine at_weak [(0, _), (2, _)] ⟨rfl, rfl, trivial⟩ ?_
  refine at_then_normal ?_
  refine at_seq ?_
  refine at_region ?_
  refine at_alloc (cs := Cd.cs c_census_Count ({ f_Kinds := (Vector.replicate 7 (0 : Int) : (Vector Int 7)), f_Bytes := (Vector.replicate 7 (0 : Int) : (Vector Int 7)), f_Whys := (Vector.replicate 21 (0 : Int) : (Vector Int 21)) } : S_census_Count)) Tryd.zeroValue37 rfl rfl ?_
  intro b2
  refine at_nil ?_
  refine at_weak [(0, _), (2, _), (3, _)] ⟨rfl, rfl, rfl, trivial⟩ ?_
  refine at_then_normal ?_
  refine at_seq ?_
  refine at_seq ?_
  refine at_region ?_
  refine at_val rfl rfl rfl (r_move rfl) ?_
  refine at_val rfl rfl rfl (r_len_sl Tryd.underlying41 rfl) ?_
  refine at_val rfl rfl rfl (r_move rfl) ?_
  refine at_nil ?_
  refine at_weak [(2, _), (3, _), (6, _), (7, _), (8, _)] ⟨rfl, rfl, rfl, rfl, rfl, trivial⟩ ?_
  refine at_then_normal ?_
  refine at_block ?_
  obtain ⟨q3, hq3, hF⟩ := of_bindM hF
  refine at_weak [(2, _), (3, _), (6, _), (7, _), (8, _)] ⟨rfl, rfl, rfl, rfl, rfl, trivial⟩ ?_
  refine at_loop_n (B := 0) (A := fun Y => At 16 [(2, .pointer (some ⟨b1, 0, none⟩)), (3, .pointer (some ⟨b2, 0, none⟩))] (Wd w [cellsE b2 (Cd.cs c_census_Count q3) 37, cellsE b1 (Cd.cs c_census_Count ({ f_Kinds := (Vector.replicate 7 (0 : Int) : (Vector Int 7)), f_Bytes := (Vector.replicate 7 (0 : Int) : (Vector Int 7)), f_Whys := (Vector.replicate 21 (0 : Int) : (Vector Int 21)) } : S_census_Count)) 37]) Y) ?_ ?_
  · intro K
    refine census_Of.l0.partial_correctness x0 (motive := fun i4 i5 x => KN (fun Y => At 16 [(2, .pointer (some ⟨b1, 0, none⟩)), (3, .pointer (some ⟨b2, 0, none⟩))] (Wd w [cellsE b2 (Cd.cs c_census_Count x) 37, cellsE b1 (Cd.cs c_census_Count ({ f_Kinds := (Vector.replicate 7 (0 : Int) : (Vector Int 7)), f_Bytes := (Vector.replicate 7 (0 : Int) : (Vector Int 7)), f_Whys := (Vector.replicate 21 (0 : Int) : (Vector Int 21)) } : S_census_Count)) 37]) Y) _ 0 → Round (fun Y => At 16 [(2, .pointer (some ⟨b1, 0, none⟩)), (3, .pointer (some ⟨b2, 0, none⟩)), (6, .slice p0_ x0.length c0_), (7, .int .i64 (x0.length : Int)), (8, .int .i64 i4)] (Wd w [cellsE b2 (Cd.cs c_census_Count i5) 37, cellsE b1 (Cd.cs c_census_Count ({ f_Kinds := (Vector.replicate 7 (0 : Int) : (Vector Int 7)), f_Bytes := (Vector.replicate 7 (0 : Int) : (Vector Int 7)), f_Whys := (Vector.replicate 21 (0 : Int) : (Vector Int 21)) } : S_census_Count)) 37]) Y) _ _ _) ?_ _ _ _ hq3 K
    · clear K hF
      intro g ih i4 i5 x hF K
      refine at_round ?_
      refine at_seq ?_
      refine at_region ?_
      refine at_val rfl rfl rfl (r_ilss rfl rfl) ?_
      refine at_nil ?_
      refine at_weak [(2, _), (3, _), (6, _), (7, _), (8, _), (9, _)] ⟨rfl, rfl, rfl, rfl, rfl, rfl, trivial⟩ ?_
      refine at_then_normal ?_
      refine at_seq ?_
      rcases of_ite hF with ⟨h6, hF⟩ | ⟨h6, hF⟩
      · refine at_cond_true rfl h6 ?_
        refine at_skip ?_
        refine at_then_normal ?_
        refine at_seq ?_
        refine at_block ?_
        refine at_seq ?_
        refine at_region ?_
        obtain ⟨h7, hF⟩ := of_guard hF
        obtain ⟨b9, o10, hp8⟩ := row_ptr hr0 h7
        refine at_val rfl rfl rfl (r_idx Tryd.underlying41 Tryd.sizeOf58 rfl rfl h7 hp8) ?_
        refine at_val rfl rfl rfl (r_load_aggc (c := c_api_Event) (z := lget x0 i4) Tryd.isAgg58 Tryd.sizeOf58 rfl (row_cell (fun _ h => h.below) hr0 h7 hp8)) ?_
        refine at_alloc (cs := Cd.cs c_api_Event ({ f_Kind := (0 : Int), f_Bytes := (⟨none, 0, 0⟩ : Hd), f_To := ({ f_A := ({ f_V := (0 : Int), f_B := (Vector.replicate 16 (0 : Int) : (Vector Int 16)) } : S_api_Addr), f_Port := (0 : Int) } : S_api_Endpoint), f_Key := (Vector.replicate 32 (0 : Int) : (Vector Int 32)), f_Why := (0 : Int) } : S_api_Event)) Tryd.zeroValue58 rfl rfl ?_
        intro b11
        refine at_store (c := c_api_Event) (z := lget x0 i4) .z (Lens.whole _ _) Tryd.sizeOf58 rfl rfl rfl ?_
        refine at_nil ?_
        refine at_weak [(2, _), (3, _), (5, _), (6, _), (7, _), (8, _)] ⟨rfl, rfl, rfl, rfl, rfl, rfl, trivial⟩ ?_
        refine at_then_normal ?_
        refine at_region ?_
        refine at_val rfl rfl rfl (r_load_aggc (c := c_api_Event) (z := lget x0 i4) Tryd.isAgg58 Tryd.sizeOf58 rfl (lens_cell .z (Lens.whole _ _))) ?_
        obtain ⟨t12, ht12, hF⟩ := of_bindM hF
        refine at_callP (E' := cellsE b2 (Cd.cs c_census_Count t12) 37) Tryd.func34 rfl (by kernel_rfl) rfl rfl (fun w hw => census_Count_one_ok _ _ _ _ ht12 w (.s .z) hw) ?_
        refine at_nil ?_
        refine at_drop (H := _) .z ?_
        refine at_weak [(2, _), (3, _), (6, _), (7, _), (8, _)] ⟨rfl, rfl, rfl, rfl, rfl, trivial⟩ ?_
        refine at_blk_normal (at_then_normal ?_)
        refine at_region ?_
        refine at_val rfl rfl rfl (r_iadd rfl rfl) ?_
        refine at_val rfl rfl rfl (r_move rfl) ?_
        refine at_nil ?_
        refine at_weak [(2, _), (3, _), (6, _), (7, _), (8, _)] ⟨rfl, rfl, rfl, rfl, rfl, trivial⟩ ?_
        refine at_then_normal ?_
        exact at_weak_k (ih _ _ _ hF K) ⟨rfl, rfl, rfl, rfl, rfl, trivial⟩
      · refine at_cond_false rfl h6 ?_
        refine at_exit ?_
        refine at_then_exit (at_then_exit ?_)
        obtain rfl := of_some hF
        exact at_weak_k K ⟨rfl, rfl, trivial⟩
  · skip
    skip
    refine at_blk_same ?_
    refine at_then_normal ?_
    refine at_seq ?_
    refine at_region ?_
    refine at_val rfl rfl rfl (r_load_aggc (c := c_census_Count) (z := q3) Tryd.isAgg37 Tryd.sizeOf37 rfl (lens_cell .z (Lens.whole _ _))) ?_
    refine at_store (c := c_census_Count) (z := q3) (.s .z) (Lens.whole _ _) Tryd.sizeOf37 rfl rfl rfl ?_
    refine at_nil ?_
    refine at_drop (H := _) .z ?_
    refine at_weak [(2, _)] ⟨rfl, trivial⟩ ?_
    refine at_then_normal ?_
    refine at_ret ?_
    have K := of_some hF
    subst K
    exact at_res1 rfl (res_cell (c := c_census_Count) (y := q3) rfl .z (Lens.whole _ _) Tryd.isAgg37 Tryd.sizeOf37 (.inl rfl)) (fun w1 hw => ⟨rfl, hw.below⟩)

def crawlwaylaw52_alive : Option (Bool) :=
  census_Of ([{ { ({ f_Kind := (0 : Int), f_Bytes := (⟨none, 0, 0⟩ : Hd), f_To := ({ f_A := ({ f_V := (0 : Int), f_B := (Vector.replicate 16 (0 : Int) : (Vector Int 16)) } : S_api_Addr), f_Port := (0 : Int) } : S_api_Endpoint), f_Key := (Vector.replicate 32 (0 : Int) : (Vector Int 32)), f_Why := (0 : Int) } : S_api_Event) with f_Kind := 5 } with f_Why := 7 }]) >>= fun t2 => census_Text t2 >>= fun t3 => some (seq t3 (⟨#[100, 114, 111, 112, 32, 49, 32, 48, 10, 119, 104, 121, 32, 55, 32, 49, 10]⟩ : ByteArray))
theorem crawlwaylaw52_alive_ok (r : Bool) (hF : crawlwaylaw52_alive  = some r) (w : World) (hg_census_names : GV_census_names w) (hg_strconv_uint64pow10 : GV_strconv_uint64pow10 w) :
    Calls Tryd.prog 21 #[] w (fun e w' => e = .returned (.bool r) ∧ Below w.heap.size w w') := by
  unfold crawlwaylaw52_alive at hF
  refine calls_enter (l := []) Tryd.func21 rfl rfl rfl ?_
  refine at_start ?_
  refine at_weak [] trivial ?_
  refine at_seq ?_
  refine at_region ?_
  refine at_val rfl rfl rfl (r_assign rfl) ?_
  refine at_nil ?_
  refine at_weak [] trivial ?_
  refine at_then_normal ?_
  refine at_seq ?_
  refine at_region ?_
  refine at_val rfl rfl rfl (r_build_struct (zs := Cd.cs c_api_Event ({ f_Kind := (0 : Int), f_Bytes := (⟨none, 0, 0⟩ : Hd), f_To := ({ f_A := ({ f_V := (0 : Int), f_B := (Vector.replicate 16 (0 : Int) : (Vector Int 16)) } : S_api_Addr), f_Port := (0 : Int) } : S_api_Endpoint), f_Key := (Vector.replicate 32 (0 : Int) : (Vector Int 32)), f_Why := (0 : Int) } : S_api_Event)) (cs := Cd.cs c_api_Event ({ { ({ f_Kind := (0 : Int), f_Bytes := (⟨none, 0, 0⟩ : Hd), f_To := ({ f_A := ({ f_V := (0 : Int), f_B := (Vector.replicate 16 (0 : Int) : (Vector Int 16)) } : S_api_Addr), f_Port := (0 : Int) } : S_api_Endpoint), f_Key := (Vector.replicate 32 (0 : Int) : (Vector Int 32)), f_Why := (0 : Int) } : S_api_Event) with f_Kind := 5 } with f_Why := 7 })) Tryd.underlying58 Tryd.zeroValue58 rfl (places_api_Event_58) rfl (fill_step (c := (cInt .i64)) (z := 5) rfl (c_api_Event_f_Kind ({ f_Kind := (0 : Int), f_Bytes := (⟨none, 0, 0⟩ : Hd), f_To := ({ f_A := ({ f_V := (0 : Int), f_B := (Vector.replicate 16 (0 : Int) : (Vector Int 16)) } : S_api_Addr), f_Port := (0 : Int) } : S_api_Endpoint), f_Key := (Vector.replicate 32 (0 : Int) : (Vector Int 32)), f_Why := (0 : Int) } : S_api_Event)) rfl (fill_step (c := (cInt .i64)) (z := 7) rfl (c_api_Event_f_Why ({ ({ f_Kind := (0 : Int), f_Bytes := (⟨none, 0, 0⟩ : Hd), f_To := ({ f_A := ({ f_V := (0 : Int), f_B := (Vector.replicate 16 (0 : Int) : (Vector Int 16)) } : S_api_Addr), f_Port := (0 : Int) } : S_api_Endpoint), f_Key := (Vector.replicate 32 (0 : Int) : (Vector Int 32)), f_Why := (0 : Int) } : S_api_Event) with f_Kind := 5 })) rfl rfl))) ?_
  refine at_litG (cs := c_api_Event.all ([{ { ({ f_Kind := (0 : Int), f_Bytes := (⟨none, 0, 0⟩ : Hd), f_To := ({ f_A := ({ f_V := (0 : Int), f_B := (Vector.replicate 16 (0 : Int) : (Vector Int 16)) } : S_api_Addr), f_Port := (0 : Int) } : S_api_Endpoint), f_Key := (Vector.replicate 32 (0 : Int) : (Vector Int 32)), f_Why := (0 : Int) } : S_api_Event) with f_Kind := 5 } with f_Why := 7 }] : List S_api_Event)) Tryd.underlying41 Tryd.sizeOf58 Tryd.zeroValue58 rfl rfl rfl (by kernel_rfl) rfl ?_
  intro b1
  obtain ⟨t2, ht2, hF⟩ := of_bindM hF
  refine at_callB Tryd.func23 rfl (by kernel_rfl) rfl rfl (fun w hw => census_Of_ok _ _ _ _ ht2 w (cells_row (hw.ok (Upd.mem .z)))) ?_
  obtain ⟨t3, ht3, hF⟩ := of_bindM hF
  refine at_callB Tryd.func19 rfl (by kernel_rfl) rfl rfl (fun w hw => census_Text_ok _ _ ht3 w (hg_census_names.on hw.below) (hg_strconv_uint64pow10.on hw.below)) ?_
  refine at_val rfl rfl rfl (r_seql rfl rfl) ?_
  refine at_val rfl rfl rfl (r_assign rfl) ?_
  refine at_nil ?_
  refine at_drop (H := _) .z ?_
  refine at_weak [(0, _)] ⟨rfl, trivial⟩ ?_
  refine at_then_normal ?_
  refine at_ret ?_
  have K := of_some hF
  subst K
  exact at_return1 rfl rfl (fun w1 hw => ⟨rfl, hw.below⟩)

def crawlwaylaw52_CensusTexts (x0 : S_census_Count) : Option (Bool) :=
  census_Text x0 >>= fun t2 => crawlwayref52_Text x0.f_Kinds x0.f_Bytes x0.f_Whys >>= fun t3 => if (seq t2 t3) = true then (crawlwaylaw52_alive >>= fun t5 => some t5) else (some false)
theorem crawlwaylaw52_CensusTexts_ok (x0 : S_census_Count) (r : Bool) (hF : crawlwaylaw52_CensusTexts x0 = some r) (w : World) (hg_census_names : GV_census_names w) (hg_strconv_uint64pow10 : GV_strconv_uint64pow10 w) :
    Calls Tryd.prog 6 #[.agg (Cd.cs c_census_Count x0).toArray] w (fun e w' => e = .returned (.bool r) ∧ Below w.heap.size w w') := by
  unfold crawlwaylaw52_CensusTexts at hF
  refine calls_enter (l := [.agg (Cd.cs c_census_Count x0).toArray]) Tryd.func6 rfl rfl rfl ?_
  refine at_start ?_
  refine at_weak [(0, _)] ⟨rfl, trivial⟩ ?_
  refine at_seq ?_
  refine at_region ?_
  refine at_box (cs := Cd.cs c_census_Count x0) rfl rfl rfl ?_
  intro b1
  refine at_val rfl rfl rfl (r_assign rfl) ?_
  refine at_nil ?_
  refine at_weak [(1, _)] ⟨rfl, trivial⟩ ?_
  refine at_then_normal ?_
  refine at_seq ?_
  refine at_draw (by kernel_rfl) (by kernel_rfl) (fun _ h => h.drew) ?_
  refine atq_val rfl rfl rfl (r_load_aggc (c := c_census_Count) (z := x0) Tryd.isAgg37 Tryd.sizeOf37 rfl (lens_cell .z (Lens.whole _ _))) ?_
  obtain ⟨t2, ht2, hF⟩ := of_bindM hF
  refine atq_call Tryd.func19 rfl (by kernel_rfl) rfl rfl (fun w hw => (census_Text_ok _ _ ht2 w (hg_census_names.on hw.below) (hg_strconv_uint64pow10.on hw.below)).mono fun _ _ h => ⟨h.1, hw.call h.2⟩) ?_
  refine atq_val rfl rfl rfl (r_fieldAddr (fo := 0) Tryd.underlying37 rfl rfl (fun w => ⟨_, Tryd.sizeOf34 w⟩) rfl) ?_
  refine atq_val rfl rfl rfl (r_load_aggc (c := (cVec (cInt .i64) 7 (by decide))) (z := x0.f_Kinds) Tryd.isAgg34 Tryd.sizeOf34 rfl (lens_cell .z (Lens.comp (Lens.whole _ _) (fun z => { x0 with f_Kinds := z }) (c_census_Count_f_Kinds x0)))) ?_
  refine atq_val rfl rfl rfl (r_fieldAddr (fo := 7) Tryd.underlying37 rfl rfl (fun w => ⟨_, Tryd.sizeOf34 w⟩) rfl) ?_
  refine atq_val rfl rfl rfl (r_load_aggc (c := (cVec (cInt .i64) 7 (by decide))) (z := x0.f_Bytes) Tryd.isAgg34 Tryd.sizeOf34 rfl (lens_cell .z (Lens.comp (Lens.whole _ _) (fun z => { x0 with f_Bytes := z }) (c_census_Count_f_Bytes x0)))) ?_
  refine atq_val rfl rfl rfl (r_fieldAddr (fo := 14) Tryd.underlying37 rfl rfl (fun w => ⟨_, Tryd.sizeOf35 w⟩) rfl) ?_
  refine atq_val rfl rfl rfl (r_load_aggc (c := (cVec (cInt .i64) 21 (by decide))) (z := x0.f_Whys) Tryd.isAgg35 Tryd.sizeOf35 rfl (lens_cell .z (Lens.comp (Lens.whole _ _) (fun z => { x0 with f_Whys := z }) (c_census_Count_f_Whys x0)))) ?_
  obtain ⟨t3, ht3, hF⟩ := of_bindM hF
  refine atq_call Tryd.func20 rfl (by kernel_rfl) rfl rfl (fun w hw => (crawlwayref52_Text_ok _ _ _ _ ht3 w).mono fun _ _ h => ⟨h.1, hw.call h.2⟩) ?_
  refine atq_val rfl rfl rfl (r_seql rfl rfl) ?_
  refine atq_val rfl rfl rfl (r_move rfl) ?_
  rcases of_ite hF with ⟨h4, hF⟩ | ⟨h4, hF⟩
  · refine atq_fix (g := 13) rfl h4 ?_
    refine atq_guard_yes rfl rfl rfl ?_
    obtain ⟨t5, ht5, hF⟩ := of_bindM hF
    refine atq_call Tryd.func21 rfl (by kernel_rfl) rfl rfl (fun w hw => (crawlwaylaw52_alive_ok  _ ht5 w (hg_census_names.on hw.below) (hg_strconv_uint64pow10.on hw.below)).mono fun _ _ h => ⟨h.1, hw.call h.2⟩) ?_
    refine atq_val rfl rfl rfl (r_pick rfl rfl rfl) ?_
    refine atq_val rfl rfl rfl (r_assign rfl) ?_
    refine atq_nil ?_
    refine at_drop (H := _) .z ?_
    refine at_weak [(2, _)] ⟨rfl, trivial⟩ ?_
    refine at_then_normal ?_
    refine at_ret ?_
    have K := of_some hF
    subst K
    exact at_return1 rfl rfl (fun w1 hw => ⟨rfl, hw.below⟩)
  · refine atq_fix (g := 13) rfl h4 ?_
    refine atq_guard_no rfl rfl rfl rfl rfl ?_
    refine atq_val rfl rfl rfl (r_pick rfl rfl rfl) ?_
    refine atq_val rfl rfl rfl (r_assign rfl) ?_
    refine atq_nil ?_
    refine at_drop (H := _) .z ?_
    refine at_weak [(2, _)] ⟨rfl, trivial⟩ ?_
    refine at_then_normal ?_
    refine at_ret ?_
    have K := of_some hF
    subst K
    exact at_return1 rfl rfl (fun w1 hw => ⟨rfl, hw.below⟩)
end Go.Proofs.YtnojjenpggdadaaDoor
