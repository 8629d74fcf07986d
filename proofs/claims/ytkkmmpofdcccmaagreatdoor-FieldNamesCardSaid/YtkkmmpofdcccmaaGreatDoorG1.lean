/- Functions with the same answers as the Go functions that they are named for, and the proofs of it, by a program of this project (gen.py). -/
import Derived.Test.YtkkmmpofdcccmaaGreatDoorT
import Derived.Test.YtkkmmpofdcccmaaGreatDoorShelf
import Derived.Test.YtkkmmpofdcccmaaGreatDoorW
import Derived.Test.YtkkmmpofdcccmaaGreatDoorL
import Derived.Test.YtkkmmpofdcccmaaGreatDoorS
import Derived.Test.YtkkmmpofdcccmaaGreatDoorJ
import Derived.Test.YtkkmmpofdcccmaaGreatDoorI
import Derived.Test.YtkkmmpofdcccmaaGreatDoorR
import Derived.Test.YtkkmmpofdcccmaaGreatDoorCut
import Derived.Test.YtkkmmpofdcccmaaGreatDoorMap
import Derived.Test.YtkkmmpofdcccmaaGreatDoorLit
import Derived.Test.YtkkmmpofdcccmaaGreatDoorInl
import Derived.Test.YtkkmmpofdcccmaaGreatDoorProg

set_option linter.unusedVariables false
set_option linter.unusedSimpArgs false
namespace Go.Proofs.YtkkmmpofdcccmaaGreatDoor
open E Go.RowKit


def crawlwayref03_Text (x0 : Int) : Option (ByteArray) :=
  if (decide (x0 < 10)) = true then (some (⟨(unb ([wr .u8 (wr .u64 (48 + (Int.tmod x0 10)))])).toArray⟩ : ByteArray)) else (crawlwayref03_Text (wr .u64 (Int.tdiv x0 10)) >>= fun t3 => if t3.size + (⟨(unb ([wr .u8 (wr .u64 (48 + (Int.tmod x0 10)))])).toArray⟩ : ByteArray).size ≤ 140737488355328 then some (t3 ++ (⟨(unb ([wr .u8 (wr .u64 (48 + (Int.tmod x0 10)))])).toArray⟩ : ByteArray)) else none)
  partial_fixpoint
theorem crawlwayref03_Text_ok (x0 : Int) (r : ByteArray) (hF : crawlwayref03_Text x0 = some r) (w : World) :
    Calls Tryz.prog 55 #[.int .u64 x0] w (fun e w' => e = .returned (.string r) ∧ Below w.heap.size w w') := by
  refine crawlwayref03_Text.partial_correctness (motive := fun x0 r => ∀ (w : World), Calls Tryz.prog 55 #[.int .u64 x0] w (fun e w' => e = .returned (.string r) ∧ Below w.heap.size w w')) ?_ _ _ hF w
  clear hF
  intro g ihf0 x0 r hF w
  have ihf : ∀ (x0 : Int) (r : ByteArray) (hF : g x0 = some r) (w : World), Calls Tryz.prog 55 #[.int .u64 x0] w (fun e w' => e = .returned (.string r) ∧ Below w.heap.size w w') := fun x0 r hF w => ihf0 x0 r hF w
  refine calls_enter (l := [.int .u64 x0]) Tryz.func55 rfl rfl rfl ?_
  refine at_start ?_
  refine at_weak [(0, _)] ⟨rfl, trivial⟩ ?_
  refine at_seq ?_
  refine at_region ?_
  refine at_val rfl rfl rfl (r_assign rfl) ?_
  refine at_nil ?_
  refine at_weak [(0, _)] ⟨rfl, trivial⟩ ?_
  refine at_then_normal ?_
  refine at_seq ?_
  refine at_region ?_
  refine at_val rfl rfl rfl (r_move rfl) ?_
  refine at_val rfl rfl rfl (r_irem rfl rfl (by decide)) ?_
  refine at_val rfl rfl rfl (r_iadd rfl rfl) ?_
  refine at_val rfl rfl rfl (r_conv Tryz.underlying31 Tryz.underlying5 rfl) ?_
  refine at_lit (cs := (cInt .u8).all ([wr .u8 (wr .u64 (48 + (Int.tmod x0 10)))] : List Int)) Tryz.underlying22 Tryz.sizeOf5 Tryz.zeroValue5 rfl rfl rfl (by kernel_rfl) rfl ?_
  intro b1
  refine at_val rfl rfl rfl (r_conv_bytes (xs := ([wr .u8 (wr .u64 (48 + (Int.tmod x0 10)))] : List Int)) Tryz.underlying22 Tryz.underlying5 Tryz.underlying9 rfl (fun w1 hw => (cells_row (hw.ok (Upd.mem .z))))) ?_
  refine at_val rfl rfl rfl (r_assign rfl) ?_
  refine at_nil ?_
  refine at_drop (H := _) .z ?_
  refine at_weak [(0, _), (3, _)] ⟨rfl, rfl, trivial⟩ ?_
  refine at_then_normal ?_
  refine at_seq ?_
  refine at_seq ?_
  refine at_region ?_
  refine at_val rfl rfl rfl (r_move rfl) ?_
  refine at_val rfl rfl rfl (r_ilss rfl rfl) ?_
  refine at_nil ?_
  refine at_weak [(0, _), (3, _), (11, _)] ⟨rfl, rfl, rfl, trivial⟩ ?_
  refine at_then_normal ?_
  rcases of_ite hF with ⟨h2, hF⟩ | ⟨h2, hF⟩
  · refine at_cond_true rfl h2 ?_
    refine at_seq ?_
    refine at_region ?_
    refine at_val rfl rfl rfl (r_move rfl) ?_
    refine at_val rfl rfl rfl (r_assign rfl) ?_
    refine at_nil ?_
    refine at_weak [(2, _)] ⟨rfl, trivial⟩ ?_
    refine at_then_normal ?_
    refine at_ret ?_
    refine at_then_ret ?_
    have K := of_some hF
    subst K
    exact at_return1 rfl rfl (fun w1 hw => ⟨rfl, hw.below⟩)
  · refine at_cond_false rfl h2 ?_
    refine at_skip ?_
    refine at_then_normal ?_
    refine at_seq ?_
    refine at_region ?_
    refine at_val rfl rfl rfl (r_move rfl) ?_
    refine at_val rfl rfl rfl (r_iquo rfl rfl (by decide)) ?_
    obtain ⟨t3, ht3, hF⟩ := of_bindM hF
    refine at_callB Tryz.func55 rfl (by kernel_rfl) rfl rfl (fun w hw => ihf _ _ ht3 w) ?_
    refine at_val rfl rfl rfl (r_move rfl) ?_
    obtain ⟨h4, hF⟩ := of_guard hF
    refine at_val rfl rfl rfl (r_concat rfl rfl h4) ?_
    refine at_val rfl rfl rfl (r_assign rfl) ?_
    refine at_nil ?_
    refine at_weak [(2, _)] ⟨rfl, trivial⟩ ?_
    refine at_then_normal ?_
    refine at_ret ?_
    have K := of_some hF
    subst K
    exact at_return1 rfl rfl (fun w1 hw => ⟨rfl, hw.below⟩)

def decimal_Text (x0 : Int) : Option (ByteArray) :=
  if (0 : Int) ≤ x0 ∧ x0 < 18446744073709551616 then some (fmtU x0) else none
theorem decimal_Text_ok (x0 : Int) (r : ByteArray) (hF : decimal_Text x0 = some r) (w : World) (hg_strconv_uint64pow10 : GV_strconv_uint64pow10 w) :
    Calls Tryz.prog 113 #[.int .u64 x0] w (fun e w' => e = .returned (.string r) ∧ Below w.heap.size w w') := by
  unfold decimal_Text at hF
  refine calls_enter (l := [.int .u64 x0]) Tryz.func113 rfl rfl rfl ?_
  refine at_start ?_
  refine at_weak [(0, _)] ⟨rfl, trivial⟩ ?_
  refine at_seq ?_
  refine at_region ?_
  refine at_val rfl rfl rfl (r_assign rfl) ?_
  refine at_nil ?_
  refine at_weak [(0, _)] ⟨rfl, trivial⟩ ?_
  refine at_then_normal ?_
  refine at_seq ?_
  refine at_region ?_
  refine at_val rfl rfl rfl (r_move rfl) ?_
  obtain ⟨h1, hF⟩ := of_guard hF
  refine at_callB Tryz.func163 rfl (by kernel_rfl) rfl rfl (fun w1 hw => formatUint_ok _ h1 w1 (hg_strconv_uint64pow10.on hw.below)) ?_
  refine at_val rfl rfl rfl (r_assign rfl) ?_
  refine at_nil ?_
  refine at_weak [(2, _)] ⟨rfl, trivial⟩ ?_
  refine at_then_normal ?_
  refine at_ret ?_
  have K := of_some hF
  subst K
  exact at_return1 rfl rfl (fun w1 hw => ⟨rfl, hw.below⟩)

def crawlwayref03_Prefix.l0 (x0 : ByteArray) (i2 : Int) : Option (Int) :=
  if (decide (i2 < (x0.size : Int))) = true then (if (0 : Int) ≤ i2 ∧ i2 < (x0.size : Int) then if (decide (bt x0 i2 ≥ 48)) = true then (if (0 : Int) ≤ i2 ∧ i2 < (x0.size : Int) then if (decide (bt x0 i2 ≤ 57)) = true then (crawlwayref03_Prefix.l0 x0 (wr .i64 (i2 + 1))) else (some i2) else none) else (some i2) else none) else (some i2)
  partial_fixpoint
def crawlwayref03_Prefix (x0 : ByteArray) : Option (Int) :=
  crawlwayref03_Prefix.l0 x0 0 >>= fun q1 => some q1
theorem crawlwayref03_Prefix_ok (x0 : ByteArray) (r : Int) (hF : crawlwayref03_Prefix x0 = some r) (w : World) :
    Calls Tryz.prog 73 #[.string x0] w (fun e w' => e = .returned (.int .i64 r) ∧ w' = w) := by
  unfold crawlwayref03_Prefix at hF
  refine calls_enter (l := [.string x0]) Tryz.func73 rfl rfl rfl ?_
  refine at_weak [(0, _)] ⟨rfl, trivial⟩ ?_
  refine at_seq ?_
  refine at_region ?_
  refine at_val rfl rfl rfl (r_assign rfl) ?_
  refine at_nil ?_
  refine at_weak [(0, _)] ⟨rfl, trivial⟩ ?_
  refine at_then_normal ?_
  refine at_seq ?_
  refine at_region ?_
  refine at_val rfl rfl rfl (r_assign rfl) ?_
  refine at_nil ?_
  refine at_weak [(0, _), (3, _)] ⟨rfl, rfl, trivial⟩ ?_
  refine at_then_normal ?_
  refine at_seq ?_
  refine at_block ?_
  obtain ⟨q1, hq1, hF⟩ := of_bindM hF
  refine at_weak [(0, _), (3, _)] ⟨rfl, rfl, trivial⟩ ?_
  refine at_loop_n (B := 0) (A := fun Y => At 23 [(3, .int .i64 q1)] (fun w' => w' = w) Y) ?_ ?_
  · intro K
    refine crawlwayref03_Prefix.l0.partial_correctness x0 (motive := fun i2 x => KN (fun Y => At 23 [(3, .int .i64 x)] (fun w' => w' = w) Y) _ 0 → Round (fun Y => At 23 [(0, .string x0), (3, .int .i64 i2)] (fun w' => w' = w) Y) _ _ _) ?_ _ _ hq1 K
    · clear K hF
      intro g ih i2 x hF K
      refine at_round ?_
      refine at_seq ?_
      refine at_seq ?_
      refine at_region ?_
      refine at_val rfl rfl rfl (r_move rfl) ?_
      refine at_val rfl rfl rfl (r_move rfl) ?_
      refine at_val rfl rfl rfl (r_len_str Tryz.underlying9 rfl) ?_
      refine at_val rfl rfl rfl (r_ilss rfl rfl) ?_
      refine at_val rfl rfl rfl (r_move rfl) ?_
      rcases of_ite hF with ⟨h3, hF⟩ | ⟨h3, hF⟩
      · refine at_fix (g := 8) rfl h3 ?_
        refine at_guard_yes rfl rfl rfl ?_
        refine at_val rfl rfl rfl (r_move rfl) ?_
        refine at_guard_yes rfl rfl rfl ?_
        refine at_val rfl rfl rfl (r_move rfl) ?_
        refine at_guard_yes rfl rfl rfl ?_
        obtain ⟨h4, hF⟩ := of_guard hF
        refine at_val rfl rfl rfl (r_index_str Tryz.underlying9 rfl rfl h4) ?_
        refine at_guard_yes rfl rfl rfl ?_
        refine at_val rfl rfl rfl (r_igeq rfl rfl) ?_
        refine at_val rfl rfl rfl (r_pick rfl rfl rfl) ?_
        refine at_val rfl rfl rfl (r_move rfl) ?_
        rcases of_ite hF with ⟨h5, hF⟩ | ⟨h5, hF⟩
        · refine at_fix (g := 14) rfl h5 ?_
          refine at_guard_yes rfl rfl rfl ?_
          refine at_val rfl rfl rfl (r_move rfl) ?_
          refine at_guard_yes rfl rfl rfl ?_
          refine at_val rfl rfl rfl (r_move rfl) ?_
          refine at_guard_yes rfl rfl rfl ?_
          obtain ⟨h6, hF⟩ := of_guard hF
          refine at_val rfl rfl rfl (r_index_str Tryz.underlying9 rfl rfl h6) ?_
          refine at_guard_yes rfl rfl rfl ?_
          refine at_val rfl rfl rfl (r_ileq rfl rfl) ?_
          refine at_val rfl rfl rfl (r_pick rfl rfl rfl) ?_
          refine at_nil ?_
          refine at_weak [(0, _), (3, _), (19, _)] ⟨rfl, rfl, rfl, trivial⟩ ?_
          refine at_then_normal ?_
          rcases of_ite hF with ⟨h7, hF⟩ | ⟨h7, hF⟩
          · refine at_cond_true rfl h7 ?_
            refine at_skip ?_
            refine at_then_normal ?_
            refine at_block ?_
            refine at_region ?_
            refine at_val rfl rfl rfl (r_move rfl) ?_
            refine at_val rfl rfl rfl (r_iadd rfl rfl) ?_
            refine at_val rfl rfl rfl (r_assign rfl) ?_
            refine at_nil ?_
            refine at_weak [(0, _), (3, _)] ⟨rfl, rfl, trivial⟩ ?_
            refine at_blk_normal (at_then_normal ?_)
            exact at_weak_k (ih _ _ hF K) ⟨rfl, rfl, trivial⟩
          · refine at_cond_false rfl h7 ?_
            refine at_exit ?_
            refine at_then_exit (at_then_exit ?_)
            obtain rfl := of_some hF
            exact at_weak_k K ⟨rfl, trivial⟩
        · refine at_fix (g := 14) rfl h5 ?_
          refine at_guard_no rfl rfl rfl rfl rfl ?_
          refine at_guard_no rfl rfl rfl rfl rfl ?_
          refine at_guard_no rfl rfl rfl rfl rfl ?_
          refine at_guard_no rfl rfl rfl rfl rfl ?_
          refine at_val rfl rfl rfl (r_pick rfl rfl rfl) ?_
          refine at_nil ?_
          refine at_weak [(0, _), (3, _), (19, _)] ⟨rfl, rfl, rfl, trivial⟩ ?_
          refine at_then_normal ?_
          refine at_cond_false rfl rfl ?_
          refine at_exit ?_
          refine at_then_exit (at_then_exit ?_)
          obtain rfl := of_some hF
          exact at_weak_k K ⟨rfl, trivial⟩
      · refine at_fix (g := 8) rfl h3 ?_
        refine at_guard_no rfl rfl rfl rfl rfl ?_
        refine at_guard_no rfl rfl rfl rfl rfl ?_
        refine at_guard_no rfl rfl rfl rfl rfl ?_
        refine at_guard_no rfl rfl rfl rfl rfl ?_
        refine at_val rfl rfl rfl (r_pick rfl rfl rfl) ?_
        refine at_val rfl rfl rfl (r_move rfl) ?_
        refine at_guard_no rfl rfl rfl rfl rfl ?_
        refine at_guard_no rfl rfl rfl rfl rfl ?_
        refine at_guard_no rfl rfl rfl rfl rfl ?_
        refine at_guard_no rfl rfl rfl rfl rfl ?_
        refine at_val rfl rfl rfl (r_pick rfl rfl rfl) ?_
        refine at_nil ?_
        refine at_weak [(0, _), (3, _), (19, _)] ⟨rfl, rfl, rfl, trivial⟩ ?_
        refine at_then_normal ?_
        refine at_cond_false rfl rfl ?_
        refine at_exit ?_
        refine at_then_exit (at_then_exit ?_)
        obtain rfl := of_some hF
        exact at_weak_k K ⟨rfl, trivial⟩
  · skip
    skip
    refine at_blk_same ?_
    refine at_then_normal ?_
    refine at_seq ?_
    refine at_region ?_
    refine at_val rfl rfl rfl (r_move rfl) ?_
    refine at_val rfl rfl rfl (r_assign rfl) ?_
    refine at_nil ?_
    refine at_weak [(2, _)] ⟨rfl, trivial⟩ ?_
    refine at_then_normal ?_
    refine at_ret ?_
    have K := of_some hF
    subst K
    exact at_return1 rfl rfl (fun w1 hw => ⟨rfl, hw⟩)

def decimal_Prefix.l0 (x0 : ByteArray) (i3 : Nat) : Option (Ctl (Int) (Unit)) :=
  if decide (i3 < x0.size) = true then (if (decide (dcode x0 i3 < 48)) = true then (some (.ret (i3 : Int))) else (if (decide (dcode x0 i3 > 57)) = true then (some (.ret (i3 : Int))) else (decimal_Prefix.l0 x0 (dstep x0 i3)))) else (some (.nx ()))
  partial_fixpoint
def decimal_Prefix (x0 : ByteArray) : Option (Int) :=
  decimal_Prefix.l0 x0 0 >>= fun q2 => match q2 with | .ret r' => some r' | .nx sq2 => (some (x0.size : Int))
theorem decimal_Prefix_ok (x0 : ByteArray) (r : Int) (hF : decimal_Prefix x0 = some r) (w : World) :
    Calls Tryz.prog 161 #[.string x0] w (fun e w' => e = .returned (.int .i64 r) ∧ Below w.heap.size w w') := by
  unfold decimal_Prefix at hF
  refine calls_enter (l := [.string x0]) Tryz.func161 rfl rfl rfl ?_
  refine at_start ?_
  refine at_weak [(0, _)] ⟨rfl, trivial⟩ ?_
  refine at_seq ?_
  refine at_region ?_
  refine at_val rfl rfl rfl (r_assign rfl) ?_
  refine at_nil ?_
  refine at_weak [(0, _)] ⟨rfl, trivial⟩ ?_
  refine at_then_normal ?_
  refine at_seq ?_
  refine at_seq ?_
  refine at_region ?_
  refine at_val rfl rfl rfl (r_move rfl) ?_
  refine at_range (s := x0) Tryz.underlying9 rfl rfl ?_
  intro b1
  refine at_nil ?_
  refine at_weak [(0, _), (6, _)] ⟨rfl, rfl, trivial⟩ ?_
  refine at_then_normal ?_
  refine at_block ?_
  obtain ⟨q2, hq2, hF⟩ := of_bindM hF
  refine at_weak [(0, _), (6, _)] ⟨rfl, rfl, trivial⟩ ?_
  refine at_loop_r (B := 0) (r := r) (q := q2) (A := fun (_ : Unit) Y => At 20 [(0, .string x0)] (Wd w []) Y) ?_ ?_
  · intro K
    refine decimal_Prefix.l0.partial_correctness x0 (motive := fun i3 x => KR (fun (_ : Unit) Y => At 20 [(0, .string x0)] (Wd w []) Y) _ 0 r x → Round (fun Y => At 20 [(0, .string x0), (6, .pointer (some ⟨b1, 0, none⟩))] (Wd w [iterE b1 x0 i3]) Y) _ _ _) ?_ _ _ hq2 K
    · clear K hF
      intro g ih i3 x hF K
      refine at_round ?_
      refine at_seq ?_
      refine at_region ?_
      rcases of_ite hF with ⟨h4, hF⟩ | ⟨h4, hF⟩
      · refine at_next (s := x0) (p := i3) .z rfl rfl h4 ?_
        refine at_val rfl rfl rfl (r_extract rfl rfl) ?_
        refine at_nil ?_
        refine at_weak [(0, _), (6, _), (7, _), (8, _)] ⟨rfl, rfl, rfl, rfl, trivial⟩ ?_
        refine at_then_normal ?_
        refine at_seq ?_
        refine at_cond_true rfl rfl ?_
        refine at_skip ?_
        refine at_then_normal ?_
        refine at_block ?_
        refine at_seq ?_
        refine at_region ?_
        refine at_val rfl rfl rfl (r_extract rfl rfl) ?_
        refine at_val rfl rfl rfl (r_extract rfl rfl) ?_
        refine at_val rfl rfl rfl (r_assign rfl) ?_
        refine at_val rfl rfl rfl (r_assign rfl) ?_
        refine at_nil ?_
        refine at_weak [(0, _), (3, _), (4, _), (6, _)] ⟨rfl, rfl, rfl, rfl, trivial⟩ ?_
        refine at_then_normal ?_
        refine at_seq ?_
        refine at_region ?_
        refine at_val rfl rfl rfl (r_move rfl) ?_
        refine at_val rfl rfl rfl (r_ilss rfl rfl) ?_
        refine at_val rfl rfl rfl (r_move rfl) ?_
        rcases of_ite hF with ⟨h5, hF⟩ | ⟨h5, hF⟩
        · refine at_fix (g := 13) rfl h5 ?_
          refine at_guard_no rfl rfl rfl rfl rfl ?_
          refine at_guard_no rfl rfl rfl rfl rfl ?_
          refine at_val rfl rfl rfl (r_pick rfl rfl rfl) ?_
          refine at_nil ?_
          refine at_weak [(0, _), (3, _), (6, _), (16, _)] ⟨rfl, rfl, rfl, rfl, trivial⟩ ?_
          refine at_then_normal ?_
          refine at_cond_true rfl rfl ?_
          refine at_seq ?_
          refine at_region ?_
          refine at_val rfl rfl rfl (r_move rfl) ?_
          refine at_val rfl rfl rfl (r_assign rfl) ?_
          refine at_nil ?_
          refine at_drop (H := _) .z ?_
          refine at_weak [(2, _)] ⟨rfl, trivial⟩ ?_
          refine at_then_normal ?_
          refine at_ret ?_
          refine at_blk_ret (at_then_ret (at_blk_ret (at_then_ret ?_)))
          obtain rfl := of_some hF
          subst K
          exact at_return1 rfl rfl (fun w1 hw => ⟨rfl, hw.below⟩)
        · refine at_fix (g := 13) rfl h5 ?_
          refine at_guard_yes rfl rfl rfl ?_
          refine at_val rfl rfl rfl (r_move rfl) ?_
          refine at_guard_yes rfl rfl rfl ?_
          refine at_val rfl rfl rfl (r_igtr rfl rfl) ?_
          refine at_val rfl rfl rfl (r_pick rfl rfl rfl) ?_
          refine at_nil ?_
          refine at_weak [(0, _), (3, _), (6, _), (16, _)] ⟨rfl, rfl, rfl, rfl, trivial⟩ ?_
          refine at_then_normal ?_
          rcases of_ite hF with ⟨h6, hF⟩ | ⟨h6, hF⟩
          · refine at_cond_true rfl h6 ?_
            refine at_seq ?_
            refine at_region ?_
            refine at_val rfl rfl rfl (r_move rfl) ?_
            refine at_val rfl rfl rfl (r_assign rfl) ?_
            refine at_nil ?_
            refine at_drop (H := _) .z ?_
            refine at_weak [(2, _)] ⟨rfl, trivial⟩ ?_
            refine at_then_normal ?_
            refine at_ret ?_
            refine at_blk_ret (at_then_ret (at_blk_ret (at_then_ret ?_)))
            obtain rfl := of_some hF
            subst K
            exact at_return1 rfl rfl (fun w1 hw => ⟨rfl, hw.below⟩)
          · refine at_cond_false rfl h6 ?_
            refine at_skip ?_
            refine at_blk_normal (at_then_normal ?_)
            exact at_weak_k (ih _ _ hF K) ⟨rfl, rfl, trivial⟩
      · refine at_over (s := x0) (p := i3) .z rfl rfl h4 ?_
        refine at_val rfl rfl rfl (r_extract rfl rfl) ?_
        refine at_nil ?_
        refine at_weak [(0, _), (6, _), (7, _), (8, _)] ⟨rfl, rfl, rfl, rfl, trivial⟩ ?_
        refine at_then_normal ?_
        refine at_seq ?_
        refine at_cond_false rfl rfl ?_
        refine at_exit ?_
        refine at_then_exit (at_then_exit ?_)
        refine at_drop (H := _) .z ?_
        obtain rfl := of_some hF
        exact at_weak_k K ⟨rfl, trivial⟩
  · cases q2 with
    | ret r' => exact of_some hF
    | nx sq2 =>
      skip
      refine at_blk_same ?_
      refine at_then_normal ?_
      refine at_seq ?_
      refine at_region ?_
      refine at_val rfl rfl rfl (r_move rfl) ?_
      refine at_val rfl rfl rfl (r_len_str Tryz.underlying9 rfl) ?_
      refine at_val rfl rfl rfl (r_assign rfl) ?_
      refine at_nil ?_
      refine at_weak [(2, _)] ⟨rfl, trivial⟩ ?_
      refine at_then_normal ?_
      refine at_ret ?_
      have K := of_some hF
      subst K
      exact at_return1 rfl rfl (fun w1 hw => ⟨rfl, hw.below⟩)

def decimal_Read (x0 : ByteArray) (x1 : Int) : Option (Int × Int) :=
  if (seq x0 (⟨#[]⟩ : ByteArray)) = true then (some (0, 5)) else (decimal_Prefix x0 >>= fun t2 => if (decide (t2 < (x0.size : Int))) = true then (some (0, 5)) else (if (decide ((x0.size : Int) > 1)) = true then (if (0 : Int) ≤ 0 ∧ 0 < (x0.size : Int) then if (bt x0 0 == 48) = true then (some (0, 5)) else (if x0.size ≤ 281474976710656 then if (!!((parU x0).2)) = true then (some (0, 6)) else (if (decide ((parU x0).1 > x1)) = true then (some (0, 6)) else (some ((parU x0).1, 0))) else none) else none) else (if x0.size ≤ 281474976710656 then if (!!((parU x0).2)) = true then (some (0, 6)) else (if (decide ((parU x0).1 > x1)) = true then (some (0, 6)) else (some ((parU x0).1, 0))) else none)))
theorem decimal_Read_ok (x0 : ByteArray) (x1 : Int) (r : Int × Int) (hF : decimal_Read x0 x1 = some r) (w : World) (hg_strconv_ErrRange : GV_strconv_ErrRange w) (hg_strconv_ErrSyntax : GV_strconv_ErrSyntax w) :
    Calls Tryz.prog 111 #[.string x0, .int .u64 x1] w (fun e w' => e = .returned (.tuple #[.int .u64 r.1, .int .i64 r.2]) ∧ Below w.heap.size w w') := by
  unfold decimal_Read at hF
  refine calls_enter (l := [.string x0, .int .u64 x1]) Tryz.func111 rfl rfl rfl ?_
  refine at_start ?_
  refine at_weak [(0, _), (1, _)] ⟨rfl, rfl, trivial⟩ ?_
  refine at_seq ?_
  refine at_region ?_
  refine at_val rfl rfl rfl (r_assign rfl) ?_
  refine at_val rfl rfl rfl (r_assign rfl) ?_
  refine at_nil ?_
  refine at_weak [(0, _), (1, _)] ⟨rfl, rfl, trivial⟩ ?_
  refine at_then_normal ?_
  refine at_seq ?_
  refine at_seq ?_
  refine at_region ?_
  refine at_val rfl rfl rfl (r_move rfl) ?_
  refine at_val rfl rfl rfl (r_seql rfl rfl) ?_
  refine at_val rfl rfl rfl (r_move rfl) ?_
  rcases of_ite hF with ⟨h1, hF⟩ | ⟨h1, hF⟩
  · refine at_fix (g := 10) rfl h1 ?_
    refine at_guard_no rfl rfl rfl rfl rfl ?_
    refine at_guard_no rfl rfl rfl rfl rfl ?_
    refine at_guard_no rfl rfl rfl rfl rfl ?_
    refine at_guard_no rfl rfl rfl rfl rfl ?_
    refine at_guard_no rfl rfl rfl rfl rfl ?_
    refine at_val rfl rfl rfl (r_pick rfl rfl rfl) ?_
    refine at_val rfl rfl rfl (r_move rfl) ?_
    refine at_guard_no rfl rfl rfl rfl rfl ?_
    refine at_guard_no rfl rfl rfl rfl rfl ?_
    refine at_guard_no rfl rfl rfl rfl rfl ?_
    refine at_guard_no rfl rfl rfl rfl rfl ?_
    refine at_guard_undef rfl rfl rfl rfl ?_
    refine at_guard_undef rfl rfl rfl rfl ?_
    refine at_guard_undef rfl rfl rfl rfl ?_
    refine at_guard_no rfl rfl rfl rfl rfl ?_
    refine at_val rfl rfl rfl (r_pick rfl rfl rfl) ?_
    refine at_nil ?_
    refine at_weak [(0, _), (1, _), (26, _)] ⟨rfl, rfl, rfl, trivial⟩ ?_
    refine at_then_normal ?_
    refine at_cond_true rfl rfl ?_
    refine at_seq ?_
    refine at_region ?_
    refine at_val rfl rfl rfl (r_assign rfl) ?_
    refine at_val rfl rfl rfl (r_assign rfl) ?_
    refine at_nil ?_
    refine at_weak [(4, _), (5, _)] ⟨rfl, rfl, trivial⟩ ?_
    refine at_then_normal ?_
    refine at_ret ?_
    refine at_then_ret ?_
    have K := of_some hF
    subst K
    exact at_return2 rfl rfl rfl (fun w1 hw => ⟨rfl, hw.below⟩)
  · refine at_fix (g := 10) rfl h1 ?_
    refine at_guard_yes rfl rfl rfl ?_
    refine at_val rfl rfl rfl (r_move rfl) ?_
    refine at_guard_yes rfl rfl rfl ?_
    obtain ⟨t2, ht2, hF⟩ := of_bindM hF
    refine at_callB Tryz.func161 rfl (by kernel_rfl) rfl rfl (fun w hw => decimal_Prefix_ok _ _ ht2 w) ?_
    refine at_guard_yes rfl rfl rfl ?_
    refine at_val rfl rfl rfl (r_move rfl) ?_
    refine at_guard_yes rfl rfl rfl ?_
    refine at_val rfl rfl rfl (r_len_str Tryz.underlying9 rfl) ?_
    refine at_guard_yes rfl rfl rfl ?_
    refine at_val rfl rfl rfl (r_ilss rfl rfl) ?_
    refine at_val rfl rfl rfl (r_pick rfl rfl rfl) ?_
    refine at_val rfl rfl rfl (r_move rfl) ?_
    rcases of_ite hF with ⟨h3, hF⟩ | ⟨h3, hF⟩
    · refine at_fix (g := 17) rfl h3 ?_
      refine at_guard_no rfl rfl rfl rfl rfl ?_
      refine at_guard_no rfl rfl rfl rfl rfl ?_
      refine at_guard_no rfl rfl rfl rfl rfl ?_
      refine at_guard_no rfl rfl rfl rfl rfl ?_
      refine at_guard_undef rfl rfl rfl rfl ?_
      refine at_guard_undef rfl rfl rfl rfl ?_
      refine at_guard_undef rfl rfl rfl rfl ?_
      refine at_guard_no rfl rfl rfl rfl rfl ?_
      refine at_val rfl rfl rfl (r_pick rfl rfl rfl) ?_
      refine at_nil ?_
      refine at_weak [(0, _), (1, _), (26, _)] ⟨rfl, rfl, rfl, trivial⟩ ?_
      refine at_then_normal ?_
      refine at_cond_true rfl rfl ?_
      refine at_seq ?_
      refine at_region ?_
      refine at_val rfl rfl rfl (r_assign rfl) ?_
      refine at_val rfl rfl rfl (r_assign rfl) ?_
      refine at_nil ?_
      refine at_weak [(4, _), (5, _)] ⟨rfl, rfl, trivial⟩ ?_
      refine at_then_normal ?_
      refine at_ret ?_
      refine at_then_ret ?_
      have K := of_some hF
      subst K
      exact at_return2 rfl rfl rfl (fun w1 hw => ⟨rfl, hw.below⟩)
    · refine at_fix (g := 17) rfl h3 ?_
      refine at_guard_yes rfl rfl rfl ?_
      refine at_val rfl rfl rfl (r_move rfl) ?_
      refine at_guard_yes rfl rfl rfl ?_
      refine at_val rfl rfl rfl (r_len_str Tryz.underlying9 rfl) ?_
      refine at_guard_yes rfl rfl rfl ?_
      refine at_val rfl rfl rfl (r_igtr rfl rfl) ?_
      refine at_guard_yes rfl rfl rfl ?_
      refine at_val rfl rfl rfl (r_move rfl) ?_
      rcases of_ite hF with ⟨h4, hF⟩ | ⟨h4, hF⟩
      · refine at_fix (g := 21) rfl h4 ?_
        refine at_guard_yes rfl rfl rfl ?_
        refine at_val rfl rfl rfl (r_move rfl) ?_
        refine at_guard_yes rfl rfl rfl ?_
        obtain ⟨h5, hF⟩ := of_guard hF
        refine at_val rfl rfl rfl (r_index_str Tryz.underlying9 rfl rfl h5) ?_
        refine at_guard_yes rfl rfl rfl ?_
        refine at_val rfl rfl rfl (r_ieql rfl rfl) ?_
        refine at_guard_yes rfl rfl rfl ?_
        refine at_val rfl rfl rfl (r_pick rfl rfl rfl) ?_
        refine at_val rfl rfl rfl (r_pick rfl rfl rfl) ?_
        refine at_nil ?_
        refine at_weak [(0, _), (1, _), (26, _)] ⟨rfl, rfl, rfl, trivial⟩ ?_
        refine at_then_normal ?_
        rcases of_ite hF with ⟨h6, hF⟩ | ⟨h6, hF⟩
        · refine at_cond_true rfl h6 ?_
          refine at_seq ?_
          refine at_region ?_
          refine at_val rfl rfl rfl (r_assign rfl) ?_
          refine at_val rfl rfl rfl (r_assign rfl) ?_
          refine at_nil ?_
          refine at_weak [(4, _), (5, _)] ⟨rfl, rfl, trivial⟩ ?_
          refine at_then_normal ?_
          refine at_ret ?_
          refine at_then_ret ?_
          have K := of_some hF
          subst K
          exact at_return2 rfl rfl rfl (fun w1 hw => ⟨rfl, hw.below⟩)
        · refine at_cond_false rfl h6 ?_
          refine at_skip ?_
          refine at_then_normal ?_
          refine at_seq ?_
          refine at_region ?_
          refine at_val rfl rfl rfl (r_move rfl) ?_
          obtain ⟨h7, hF⟩ := of_guard hF
          refine at_callE Tryz.func162 rfl (by kernel_rfl) rfl rfl (fun w1 hw => parseUint_ok _ h7 w1 (hg_strconv_ErrRange.on hw.below) (hg_strconv_ErrSyntax.on hw.below)) ?_
          intro u8 hu9
          refine at_val rfl rfl rfl (r_move rfl) ?_
          refine at_val rfl rfl rfl (r_extract rfl rfl) ?_
          refine at_val rfl rfl rfl (r_extract rfl rfl) ?_
          refine at_val rfl rfl rfl (r_assign rfl) ?_
          refine at_val rfl rfl rfl (r_assign rfl) ?_
          refine at_nil ?_
          refine at_weak [(1, _), (6, _), (7, _)] ⟨rfl, rfl, rfl, trivial⟩ ?_
          refine at_then_normal ?_
          refine at_seq ?_
          refine at_seq ?_
          refine at_region ?_
          refine at_val rfl rfl rfl (r_move rfl) ?_
          refine at_val rfl rfl rfl (r_err Tryz.underlying140 rfl hu9 (.inr rfl) rfl) ?_
          refine at_val rfl rfl rfl (r_move rfl) ?_
          rcases of_ite hF with ⟨h10, hF⟩ | ⟨h10, hF⟩
          · refine at_fix (g := 34) rfl h10 ?_
            refine at_guard_no rfl rfl rfl rfl rfl ?_
            refine at_guard_no rfl rfl rfl rfl rfl ?_
            refine at_guard_no rfl rfl rfl rfl rfl ?_
            refine at_val rfl rfl rfl (r_pick rfl rfl rfl) ?_
            refine at_nil ?_
            refine at_weak [(6, _), (38, _)] ⟨rfl, rfl, trivial⟩ ?_
            refine at_then_normal ?_
            refine at_cond_true rfl rfl ?_
            refine at_seq ?_
            refine at_region ?_
            refine at_val rfl rfl rfl (r_assign rfl) ?_
            refine at_val rfl rfl rfl (r_assign rfl) ?_
            refine at_nil ?_
            refine at_weak [(4, _), (5, _)] ⟨rfl, rfl, trivial⟩ ?_
            refine at_then_normal ?_
            refine at_ret ?_
            refine at_then_ret ?_
            have K := of_some hF
            subst K
            exact at_return2 rfl rfl rfl (fun w1 hw => ⟨rfl, hw.below⟩)
          · refine at_fix (g := 34) rfl h10 ?_
            refine at_guard_yes rfl rfl rfl ?_
            refine at_val rfl rfl rfl (r_move rfl) ?_
            refine at_guard_yes rfl rfl rfl ?_
            refine at_val rfl rfl rfl (r_move rfl) ?_
            refine at_guard_yes rfl rfl rfl ?_
            refine at_val rfl rfl rfl (r_igtr rfl rfl) ?_
            refine at_val rfl rfl rfl (r_pick rfl rfl rfl) ?_
            refine at_nil ?_
            refine at_weak [(6, _), (38, _)] ⟨rfl, rfl, trivial⟩ ?_
            refine at_then_normal ?_
            rcases of_ite hF with ⟨h11, hF⟩ | ⟨h11, hF⟩
            · refine at_cond_true rfl h11 ?_
              refine at_seq ?_
              refine at_region ?_
              refine at_val rfl rfl rfl (r_assign rfl) ?_
              refine at_val rfl rfl rfl (r_assign rfl) ?_
              refine at_nil ?_
              refine at_weak [(4, _), (5, _)] ⟨rfl, rfl, trivial⟩ ?_
              refine at_then_normal ?_
              refine at_ret ?_
              refine at_then_ret ?_
              have K := of_some hF
              subst K
              exact at_return2 rfl rfl rfl (fun w1 hw => ⟨rfl, hw.below⟩)
            · refine at_cond_false rfl h11 ?_
              refine at_skip ?_
              refine at_then_normal ?_
              refine at_seq ?_
              refine at_region ?_
              refine at_val rfl rfl rfl (r_move rfl) ?_
              refine at_val rfl rfl rfl (r_assign rfl) ?_
              refine at_val rfl rfl rfl (r_assign rfl) ?_
              refine at_nil ?_
              refine at_weak [(4, _), (5, _)] ⟨rfl, rfl, trivial⟩ ?_
              refine at_then_normal ?_
              refine at_ret ?_
              have K := of_some hF
              subst K
              exact at_return2 rfl rfl rfl (fun w1 hw => ⟨rfl, hw.below⟩)
      · refine at_fix (g := 21) rfl h4 ?_
        refine at_guard_no rfl rfl rfl rfl rfl ?_
        refine at_guard_no rfl rfl rfl rfl rfl ?_
        refine at_guard_no rfl rfl rfl rfl rfl ?_
        refine at_guard_yes rfl rfl rfl ?_
        refine at_val rfl rfl rfl (r_pick rfl rfl rfl) ?_
        refine at_val rfl rfl rfl (r_pick rfl rfl rfl) ?_
        refine at_nil ?_
        refine at_weak [(0, _), (1, _), (26, _)] ⟨rfl, rfl, rfl, trivial⟩ ?_
        refine at_then_normal ?_
        refine at_cond_false rfl rfl ?_
        refine at_skip ?_
        refine at_then_normal ?_
        refine at_seq ?_
        refine at_region ?_
        refine at_val rfl rfl rfl (r_move rfl) ?_
        obtain ⟨h12, hF⟩ := of_guard hF
        refine at_callE Tryz.func162 rfl (by kernel_rfl) rfl rfl (fun w1 hw => parseUint_ok _ h12 w1 (hg_strconv_ErrRange.on hw.below) (hg_strconv_ErrSyntax.on hw.below)) ?_
        intro u13 hu14
        refine at_val rfl rfl rfl (r_move rfl) ?_
        refine at_val rfl rfl rfl (r_extract rfl rfl) ?_
        refine at_val rfl rfl rfl (r_extract rfl rfl) ?_
        refine at_val rfl rfl rfl (r_assign rfl) ?_
        refine at_val rfl rfl rfl (r_assign rfl) ?_
        refine at_nil ?_
        refine at_weak [(1, _), (6, _), (7, _)] ⟨rfl, rfl, rfl, trivial⟩ ?_
        refine at_then_normal ?_
        refine at_seq ?_
        refine at_seq ?_
        refine at_region ?_
        refine at_val rfl rfl rfl (r_move rfl) ?_
        refine at_val rfl rfl rfl (r_err Tryz.underlying140 rfl hu14 (.inr rfl) rfl) ?_
        refine at_val rfl rfl rfl (r_move rfl) ?_
        rcases of_ite hF with ⟨h15, hF⟩ | ⟨h15, hF⟩
        · refine at_fix (g := 34) rfl h15 ?_
          refine at_guard_no rfl rfl rfl rfl rfl ?_
          refine at_guard_no rfl rfl rfl rfl rfl ?_
          refine at_guard_no rfl rfl rfl rfl rfl ?_
          refine at_val rfl rfl rfl (r_pick rfl rfl rfl) ?_
          refine at_nil ?_
          refine at_weak [(6, _), (38, _)] ⟨rfl, rfl, trivial⟩ ?_
          refine at_then_normal ?_
          refine at_cond_true rfl rfl ?_
          refine at_seq ?_
          refine at_region ?_
          refine at_val rfl rfl rfl (r_assign rfl) ?_
          refine at_val rfl rfl rfl (r_assign rfl) ?_
          refine at_nil ?_
          refine at_weak [(4, _), (5, _)] ⟨rfl, rfl, trivial⟩ ?_
          refine at_then_normal ?_
          refine at_ret ?_
          refine at_then_ret ?_
          have K := of_some hF
          subst K
          exact at_return2 rfl rfl rfl (fun w1 hw => ⟨rfl, hw.below⟩)
        · refine at_fix (g := 34) rfl h15 ?_
          refine at_guard_yes rfl rfl rfl ?_
          refine at_val rfl rfl rfl (r_move rfl) ?_
          refine at_guard_yes rfl rfl rfl ?_
          refine at_val rfl rfl rfl (r_move rfl) ?_
          refine at_guard_yes rfl rfl rfl ?_
          refine at_val rfl rfl rfl (r_igtr rfl rfl) ?_
          refine at_val rfl rfl rfl (r_pick rfl rfl rfl) ?_
          refine at_nil ?_
          refine at_weak [(6, _), (38, _)] ⟨rfl, rfl, trivial⟩ ?_
          refine at_then_normal ?_
          rcases of_ite hF with ⟨h16, hF⟩ | ⟨h16, hF⟩
          · refine at_cond_true rfl h16 ?_
            refine at_seq ?_
            refine at_region ?_
            refine at_val rfl rfl rfl (r_assign rfl) ?_
            refine at_val rfl rfl rfl (r_assign rfl) ?_
            refine at_nil ?_
            refine at_weak [(4, _), (5, _)] ⟨rfl, rfl, trivial⟩ ?_
            refine at_then_normal ?_
            refine at_ret ?_
            refine at_then_ret ?_
            have K := of_some hF
            subst K
            exact at_return2 rfl rfl rfl (fun w1 hw => ⟨rfl, hw.below⟩)
          · refine at_cond_false rfl h16 ?_
            refine at_skip ?_
            refine at_then_normal ?_
            refine at_seq ?_
            refine at_region ?_
            refine at_val rfl rfl rfl (r_move rfl) ?_
            refine at_val rfl rfl rfl (r_assign rfl) ?_
            refine at_val rfl rfl rfl (r_assign rfl) ?_
            refine at_nil ?_
            refine at_weak [(4, _), (5, _)] ⟨rfl, rfl, trivial⟩ ?_
            refine at_then_normal ?_
            refine at_ret ?_
            have K := of_some hF
            subst K
            exact at_return2 rfl rfl rfl (fun w1 hw => ⟨rfl, hw.below⟩)

def crawlwayref03_Read.l0 (x0 : ByteArray) (x1 : Int) (i8 : Int) (i9 : Int) : Option (Ctl (Int × Int) (Int)) :=
  if (decide (i9 < (x0.size : Int))) = true then (if (0 : Int) ≤ i9 ∧ i9 < (x0.size : Int) then if (decide (i8 > wr .u64 (Int.tdiv x1 10))) = true then (some (.ret (0, 6))) else (if (decide (wr .u64 (10 * i8) > wr .u64 (x1 - (if x1 < wr .u64 ((wr .u64 (bt x0 i9)) - 48) then x1 else wr .u64 ((wr .u64 (bt x0 i9)) - 48))))) = true then (some (.ret (0, 6))) else (if (decide (wr .u64 ((wr .u64 (bt x0 i9)) - 48) > x1)) = true then (some (.ret (0, 6))) else (crawlwayref03_Read.l0 x0 x1 (wr .u64 ((wr .u64 (10 * i8)) + (wr .u64 ((wr .u64 (bt x0 i9)) - 48)))) (wr .i64 (i9 + 1))))) else none) else (some (.nx i8))
  partial_fixpoint
def crawlwayref03_Read.l1 (x0 : ByteArray) (x1 : Int) (i16 : Int) (i17 : Int) : Option (Ctl (Int × Int) (Int)) :=
  if (decide (i17 < (x0.size : Int))) = true then (if (0 : Int) ≤ i17 ∧ i17 < (x0.size : Int) then if (decide (i16 > wr .u64 (Int.tdiv x1 10))) = true then (some (.ret (0, 6))) else (if (decide (wr .u64 (10 * i16) > wr .u64 (x1 - (if x1 < wr .u64 ((wr .u64 (bt x0 i17)) - 48) then x1 else wr .u64 ((wr .u64 (bt x0 i17)) - 48))))) = true then (some (.ret (0, 6))) else (if (decide (wr .u64 ((wr .u64 (bt x0 i17)) - 48) > x1)) = true then (some (.ret (0, 6))) else (crawlwayref03_Read.l1 x0 x1 (wr .u64 ((wr .u64 (10 * i16)) + (wr .u64 ((wr .u64 (bt x0 i17)) - 48)))) (wr .i64 (i17 + 1))))) else none) else (some (.nx i16))
  partial_fixpoint
def crawlwayref03_Read (x0 : ByteArray) (x1 : Int) : Option (Int × Int) :=
  if ((x0.size : Int) == 0) = true then (some (0, 5)) else (crawlwayref03_Prefix x0 >>= fun t2 => if (decide (t2 < (x0.size : Int))) = true then (some (0, 5)) else (if (decide ((x0.size : Int) > 1)) = true then (if (0 : Int) ≤ 0 ∧ 0 < (x0.size : Int) then if (bt x0 0 == 48) = true then (some (0, 5)) else (crawlwayref03_Read.l0 x0 x1 0 0 >>= fun q7 => match q7 with | .ret r' => some r' | .nx sq7 => (some (sq7, 0))) else none) else (crawlwayref03_Read.l1 x0 x1 0 0 >>= fun q15 => match q15 with | .ret r' => some r' | .nx sq15 => (some (sq15, 0)))))
theorem crawlwayref03_Read_ok (x0 : ByteArray) (x1 : Int) (r : Int × Int) (hF : crawlwayref03_Read x0 x1 = some r) (w : World) :
    Calls Tryz.prog 43 #[.string x0, .int .u64 x1] w (fun e w' => e = .returned (.tuple #[.int .u64 r.1, .int .i64 r.2]) ∧ w' = w) := by
  unfold crawlwayref03_Read at hF
  refine calls_enter (l := [.string x0, .int .u64 x1]) Tryz.func43 rfl rfl rfl ?_
  refine at_weak [(0, _), (1, _)] ⟨rfl, rfl, trivial⟩ ?_
  refine at_seq ?_
  refine at_region ?_
  refine at_val rfl rfl rfl (r_assign rfl) ?_
  refine at_val rfl rfl rfl (r_assign rfl) ?_
  refine at_nil ?_
  refine at_weak [(0, _), (1, _)] ⟨rfl, rfl, trivial⟩ ?_
  refine at_then_normal ?_
  refine at_seq ?_
  refine at_seq ?_
  refine at_region ?_
  refine at_val rfl rfl rfl (r_move rfl) ?_
  refine at_val rfl rfl rfl (r_len_str Tryz.underlying9 rfl) ?_
  refine at_val rfl rfl rfl (r_ieql rfl rfl) ?_
  refine at_val rfl rfl rfl (r_move rfl) ?_
  rcases of_ite hF with ⟨h1, hF⟩ | ⟨h1, hF⟩
  · refine at_fix (g := 12) rfl h1 ?_
    refine at_guard_no rfl rfl rfl rfl rfl ?_
    refine at_guard_no rfl rfl rfl rfl rfl ?_
    refine at_guard_no rfl rfl rfl rfl rfl ?_
    refine at_guard_no rfl rfl rfl rfl rfl ?_
    refine at_guard_no rfl rfl rfl rfl rfl ?_
    refine at_val rfl rfl rfl (r_pick rfl rfl rfl) ?_
    refine at_val rfl rfl rfl (r_move rfl) ?_
    refine at_guard_no rfl rfl rfl rfl rfl ?_
    refine at_guard_no rfl rfl rfl rfl rfl ?_
    refine at_guard_no rfl rfl rfl rfl rfl ?_
    refine at_guard_no rfl rfl rfl rfl rfl ?_
    refine at_guard_undef rfl rfl rfl rfl ?_
    refine at_guard_undef rfl rfl rfl rfl ?_
    refine at_guard_undef rfl rfl rfl rfl ?_
    refine at_guard_no rfl rfl rfl rfl rfl ?_
    refine at_val rfl rfl rfl (r_pick rfl rfl rfl) ?_
    refine at_nil ?_
    refine at_weak [(0, _), (1, _), (28, _)] ⟨rfl, rfl, rfl, trivial⟩ ?_
    refine at_then_normal ?_
    refine at_cond_true rfl rfl ?_
    refine at_seq ?_
    refine at_region ?_
    refine at_val rfl rfl rfl (r_assign rfl) ?_
    refine at_val rfl rfl rfl (r_assign rfl) ?_
    refine at_nil ?_
    refine at_weak [(4, _), (5, _)] ⟨rfl, rfl, trivial⟩ ?_
    refine at_then_normal ?_
    refine at_ret ?_
    refine at_then_ret ?_
    have K := of_some hF
    subst K
    exact at_return2 rfl rfl rfl (fun w1 hw => ⟨rfl, hw⟩)
  · refine at_fix (g := 12) rfl h1 ?_
    refine at_guard_yes rfl rfl rfl ?_
    refine at_val rfl rfl rfl (r_move rfl) ?_
    refine at_guard_yes rfl rfl rfl ?_
    obtain ⟨t2, ht2, hF⟩ := of_bindM hF
    refine at_call0 Tryz.func73 rfl (by kernel_rfl) rfl rfl (fun w => crawlwayref03_Prefix_ok _ _ ht2 w) ?_
    refine at_guard_yes rfl rfl rfl ?_
    refine at_val rfl rfl rfl (r_move rfl) ?_
    refine at_guard_yes rfl rfl rfl ?_
    refine at_val rfl rfl rfl (r_len_str Tryz.underlying9 rfl) ?_
    refine at_guard_yes rfl rfl rfl ?_
    refine at_val rfl rfl rfl (r_ilss rfl rfl) ?_
    refine at_val rfl rfl rfl (r_pick rfl rfl rfl) ?_
    refine at_val rfl rfl rfl (r_move rfl) ?_
    rcases of_ite hF with ⟨h3, hF⟩ | ⟨h3, hF⟩
    · refine at_fix (g := 19) rfl h3 ?_
      refine at_guard_no rfl rfl rfl rfl rfl ?_
      refine at_guard_no rfl rfl rfl rfl rfl ?_
      refine at_guard_no rfl rfl rfl rfl rfl ?_
      refine at_guard_no rfl rfl rfl rfl rfl ?_
      refine at_guard_undef rfl rfl rfl rfl ?_
      refine at_guard_undef rfl rfl rfl rfl ?_
      refine at_guard_undef rfl rfl rfl rfl ?_
      refine at_guard_no rfl rfl rfl rfl rfl ?_
      refine at_val rfl rfl rfl (r_pick rfl rfl rfl) ?_
      refine at_nil ?_
      refine at_weak [(0, _), (1, _), (28, _)] ⟨rfl, rfl, rfl, trivial⟩ ?_
      refine at_then_normal ?_
      refine at_cond_true rfl rfl ?_
      refine at_seq ?_
      refine at_region ?_
      refine at_val rfl rfl rfl (r_assign rfl) ?_
      refine at_val rfl rfl rfl (r_assign rfl) ?_
      refine at_nil ?_
      refine at_weak [(4, _), (5, _)] ⟨rfl, rfl, trivial⟩ ?_
      refine at_then_normal ?_
      refine at_ret ?_
      refine at_then_ret ?_
      have K := of_some hF
      subst K
      exact at_return2 rfl rfl rfl (fun w1 hw => ⟨rfl, hw⟩)
    · refine at_fix (g := 19) rfl h3 ?_
      refine at_guard_yes rfl rfl rfl ?_
      refine at_val rfl rfl rfl (r_move rfl) ?_
      refine at_guard_yes rfl rfl rfl ?_
      refine at_val rfl rfl rfl (r_len_str Tryz.underlying9 rfl) ?_
      refine at_guard_yes rfl rfl rfl ?_
      refine at_val rfl rfl rfl (r_igtr rfl rfl) ?_
      refine at_guard_yes rfl rfl rfl ?_
      refine at_val rfl rfl rfl (r_move rfl) ?_
      rcases of_ite hF with ⟨h4, hF⟩ | ⟨h4, hF⟩
      · refine at_fix (g := 23) rfl h4 ?_
        refine at_guard_yes rfl rfl rfl ?_
        refine at_val rfl rfl rfl (r_move rfl) ?_
        refine at_guard_yes rfl rfl rfl ?_
        obtain ⟨h5, hF⟩ := of_guard hF
        refine at_val rfl rfl rfl (r_index_str Tryz.underlying9 rfl rfl h5) ?_
        refine at_guard_yes rfl rfl rfl ?_
        refine at_val rfl rfl rfl (r_ieql rfl rfl) ?_
        refine at_guard_yes rfl rfl rfl ?_
        refine at_val rfl rfl rfl (r_pick rfl rfl rfl) ?_
        refine at_val rfl rfl rfl (r_pick rfl rfl rfl) ?_
        refine at_nil ?_
        refine at_weak [(0, _), (1, _), (28, _)] ⟨rfl, rfl, rfl, trivial⟩ ?_
        refine at_then_normal ?_
        rcases of_ite hF with ⟨h6, hF⟩ | ⟨h6, hF⟩
        · refine at_cond_true rfl h6 ?_
          refine at_seq ?_
          refine at_region ?_
          refine at_val rfl rfl rfl (r_assign rfl) ?_
          refine at_val rfl rfl rfl (r_assign rfl) ?_
          refine at_nil ?_
          refine at_weak [(4, _), (5, _)] ⟨rfl, rfl, trivial⟩ ?_
          refine at_then_normal ?_
          refine at_ret ?_
          refine at_then_ret ?_
          have K := of_some hF
          subst K
          exact at_return2 rfl rfl rfl (fun w1 hw => ⟨rfl, hw⟩)
        · refine at_cond_false rfl h6 ?_
          refine at_skip ?_
          refine at_then_normal ?_
          refine at_seq ?_
          refine at_region ?_
          refine at_val rfl rfl rfl (r_assign rfl) ?_
          refine at_nil ?_
          refine at_weak [(0, _), (1, _), (6, _)] ⟨rfl, rfl, rfl, trivial⟩ ?_
          refine at_then_normal ?_
          refine at_seq ?_
          refine at_seq ?_
          refine at_region ?_
          refine at_val rfl rfl rfl (r_assign rfl) ?_
          refine at_nil ?_
          refine at_weak [(0, _), (1, _), (6, _), (7, _)] ⟨rfl, rfl, rfl, rfl, trivial⟩ ?_
          refine at_then_normal ?_
          refine at_block ?_
          obtain ⟨q7, hq7, hF⟩ := of_bindM hF
          refine at_weak [(0, _), (1, _), (6, _), (7, _)] ⟨rfl, rfl, rfl, rfl, trivial⟩ ?_
          refine at_loop_r (B := 0) (r := r) (q := q7) (A := fun sq7 Y => At 64 [(6, .int .u64 sq7)] (fun w' => w' = w) Y) ?_ ?_
          · intro K
            refine crawlwayref03_Read.l0.partial_correctness x0 x1 (motive := fun i8 i9 x => KR (fun sq7 Y => At 64 [(6, .int .u64 sq7)] (fun w' => w' = w) Y) _ 0 r x → Round (fun Y => At 64 [(0, .string x0), (1, .int .u64 x1), (6, .int .u64 i8), (7, .int .i64 i9)] (fun w' => w' = w) Y) _ _ _) ?_ _ _ _ hq7 K
            · clear K hF
              intro g ih i8 i9 x hF K
              refine at_round ?_
              refine at_seq ?_
              refine at_seq ?_
              refine at_region ?_
              refine at_val rfl rfl rfl (r_move rfl) ?_
              refine at_val rfl rfl rfl (r_move rfl) ?_
              refine at_val rfl rfl rfl (r_len_str Tryz.underlying9 rfl) ?_
              refine at_val rfl rfl rfl (r_ilss rfl rfl) ?_
              refine at_nil ?_
              refine at_weak [(0, _), (1, _), (6, _), (7, _), (32, _)] ⟨rfl, rfl, rfl, rfl, rfl, trivial⟩ ?_
              refine at_then_normal ?_
              rcases of_ite hF with ⟨h10, hF⟩ | ⟨h10, hF⟩
              · refine at_cond_true rfl h10 ?_
                refine at_skip ?_
                refine at_then_normal ?_
                refine at_seq ?_
                refine at_block ?_
                refine at_seq ?_
                refine at_region ?_
                refine at_val rfl rfl rfl (r_move rfl) ?_
                refine at_val rfl rfl rfl (r_move rfl) ?_
                obtain ⟨h11, hF⟩ := of_guard hF
                refine at_val rfl rfl rfl (r_index_str Tryz.underlying9 rfl rfl h11) ?_
                refine at_val rfl rfl rfl (r_conv Tryz.underlying5 Tryz.underlying31 rfl) ?_
                refine at_val rfl rfl rfl (r_isub rfl rfl) ?_
                refine at_val rfl rfl rfl (r_assign rfl) ?_
                refine at_nil ?_
                refine at_weak [(0, _), (1, _), (6, _), (7, _), (8, _)] ⟨rfl, rfl, rfl, rfl, rfl, trivial⟩ ?_
                refine at_then_normal ?_
                refine at_seq ?_
                refine at_seq ?_
                refine at_region ?_
                refine at_val rfl rfl rfl (r_move rfl) ?_
                refine at_val rfl rfl rfl (r_move rfl) ?_
                refine at_val rfl rfl rfl (r_iquo rfl rfl (by decide)) ?_
                refine at_val rfl rfl rfl (r_igtr rfl rfl) ?_
                refine at_val rfl rfl rfl (r_move rfl) ?_
                rcases of_ite hF with ⟨h12, hF⟩ | ⟨h12, hF⟩
                · refine at_fix (g := 44) rfl h12 ?_
                  refine at_guard_no rfl rfl rfl rfl rfl ?_
                  refine at_guard_no rfl rfl rfl rfl rfl ?_
                  refine at_guard_no rfl rfl rfl rfl rfl ?_
                  refine at_guard_no rfl rfl rfl rfl rfl ?_
                  refine at_guard_no rfl rfl rfl rfl rfl ?_
                  refine at_guard_no rfl rfl rfl rfl rfl ?_
                  refine at_guard_no rfl rfl rfl rfl rfl ?_
                  refine at_guard_no rfl rfl rfl rfl rfl ?_
                  refine at_val rfl rfl rfl (r_pick rfl rfl rfl) ?_
                  refine at_val rfl rfl rfl (r_move rfl) ?_
                  refine at_guard_no rfl rfl rfl rfl rfl ?_
                  refine at_guard_no rfl rfl rfl rfl rfl ?_
                  refine at_guard_no rfl rfl rfl rfl rfl ?_
                  refine at_val rfl rfl rfl (r_pick rfl rfl rfl) ?_
                  refine at_nil ?_
                  refine at_weak [(0, _), (1, _), (6, _), (7, _), (8, _), (58, _)] ⟨rfl, rfl, rfl, rfl, rfl, rfl, trivial⟩ ?_
                  refine at_then_normal ?_
                  refine at_cond_true rfl rfl ?_
                  refine at_seq ?_
                  refine at_region ?_
                  refine at_val rfl rfl rfl (r_assign rfl) ?_
                  refine at_val rfl rfl rfl (r_assign rfl) ?_
                  refine at_nil ?_
                  refine at_weak [(4, _), (5, _)] ⟨rfl, rfl, trivial⟩ ?_
                  refine at_then_normal ?_
                  refine at_ret ?_
                  refine at_then_ret (at_blk_ret (at_then_ret (at_then_ret (at_blk_ret (at_then_ret ?_)))))
                  obtain rfl := of_some hF
                  subst K
                  exact at_return2 rfl rfl rfl (fun w1 hw => ⟨rfl, hw⟩)
                · refine at_fix (g := 44) rfl h12 ?_
                  refine at_guard_yes rfl rfl rfl ?_
                  refine at_val rfl rfl rfl (r_move rfl) ?_
                  refine at_guard_yes rfl rfl rfl ?_
                  refine at_val rfl rfl rfl (r_imul rfl rfl) ?_
                  refine at_guard_yes rfl rfl rfl ?_
                  refine at_val rfl rfl rfl (r_move rfl) ?_
                  refine at_guard_yes rfl rfl rfl ?_
                  refine at_val rfl rfl rfl (r_move rfl) ?_
                  refine at_guard_yes rfl rfl rfl ?_
                  refine at_val rfl rfl rfl (r_move rfl) ?_
                  refine at_guard_yes rfl rfl rfl ?_
                  refine at_val rfl rfl rfl (r_min rfl rfl) ?_
                  refine at_guard_yes rfl rfl rfl ?_
                  refine at_val rfl rfl rfl (r_isub rfl rfl) ?_
                  refine at_guard_yes rfl rfl rfl ?_
                  refine at_val rfl rfl rfl (r_igtr rfl rfl) ?_
                  refine at_val rfl rfl rfl (r_pick rfl rfl rfl) ?_
                  refine at_val rfl rfl rfl (r_move rfl) ?_
                  rcases of_ite hF with ⟨h13, hF⟩ | ⟨h13, hF⟩
                  · refine at_fix (g := 54) rfl h13 ?_
                    refine at_guard_no rfl rfl rfl rfl rfl ?_
                    refine at_guard_no rfl rfl rfl rfl rfl ?_
                    refine at_guard_no rfl rfl rfl rfl rfl ?_
                    refine at_val rfl rfl rfl (r_pick rfl rfl rfl) ?_
                    refine at_nil ?_
                    refine at_weak [(0, _), (1, _), (6, _), (7, _), (8, _), (58, _)] ⟨rfl, rfl, rfl, rfl, rfl, rfl, trivial⟩ ?_
                    refine at_then_normal ?_
                    refine at_cond_true rfl rfl ?_
                    refine at_seq ?_
                    refine at_region ?_
                    refine at_val rfl rfl rfl (r_assign rfl) ?_
                    refine at_val rfl rfl rfl (r_assign rfl) ?_
                    refine at_nil ?_
                    refine at_weak [(4, _), (5, _)] ⟨rfl, rfl, trivial⟩ ?_
                    refine at_then_normal ?_
                    refine at_ret ?_
                    refine at_then_ret (at_blk_ret (at_then_ret (at_then_ret (at_blk_ret (at_then_ret ?_)))))
                    obtain rfl := of_some hF
                    subst K
                    exact at_return2 rfl rfl rfl (fun w1 hw => ⟨rfl, hw⟩)
                  · refine at_fix (g := 54) rfl h13 ?_
                    refine at_guard_yes rfl rfl rfl ?_
                    refine at_val rfl rfl rfl (r_move rfl) ?_
                    refine at_guard_yes rfl rfl rfl ?_
                    refine at_val rfl rfl rfl (r_move rfl) ?_
                    refine at_guard_yes rfl rfl rfl ?_
                    refine at_val rfl rfl rfl (r_igtr rfl rfl) ?_
                    refine at_val rfl rfl rfl (r_pick rfl rfl rfl) ?_
                    refine at_nil ?_
                    refine at_weak [(0, _), (1, _), (6, _), (7, _), (8, _), (58, _)] ⟨rfl, rfl, rfl, rfl, rfl, rfl, trivial⟩ ?_
                    refine at_then_normal ?_
                    rcases of_ite hF with ⟨h14, hF⟩ | ⟨h14, hF⟩
                    · refine at_cond_true rfl h14 ?_
                      refine at_seq ?_
                      refine at_region ?_
                      refine at_val rfl rfl rfl (r_assign rfl) ?_
                      refine at_val rfl rfl rfl (r_assign rfl) ?_
                      refine at_nil ?_
                      refine at_weak [(4, _), (5, _)] ⟨rfl, rfl, trivial⟩ ?_
                      refine at_then_normal ?_
                      refine at_ret ?_
                      refine at_then_ret (at_blk_ret (at_then_ret (at_then_ret (at_blk_ret (at_then_ret ?_)))))
                      obtain rfl := of_some hF
                      subst K
                      exact at_return2 rfl rfl rfl (fun w1 hw => ⟨rfl, hw⟩)
                    · refine at_cond_false rfl h14 ?_
                      refine at_skip ?_
                      refine at_then_normal ?_
                      refine at_region ?_
                      refine at_val rfl rfl rfl (r_move rfl) ?_
                      refine at_val rfl rfl rfl (r_imul rfl rfl) ?_
                      refine at_val rfl rfl rfl (r_move rfl) ?_
                      refine at_val rfl rfl rfl (r_iadd rfl rfl) ?_
                      refine at_val rfl rfl rfl (r_assign rfl) ?_
                      refine at_nil ?_
                      refine at_weak [(0, _), (1, _), (6, _), (7, _)] ⟨rfl, rfl, rfl, rfl, trivial⟩ ?_
                      refine at_blk_normal (at_then_normal ?_)
                      refine at_region ?_
                      refine at_val rfl rfl rfl (r_move rfl) ?_
                      refine at_val rfl rfl rfl (r_iadd rfl rfl) ?_
                      refine at_val rfl rfl rfl (r_assign rfl) ?_
                      refine at_nil ?_
                      refine at_weak [(0, _), (1, _), (6, _), (7, _)] ⟨rfl, rfl, rfl, rfl, trivial⟩ ?_
                      refine at_then_normal ?_
                      exact at_weak_k (ih _ _ _ hF K) ⟨rfl, rfl, rfl, rfl, trivial⟩
              · refine at_cond_false rfl h10 ?_
                refine at_exit ?_
                refine at_then_exit (at_then_exit ?_)
                obtain rfl := of_some hF
                exact at_weak_k K ⟨rfl, trivial⟩
          · cases q7 with
            | ret r' => exact of_some hF
            | nx sq7 =>
              skip
              refine at_blk_same ?_
              refine at_then_normal ?_
              refine at_seq ?_
              refine at_region ?_
              refine at_val rfl rfl rfl (r_move rfl) ?_
              refine at_val rfl rfl rfl (r_assign rfl) ?_
              refine at_val rfl rfl rfl (r_assign rfl) ?_
              refine at_nil ?_
              refine at_weak [(4, _), (5, _)] ⟨rfl, rfl, trivial⟩ ?_
              refine at_then_normal ?_
              refine at_ret ?_
              have K := of_some hF
              subst K
              exact at_return2 rfl rfl rfl (fun w1 hw => ⟨rfl, hw⟩)
      · refine at_fix (g := 23) rfl h4 ?_
        refine at_guard_no rfl rfl rfl rfl rfl ?_
        refine at_guard_no rfl rfl rfl rfl rfl ?_
        refine at_guard_no rfl rfl rfl rfl rfl ?_
        refine at_guard_yes rfl rfl rfl ?_
        refine at_val rfl rfl rfl (r_pick rfl rfl rfl) ?_
        refine at_val rfl rfl rfl (r_pick rfl rfl rfl) ?_
        refine at_nil ?_
        refine at_weak [(0, _), (1, _), (28, _)] ⟨rfl, rfl, rfl, trivial⟩ ?_
        refine at_then_normal ?_
        refine at_cond_false rfl rfl ?_
        refine at_skip ?_
        refine at_then_normal ?_
        refine at_seq ?_
        refine at_region ?_
        refine at_val rfl rfl rfl (r_assign rfl) ?_
        refine at_nil ?_
        refine at_weak [(0, _), (1, _), (6, _)] ⟨rfl, rfl, rfl, trivial⟩ ?_
        refine at_then_normal ?_
        refine at_seq ?_
        refine at_seq ?_
        refine at_region ?_
        refine at_val rfl rfl rfl (r_assign rfl) ?_
        refine at_nil ?_
        refine at_weak [(0, _), (1, _), (6, _), (7, _)] ⟨rfl, rfl, rfl, rfl, trivial⟩ ?_
        refine at_then_normal ?_
        refine at_block ?_
        obtain ⟨q15, hq15, hF⟩ := of_bindM hF
        refine at_weak [(0, _), (1, _), (6, _), (7, _)] ⟨rfl, rfl, rfl, rfl, trivial⟩ ?_
        refine at_loop_r (B := 0) (r := r) (q := q15) (A := fun sq15 Y => At 64 [(6, .int .u64 sq15)] (fun w' => w' = w) Y) ?_ ?_
        · intro K
          refine crawlwayref03_Read.l1.partial_correctness x0 x1 (motive := fun i16 i17 x => KR (fun sq15 Y => At 64 [(6, .int .u64 sq15)] (fun w' => w' = w) Y) _ 0 r x → Round (fun Y => At 64 [(0, .string x0), (1, .int .u64 x1), (6, .int .u64 i16), (7, .int .i64 i17)] (fun w' => w' = w) Y) _ _ _) ?_ _ _ _ hq15 K
          · clear K hF
            intro g ih i16 i17 x hF K
            refine at_round ?_
            refine at_seq ?_
            refine at_seq ?_
            refine at_region ?_
            refine at_val rfl rfl rfl (r_move rfl) ?_
            refine at_val rfl rfl rfl (r_move rfl) ?_
            refine at_val rfl rfl rfl (r_len_str Tryz.underlying9 rfl) ?_
            refine at_val rfl rfl rfl (r_ilss rfl rfl) ?_
            refine at_nil ?_
            refine at_weak [(0, _), (1, _), (6, _), (7, _), (32, _)] ⟨rfl, rfl, rfl, rfl, rfl, trivial⟩ ?_
            refine at_then_normal ?_
            rcases of_ite hF with ⟨h18, hF⟩ | ⟨h18, hF⟩
            · refine at_cond_true rfl h18 ?_
              refine at_skip ?_
              refine at_then_normal ?_
              refine at_seq ?_
              refine at_block ?_
              refine at_seq ?_
              refine at_region ?_
              refine at_val rfl rfl rfl (r_move rfl) ?_
              refine at_val rfl rfl rfl (r_move rfl) ?_
              obtain ⟨h19, hF⟩ := of_guard hF
              refine at_val rfl rfl rfl (r_index_str Tryz.underlying9 rfl rfl h19) ?_
              refine at_val rfl rfl rfl (r_conv Tryz.underlying5 Tryz.underlying31 rfl) ?_
              refine at_val rfl rfl rfl (r_isub rfl rfl) ?_
              refine at_val rfl rfl rfl (r_assign rfl) ?_
              refine at_nil ?_
              refine at_weak [(0, _), (1, _), (6, _), (7, _), (8, _)] ⟨rfl, rfl, rfl, rfl, rfl, trivial⟩ ?_
              refine at_then_normal ?_
              refine at_seq ?_
              refine at_seq ?_
              refine at_region ?_
              refine at_val rfl rfl rfl (r_move rfl) ?_
              refine at_val rfl rfl rfl (r_move rfl) ?_
              refine at_val rfl rfl rfl (r_iquo rfl rfl (by decide)) ?_
              refine at_val rfl rfl rfl (r_igtr rfl rfl) ?_
              refine at_val rfl rfl rfl (r_move rfl) ?_
              rcases of_ite hF with ⟨h20, hF⟩ | ⟨h20, hF⟩
              · refine at_fix (g := 44) rfl h20 ?_
                refine at_guard_no rfl rfl rfl rfl rfl ?_
                refine at_guard_no rfl rfl rfl rfl rfl ?_
                refine at_guard_no rfl rfl rfl rfl rfl ?_
                refine at_guard_no rfl rfl rfl rfl rfl ?_
                refine at_guard_no rfl rfl rfl rfl rfl ?_
                refine at_guard_no rfl rfl rfl rfl rfl ?_
                refine at_guard_no rfl rfl rfl rfl rfl ?_
                refine at_guard_no rfl rfl rfl rfl rfl ?_
                refine at_val rfl rfl rfl (r_pick rfl rfl rfl) ?_
                refine at_val rfl rfl rfl (r_move rfl) ?_
                refine at_guard_no rfl rfl rfl rfl rfl ?_
                refine at_guard_no rfl rfl rfl rfl rfl ?_
                refine at_guard_no rfl rfl rfl rfl rfl ?_
                refine at_val rfl rfl rfl (r_pick rfl rfl rfl) ?_
                refine at_nil ?_
                refine at_weak [(0, _), (1, _), (6, _), (7, _), (8, _), (58, _)] ⟨rfl, rfl, rfl, rfl, rfl, rfl, trivial⟩ ?_
                refine at_then_normal ?_
                refine at_cond_true rfl rfl ?_
                refine at_seq ?_
                refine at_region ?_
                refine at_val rfl rfl rfl (r_assign rfl) ?_
                refine at_val rfl rfl rfl (r_assign rfl) ?_
                refine at_nil ?_
                refine at_weak [(4, _), (5, _)] ⟨rfl, rfl, trivial⟩ ?_
                refine at_then_normal ?_
                refine at_ret ?_
                refine at_then_ret (at_blk_ret (at_then_ret (at_then_ret (at_blk_ret (at_then_ret ?_)))))
                obtain rfl := of_some hF
                subst K
                exact at_return2 rfl rfl rfl (fun w1 hw => ⟨rfl, hw⟩)
              · refine at_fix (g := 44) rfl h20 ?_
                refine at_guard_yes rfl rfl rfl ?_
                refine at_val rfl rfl rfl (r_move rfl) ?_
                refine at_guard_yes rfl rfl rfl ?_
                refine at_val rfl rfl rfl (r_imul rfl rfl) ?_
                refine at_guard_yes rfl rfl rfl ?_
                refine at_val rfl rfl rfl (r_move rfl) ?_
                refine at_guard_yes rfl rfl rfl ?_
                refine at_val rfl rfl rfl (r_move rfl) ?_
                refine at_guard_yes rfl rfl rfl ?_
                refine at_val rfl rfl rfl (r_move rfl) ?_
                refine at_guard_yes rfl rfl rfl ?_
                refine at_val rfl rfl rfl (r_min rfl rfl) ?_
                refine at_guard_yes rfl rfl rfl ?_
                refine at_val rfl rfl rfl (r_isub rfl rfl) ?_
                refine at_guard_yes rfl rfl rfl ?_
                refine at_val rfl rfl rfl (r_igtr rfl rfl) ?_
                refine at_val rfl rfl rfl (r_pick rfl rfl rfl) ?_
                refine at_val rfl rfl rfl (r_move rfl) ?_
                rcases of_ite hF with ⟨h21, hF⟩ | ⟨h21, hF⟩
                · refine at_fix (g := 54) rfl h21 ?_
                  refine at_guard_no rfl rfl rfl rfl rfl ?_
                  refine at_guard_no rfl rfl rfl rfl rfl ?_
                  refine at_guard_no rfl rfl rfl rfl rfl ?_
                  refine at_val rfl rfl rfl (r_pick rfl rfl rfl) ?_
                  refine at_nil ?_
                  refine at_weak [(0, _), (1, _), (6, _), (7, _), (8, _), (58, _)] ⟨rfl, rfl, rfl, rfl, rfl, rfl, trivial⟩ ?_
                  refine at_then_normal ?_
                  refine at_cond_true rfl rfl ?_
                  refine at_seq ?_
                  refine at_region ?_
                  refine at_val rfl rfl rfl (r_assign rfl) ?_
                  refine at_val rfl rfl rfl (r_assign rfl) ?_
                  refine at_nil ?_
                  refine at_weak [(4, _), (5, _)] ⟨rfl, rfl, trivial⟩ ?_
                  refine at_then_normal ?_
                  refine at_ret ?_
                  refine at_then_ret (at_blk_ret (at_then_ret (at_then_ret (at_blk_ret (at_then_ret ?_)))))
                  obtain rfl := of_some hF
                  subst K
                  exact at_return2 rfl rfl rfl (fun w1 hw => ⟨rfl, hw⟩)
                · refine at_fix (g := 54) rfl h21 ?_
                  refine at_guard_yes rfl rfl rfl ?_
                  refine at_val rfl rfl rfl (r_move rfl) ?_
                  refine at_guard_yes rfl rfl rfl ?_
                  refine at_val rfl rfl rfl (r_move rfl) ?_
                  refine at_guard_yes rfl rfl rfl ?_
                  refine at_val rfl rfl rfl (r_igtr rfl rfl) ?_
                  refine at_val rfl rfl rfl (r_pick rfl rfl rfl) ?_
                  refine at_nil ?_
                  refine at_weak [(0, _), (1, _), (6, _), (7, _), (8, _), (58, _)] ⟨rfl, rfl, rfl, rfl, rfl, rfl, trivial⟩ ?_
                  refine at_then_normal ?_
                  rcases of_ite hF with ⟨h22, hF⟩ | ⟨h22, hF⟩
                  · refine at_cond_true rfl h22 ?_
                    refine at_seq ?_
                    refine at_region ?_
                    refine at_val rfl rfl rfl (r_assign rfl) ?_
                    refine at_val rfl rfl rfl (r_assign rfl) ?_
                    refine at_nil ?_
                    refine at_weak [(4, _), (5, _)] ⟨rfl, rfl, trivial⟩ ?_
                    refine at_then_normal ?_
                    refine at_ret ?_
                    refine at_then_ret (at_blk_ret (at_then_ret (at_then_ret (at_blk_ret (at_then_ret ?_)))))
                    obtain rfl := of_some hF
                    subst K
                    exact at_return2 rfl rfl rfl (fun w1 hw => ⟨rfl, hw⟩)
                  · refine at_cond_false rfl h22 ?_
                    refine at_skip ?_
                    refine at_then_normal ?_
                    refine at_region ?_
                    refine at_val rfl rfl rfl (r_move rfl) ?_
                    refine at_val rfl rfl rfl (r_imul rfl rfl) ?_
                    refine at_val rfl rfl rfl (r_move rfl) ?_
                    refine at_val rfl rfl rfl (r_iadd rfl rfl) ?_
                    refine at_val rfl rfl rfl (r_assign rfl) ?_
                    refine at_nil ?_
                    refine at_weak [(0, _), (1, _), (6, _), (7, _)] ⟨rfl, rfl, rfl, rfl, trivial⟩ ?_
                    refine at_blk_normal (at_then_normal ?_)
                    refine at_region ?_
                    refine at_val rfl rfl rfl (r_move rfl) ?_
                    refine at_val rfl rfl rfl (r_iadd rfl rfl) ?_
                    refine at_val rfl rfl rfl (r_assign rfl) ?_
                    refine at_nil ?_
                    refine at_weak [(0, _), (1, _), (6, _), (7, _)] ⟨rfl, rfl, rfl, rfl, trivial⟩ ?_
                    refine at_then_normal ?_
                    exact at_weak_k (ih _ _ _ hF K) ⟨rfl, rfl, rfl, rfl, trivial⟩
            · refine at_cond_false rfl h18 ?_
              refine at_exit ?_
              refine at_then_exit (at_then_exit ?_)
              obtain rfl := of_some hF
              exact at_weak_k K ⟨rfl, trivial⟩
        · cases q15 with
          | ret r' => exact of_some hF
          | nx sq15 =>
            skip
            refine at_blk_same ?_
            refine at_then_normal ?_
            refine at_seq ?_
            refine at_region ?_
            refine at_val rfl rfl rfl (r_move rfl) ?_
            refine at_val rfl rfl rfl (r_assign rfl) ?_
            refine at_val rfl rfl rfl (r_assign rfl) ?_
            refine at_nil ?_
            refine at_weak [(4, _), (5, _)] ⟨rfl, rfl, trivial⟩ ?_
            refine at_then_normal ?_
            refine at_ret ?_
            have K := of_some hF
            subst K
            exact at_return2 rfl rfl rfl (fun w1 hw => ⟨rfl, hw⟩)
end Go.Proofs.YtkkmmpofdcccmaaGreatDoor
