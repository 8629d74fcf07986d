/- Functions with the same answers as the Go functions that they are named for, and the proofs of it, by a program of this project (gen.py). -/
import Derived.Test.YtnojjenpggdadaaDoorT
import Derived.Test.YtnojjenpggdadaaDoorShelf
import Derived.Test.YtnojjenpggdadaaDoorW
import Derived.Test.YtnojjenpggdadaaDoorL
import Derived.Test.YtnojjenpggdadaaDoorS
import Derived.Test.YtnojjenpggdadaaDoorProg
import Derived.Test.YtnojjenpggdadaaDoorG1
set_option linter.unusedVariables false
set_option linter.unusedSimpArgs false
namespace Go.Proofs.YtnojjenpggdadaaDoor
open E Go.RowKit


def show_Size.l0 (x0 : Int) (i5 : Int) : Option (Int) :=
  if (decide (i5 < 5)) = true then (if (0 : Int) ≤ wr .u64 (wr .i64 (10 * (wr .i64 (i5 + 2)))) then if (decide (ishr .u64 x0 (wr .u64 (wr .i64 (10 * (wr .i64 (i5 + 2))))) > 0)) = true then (show_Size.l0 x0 (wr .i64 (i5 + 1))) else (some i5) else none) else (some i5)
  partial_fixpoint
def show_Size.l1 (q4 : Int) (i12 : Int) (i13 : ByteArray) (i14 : Int) : Option (ByteArray) :=
  if (decide (i14 < 2)) = true then (if (0 : Int) ≤ wr .u64 (wr .i64 (10 * (wr .i64 (q4 + 1)))) then decimal_Text (ishr .u64 (wr .u64 (i12 * 10)) (wr .u64 (wr .i64 (10 * (wr .i64 (q4 + 1)))))) >>= fun t17 => if i13.size + t17.size ≤ 140737488355328 then if (0 : Int) ≤ wr .u64 (wr .i64 (10 * (wr .i64 (q4 + 1)))) then show_Size.l1 q4 (iand .u64 (wr .u64 (i12 * 10)) (wr .u64 ((ishl .u64 1 (wr .u64 (wr .i64 (10 * (wr .i64 (q4 + 1)))))) - 1))) (i13 ++ t17) (wr .i64 (i14 + 1)) else none else none else none) else (some i13)
  partial_fixpoint
def show_Size (x0 : Int) : Option (ByteArray) :=
  if (decide (x0 < 1024)) = true then (decimal_Text x0 >>= fun t2 => if t2.size + (⟨#[32, 66]⟩ : ByteArray).size ≤ 140737488355328 then some (t2 ++ (⟨#[32, 66]⟩ : ByteArray)) else none) else (show_Size.l0 x0 0 >>= fun q4 => if (0 : Int) ≤ wr .u64 (wr .i64 (10 * (wr .i64 (q4 + 1)))) then if (0 : Int) ≤ wr .u64 (wr .i64 (10 * (wr .i64 (q4 + 1)))) then show_Size.l1 q4 (iand .u64 x0 (wr .u64 ((ishl .u64 1 (wr .u64 (wr .i64 (10 * (wr .i64 (q4 + 1)))))) - 1))) (⟨#[]⟩) 0 >>= fun q11 => decimal_Text (ishr .u64 x0 (wr .u64 (wr .i64 (10 * (wr .i64 (q4 + 1)))))) >>= fun t20 => if t20.size + (⟨#[46]⟩ : ByteArray).size ≤ 140737488355328 then if (t20 ++ (⟨#[46]⟩ : ByteArray)).size + q11.size ≤ 140737488355328 then if ((t20 ++ (⟨#[46]⟩ : ByteArray)) ++ q11).size + (⟨#[32]⟩ : ByteArray).size ≤ 140737488355328 then if (0 : Int) ≤ q4 ∧ q4 < 6 then if (((t20 ++ (⟨#[46]⟩ : ByteArray)) ++ q11) ++ (⟨#[32]⟩ : ByteArray)).size + (vget gval_show_units q4).size ≤ 140737488355328 then some ((((t20 ++ (⟨#[46]⟩ : ByteArray)) ++ q11) ++ (⟨#[32]⟩ : ByteArray)) ++ (vget gval_show_units q4)) else none else none else none else none else none else none else none)
theorem show_Size_ok (x0 : Int) (r : ByteArray) (hF : show_Size x0 = some r) (w : World) (hg_show_units : GV_show_units w) (hg_strconv_uint64pow10 : GV_strconv_uint64pow10 w) :
    Calls Tryd.prog 16 #[.int .u64 x0] w (fun e w' => e = .returned (.string r) ∧ Below w.heap.size w w') := by
  unfold show_Size at hF
  refine calls_enter (l := [.int .u64 x0]) Tryd.func16 rfl rfl rfl ?_
  refine at_start ?_
  refine at_weak [(0, _)] ⟨rfl, trivial⟩ ?_
  refine at_seq ?_
  refine at_region ?_
  refine at_val rfl rfl rfl (r_assign rfl) ?_
  refine at_nil ?_
  refine at_weak [(0, _)] ⟨rfl, trivial⟩ ?_
  refine at_then_normal ?_
  refine at_seq ?_
  refine at_seq ?_
  refine at_region ?_
  refine at_val rfl rfl rfl (r_move rfl) ?_
  refine at_val rfl rfl rfl (r_ilss rfl rfl) ?_
  refine at_nil ?_
  refine at_weak [(0, _), (9, _)] ⟨rfl, rfl, trivial⟩ ?_
  refine at_then_normal ?_
  rcases of_ite hF with ⟨h1, hF⟩ | ⟨h1, hF⟩
  · refine at_cond_true rfl h1 ?_
    refine at_seq ?_
    refine at_region ?_
    refine at_val rfl rfl rfl (r_move rfl) ?_
    obtain ⟨t2, ht2, hF⟩ := of_bindM hF
    refine at_callB Tryd.func9 rfl (by kernel_rfl) rfl rfl (fun w hw => decimal_Text_ok _ _ ht2 w (hg_strconv_uint64pow10.on hw.below)) ?_
    obtain ⟨h3, hF⟩ := of_guard hF
    refine at_val rfl rfl rfl (r_concat rfl rfl h3) ?_
    refine at_val rfl rfl rfl (r_assign rfl) ?_
    refine at_nil ?_
    refine at_weak [(2, _)] ⟨rfl, trivial⟩ ?_
    refine at_then_normal ?_
    refine at_ret ?_
    refine at_then_ret ?_
    have K := of_some hF
    subst K
    exact at_return1 rfl rfl (fun w1 hw => ⟨rfl, hw.below⟩)
  · refine at_cond_false rfl h1 ?_
    refine at_skip ?_
    refine at_then_normal ?_
    refine at_seq ?_
    refine at_region ?_
    refine at_val rfl rfl rfl (r_assign rfl) ?_
    refine at_nil ?_
    refine at_weak [(0, _), (3, _)] ⟨rfl, rfl, trivial⟩ ?_
    refine at_then_normal ?_
    refine at_seq ?_
    refine at_block ?_
    obtain ⟨q4, hq4, hF⟩ := of_bindM hF
    refine at_weak [(0, _), (3, _)] ⟨rfl, rfl, trivial⟩ ?_
    refine at_loop_n (B := 0) (A := fun Y => At 64 [(0, .int .u64 x0), (3, .int .i64 q4)] (Wd w []) Y) ?_ ?_
    · intro K
      refine show_Size.l0.partial_correctness x0 (motive := fun i5 x => KN (fun Y => At 64 [(0, .int .u64 x0), (3, .int .i64 x)] (Wd w []) Y) _ 0 → Round (fun Y => At 64 [(0, .int .u64 x0), (3, .int .i64 i5)] (Wd w []) Y) _ _ _) ?_ _ _ hq4 K
      · clear K hF
        intro g ih i5 x hF K
        refine at_round ?_
        refine at_seq ?_
        refine at_seq ?_
        refine at_region ?_
        refine at_val rfl rfl rfl (r_move rfl) ?_
        refine at_val rfl rfl rfl (r_ilss rfl rfl) ?_
        refine at_val rfl rfl rfl (r_move rfl) ?_
        rcases of_ite hF with ⟨h6, hF⟩ | ⟨h6, hF⟩
        · refine at_fix (g := 15) rfl h6 ?_
          refine at_guard_yes rfl rfl rfl ?_
          refine at_val rfl rfl rfl (r_move rfl) ?_
          refine at_guard_yes rfl rfl rfl ?_
          refine at_val rfl rfl rfl (r_move rfl) ?_
          refine at_guard_yes rfl rfl rfl ?_
          refine at_val rfl rfl rfl (r_iadd rfl rfl) ?_
          refine at_guard_yes rfl rfl rfl ?_
          refine at_val rfl rfl rfl (r_imul rfl rfl) ?_
          refine at_guard_yes rfl rfl rfl ?_
          refine at_val rfl rfl rfl (r_conv Tryd.underlying3 Tryd.underlying66 rfl) ?_
          refine at_guard_yes rfl rfl rfl ?_
          obtain ⟨h7, hF⟩ := of_guard hF
          refine at_val rfl rfl rfl (r_ishr rfl rfl h7) ?_
          refine at_guard_yes rfl rfl rfl ?_
          refine at_val rfl rfl rfl (r_igtr rfl rfl) ?_
          refine at_val rfl rfl rfl (r_pick rfl rfl rfl) ?_
          refine at_nil ?_
          refine at_weak [(0, _), (3, _), (23, _)] ⟨rfl, rfl, rfl, trivial⟩ ?_
          refine at_then_normal ?_
          rcases of_ite hF with ⟨h8, hF⟩ | ⟨h8, hF⟩
          · refine at_cond_true rfl h8 ?_
            refine at_skip ?_
            refine at_then_normal ?_
            refine at_block ?_
            refine at_region ?_
            refine at_val rfl rfl rfl (r_move rfl) ?_
            refine at_val rfl rfl rfl (r_iadd rfl rfl) ?_
            refine at_val rfl rfl rfl (r_assign rfl) ?_
            refine at_nil ?_
            refine at_weak [(0, _), (3, _)] ⟨rfl, rfl, trivial⟩ ?_
            refine at_blk_normal (at_then_normal ?_)
            exact at_weak_k (ih _ _ hF K) ⟨rfl, rfl, trivial⟩
          · refine at_cond_false rfl h8 ?_
            refine at_exit ?_
            refine at_then_exit (at_then_exit ?_)
            obtain rfl := of_some hF
            exact at_weak_k K ⟨rfl, rfl, trivial⟩
        · refine at_fix (g := 15) rfl h6 ?_
          refine at_guard_no rfl rfl rfl rfl rfl ?_
          refine at_guard_no rfl rfl rfl rfl rfl ?_
          refine at_guard_no rfl rfl rfl rfl rfl ?_
          refine at_guard_no rfl rfl rfl rfl rfl ?_
          refine at_guard_no rfl rfl rfl rfl rfl ?_
          refine at_guard_no rfl rfl rfl rfl rfl ?_
          refine at_guard_no rfl rfl rfl rfl rfl ?_
          refine at_val rfl rfl rfl (r_pick rfl rfl rfl) ?_
          refine at_nil ?_
          refine at_weak [(0, _), (3, _), (23, _)] ⟨rfl, rfl, rfl, trivial⟩ ?_
          refine at_then_normal ?_
          refine at_cond_false rfl rfl ?_
          refine at_exit ?_
          refine at_then_exit (at_then_exit ?_)
          obtain rfl := of_some hF
          exact at_weak_k K ⟨rfl, rfl, trivial⟩
    · skip
      skip
      refine at_blk_same ?_
      refine at_then_normal ?_
      refine at_seq ?_
      refine at_region ?_
      refine at_val rfl rfl rfl (r_move rfl) ?_
      refine at_val rfl rfl rfl (r_iadd rfl rfl) ?_
      refine at_val rfl rfl rfl (r_imul rfl rfl) ?_
      refine at_val rfl rfl rfl (r_conv Tryd.underlying3 Tryd.underlying66 rfl) ?_
      refine at_val rfl rfl rfl (r_assign rfl) ?_
      refine at_nil ?_
      refine at_weak [(0, _), (3, _), (4, _)] ⟨rfl, rfl, rfl, trivial⟩ ?_
      refine at_then_normal ?_
      refine at_seq ?_
      refine at_region ?_
      refine at_val rfl rfl rfl (r_move rfl) ?_
      refine at_val rfl rfl rfl (r_move rfl) ?_
      obtain ⟨h9, hF⟩ := of_guard hF
      refine at_val rfl rfl rfl (r_ishr rfl rfl h9) ?_
      refine at_val rfl rfl rfl (r_move rfl) ?_
      refine at_val rfl rfl rfl (r_move rfl) ?_
      obtain ⟨h10, hF⟩ := of_guard hF
      refine at_val rfl rfl rfl (r_ishl rfl rfl h10) ?_
      refine at_val rfl rfl rfl (r_isub rfl rfl) ?_
      refine at_val rfl rfl rfl (r_iand rfl rfl) ?_
      refine at_val rfl rfl rfl (r_assign rfl) ?_
      refine at_val rfl rfl rfl (r_assign rfl) ?_
      refine at_nil ?_
      refine at_weak [(3, _), (4, _), (5, _), (6, _)] ⟨rfl, rfl, rfl, rfl, trivial⟩ ?_
      refine at_then_normal ?_
      refine at_seq ?_
      refine at_region ?_
      refine at_val rfl rfl rfl (r_assign rfl) ?_
      refine at_nil ?_
      refine at_weak [(3, _), (4, _), (5, _), (6, _), (7, _)] ⟨rfl, rfl, rfl, rfl, rfl, trivial⟩ ?_
      refine at_then_normal ?_
      refine at_seq ?_
      refine at_seq ?_
      refine at_region ?_
      refine at_val rfl rfl rfl (r_move rfl) ?_
      refine at_nil ?_
      refine at_weak [(3, _), (4, _), (5, _), (6, _), (7, _), (38, _)] ⟨rfl, rfl, rfl, rfl, rfl, rfl, trivial⟩ ?_
      refine at_then_normal ?_
      refine at_block ?_
      obtain ⟨q11, hq11, hF⟩ := of_bindM hF
      refine at_weak [(3, _), (4, _), (5, _), (6, _), (7, _), (38, _)] ⟨rfl, rfl, rfl, rfl, rfl, rfl, trivial⟩ ?_
      refine at_loop_n (B := 2) (A := fun Y => At 64 [(3, .int .i64 q4), (5, .int .u64 (ishr .u64 x0 (wr .u64 (wr .i64 (10 * (wr .i64 (q4 + 1))))))), (7, .string q11)] (Wd w []) Y) ?_ ?_
      · intro K
        refine show_Size.l1.partial_correctness q4 (motive := fun i12 i13 i14 x => KN (fun Y => At 64 [(3, .int .i64 q4), (5, .int .u64 (ishr .u64 x0 (wr .u64 (wr .i64 (10 * (wr .i64 (q4 + 1))))))), (7, .string x)] (Wd w []) Y) _ 2 → Round (fun Y => At 64 [(3, .int .i64 q4), (4, .int .u64 (wr .u64 (wr .i64 (10 * (wr .i64 (q4 + 1)))))), (5, .int .u64 (ishr .u64 x0 (wr .u64 (wr .i64 (10 * (wr .i64 (q4 + 1))))))), (6, .int .u64 i12), (7, .string i13), (38, .int .i64 i14)] (Wd w []) Y) _ _ _) ?_ _ _ _ _ hq11 K
        · clear K hF
          intro g ih i12 i13 i14 x hF K
          refine at_round ?_
          refine at_seq ?_
          refine at_region ?_
          refine at_val rfl rfl rfl (r_ilss rfl rfl) ?_
          refine at_nil ?_
          refine at_weak [(3, _), (4, _), (5, _), (6, _), (7, _), (38, _), (39, _)] ⟨rfl, rfl, rfl, rfl, rfl, rfl, rfl, trivial⟩ ?_
          refine at_then_normal ?_
          refine at_seq ?_
          rcases of_ite hF with ⟨h15, hF⟩ | ⟨h15, hF⟩
          · refine at_cond_true rfl h15 ?_
            refine at_skip ?_
            refine at_then_normal ?_
            refine at_seq ?_
            refine at_block ?_
            refine at_seq ?_
            refine at_region ?_
            refine at_val rfl rfl rfl (r_move rfl) ?_
            refine at_val rfl rfl rfl (r_imul rfl rfl) ?_
            refine at_val rfl rfl rfl (r_assign rfl) ?_
            refine at_nil ?_
            refine at_weak [(3, _), (4, _), (5, _), (6, _), (7, _), (38, _)] ⟨rfl, rfl, rfl, rfl, rfl, rfl, trivial⟩ ?_
            refine at_then_normal ?_
            refine at_seq ?_
            refine at_region ?_
            refine at_val rfl rfl rfl (r_move rfl) ?_
            refine at_val rfl rfl rfl (r_move rfl) ?_
            refine at_val rfl rfl rfl (r_move rfl) ?_
            obtain ⟨h16, hF⟩ := of_guard hF
            refine at_val rfl rfl rfl (r_ishr rfl rfl h16) ?_
            obtain ⟨t17, ht17, hF⟩ := of_bindM hF
            refine at_callB Tryd.func9 rfl (by kernel_rfl) rfl rfl (fun w hw => decimal_Text_ok _ _ ht17 w (hg_strconv_uint64pow10.on hw.below)) ?_
            obtain ⟨h18, hF⟩ := of_guard hF
            refine at_val rfl rfl rfl (r_concat rfl rfl h18) ?_
            refine at_val rfl rfl rfl (r_assign rfl) ?_
            refine at_nil ?_
            refine at_weak [(3, _), (4, _), (5, _), (6, _), (7, _), (38, _)] ⟨rfl, rfl, rfl, rfl, rfl, rfl, trivial⟩ ?_
            refine at_then_normal ?_
            refine at_region ?_
            refine at_val rfl rfl rfl (r_move rfl) ?_
            refine at_val rfl rfl rfl (r_move rfl) ?_
            obtain ⟨h19, hF⟩ := of_guard hF
            refine at_val rfl rfl rfl (r_ishl rfl rfl h19) ?_
            refine at_val rfl rfl rfl (r_isub rfl rfl) ?_
            refine at_val rfl rfl rfl (r_iand rfl rfl) ?_
            refine at_val rfl rfl rfl (r_assign rfl) ?_
            refine at_nil ?_
            refine at_weak [(3, _), (4, _), (5, _), (6, _), (7, _), (38, _)] ⟨rfl, rfl, rfl, rfl, rfl, rfl, trivial⟩ ?_
            refine at_blk_normal (at_then_normal ?_)
            refine at_region ?_
            refine at_val rfl rfl rfl (r_iadd rfl rfl) ?_
            refine at_val rfl rfl rfl (r_move rfl) ?_
            refine at_nil ?_
            refine at_weak [(3, _), (4, _), (5, _), (6, _), (7, _), (38, _)] ⟨rfl, rfl, rfl, rfl, rfl, rfl, trivial⟩ ?_
            refine at_then_normal ?_
            exact at_weak_k (ih _ _ _ _ hF K) ⟨rfl, rfl, rfl, rfl, rfl, rfl, trivial⟩
          · refine at_cond_false rfl h15 ?_
            refine at_exit ?_
            refine at_then_exit (at_then_exit ?_)
            obtain rfl := of_some hF
            exact at_weak_k K ⟨rfl, rfl, rfl, trivial⟩
      · skip
        skip
        refine at_blk_same ?_
        refine at_then_normal ?_
        refine at_seq ?_
        refine at_draw (by kernel_rfl) (by kernel_rfl) (fun _ h => h.drew) ?_
        refine atq_val rfl rfl rfl (r_move rfl) ?_
        obtain ⟨t20, ht20, hF⟩ := of_bindM hF
        refine atq_call Tryd.func9 rfl (by kernel_rfl) rfl rfl (fun w hw => (decimal_Text_ok _ _ ht20 w (hg_strconv_uint64pow10.on hw.below)).mono fun _ _ h => ⟨h.1, hw.call h.2⟩) ?_
        obtain ⟨h21, hF⟩ := of_guard hF
        refine atq_val rfl rfl rfl (r_concat rfl rfl h21) ?_
        refine atq_val rfl rfl rfl (r_move rfl) ?_
        obtain ⟨h22, hF⟩ := of_guard hF
        refine atq_val rfl rfl rfl (r_concat rfl rfl h22) ?_
        obtain ⟨h23, hF⟩ := of_guard hF
        refine atq_val rfl rfl rfl (r_concat rfl rfl h23) ?_
        refine atq_val rfl rfl rfl (r_move rfl) ?_
        obtain ⟨h24, hF⟩ := of_guard hF
        refine atq_val rfl rfl rfl (r_idxArr Tryd.underlying67 Tryd.sizeOf9 rfl rfl h24) ?_
        refine atq_val rfl rfl rfl (r_load_cell Tryd.isAgg9 rfl (glob_cell0 (c' := cStr) (y := vget gval_show_units q4) (fun _ h => h.below) hg_show_units g_show_units (Lens.comp (Lens.whole _ _) (fun z => vset gval_show_units q4 z) (Lens.vec cStr (by decide) gval_show_units q4 h24)) rfl)) ?_
        obtain ⟨h25, hF⟩ := of_guard hF
        refine atq_val rfl rfl rfl (r_concat rfl rfl h25) ?_
        refine atq_val rfl rfl rfl (r_assign rfl) ?_
        refine atq_nil ?_
        refine at_weak [(2, _)] ⟨rfl, trivial⟩ ?_
        refine at_then_normal ?_
        refine at_ret ?_
        have K := of_some hF
        subst K
        exact at_return1 rfl rfl (fun w1 hw => ⟨rfl, hw.below⟩)

def crawlwayref56_Size.l0 (x0 : Int) (i6 : Int) (i7 : Int) : Option (Int × Int) :=
  if (decide (i7 < 5)) = true then (if i6 ≠ 0 then if (decide (wr .u64 (Int.tdiv x0 i6) ≥ 1024)) = true then (crawlwayref56_Size.l0 x0 (wr .u64 (i6 * 1024)) (wr .i64 (i7 + 1))) else (some (i6, i7)) else none) else (some (i6, i7))
  partial_fixpoint
def crawlwayref56_Size (x0 : Int) : Option (ByteArray) :=
  if (decide (x0 < 1024)) = true then (crawlwayref03_Text x0 >>= fun t2 => if t2.size + (⟨#[32, 66]⟩ : ByteArray).size ≤ 140737488355328 then some (t2 ++ (⟨#[32, 66]⟩ : ByteArray)) else none) else (crawlwayref56_Size.l0 x0 1024 0 >>= fun q5 => if q5.1 ≠ 0 then if q5.1 ≠ 0 then if q5.1 ≠ 0 then if q5.1 ≠ 0 then if q5.1 ≠ 0 then crawlwayref03_Text (wr .u64 (Int.tdiv x0 q5.1)) >>= fun t16 => if t16.size + (⟨#[46]⟩ : ByteArray).size ≤ 140737488355328 then crawlwayref03_Text (wr .u64 (Int.tdiv (wr .u64 ((Int.tmod x0 q5.1) * 10)) q5.1)) >>= fun t18 => if (t16 ++ (⟨#[46]⟩ : ByteArray)).size + t18.size ≤ 140737488355328 then crawlwayref03_Text (wr .u64 (Int.tdiv (wr .u64 ((Int.tmod (wr .u64 ((Int.tmod x0 q5.1) * 10)) q5.1) * 10)) q5.1)) >>= fun t20 => if ((t16 ++ (⟨#[46]⟩ : ByteArray)) ++ t18).size + t20.size ≤ 140737488355328 then if (((t16 ++ (⟨#[46]⟩ : ByteArray)) ++ t18) ++ t20).size + (⟨#[32]⟩ : ByteArray).size ≤ 140737488355328 then if (0 : Int) ≤ q5.2 ∧ q5.2 < (([⟨#[75, 105, 66]⟩, ⟨#[77, 105, 66]⟩, ⟨#[71, 105, 66]⟩, ⟨#[84, 105, 66]⟩, ⟨#[80, 105, 66]⟩, ⟨#[69, 105, 66]⟩] : List ByteArray).length : Int) then if ((((t16 ++ (⟨#[46]⟩ : ByteArray)) ++ t18) ++ t20) ++ (⟨#[32]⟩ : ByteArray)).size + (lget ([⟨#[75, 105, 66]⟩, ⟨#[77, 105, 66]⟩, ⟨#[71, 105, 66]⟩, ⟨#[84, 105, 66]⟩, ⟨#[80, 105, 66]⟩, ⟨#[69, 105, 66]⟩] : List ByteArray) q5.2).size ≤ 140737488355328 then some (((((t16 ++ (⟨#[46]⟩ : ByteArray)) ++ t18) ++ t20) ++ (⟨#[32]⟩ : ByteArray)) ++ (lget ([⟨#[75, 105, 66]⟩, ⟨#[77, 105, 66]⟩, ⟨#[71, 105, 66]⟩, ⟨#[84, 105, 66]⟩, ⟨#[80, 105, 66]⟩, ⟨#[69, 105, 66]⟩] : List ByteArray) q5.2)) else none else none else none else none else none else none else none else none else none else none else none)
theorem crawlwayref56_Size_ok (x0 : Int) (r : ByteArray) (hF : crawlwayref56_Size x0 = some r) (w : World) :
    Calls Tryd.prog 17 #[.int .u64 x0] w (fun e w' => e = .returned (.string r) ∧ Below w.heap.size w w') := by
  unfold crawlwayref56_Size at hF
  refine calls_enter (l := [.int .u64 x0]) Tryd.func17 rfl rfl rfl ?_
  refine at_start ?_
  refine at_weak [(0, _)] ⟨rfl, trivial⟩ ?_
  refine at_seq ?_
  refine at_region ?_
  refine at_val rfl rfl rfl (r_assign rfl) ?_
  refine at_nil ?_
  refine at_weak [(0, _)] ⟨rfl, trivial⟩ ?_
  refine at_then_normal ?_
  refine at_seq ?_
  refine at_seq ?_
  refine at_region ?_
  refine at_val rfl rfl rfl (r_move rfl) ?_
  refine at_val rfl rfl rfl (r_ilss rfl rfl) ?_
  refine at_nil ?_
  refine at_weak [(0, _), (10, _)] ⟨rfl, rfl, trivial⟩ ?_
  refine at_then_normal ?_
  rcases of_ite hF with ⟨h1, hF⟩ | ⟨h1, hF⟩
  · refine at_cond_true rfl h1 ?_
    refine at_seq ?_
    refine at_region ?_
    refine at_val rfl rfl rfl (r_move rfl) ?_
    obtain ⟨t2, ht2, hF⟩ := of_bindM hF
    refine at_callB Tryd.func11 rfl (by kernel_rfl) rfl rfl (fun w hw => crawlwayref03_Text_ok _ _ ht2 w) ?_
    obtain ⟨h3, hF⟩ := of_guard hF
    refine at_val rfl rfl rfl (r_concat rfl rfl h3) ?_
    refine at_val rfl rfl rfl (r_assign rfl) ?_
    refine at_nil ?_
    refine at_weak [(2, _)] ⟨rfl, trivial⟩ ?_
    refine at_then_normal ?_
    refine at_ret ?_
    refine at_then_ret ?_
    have K := of_some hF
    subst K
    exact at_return1 rfl rfl (fun w1 hw => ⟨rfl, hw.below⟩)
  · refine at_cond_false rfl h1 ?_
    refine at_skip ?_
    refine at_then_normal ?_
    refine at_seq ?_
    refine at_region ?_
    refine at_lit (cs := cStr.all ([⟨#[75, 105, 66]⟩, ⟨#[77, 105, 66]⟩, ⟨#[71, 105, 66]⟩, ⟨#[84, 105, 66]⟩, ⟨#[80, 105, 66]⟩, ⟨#[69, 105, 66]⟩] : List ByteArray)) Tryd.underlying68 Tryd.sizeOf9 Tryd.zeroValue9 rfl rfl rfl (by kernel_rfl) rfl ?_
    intro b4
    refine at_val rfl rfl rfl (r_assign rfl) ?_
    refine at_nil ?_
    refine at_weak [(0, _), (3, _)] ⟨rfl, rfl, trivial⟩ ?_
    refine at_then_normal ?_
    refine at_seq ?_
    refine at_region ?_
    refine at_val rfl rfl rfl (r_assign rfl) ?_
    refine at_nil ?_
    refine at_weak [(0, _), (3, _), (4, _)] ⟨rfl, rfl, rfl, trivial⟩ ?_
    refine at_then_normal ?_
    refine at_seq ?_
    refine at_region ?_
    refine at_val rfl rfl rfl (r_assign rfl) ?_
    refine at_nil ?_
    refine at_weak [(0, _), (3, _), (4, _), (5, _)] ⟨rfl, rfl, rfl, rfl, trivial⟩ ?_
    refine at_then_normal ?_
    refine at_seq ?_
    refine at_block ?_
    obtain ⟨q5, hq5, hF⟩ := of_bindM hF
    refine at_weak [(0, _), (3, _), (4, _), (5, _)] ⟨rfl, rfl, rfl, rfl, trivial⟩ ?_
    refine at_loop_n (B := 0) (A := fun Y => At 58 [(0, .int .u64 x0), (3, .slice (some ⟨b4, 0, none⟩) ([⟨#[75, 105, 66]⟩, ⟨#[77, 105, 66]⟩, ⟨#[71, 105, 66]⟩, ⟨#[84, 105, 66]⟩, ⟨#[80, 105, 66]⟩, ⟨#[69, 105, 66]⟩] : List ByteArray).length 6), (4, .int .u64 q5.1), (5, .int .i64 q5.2)] (Wd w [cellsE b4 (cStr.all ([⟨#[75, 105, 66]⟩, ⟨#[77, 105, 66]⟩, ⟨#[71, 105, 66]⟩, ⟨#[84, 105, 66]⟩, ⟨#[80, 105, 66]⟩, ⟨#[69, 105, 66]⟩] : List ByteArray)) 9]) Y) ?_ ?_
    · intro K
      refine crawlwayref56_Size.l0.partial_correctness x0 (motive := fun i6 i7 x => KN (fun Y => At 58 [(0, .int .u64 x0), (3, .slice (some ⟨b4, 0, none⟩) ([⟨#[75, 105, 66]⟩, ⟨#[77, 105, 66]⟩, ⟨#[71, 105, 66]⟩, ⟨#[84, 105, 66]⟩, ⟨#[80, 105, 66]⟩, ⟨#[69, 105, 66]⟩] : List ByteArray).length 6), (4, .int .u64 x.1), (5, .int .i64 x.2)] (Wd w [cellsE b4 (cStr.all ([⟨#[75, 105, 66]⟩, ⟨#[77, 105, 66]⟩, ⟨#[71, 105, 66]⟩, ⟨#[84, 105, 66]⟩, ⟨#[80, 105, 66]⟩, ⟨#[69, 105, 66]⟩] : List ByteArray)) 9]) Y) _ 0 → Round (fun Y => At 58 [(0, .int .u64 x0), (3, .slice (some ⟨b4, 0, none⟩) ([⟨#[75, 105, 66]⟩, ⟨#[77, 105, 66]⟩, ⟨#[71, 105, 66]⟩, ⟨#[84, 105, 66]⟩, ⟨#[80, 105, 66]⟩, ⟨#[69, 105, 66]⟩] : List ByteArray).length 6), (4, .int .u64 i6), (5, .int .i64 i7)] (Wd w [cellsE b4 (cStr.all ([⟨#[75, 105, 66]⟩, ⟨#[77, 105, 66]⟩, ⟨#[71, 105, 66]⟩, ⟨#[84, 105, 66]⟩, ⟨#[80, 105, 66]⟩, ⟨#[69, 105, 66]⟩] : List ByteArray)) 9]) Y) _ _ _) ?_ _ _ _ hq5 K
      · clear K hF
        intro g ih i6 i7 x hF K
        refine at_round ?_
        refine at_seq ?_
        refine at_seq ?_
        refine at_region ?_
        refine at_val rfl rfl rfl (r_move rfl) ?_
        refine at_val rfl rfl rfl (r_ilss rfl rfl) ?_
        refine at_val rfl rfl rfl (r_move rfl) ?_
        rcases of_ite hF with ⟨h8, hF⟩ | ⟨h8, hF⟩
        · refine at_fix (g := 17) rfl h8 ?_
          refine at_guard_yes rfl rfl rfl ?_
          refine at_val rfl rfl rfl (r_move rfl) ?_
          refine at_guard_yes rfl rfl rfl ?_
          refine at_val rfl rfl rfl (r_move rfl) ?_
          refine at_guard_yes rfl rfl rfl ?_
          obtain ⟨h9, hF⟩ := of_guard hF
          refine at_val rfl rfl rfl (r_iquo rfl rfl h9) ?_
          refine at_guard_yes rfl rfl rfl ?_
          refine at_val rfl rfl rfl (r_igeq rfl rfl) ?_
          refine at_val rfl rfl rfl (r_pick rfl rfl rfl) ?_
          refine at_nil ?_
          refine at_weak [(0, _), (3, _), (4, _), (5, _), (22, _)] ⟨rfl, rfl, rfl, rfl, rfl, trivial⟩ ?_
          refine at_then_normal ?_
          rcases of_ite hF with ⟨h10, hF⟩ | ⟨h10, hF⟩
          · refine at_cond_true rfl h10 ?_
            refine at_skip ?_
            refine at_then_normal ?_
            refine at_block ?_
            refine at_seq ?_
            refine at_region ?_
            refine at_val rfl rfl rfl (r_move rfl) ?_
            refine at_val rfl rfl rfl (r_imul rfl rfl) ?_
            refine at_val rfl rfl rfl (r_assign rfl) ?_
            refine at_nil ?_
            refine at_weak [(0, _), (3, _), (4, _), (5, _)] ⟨rfl, rfl, rfl, rfl, trivial⟩ ?_
            refine at_then_normal ?_
            refine at_region ?_
            refine at_val rfl rfl rfl (r_move rfl) ?_
            refine at_val rfl rfl rfl (r_iadd rfl rfl) ?_
            refine at_val rfl rfl rfl (r_assign rfl) ?_
            refine at_nil ?_
            refine at_weak [(0, _), (3, _), (4, _), (5, _)] ⟨rfl, rfl, rfl, rfl, trivial⟩ ?_
            refine at_blk_normal (at_then_normal ?_)
            exact at_weak_k (ih _ _ _ hF K) ⟨rfl, rfl, rfl, rfl, trivial⟩
          · refine at_cond_false rfl h10 ?_
            refine at_exit ?_
            refine at_then_exit (at_then_exit ?_)
            obtain rfl := of_some hF
            exact at_weak_k K ⟨rfl, rfl, rfl, rfl, trivial⟩
        · refine at_fix (g := 17) rfl h8 ?_
          refine at_guard_no rfl rfl rfl rfl rfl ?_
          refine at_guard_no rfl rfl rfl rfl rfl ?_
          refine at_guard_no rfl rfl rfl rfl rfl ?_
          refine at_guard_no rfl rfl rfl rfl rfl ?_
          refine at_val rfl rfl rfl (r_pick rfl rfl rfl) ?_
          refine at_nil ?_
          refine at_weak [(0, _), (3, _), (4, _), (5, _), (22, _)] ⟨rfl, rfl, rfl, rfl, rfl, trivial⟩ ?_
          refine at_then_normal ?_
          refine at_cond_false rfl rfl ?_
          refine at_exit ?_
          refine at_then_exit (at_then_exit ?_)
          obtain rfl := of_some hF
          exact at_weak_k K ⟨rfl, rfl, rfl, rfl, trivial⟩
    · skip
      skip
      refine at_blk_same ?_
      refine at_then_normal ?_
      refine at_seq ?_
      refine at_region ?_
      refine at_val rfl rfl rfl (r_move rfl) ?_
      refine at_val rfl rfl rfl (r_move rfl) ?_
      obtain ⟨h11, hF⟩ := of_guard hF
      refine at_val rfl rfl rfl (r_irem rfl rfl h11) ?_
      refine at_val rfl rfl rfl (r_assign rfl) ?_
      refine at_nil ?_
      refine at_weak [(0, _), (3, _), (4, _), (5, _), (6, _)] ⟨rfl, rfl, rfl, rfl, rfl, trivial⟩ ?_
      refine at_then_normal ?_
      refine at_seq ?_
      refine at_region ?_
      refine at_val rfl rfl rfl (r_move rfl) ?_
      refine at_val rfl rfl rfl (r_imul rfl rfl) ?_
      refine at_val rfl rfl rfl (r_move rfl) ?_
      obtain ⟨h12, hF⟩ := of_guard hF
      refine at_val rfl rfl rfl (r_iquo rfl rfl h12) ?_
      refine at_val rfl rfl rfl (r_assign rfl) ?_
      refine at_nil ?_
      refine at_weak [(0, _), (3, _), (4, _), (5, _), (6, _), (7, _)] ⟨rfl, rfl, rfl, rfl, rfl, rfl, trivial⟩ ?_
      refine at_then_normal ?_
      refine at_seq ?_
      refine at_region ?_
      refine at_val rfl rfl rfl (r_move rfl) ?_
      refine at_val rfl rfl rfl (r_imul rfl rfl) ?_
      refine at_val rfl rfl rfl (r_move rfl) ?_
      obtain ⟨h13, hF⟩ := of_guard hF
      refine at_val rfl rfl rfl (r_irem rfl rfl h13) ?_
      refine at_val rfl rfl rfl (r_imul rfl rfl) ?_
      refine at_val rfl rfl rfl (r_move rfl) ?_
      obtain ⟨h14, hF⟩ := of_guard hF
      refine at_val rfl rfl rfl (r_iquo rfl rfl h14) ?_
      refine at_val rfl rfl rfl (r_assign rfl) ?_
      refine at_nil ?_
      refine at_weak [(0, _), (3, _), (4, _), (5, _), (7, _), (8, _)] ⟨rfl, rfl, rfl, rfl, rfl, rfl, trivial⟩ ?_
      refine at_then_normal ?_
      refine at_seq ?_
      refine at_draw (by kernel_rfl) (by kernel_rfl) (fun _ h => h.drew) ?_
      refine atq_val rfl rfl rfl (r_move rfl) ?_
      refine atq_val rfl rfl rfl (r_move rfl) ?_
      obtain ⟨h15, hF⟩ := of_guard hF
      refine atq_val rfl rfl rfl (r_iquo rfl rfl h15) ?_
      obtain ⟨t16, ht16, hF⟩ := of_bindM hF
      refine atq_call Tryd.func11 rfl (by kernel_rfl) rfl rfl (fun w hw => (crawlwayref03_Text_ok _ _ ht16 w).mono fun _ _ h => ⟨h.1, hw.call h.2⟩) ?_
      obtain ⟨h17, hF⟩ := of_guard hF
      refine atq_val rfl rfl rfl (r_concat rfl rfl h17) ?_
      refine atq_val rfl rfl rfl (r_move rfl) ?_
      obtain ⟨t18, ht18, hF⟩ := of_bindM hF
      refine atq_call Tryd.func11 rfl (by kernel_rfl) rfl rfl (fun w hw => (crawlwayref03_Text_ok _ _ ht18 w).mono fun _ _ h => ⟨h.1, hw.call h.2⟩) ?_
      obtain ⟨h19, hF⟩ := of_guard hF
      refine atq_val rfl rfl rfl (r_concat rfl rfl h19) ?_
      refine atq_val rfl rfl rfl (r_move rfl) ?_
      obtain ⟨t20, ht20, hF⟩ := of_bindM hF
      refine atq_call Tryd.func11 rfl (by kernel_rfl) rfl rfl (fun w hw => (crawlwayref03_Text_ok _ _ ht20 w).mono fun _ _ h => ⟨h.1, hw.call h.2⟩) ?_
      obtain ⟨h21, hF⟩ := of_guard hF
      refine atq_val rfl rfl rfl (r_concat rfl rfl h21) ?_
      obtain ⟨h22, hF⟩ := of_guard hF
      refine atq_val rfl rfl rfl (r_concat rfl rfl h22) ?_
      refine atq_val rfl rfl rfl (r_move rfl) ?_
      refine atq_val rfl rfl rfl (r_move rfl) ?_
      obtain ⟨h23, hF⟩ := of_guard hF
      refine atq_val rfl rfl rfl (r_idx Tryd.underlying68 Tryd.sizeOf9 rfl rfl h23 rfl) ?_
      refine atq_val rfl rfl rfl (r_load_cell Tryd.isAgg9 rfl (fun _ hw => row_cell0 (W := fun w1 => w1 = _) (fun w1 h => by subst h; exact Below.refl _ _) (cells_row (hw.ok (Upd.mem .z))) h23 rfl rfl _ rfl)) ?_
      obtain ⟨h24, hF⟩ := of_guard hF
      refine atq_val rfl rfl rfl (r_concat rfl rfl h24) ?_
      refine atq_val rfl rfl rfl (r_assign rfl) ?_
      refine atq_nil ?_
      refine at_drop (H := _) .z ?_
      refine at_weak [(2, _)] ⟨rfl, trivial⟩ ?_
      refine at_then_normal ?_
      refine at_ret ?_
      have K := of_some hF
      subst K
      exact at_return1 rfl rfl (fun w1 hw => ⟨rfl, hw.below⟩)

def crawlwaylaw56_alive : Option (Bool) :=
  show_Size 1536 >>= fun t1 => if (seq t1 (⟨#[49, 46, 53, 48, 32, 75, 105, 66]⟩ : ByteArray)) = true then (show_Size 18446744073709551615 >>= fun t3 => if (seq t3 (⟨#[49, 53, 46, 57, 57, 32, 69, 105, 66]⟩ : ByteArray)) = true then (show_Size 7 >>= fun t5 => some (seq t5 (⟨#[55, 32, 66]⟩ : ByteArray))) else (some false)) else (some false)
theorem crawlwaylaw56_alive_ok (r : Bool) (hF : crawlwaylaw56_alive  = some r) (w : World) (hg_show_units : GV_show_units w) (hg_strconv_uint64pow10 : GV_strconv_uint64pow10 w) :
    Calls Tryd.prog 18 #[] w (fun e w' => e = .returned (.bool r) ∧ Below w.heap.size w w') := by
  unfold crawlwaylaw56_alive at hF
  refine calls_enter (l := []) Tryd.func18 rfl rfl rfl ?_
  refine at_start ?_
  refine at_weak [] trivial ?_
  refine at_seq ?_
  refine at_region ?_
  refine at_val rfl rfl rfl (r_assign rfl) ?_
  refine at_nil ?_
  refine at_weak [] trivial ?_
  refine at_then_normal ?_
  refine at_seq ?_
  refine at_region ?_
  obtain ⟨t1, ht1, hF⟩ := of_bindM hF
  refine at_callB Tryd.func16 rfl (by kernel_rfl) rfl rfl (fun w hw => show_Size_ok _ _ ht1 w (hg_show_units.on hw.below) (hg_strconv_uint64pow10.on hw.below)) ?_
  refine at_val rfl rfl rfl (r_seql rfl rfl) ?_
  refine at_val rfl rfl rfl (r_move rfl) ?_
  rcases of_ite hF with ⟨h2, hF⟩ | ⟨h2, hF⟩
  · refine at_fix (g := 3) rfl h2 ?_
    refine at_guard_yes rfl rfl rfl ?_
    obtain ⟨t3, ht3, hF⟩ := of_bindM hF
    refine at_callB Tryd.func16 rfl (by kernel_rfl) rfl rfl (fun w hw => show_Size_ok _ _ ht3 w (hg_show_units.on hw.below) (hg_strconv_uint64pow10.on hw.below)) ?_
    refine at_guard_yes rfl rfl rfl ?_
    refine at_val rfl rfl rfl (r_seql rfl rfl) ?_
    refine at_val rfl rfl rfl (r_pick rfl rfl rfl) ?_
    refine at_val rfl rfl rfl (r_move rfl) ?_
    rcases of_ite hF with ⟨h4, hF⟩ | ⟨h4, hF⟩
    · refine at_fix (g := 7) rfl h4 ?_
      refine at_guard_yes rfl rfl rfl ?_
      obtain ⟨t5, ht5, hF⟩ := of_bindM hF
      refine at_callB Tryd.func16 rfl (by kernel_rfl) rfl rfl (fun w hw => show_Size_ok _ _ ht5 w (hg_show_units.on hw.below) (hg_strconv_uint64pow10.on hw.below)) ?_
      refine at_guard_yes rfl rfl rfl ?_
      refine at_val rfl rfl rfl (r_seql rfl rfl) ?_
      refine at_val rfl rfl rfl (r_pick rfl rfl rfl) ?_
      refine at_val rfl rfl rfl (r_assign rfl) ?_
      refine at_nil ?_
      refine at_weak [(0, _)] ⟨rfl, trivial⟩ ?_
      refine at_then_normal ?_
      refine at_ret ?_
      have K := of_some hF
      subst K
      exact at_return1 rfl rfl (fun w1 hw => ⟨rfl, hw.below⟩)
    · refine at_fix (g := 7) rfl h4 ?_
      refine at_guard_no rfl rfl rfl rfl rfl ?_
      refine at_guard_no rfl rfl rfl rfl rfl ?_
      refine at_val rfl rfl rfl (r_pick rfl rfl rfl) ?_
      refine at_val rfl rfl rfl (r_assign rfl) ?_
      refine at_nil ?_
      refine at_weak [(0, _)] ⟨rfl, trivial⟩ ?_
      refine at_then_normal ?_
      refine at_ret ?_
      have K := of_some hF
      subst K
      exact at_return1 rfl rfl (fun w1 hw => ⟨rfl, hw.below⟩)
  · refine at_fix (g := 3) rfl h2 ?_
    refine at_guard_no rfl rfl rfl rfl rfl ?_
    refine at_guard_no rfl rfl rfl rfl rfl ?_
    refine at_val rfl rfl rfl (r_pick rfl rfl rfl) ?_
    refine at_val rfl rfl rfl (r_move rfl) ?_
    refine at_guard_no rfl rfl rfl rfl rfl ?_
    refine at_guard_no rfl rfl rfl rfl rfl ?_
    refine at_val rfl rfl rfl (r_pick rfl rfl rfl) ?_
    refine at_val rfl rfl rfl (r_assign rfl) ?_
    refine at_nil ?_
    refine at_weak [(0, _)] ⟨rfl, trivial⟩ ?_
    refine at_then_normal ?_
    refine at_ret ?_
    have K := of_some hF
    subst K
    exact at_return1 rfl rfl (fun w1 hw => ⟨rfl, hw.below⟩)

def crawlwaylaw56_ShowSizes (x0 : Int) : Option (Bool) :=
  show_Size x0 >>= fun t1 => crawlwayref56_Size x0 >>= fun t2 => if (seq t1 t2) = true then (crawlwaylaw56_alive >>= fun t4 => some t4) else (some false)
theorem crawlwaylaw56_ShowSizes_ok (x0 : Int) (r : Bool) (hF : crawlwaylaw56_ShowSizes x0 = some r) (w : World) (hg_show_units : GV_show_units w) (hg_strconv_uint64pow10 : GV_strconv_uint64pow10 w) :
    Calls Tryd.prog 5 #[.int .u64 x0] w (fun e w' => e = .returned (.bool r) ∧ Below w.heap.size w w') := by
  unfold crawlwaylaw56_ShowSizes at hF
  refine calls_enter (l := [.int .u64 x0]) Tryd.func5 rfl rfl rfl ?_
  refine at_start ?_
  refine at_weak [(0, _)] ⟨rfl, trivial⟩ ?_
  refine at_seq ?_
  refine at_region ?_
  refine at_val rfl rfl rfl (r_assign rfl) ?_
  refine at_nil ?_
  refine at_weak [(0, _)] ⟨rfl, trivial⟩ ?_
  refine at_then_normal ?_
  refine at_seq ?_
  refine at_region ?_
  refine at_val rfl rfl rfl (r_move rfl) ?_
  obtain ⟨t1, ht1, hF⟩ := of_bindM hF
  refine at_callB Tryd.func16 rfl (by kernel_rfl) rfl rfl (fun w hw => show_Size_ok _ _ ht1 w (hg_show_units.on hw.below) (hg_strconv_uint64pow10.on hw.below)) ?_
  refine at_val rfl rfl rfl (r_move rfl) ?_
  obtain ⟨t2, ht2, hF⟩ := of_bindM hF
  refine at_callB Tryd.func17 rfl (by kernel_rfl) rfl rfl (fun w hw => crawlwayref56_Size_ok _ _ ht2 w) ?_
  refine at_val rfl rfl rfl (r_seql rfl rfl) ?_
  refine at_val rfl rfl rfl (r_move rfl) ?_
  rcases of_ite hF with ⟨h3, hF⟩ | ⟨h3, hF⟩
  · refine at_fix (g := 8) rfl h3 ?_
    refine at_guard_yes rfl rfl rfl ?_
    obtain ⟨t4, ht4, hF⟩ := of_bindM hF
    refine at_callB Tryd.func18 rfl (by kernel_rfl) rfl rfl (fun w hw => crawlwaylaw56_alive_ok  _ ht4 w (hg_show_units.on hw.below) (hg_strconv_uint64pow10.on hw.below)) ?_
    refine at_val rfl rfl rfl (r_pick rfl rfl rfl) ?_
    refine at_val rfl rfl rfl (r_assign rfl) ?_
    refine at_nil ?_
    refine at_weak [(2, _)] ⟨rfl, trivial⟩ ?_
    refine at_then_normal ?_
    refine at_ret ?_
    have K := of_some hF
    subst K
    exact at_return1 rfl rfl (fun w1 hw => ⟨rfl, hw.below⟩)
  · refine at_fix (g := 8) rfl h3 ?_
    refine at_guard_no rfl rfl rfl rfl rfl ?_
    refine at_val rfl rfl rfl (r_pick rfl rfl rfl) ?_
    refine at_val rfl rfl rfl (r_assign rfl) ?_
    refine at_nil ?_
    refine at_weak [(2, _)] ⟨rfl, trivial⟩ ?_
    refine at_then_normal ?_
    refine at_ret ?_
    have K := of_some hF
    subst K
    exact at_return1 rfl rfl (fun w1 hw => ⟨rfl, hw.below⟩)
end Go.Proofs.YtnojjenpggdadaaDoor
