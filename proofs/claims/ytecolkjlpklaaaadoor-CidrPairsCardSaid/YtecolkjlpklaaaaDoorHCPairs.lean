/- Functions with the same answers as the Go functions that they are named for, and the proofs of it, by a program of this project (gen.py). -/
import Derived.Test.YtecolkjlpklaaaaDoorT
import Derived.Test.YtecolkjlpklaaaaDoorShelf
import Derived.Test.YtecolkjlpklaaaaDoorW
import Derived.Test.YtecolkjlpklaaaaDoorL
import Derived.Test.YtecolkjlpklaaaaDoorS
import Derived.Test.YtecolkjlpklaaaaDoorJ
import Derived.Test.YtecolkjlpklaaaaDoorK
import Derived.Test.YtecolkjlpklaaaaDoorR
import Derived.Test.YtecolkjlpklaaaaDoorProg
import Derived.Test.YtecolkjlpklaaaaDoorG1
import Derived.Test.YtecolkjlpklaaaaDoorG2
import Derived.Test.YtecolkjlpklaaaaDoorG3
import Derived.Test.YtecolkjlpklaaaaDoorH4
import Derived.Test.YtecolkjlpklaaaaDoorH5
import Derived.Test.YtecolkjlpklaaaaDoorH6
import Derived.Test.YtecolkjlpklaaaaDoorH7
set_option linter.unusedVariables false
set_option linter.unusedSimpArgs false
namespace Go.Proofs.YtecolkjlpklaaaaDoor
open E Go.RowKit


def crawlwaylaw11_CidrPairs (x0 : S_api_Prefix) (x1 : S_api_Prefix) : Option (Bool) :=
  cidr_Covers x0 x1 >>= fun t3 => crawlwayref11_Covers x0 x1 >>= fun t4 => if (t3 != t4) = true then (some false) else (crawlwayref11_Right x0 >>= fun t6 => if (!t6) = true then (cidr_Covers x0 x1 >>= fun t8 => if (!t8) = true then (crawlwaylaw11_alive >>= fun t10 => some t10) else (some false)) else (crawlwayref11_Right x1 >>= fun t11 => if (!t11) = true then (cidr_Covers x0 x1 >>= fun t13 => if (!t13) = true then (crawlwaylaw11_alive >>= fun t15 => some t15) else (some false)) else (cidr_Covers x0 x1 >>= fun t16 => if t16 = true then (cidr_Covers x1 x0 >>= fun t18 => if (t18 != decide (x0 = x1)) = true then (some false) else (cidr_Less x0 x1 >>= fun t20 => crawlwayref11_Less x0 x1 >>= fun t21 => if (t20 == t21) = true then (crawlwaylaw11_alive >>= fun t23 => some t23) else (some false))) else (cidr_Less x0 x1 >>= fun t24 => crawlwayref11_Less x0 x1 >>= fun t25 => if (t24 == t25) = true then (crawlwaylaw11_alive >>= fun t27 => some t27) else (some false)))))
theorem crawlwaylaw11_CidrPairs_ok (x0 : S_api_Prefix) (x1 : S_api_Prefix) (r : Bool) (hF : crawlwaylaw11_CidrPairs x0 x1 = some r) (w : World) (hg_strconv_ErrRange : GV_strconv_ErrRange w) (hg_strconv_ErrSyntax : GV_strconv_ErrSyntax w) (hg_strconv_uint64pow10 : GV_strconv_uint64pow10 w) :
    Calls Tryd.prog 12 #[.agg (Cd.cs c_api_Prefix x0).toArray, .agg (Cd.cs c_api_Prefix x1).toArray] w (fun e w' => e = .returned (.bool r) ∧ Below w.heap.size w w') := by
  unfold crawlwaylaw11_CidrPairs at hF
  refine calls_enter (l := [.agg (Cd.cs c_api_Prefix x0).toArray, .agg (Cd.cs c_api_Prefix x1).toArray]) Tryd.func12 rfl rfl rfl ?_
  refine at_start ?_
  refine at_weak [(0, _), (1, _)] ⟨rfl, rfl, trivial⟩ ?_
  refine at_seq ?_
  refine at_region ?_
  refine at_box (cs := Cd.cs c_api_Prefix x0) rfl rfl rfl ?_
  intro b1
  refine at_box (cs := Cd.cs c_api_Prefix x1) rfl rfl rfl ?_
  intro b2
  refine at_val rfl rfl rfl (r_assign rfl) ?_
  refine at_nil ?_
  refine at_weak [(2, _), (3, _)] ⟨rfl, rfl, trivial⟩ ?_
  refine at_then_normal ?_
  refine at_seq ?_
  refine at_seq ?_
  refine at_draw (by kernel_rfl) (by kernel_rfl) (fun _ h => h.drew) ?_
  refine atq_val rfl rfl rfl (r_load_aggc (c := c_api_Prefix) (z := x0) Tryd.isAgg50 Tryd.sizeOf50 rfl (lens_cell (.s .z) (Lens.whole _ _))) ?_
  refine atq_val rfl rfl rfl (r_load_aggc (c := c_api_Prefix) (z := x1) Tryd.isAgg50 Tryd.sizeOf50 rfl (lens_cell .z (Lens.whole _ _))) ?_
  obtain ⟨t3, ht3, hF⟩ := of_bindM hF
  refine atq_call Tryd.func55 rfl (by kernel_rfl) rfl rfl (fun w hw => (cidr_Covers_ok _ _ _ ht3 w).mono fun _ _ h => ⟨h.1, hw.call h.2⟩) ?_
  refine atq_val rfl rfl rfl (r_load_aggc (c := c_api_Prefix) (z := x0) Tryd.isAgg50 Tryd.sizeOf50 rfl (lens_cell (.s .z) (Lens.whole _ _))) ?_
  refine atq_val rfl rfl rfl (r_load_aggc (c := c_api_Prefix) (z := x1) Tryd.isAgg50 Tryd.sizeOf50 rfl (lens_cell .z (Lens.whole _ _))) ?_
  obtain ⟨t4, ht4, hF⟩ := of_bindM hF
  refine atq_call Tryd.func56 rfl (by kernel_rfl) rfl rfl (fun w hw => (crawlwayref11_Covers_ok _ _ _ ht4 w).mono fun _ _ h => ⟨h.1, hw.call h.2⟩) ?_
  refine atq_val rfl rfl rfl (r_bool Tryd.underlying4 rfl rfl (.inr rfl) rfl) ?_
  refine atq_nil ?_
  refine at_weak [(2, _), (3, _), (11, _)] ⟨rfl, rfl, rfl, trivial⟩ ?_
  refine at_then_normal ?_
  rcases of_ite hF with ⟨h5, hF⟩ | ⟨h5, hF⟩
  · refine at_cond_true rfl h5 ?_
    refine at_seq ?_
    refine at_region ?_
    refine at_val rfl rfl rfl (r_assign rfl) ?_
    refine at_nil ?_
    refine at_drop (H := _) .z ?_
    refine at_drop (H := _) .z ?_
    refine at_weak [(4, _)] ⟨rfl, trivial⟩ ?_
    refine at_then_normal ?_
    refine at_ret ?_
    refine at_then_ret ?_
    have K := of_some hF
    subst K
    exact at_return1 rfl rfl (fun w1 hw => ⟨rfl, hw.below⟩)
  · refine at_cond_false rfl h5 ?_
    refine at_skip ?_
    refine at_then_normal ?_
    refine at_seq ?_
    refine at_seq ?_
    refine at_region ?_
    refine at_val rfl rfl rfl (r_load_aggc (c := c_api_Prefix) (z := x0) Tryd.isAgg50 Tryd.sizeOf50 rfl (lens_cell (.s .z) (Lens.whole _ _))) ?_
    obtain ⟨t6, ht6, hF⟩ := of_bindM hF
    refine at_callB Tryd.func50 rfl (by kernel_rfl) rfl rfl (fun w hw => crawlwayref11_Right_ok _ _ ht6 w) ?_
    refine at_val rfl rfl rfl (r_not rfl) ?_
    refine at_val rfl rfl rfl (r_move rfl) ?_
    rcases of_ite hF with ⟨h7, hF⟩ | ⟨h7, hF⟩
    · refine at_fix (g := 15) rfl h7 ?_
      refine at_guard_no rfl rfl rfl rfl rfl ?_
      refine at_guard_no rfl rfl rfl rfl rfl ?_
      refine at_guard_no rfl rfl rfl rfl rfl ?_
      refine at_val rfl rfl rfl (r_pick rfl rfl rfl) ?_
      refine at_nil ?_
      refine at_weak [(2, _), (3, _), (19, _)] ⟨rfl, rfl, rfl, trivial⟩ ?_
      refine at_then_normal ?_
      refine at_cond_true rfl rfl ?_
      refine at_seq ?_
      refine at_region ?_
      refine at_val rfl rfl rfl (r_load_aggc (c := c_api_Prefix) (z := x0) Tryd.isAgg50 Tryd.sizeOf50 rfl (lens_cell (.s .z) (Lens.whole _ _))) ?_
      refine at_val rfl rfl rfl (r_load_aggc (c := c_api_Prefix) (z := x1) Tryd.isAgg50 Tryd.sizeOf50 rfl (lens_cell .z (Lens.whole _ _))) ?_
      obtain ⟨t8, ht8, hF⟩ := of_bindM hF
      refine at_callB Tryd.func55 rfl (by kernel_rfl) rfl rfl (fun w hw => cidr_Covers_ok _ _ _ ht8 w) ?_
      refine at_val rfl rfl rfl (r_not rfl) ?_
      refine at_val rfl rfl rfl (r_move rfl) ?_
      rcases of_ite hF with ⟨h9, hF⟩ | ⟨h9, hF⟩
      · refine at_fix (g := 24) rfl h9 ?_
        refine at_guard_yes rfl rfl rfl ?_
        obtain ⟨t10, ht10, hF⟩ := of_bindM hF
        refine at_callB Tryd.func47 rfl (by kernel_rfl) rfl rfl (fun w hw => crawlwaylaw11_alive_ok  _ ht10 w (hg_strconv_ErrRange.on hw.below) (hg_strconv_ErrSyntax.on hw.below) (hg_strconv_uint64pow10.on hw.below)) ?_
        refine at_val rfl rfl rfl (r_pick rfl rfl rfl) ?_
        refine at_val rfl rfl rfl (r_assign rfl) ?_
        refine at_nil ?_
        refine at_drop (H := _) .z ?_
        refine at_drop (H := _) .z ?_
        refine at_weak [(4, _)] ⟨rfl, trivial⟩ ?_
        refine at_then_normal ?_
        refine at_ret ?_
        refine at_then_ret ?_
        have K := of_some hF
        subst K
        exact at_return1 rfl rfl (fun w1 hw => ⟨rfl, hw.below⟩)
      · refine at_fix (g := 24) rfl h9 ?_
        refine at_guard_no rfl rfl rfl rfl rfl ?_
        refine at_val rfl rfl rfl (r_pick rfl rfl rfl) ?_
        refine at_val rfl rfl rfl (r_assign rfl) ?_
        refine at_nil ?_
        refine at_drop (H := _) .z ?_
        refine at_drop (H := _) .z ?_
        refine at_weak [(4, _)] ⟨rfl, trivial⟩ ?_
        refine at_then_normal ?_
        refine at_ret ?_
        refine at_then_ret ?_
        have K := of_some hF
        subst K
        exact at_return1 rfl rfl (fun w1 hw => ⟨rfl, hw.below⟩)
    · refine at_fix (g := 15) rfl h7 ?_
      refine at_guard_yes rfl rfl rfl ?_
      refine at_val rfl rfl rfl (r_load_aggc (c := c_api_Prefix) (z := x1) Tryd.isAgg50 Tryd.sizeOf50 rfl (lens_cell .z (Lens.whole _ _))) ?_
      refine at_guard_yes rfl rfl rfl ?_
      obtain ⟨t11, ht11, hF⟩ := of_bindM hF
      refine at_callB Tryd.func50 rfl (by kernel_rfl) rfl rfl (fun w hw => crawlwayref11_Right_ok _ _ ht11 w) ?_
      refine at_guard_yes rfl rfl rfl ?_
      refine at_val rfl rfl rfl (r_not rfl) ?_
      refine at_val rfl rfl rfl (r_pick rfl rfl rfl) ?_
      refine at_nil ?_
      refine at_weak [(2, _), (3, _), (19, _)] ⟨rfl, rfl, rfl, trivial⟩ ?_
      refine at_then_normal ?_
      rcases of_ite hF with ⟨h12, hF⟩ | ⟨h12, hF⟩
      · refine at_cond_true rfl h12 ?_
        refine at_seq ?_
        refine at_region ?_
        refine at_val rfl rfl rfl (r_load_aggc (c := c_api_Prefix) (z := x0) Tryd.isAgg50 Tryd.sizeOf50 rfl (lens_cell (.s .z) (Lens.whole _ _))) ?_
        refine at_val rfl rfl rfl (r_load_aggc (c := c_api_Prefix) (z := x1) Tryd.isAgg50 Tryd.sizeOf50 rfl (lens_cell .z (Lens.whole _ _))) ?_
        obtain ⟨t13, ht13, hF⟩ := of_bindM hF
        refine at_callB Tryd.func55 rfl (by kernel_rfl) rfl rfl (fun w hw => cidr_Covers_ok _ _ _ ht13 w) ?_
        refine at_val rfl rfl rfl (r_not rfl) ?_
        refine at_val rfl rfl rfl (r_move rfl) ?_
        rcases of_ite hF with ⟨h14, hF⟩ | ⟨h14, hF⟩
        · refine at_fix (g := 24) rfl h14 ?_
          refine at_guard_yes rfl rfl rfl ?_
          obtain ⟨t15, ht15, hF⟩ := of_bindM hF
          refine at_callB Tryd.func47 rfl (by kernel_rfl) rfl rfl (fun w hw => crawlwaylaw11_alive_ok  _ ht15 w (hg_strconv_ErrRange.on hw.below) (hg_strconv_ErrSyntax.on hw.below) (hg_strconv_uint64pow10.on hw.below)) ?_
          refine at_val rfl rfl rfl (r_pick rfl rfl rfl) ?_
          refine at_val rfl rfl rfl (r_assign rfl) ?_
          refine at_nil ?_
          refine at_drop (H := _) .z ?_
          refine at_drop (H := _) .z ?_
          refine at_weak [(4, _)] ⟨rfl, trivial⟩ ?_
          refine at_then_normal ?_
          refine at_ret ?_
          refine at_then_ret ?_
          have K := of_some hF
          subst K
          exact at_return1 rfl rfl (fun w1 hw => ⟨rfl, hw.below⟩)
        · refine at_fix (g := 24) rfl h14 ?_
          refine at_guard_no rfl rfl rfl rfl rfl ?_
          refine at_val rfl rfl rfl (r_pick rfl rfl rfl) ?_
          refine at_val rfl rfl rfl (r_assign rfl) ?_
          refine at_nil ?_
          refine at_drop (H := _) .z ?_
          refine at_drop (H := _) .z ?_
          refine at_weak [(4, _)] ⟨rfl, trivial⟩ ?_
          refine at_then_normal ?_
          refine at_ret ?_
          refine at_then_ret ?_
          have K := of_some hF
          subst K
          exact at_return1 rfl rfl (fun w1 hw => ⟨rfl, hw.below⟩)
      · refine at_cond_false rfl h12 ?_
        refine at_skip ?_
        refine at_then_normal ?_
        refine at_seq ?_
        refine at_seq ?_
        refine at_draw (by kernel_rfl) (by kernel_rfl) (fun _ h => h.drew) ?_
        refine atq_val rfl rfl rfl (r_load_aggc (c := c_api_Prefix) (z := x0) Tryd.isAgg50 Tryd.sizeOf50 rfl (lens_cell (.s .z) (Lens.whole _ _))) ?_
        refine atq_val rfl rfl rfl (r_load_aggc (c := c_api_Prefix) (z := x1) Tryd.isAgg50 Tryd.sizeOf50 rfl (lens_cell .z (Lens.whole _ _))) ?_
        obtain ⟨t16, ht16, hF⟩ := of_bindM hF
        refine atq_call Tryd.func55 rfl (by kernel_rfl) rfl rfl (fun w hw => (cidr_Covers_ok _ _ _ ht16 w).mono fun _ _ h => ⟨h.1, hw.call h.2⟩) ?_
        refine atq_val rfl rfl rfl (r_move rfl) ?_
        rcases of_ite hF with ⟨h17, hF⟩ | ⟨h17, hF⟩
        · refine atq_fix (g := 30) rfl h17 ?_
          refine atq_guard_yes rfl rfl rfl ?_
          refine atq_val rfl rfl rfl (r_load_aggc (c := c_api_Prefix) (z := x1) Tryd.isAgg50 Tryd.sizeOf50 rfl (lens_cell .z (Lens.whole _ _))) ?_
          refine atq_guard_yes rfl rfl rfl ?_
          refine atq_val rfl rfl rfl (r_load_aggc (c := c_api_Prefix) (z := x0) Tryd.isAgg50 Tryd.sizeOf50 rfl (lens_cell (.s .z) (Lens.whole _ _))) ?_
          refine atq_guard_yes rfl rfl rfl ?_
          obtain ⟨t18, ht18, hF⟩ := of_bindM hF
          refine atq_call Tryd.func55 rfl (by kernel_rfl) rfl rfl (fun w hw => (cidr_Covers_ok _ _ _ ht18 w).mono fun _ _ h => ⟨h.1, hw.call h.2⟩) ?_
          refine atq_guard_yes rfl rfl rfl ?_
          refine atq_val rfl rfl rfl (r_load_aggc (c := c_api_Prefix) (z := x0) Tryd.isAgg50 Tryd.sizeOf50 rfl (lens_cell (.s .z) (Lens.whole _ _))) ?_
          refine atq_guard_yes rfl rfl rfl ?_
          refine atq_val rfl rfl rfl (r_load_aggc (c := c_api_Prefix) (z := x1) Tryd.isAgg50 Tryd.sizeOf50 rfl (lens_cell .z (Lens.whole _ _))) ?_
          refine atq_guard_yes rfl rfl rfl ?_
          refine atq_val rfl rfl rfl (r_eqagg (c := c_api_Prefix) (a := x0) (b := x1) (eq_api_Prefix_50) rfl Tryd.eqGuardType50 rfl rfl (.inl rfl) rfl) ?_
          refine atq_guard_yes rfl rfl rfl ?_
          refine atq_val rfl rfl rfl (r_bool Tryd.underlying4 rfl rfl (.inr rfl) rfl) ?_
          refine atq_val rfl rfl rfl (r_pick rfl rfl rfl) ?_
          refine atq_nil ?_
          refine at_weak [(2, _), (3, _), (38, _)] ⟨rfl, rfl, rfl, trivial⟩ ?_
          refine at_then_normal ?_
          rcases of_ite hF with ⟨h19, hF⟩ | ⟨h19, hF⟩
          · refine at_cond_true rfl h19 ?_
            refine at_seq ?_
            refine at_region ?_
            refine at_val rfl rfl rfl (r_assign rfl) ?_
            refine at_nil ?_
            refine at_drop (H := _) .z ?_
            refine at_drop (H := _) .z ?_
            refine at_weak [(4, _)] ⟨rfl, trivial⟩ ?_
            refine at_then_normal ?_
            refine at_ret ?_
            refine at_then_ret ?_
            have K := of_some hF
            subst K
            exact at_return1 rfl rfl (fun w1 hw => ⟨rfl, hw.below⟩)
          · refine at_cond_false rfl h19 ?_
            refine at_skip ?_
            refine at_then_normal ?_
            refine at_seq ?_
            refine at_draw (by kernel_rfl) (by kernel_rfl) (fun _ h => h.drew) ?_
            refine atq_val rfl rfl rfl (r_load_aggc (c := c_api_Prefix) (z := x0) Tryd.isAgg50 Tryd.sizeOf50 rfl (lens_cell (.s .z) (Lens.whole _ _))) ?_
            refine atq_val rfl rfl rfl (r_load_aggc (c := c_api_Prefix) (z := x1) Tryd.isAgg50 Tryd.sizeOf50 rfl (lens_cell .z (Lens.whole _ _))) ?_
            obtain ⟨t20, ht20, hF⟩ := of_bindM hF
            refine atq_call Tryd.func57 rfl (by kernel_rfl) rfl rfl (fun w hw => (cidr_Less_ok _ _ _ ht20 w).mono fun _ _ h => ⟨h.1, hw.call h.2⟩) ?_
            refine atq_val rfl rfl rfl (r_load_aggc (c := c_api_Prefix) (z := x0) Tryd.isAgg50 Tryd.sizeOf50 rfl (lens_cell (.s .z) (Lens.whole _ _))) ?_
            refine atq_val rfl rfl rfl (r_load_aggc (c := c_api_Prefix) (z := x1) Tryd.isAgg50 Tryd.sizeOf50 rfl (lens_cell .z (Lens.whole _ _))) ?_
            obtain ⟨t21, ht21, hF⟩ := of_bindM hF
            refine atq_call Tryd.func58 rfl (by kernel_rfl) rfl rfl (fun w hw => (crawlwayref11_Less_ok _ _ _ ht21 w).mono fun _ _ h => ⟨h.1, hw.call h.2⟩) ?_
            refine atq_val rfl rfl rfl (r_bool Tryd.underlying4 rfl rfl (.inl rfl) rfl) ?_
            refine atq_val rfl rfl rfl (r_move rfl) ?_
            rcases of_ite hF with ⟨h22, hF⟩ | ⟨h22, hF⟩
            · refine atq_fix (g := 46) rfl h22 ?_
              refine atq_guard_yes rfl rfl rfl ?_
              obtain ⟨t23, ht23, hF⟩ := of_bindM hF
              refine atq_call Tryd.func47 rfl (by kernel_rfl) rfl rfl (fun w hw => (crawlwaylaw11_alive_ok  _ ht23 w (hg_strconv_ErrRange.on hw.below) (hg_strconv_ErrSyntax.on hw.below) (hg_strconv_uint64pow10.on hw.below)).mono fun _ _ h => ⟨h.1, hw.call h.2⟩) ?_
              refine atq_val rfl rfl rfl (r_pick rfl rfl rfl) ?_
              refine atq_val rfl rfl rfl (r_assign rfl) ?_
              refine atq_nil ?_
              refine at_drop (H := _) .z ?_
              refine at_drop (H := _) .z ?_
              refine at_weak [(4, _)] ⟨rfl, trivial⟩ ?_
              refine at_then_normal ?_
              refine at_ret ?_
              have K := of_some hF
              subst K
              exact at_return1 rfl rfl (fun w1 hw => ⟨rfl, hw.below⟩)
            · refine atq_fix (g := 46) rfl h22 ?_
              refine atq_guard_no rfl rfl rfl rfl rfl ?_
              refine atq_val rfl rfl rfl (r_pick rfl rfl rfl) ?_
              refine atq_val rfl rfl rfl (r_assign rfl) ?_
              refine atq_nil ?_
              refine at_drop (H := _) .z ?_
              refine at_drop (H := _) .z ?_
              refine at_weak [(4, _)] ⟨rfl, trivial⟩ ?_
              refine at_then_normal ?_
              refine at_ret ?_
              have K := of_some hF
              subst K
              exact at_return1 rfl rfl (fun w1 hw => ⟨rfl, hw.below⟩)
        · refine atq_fix (g := 30) rfl h17 ?_
          refine atq_guard_no rfl rfl rfl rfl rfl ?_
          refine atq_guard_no rfl rfl rfl rfl rfl ?_
          refine atq_guard_no rfl rfl rfl rfl rfl ?_
          refine atq_guard_no rfl rfl rfl rfl rfl ?_
          refine atq_guard_no rfl rfl rfl rfl rfl ?_
          refine atq_guard_no rfl rfl rfl rfl rfl ?_
          refine atq_guard_no rfl rfl rfl rfl rfl ?_
          refine atq_val rfl rfl rfl (r_pick rfl rfl rfl) ?_
          refine atq_nil ?_
          refine at_weak [(2, _), (3, _), (38, _)] ⟨rfl, rfl, rfl, trivial⟩ ?_
          refine at_then_normal ?_
          refine at_cond_false rfl rfl ?_
          refine at_skip ?_
          refine at_then_normal ?_
          refine at_seq ?_
          refine at_draw (by kernel_rfl) (by kernel_rfl) (fun _ h => h.drew) ?_
          refine atq_val rfl rfl rfl (r_load_aggc (c := c_api_Prefix) (z := x0) Tryd.isAgg50 Tryd.sizeOf50 rfl (lens_cell (.s .z) (Lens.whole _ _))) ?_
          refine atq_val rfl rfl rfl (r_load_aggc (c := c_api_Prefix) (z := x1) Tryd.isAgg50 Tryd.sizeOf50 rfl (lens_cell .z (Lens.whole _ _))) ?_
          obtain ⟨t24, ht24, hF⟩ := of_bindM hF
          refine atq_call Tryd.func57 rfl (by kernel_rfl) rfl rfl (fun w hw => (cidr_Less_ok _ _ _ ht24 w).mono fun _ _ h => ⟨h.1, hw.call h.2⟩) ?_
          refine atq_val rfl rfl rfl (r_load_aggc (c := c_api_Prefix) (z := x0) Tryd.isAgg50 Tryd.sizeOf50 rfl (lens_cell (.s .z) (Lens.whole _ _))) ?_
          refine atq_val rfl rfl rfl (r_load_aggc (c := c_api_Prefix) (z := x1) Tryd.isAgg50 Tryd.sizeOf50 rfl (lens_cell .z (Lens.whole _ _))) ?_
          obtain ⟨t25, ht25, hF⟩ := of_bindM hF
          refine atq_call Tryd.func58 rfl (by kernel_rfl) rfl rfl (fun w hw => (crawlwayref11_Less_ok _ _ _ ht25 w).mono fun _ _ h => ⟨h.1, hw.call h.2⟩) ?_
          refine atq_val rfl rfl rfl (r_bool Tryd.underlying4 rfl rfl (.inl rfl) rfl) ?_
          refine atq_val rfl rfl rfl (r_move rfl) ?_
          rcases of_ite hF with ⟨h26, hF⟩ | ⟨h26, hF⟩
          · refine atq_fix (g := 46) rfl h26 ?_
            refine atq_guard_yes rfl rfl rfl ?_
            obtain ⟨t27, ht27, hF⟩ := of_bindM hF
            refine atq_call Tryd.func47 rfl (by kernel_rfl) rfl rfl (fun w hw => (crawlwaylaw11_alive_ok  _ ht27 w (hg_strconv_ErrRange.on hw.below) (hg_strconv_ErrSyntax.on hw.below) (hg_strconv_uint64pow10.on hw.below)).mono fun _ _ h => ⟨h.1, hw.call h.2⟩) ?_
            refine atq_val rfl rfl rfl (r_pick rfl rfl rfl) ?_
            refine atq_val rfl rfl rfl (r_assign rfl) ?_
            refine atq_nil ?_
            refine at_drop (H := _) .z ?_
            refine at_drop (H := _) .z ?_
            refine at_weak [(4, _)] ⟨rfl, trivial⟩ ?_
            refine at_then_normal ?_
            refine at_ret ?_
            have K := of_some hF
            subst K
            exact at_return1 rfl rfl (fun w1 hw => ⟨rfl, hw.below⟩)
          · refine atq_fix (g := 46) rfl h26 ?_
            refine atq_guard_no rfl rfl rfl rfl rfl ?_
            refine atq_val rfl rfl rfl (r_pick rfl rfl rfl) ?_
            refine atq_val rfl rfl rfl (r_assign rfl) ?_
            refine atq_nil ?_
            refine at_drop (H := _) .z ?_
            refine at_drop (H := _) .z ?_
            refine at_weak [(4, _)] ⟨rfl, trivial⟩ ?_
            refine at_then_normal ?_
            refine at_ret ?_
            have K := of_some hF
            subst K
            exact at_return1 rfl rfl (fun w1 hw => ⟨rfl, hw.below⟩)
end Go.Proofs.YtecolkjlpklaaaaDoor
