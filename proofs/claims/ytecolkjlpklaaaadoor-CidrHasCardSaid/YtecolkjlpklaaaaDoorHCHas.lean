/- Functions with the same answers as the Go functions that they are named for, and the proofs of it, by a program of this project (gen.py). -/
import Derived.Test.YtecolkjlpklaaaaDoorT
import Derived.Test.YtecolkjlpklaaaaDoorShelf
import Derived.Test.YtecolkjlpklaaaaDoorW
import Derived.Test.YtecolkjlpklaaaaDoorL
import Derived.Test.YtecolkjlpklaaaaDoorS
import Derived.Test.YtecolkjlpklaaaaDoorJ
import Derived.Test.YtecolkjlpklaaaaDoorK
import Derived.Test.YtecolkjlpklaaaaDoorR
import Derived.Test.YtecolkjlpklaaaaDoorProg
import Derived.Test.YtecolkjlpklaaaaDoorG1
import Derived.Test.YtecolkjlpklaaaaDoorG2
import Derived.Test.YtecolkjlpklaaaaDoorG3
import Derived.Test.YtecolkjlpklaaaaDoorH4
import Derived.Test.YtecolkjlpklaaaaDoorH5
import Derived.Test.YtecolkjlpklaaaaDoorH6
import Derived.Test.YtecolkjlpklaaaaDoorH7
set_option linter.unusedVariables false
set_option linter.unusedSimpArgs false
namespace Go.Proofs.YtecolkjlpklaaaaDoor
open E Go.RowKit


def crawlwaylaw11_CidrHas (x0 : S_api_Prefix) (x1 : S_api_Addr) : Option (Bool) :=
  cidr_Right x0 >>= fun t3 => crawlwayref11_Right x0 >>= fun t4 => if (t3 != t4) = true then (some false) else (cidr_Has x0 x1 >>= fun t6 => crawlwayref11_Has x0 x1 >>= fun t7 => if (t6 != t7) = true then (some false) else (cidr_Of x1 x0.f_Bits >>= fun t9 => if (t9.2 != 0) = true then (crawlwaylaw11_alive >>= fun t12 => some t12) else (cidr_Has t9.1 x1 >>= fun t13 => if t13 = true then (crawlwayref11_Right x0 >>= fun t15 => if (!t15) = true then (crawlwaylaw11_alive >>= fun t17 => some t17) else (cidr_Has x0 x1 >>= fun t18 => if (t18 == decide (x0 = t9.1)) = true then (crawlwaylaw11_alive >>= fun t20 => some t20) else (some false))) else (some false))))
theorem crawlwaylaw11_CidrHas_ok (x0 : S_api_Prefix) (x1 : S_api_Addr) (r : Bool) (hF : crawlwaylaw11_CidrHas x0 x1 = some r) (w : World) (hg_strconv_ErrRange : GV_strconv_ErrRange w) (hg_strconv_ErrSyntax : GV_strconv_ErrSyntax w) (hg_strconv_uint64pow10 : GV_strconv_uint64pow10 w) :
    Calls Tryd.prog 11 #[.agg (Cd.cs c_api_Prefix x0).toArray, .agg (Cd.cs c_api_Addr x1).toArray] w (fun e w' => e = .returned (.bool r) ∧ Below w.heap.size w w') := by
  unfold crawlwaylaw11_CidrHas at hF
  refine calls_enter (l := [.agg (Cd.cs c_api_Prefix x0).toArray, .agg (Cd.cs c_api_Addr x1).toArray]) Tryd.func11 rfl rfl rfl ?_
  refine at_start ?_
  refine at_weak [(0, _), (1, _)] ⟨rfl, rfl, trivial⟩ ?_
  refine at_seq ?_
  refine at_region ?_
  refine at_box (cs := Cd.cs c_api_Prefix x0) rfl rfl rfl ?_
  intro b1
  refine at_box (cs := Cd.cs c_api_Addr x1) rfl rfl rfl ?_
  intro b2
  refine at_val rfl rfl rfl (r_assign rfl) ?_
  refine at_nil ?_
  refine at_weak [(2, _), (3, _)] ⟨rfl, rfl, trivial⟩ ?_
  refine at_then_normal ?_
  refine at_seq ?_
  refine at_seq ?_
  refine at_draw (by kernel_rfl) (by kernel_rfl) (fun _ h => h.drew) ?_
  refine atq_val rfl rfl rfl (r_load_aggc (c := c_api_Prefix) (z := x0) Tryd.isAgg50 Tryd.sizeOf50 rfl (lens_cell (.s .z) (Lens.whole _ _))) ?_
  obtain ⟨t3, ht3, hF⟩ := of_bindM hF
  refine atq_call Tryd.func45 rfl (by kernel_rfl) rfl rfl (fun w hw => (cidr_Right_ok _ _ ht3 w).mono fun _ _ h => ⟨h.1, hw.call h.2⟩) ?_
  refine atq_val rfl rfl rfl (r_load_aggc (c := c_api_Prefix) (z := x0) Tryd.isAgg50 Tryd.sizeOf50 rfl (lens_cell (.s .z) (Lens.whole _ _))) ?_
  obtain ⟨t4, ht4, hF⟩ := of_bindM hF
  refine atq_call Tryd.func50 rfl (by kernel_rfl) rfl rfl (fun w hw => (crawlwayref11_Right_ok _ _ ht4 w).mono fun _ _ h => ⟨h.1, hw.call h.2⟩) ?_
  refine atq_val rfl rfl rfl (r_bool Tryd.underlying4 rfl rfl (.inr rfl) rfl) ?_
  refine atq_val rfl rfl rfl (r_move rfl) ?_
  rcases of_ite hF with ⟨h5, hF⟩ | ⟨h5, hF⟩
  · refine atq_fix (g := 12) rfl h5 ?_
    refine atq_guard_no rfl rfl rfl rfl rfl ?_
    refine atq_guard_no rfl rfl rfl rfl rfl ?_
    refine atq_guard_no rfl rfl rfl rfl rfl ?_
    refine atq_guard_no rfl rfl rfl rfl rfl ?_
    refine atq_guard_no rfl rfl rfl rfl rfl ?_
    refine atq_guard_no rfl rfl rfl rfl rfl ?_
    refine atq_guard_no rfl rfl rfl rfl rfl ?_
    refine atq_val rfl rfl rfl (r_pick rfl rfl rfl) ?_
    refine atq_nil ?_
    refine at_weak [(2, _), (3, _), (20, _)] ⟨rfl, rfl, rfl, trivial⟩ ?_
    refine at_then_normal ?_
    refine at_cond_true rfl rfl ?_
    refine at_seq ?_
    refine at_region ?_
    refine at_val rfl rfl rfl (r_assign rfl) ?_
    refine at_nil ?_
    refine at_drop (H := _) .z ?_
    refine at_drop (H := _) .z ?_
    refine at_weak [(4, _)] ⟨rfl, trivial⟩ ?_
    refine at_then_normal ?_
    refine at_ret ?_
    refine at_then_ret ?_
    have K := of_some hF
    subst K
    exact at_return1 rfl rfl (fun w1 hw => ⟨rfl, hw.below⟩)
  · refine atq_fix (g := 12) rfl h5 ?_
    refine atq_guard_yes rfl rfl rfl ?_
    refine atq_val rfl rfl rfl (r_load_aggc (c := c_api_Prefix) (z := x0) Tryd.isAgg50 Tryd.sizeOf50 rfl (lens_cell (.s .z) (Lens.whole _ _))) ?_
    refine atq_guard_yes rfl rfl rfl ?_
    refine atq_val rfl rfl rfl (r_load_aggc (c := c_api_Addr) (z := x1) Tryd.isAgg24 Tryd.sizeOf24 rfl (lens_cell .z (Lens.whole _ _))) ?_
    refine atq_guard_yes rfl rfl rfl ?_
    obtain ⟨t6, ht6, hF⟩ := of_bindM hF
    refine atq_call Tryd.func53 rfl (by kernel_rfl) rfl rfl (fun w hw => (cidr_Has_ok _ _ _ ht6 w).mono fun _ _ h => ⟨h.1, hw.call h.2⟩) ?_
    refine atq_guard_yes rfl rfl rfl ?_
    refine atq_val rfl rfl rfl (r_load_aggc (c := c_api_Prefix) (z := x0) Tryd.isAgg50 Tryd.sizeOf50 rfl (lens_cell (.s .z) (Lens.whole _ _))) ?_
    refine atq_guard_yes rfl rfl rfl ?_
    refine atq_val rfl rfl rfl (r_load_aggc (c := c_api_Addr) (z := x1) Tryd.isAgg24 Tryd.sizeOf24 rfl (lens_cell .z (Lens.whole _ _))) ?_
    refine atq_guard_yes rfl rfl rfl ?_
    obtain ⟨t7, ht7, hF⟩ := of_bindM hF
    refine atq_call Tryd.func54 rfl (by kernel_rfl) rfl rfl (fun w hw => (crawlwayref11_Has_ok _ _ _ ht7 w).mono fun _ _ h => ⟨h.1, hw.call h.2⟩) ?_
    refine atq_guard_yes rfl rfl rfl ?_
    refine atq_val rfl rfl rfl (r_bool Tryd.underlying4 rfl rfl (.inr rfl) rfl) ?_
    refine atq_val rfl rfl rfl (r_pick rfl rfl rfl) ?_
    refine atq_nil ?_
    refine at_weak [(2, _), (3, _), (20, _)] ⟨rfl, rfl, rfl, trivial⟩ ?_
    refine at_then_normal ?_
    rcases of_ite hF with ⟨h8, hF⟩ | ⟨h8, hF⟩
    · refine at_cond_true rfl h8 ?_
      refine at_seq ?_
      refine at_region ?_
      refine at_val rfl rfl rfl (r_assign rfl) ?_
      refine at_nil ?_
      refine at_drop (H := _) .z ?_
      refine at_drop (H := _) .z ?_
      refine at_weak [(4, _)] ⟨rfl, trivial⟩ ?_
      refine at_then_normal ?_
      refine at_ret ?_
      refine at_then_ret ?_
      have K := of_some hF
      subst K
      exact at_return1 rfl rfl (fun w1 hw => ⟨rfl, hw.below⟩)
    · refine at_cond_false rfl h8 ?_
      refine at_skip ?_
      refine at_then_normal ?_
      refine at_seq ?_
      refine at_region ?_
      refine at_val rfl rfl rfl (r_load_aggc (c := c_api_Addr) (z := x1) Tryd.isAgg24 Tryd.sizeOf24 rfl (lens_cell .z (Lens.whole _ _))) ?_
      refine at_val rfl rfl rfl (r_fieldAddr (fo := 17) Tryd.underlying50 rfl rfl (fun w => ⟨_, Tryd.sizeOf3 w⟩) rfl) ?_
      refine at_val rfl rfl rfl (r_load_cell Tryd.isAgg3 rfl (lens_cell0 (c := (cInt .i64)) (y := x0.f_Bits) (.s .z) (Lens.comp (Lens.whole _ _) (fun z => { x0 with f_Bits := z }) (c_api_Prefix_f_Bits x0)) rfl)) ?_
      obtain ⟨t9, ht9, hF⟩ := of_bindM hF
      refine at_callB Tryd.func43 rfl (by kernel_rfl) rfl rfl (fun w hw => cidr_Of_ok _ _ _ ht9 w) ?_
      refine at_val rfl rfl rfl (r_move rfl) ?_
      refine at_val rfl rfl rfl (r_extract rfl rfl) ?_
      refine at_val rfl rfl rfl (r_extract rfl rfl) ?_
      refine at_alloc (cs := Cd.cs c_api_Prefix ({ f_A := ({ f_V := (0 : Int), f_B := (Vector.replicate 16 (0 : Int) : (Vector Int 16)) } : S_api_Addr), f_Bits := (0 : Int) } : S_api_Prefix)) Tryd.zeroValue50 rfl rfl ?_
      intro b10
      refine at_store (c := c_api_Prefix) (z := t9.1) .z (Lens.whole _ _) Tryd.sizeOf50 rfl rfl rfl ?_
      refine at_val rfl rfl rfl (r_assign rfl) ?_
      refine at_nil ?_
      refine at_weak [(2, _), (3, _), (5, _), (6, _)] ⟨rfl, rfl, rfl, rfl, trivial⟩ ?_
      refine at_then_normal ?_
      refine at_seq ?_
      refine at_draw (by kernel_rfl) (by kernel_rfl) (fun _ h => h.drew) ?_
      refine atq_val rfl rfl rfl (r_move rfl) ?_
      refine atq_val rfl rfl rfl (r_ineq rfl rfl) ?_
      refine atq_val rfl rfl rfl (r_move rfl) ?_
      rcases of_ite hF with ⟨h11, hF⟩ | ⟨h11, hF⟩
      · refine atq_fix (g := 30) rfl h11 ?_
        refine atq_guard_no rfl rfl rfl rfl rfl ?_
        refine atq_guard_no rfl rfl rfl rfl rfl ?_
        refine atq_guard_no rfl rfl rfl rfl rfl ?_
        refine atq_guard_no rfl rfl rfl rfl rfl ?_
        refine atq_guard_undef rfl rfl rfl rfl ?_
        refine atq_guard_undef rfl rfl rfl rfl ?_
        refine atq_guard_undef rfl rfl rfl rfl ?_
        refine atq_guard_undef rfl rfl rfl rfl ?_
        refine atq_guard_undef rfl rfl rfl rfl ?_
        refine atq_guard_undef rfl rfl rfl rfl ?_
        refine atq_guard_undef rfl rfl rfl rfl ?_
        refine atq_guard_undef rfl rfl rfl rfl ?_
        refine atq_guard_undef rfl rfl rfl rfl ?_
        refine atq_guard_undef rfl rfl rfl rfl ?_
        refine atq_guard_undef rfl rfl rfl rfl ?_
        refine atq_guard_undef rfl rfl rfl rfl ?_
        refine atq_guard_no rfl rfl rfl rfl rfl ?_
        refine atq_val rfl rfl rfl (r_pick rfl rfl rfl) ?_
        refine atq_val rfl rfl rfl (r_move rfl) ?_
        refine atq_guard_yes rfl rfl rfl ?_
        obtain ⟨t12, ht12, hF⟩ := of_bindM hF
        refine atq_call Tryd.func47 rfl (by kernel_rfl) rfl rfl (fun w hw => (crawlwaylaw11_alive_ok  _ ht12 w (hg_strconv_ErrRange.on hw.below) (hg_strconv_ErrSyntax.on hw.below) (hg_strconv_uint64pow10.on hw.below)).mono fun _ _ h => ⟨h.1, hw.call h.2⟩) ?_
        refine atq_val rfl rfl rfl (r_pick rfl rfl rfl) ?_
        refine atq_val rfl rfl rfl (r_assign rfl) ?_
        refine atq_nil ?_
        refine at_drop (H := _) .z ?_
        refine at_drop (H := _) .z ?_
        refine at_drop (H := _) .z ?_
        refine at_weak [(4, _)] ⟨rfl, trivial⟩ ?_
        refine at_then_normal ?_
        refine at_ret ?_
        have K := of_some hF
        subst K
        exact at_return1 rfl rfl (fun w1 hw => ⟨rfl, hw.below⟩)
      · refine atq_fix (g := 30) rfl h11 ?_
        refine atq_guard_yes rfl rfl rfl ?_
        refine atq_val rfl rfl rfl (r_load_aggc (c := c_api_Prefix) (z := t9.1) Tryd.isAgg50 Tryd.sizeOf50 rfl (lens_cell .z (Lens.whole _ _))) ?_
        refine atq_guard_yes rfl rfl rfl ?_
        refine atq_val rfl rfl rfl (r_load_aggc (c := c_api_Addr) (z := x1) Tryd.isAgg24 Tryd.sizeOf24 rfl (lens_cell (.s .z) (Lens.whole _ _))) ?_
        refine atq_guard_yes rfl rfl rfl ?_
        obtain ⟨t13, ht13, hF⟩ := of_bindM hF
        refine atq_call Tryd.func53 rfl (by kernel_rfl) rfl rfl (fun w hw => (cidr_Has_ok _ _ _ ht13 w).mono fun _ _ h => ⟨h.1, hw.call h.2⟩) ?_
        refine atq_guard_yes rfl rfl rfl ?_
        refine atq_val rfl rfl rfl (r_move rfl) ?_
        rcases of_ite hF with ⟨h14, hF⟩ | ⟨h14, hF⟩
        · refine atq_fix (g := 34) rfl h14 ?_
          refine atq_guard_yes rfl rfl rfl ?_
          refine atq_val rfl rfl rfl (r_load_aggc (c := c_api_Prefix) (z := x0) Tryd.isAgg50 Tryd.sizeOf50 rfl (lens_cell (.s (.s .z)) (Lens.whole _ _))) ?_
          refine atq_guard_yes rfl rfl rfl ?_
          obtain ⟨t15, ht15, hF⟩ := of_bindM hF
          refine atq_call Tryd.func50 rfl (by kernel_rfl) rfl rfl (fun w hw => (crawlwayref11_Right_ok _ _ ht15 w).mono fun _ _ h => ⟨h.1, hw.call h.2⟩) ?_
          refine atq_guard_yes rfl rfl rfl ?_
          refine atq_val rfl rfl rfl (r_not rfl) ?_
          refine atq_guard_yes rfl rfl rfl ?_
          refine atq_val rfl rfl rfl (r_move rfl) ?_
          rcases of_ite hF with ⟨h16, hF⟩ | ⟨h16, hF⟩
          · refine atq_fix (g := 38) rfl h16 ?_
            refine atq_guard_no rfl rfl rfl rfl rfl ?_
            refine atq_guard_no rfl rfl rfl rfl rfl ?_
            refine atq_guard_no rfl rfl rfl rfl rfl ?_
            refine atq_guard_no rfl rfl rfl rfl rfl ?_
            refine atq_guard_no rfl rfl rfl rfl rfl ?_
            refine atq_guard_no rfl rfl rfl rfl rfl ?_
            refine atq_guard_no rfl rfl rfl rfl rfl ?_
            refine atq_guard_yes rfl rfl rfl ?_
            refine atq_val rfl rfl rfl (r_pick rfl rfl rfl) ?_
            refine atq_guard_yes rfl rfl rfl ?_
            refine atq_val rfl rfl rfl (r_pick rfl rfl rfl) ?_
            refine atq_val rfl rfl rfl (r_pick rfl rfl rfl) ?_
            refine atq_val rfl rfl rfl (r_move rfl) ?_
            refine atq_guard_yes rfl rfl rfl ?_
            obtain ⟨t17, ht17, hF⟩ := of_bindM hF
            refine atq_call Tryd.func47 rfl (by kernel_rfl) rfl rfl (fun w hw => (crawlwaylaw11_alive_ok  _ ht17 w (hg_strconv_ErrRange.on hw.below) (hg_strconv_ErrSyntax.on hw.below) (hg_strconv_uint64pow10.on hw.below)).mono fun _ _ h => ⟨h.1, hw.call h.2⟩) ?_
            refine atq_val rfl rfl rfl (r_pick rfl rfl rfl) ?_
            refine atq_val rfl rfl rfl (r_assign rfl) ?_
            refine atq_nil ?_
            refine at_drop (H := _) .z ?_
            refine at_drop (H := _) .z ?_
            refine at_drop (H := _) .z ?_
            refine at_weak [(4, _)] ⟨rfl, trivial⟩ ?_
            refine at_then_normal ?_
            refine at_ret ?_
            have K := of_some hF
            subst K
            exact at_return1 rfl rfl (fun w1 hw => ⟨rfl, hw.below⟩)
          · refine atq_fix (g := 38) rfl h16 ?_
            refine atq_guard_yes rfl rfl rfl ?_
            refine atq_val rfl rfl rfl (r_load_aggc (c := c_api_Prefix) (z := x0) Tryd.isAgg50 Tryd.sizeOf50 rfl (lens_cell (.s (.s .z)) (Lens.whole _ _))) ?_
            refine atq_guard_yes rfl rfl rfl ?_
            refine atq_val rfl rfl rfl (r_load_aggc (c := c_api_Addr) (z := x1) Tryd.isAgg24 Tryd.sizeOf24 rfl (lens_cell (.s .z) (Lens.whole _ _))) ?_
            refine atq_guard_yes rfl rfl rfl ?_
            obtain ⟨t18, ht18, hF⟩ := of_bindM hF
            refine atq_call Tryd.func53 rfl (by kernel_rfl) rfl rfl (fun w hw => (cidr_Has_ok _ _ _ ht18 w).mono fun _ _ h => ⟨h.1, hw.call h.2⟩) ?_
            refine atq_guard_yes rfl rfl rfl ?_
            refine atq_val rfl rfl rfl (r_load_aggc (c := c_api_Prefix) (z := x0) Tryd.isAgg50 Tryd.sizeOf50 rfl (lens_cell (.s (.s .z)) (Lens.whole _ _))) ?_
            refine atq_guard_yes rfl rfl rfl ?_
            refine atq_val rfl rfl rfl (r_load_aggc (c := c_api_Prefix) (z := t9.1) Tryd.isAgg50 Tryd.sizeOf50 rfl (lens_cell .z (Lens.whole _ _))) ?_
            refine atq_guard_yes rfl rfl rfl ?_
            refine atq_val rfl rfl rfl (r_eqagg (c := c_api_Prefix) (a := x0) (b := t9.1) (eq_api_Prefix_50) rfl Tryd.eqGuardType50 rfl rfl (.inl rfl) rfl) ?_
            refine atq_guard_yes rfl rfl rfl ?_
            refine atq_val rfl rfl rfl (r_bool Tryd.underlying4 rfl rfl (.inl rfl) rfl) ?_
            refine atq_guard_yes rfl rfl rfl ?_
            refine atq_val rfl rfl rfl (r_pick rfl rfl rfl) ?_
            refine atq_guard_yes rfl rfl rfl ?_
            refine atq_val rfl rfl rfl (r_pick rfl rfl rfl) ?_
            refine atq_val rfl rfl rfl (r_pick rfl rfl rfl) ?_
            refine atq_val rfl rfl rfl (r_move rfl) ?_
            rcases of_ite hF with ⟨h19, hF⟩ | ⟨h19, hF⟩
            · refine atq_fix (g := 49) rfl h19 ?_
              refine atq_guard_yes rfl rfl rfl ?_
              obtain ⟨t20, ht20, hF⟩ := of_bindM hF
              refine atq_call Tryd.func47 rfl (by kernel_rfl) rfl rfl (fun w hw => (crawlwaylaw11_alive_ok  _ ht20 w (hg_strconv_ErrRange.on hw.below) (hg_strconv_ErrSyntax.on hw.below) (hg_strconv_uint64pow10.on hw.below)).mono fun _ _ h => ⟨h.1, hw.call h.2⟩) ?_
              refine atq_val rfl rfl rfl (r_pick rfl rfl rfl) ?_
              refine atq_val rfl rfl rfl (r_assign rfl) ?_
              refine atq_nil ?_
              refine at_drop (H := _) .z ?_
              refine at_drop (H := _) .z ?_
              refine at_drop (H := _) .z ?_
              refine at_weak [(4, _)] ⟨rfl, trivial⟩ ?_
              refine at_then_normal ?_
              refine at_ret ?_
              have K := of_some hF
              subst K
              exact at_return1 rfl rfl (fun w1 hw => ⟨rfl, hw.below⟩)
            · refine atq_fix (g := 49) rfl h19 ?_
              refine atq_guard_no rfl rfl rfl rfl rfl ?_
              refine atq_val rfl rfl rfl (r_pick rfl rfl rfl) ?_
              refine atq_val rfl rfl rfl (r_assign rfl) ?_
              refine atq_nil ?_
              refine at_drop (H := _) .z ?_
              refine at_drop (H := _) .z ?_
              refine at_drop (H := _) .z ?_
              refine at_weak [(4, _)] ⟨rfl, trivial⟩ ?_
              refine at_then_normal ?_
              refine at_ret ?_
              have K := of_some hF
              subst K
              exact at_return1 rfl rfl (fun w1 hw => ⟨rfl, hw.below⟩)
        · refine atq_fix (g := 34) rfl h14 ?_
          refine atq_guard_no rfl rfl rfl rfl rfl ?_
          refine atq_guard_no rfl rfl rfl rfl rfl ?_
          refine atq_guard_no rfl rfl rfl rfl rfl ?_
          refine atq_guard_no rfl rfl rfl rfl rfl ?_
          refine atq_guard_undef rfl rfl rfl rfl ?_
          refine atq_guard_undef rfl rfl rfl rfl ?_
          refine atq_guard_undef rfl rfl rfl rfl ?_
          refine atq_guard_undef rfl rfl rfl rfl ?_
          refine atq_guard_undef rfl rfl rfl rfl ?_
          refine atq_guard_undef rfl rfl rfl rfl ?_
          refine atq_guard_undef rfl rfl rfl rfl ?_
          refine atq_guard_no rfl rfl rfl rfl rfl ?_
          refine atq_guard_yes rfl rfl rfl ?_
          refine atq_val rfl rfl rfl (r_pick rfl rfl rfl) ?_
          refine atq_val rfl rfl rfl (r_pick rfl rfl rfl) ?_
          refine atq_val rfl rfl rfl (r_move rfl) ?_
          refine atq_guard_no rfl rfl rfl rfl rfl ?_
          refine atq_val rfl rfl rfl (r_pick rfl rfl rfl) ?_
          refine atq_val rfl rfl rfl (r_assign rfl) ?_
          refine atq_nil ?_
          refine at_drop (H := _) .z ?_
          refine at_drop (H := _) .z ?_
          refine at_drop (H := _) .z ?_
          refine at_weak [(4, _)] ⟨rfl, trivial⟩ ?_
          refine at_then_normal ?_
          refine at_ret ?_
          have K := of_some hF
          subst K
          exact at_return1 rfl rfl (fun w1 hw => ⟨rfl, hw.below⟩)
end Go.Proofs.YtecolkjlpklaaaaDoor
