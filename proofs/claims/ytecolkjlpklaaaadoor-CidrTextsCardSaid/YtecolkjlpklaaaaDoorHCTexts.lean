/- Functions with the same answers as the Go functions that they are named for, and the proofs of it, by a program of this project (gen.py). -/
import Derived.Test.YtecolkjlpklaaaaDoorT
import Derived.Test.YtecolkjlpklaaaaDoorShelf
import Derived.Test.YtecolkjlpklaaaaDoorW
import Derived.Test.YtecolkjlpklaaaaDoorL
import Derived.Test.YtecolkjlpklaaaaDoorS
import Derived.Test.YtecolkjlpklaaaaDoorJ
import Derived.Test.YtecolkjlpklaaaaDoorK
import Derived.Test.YtecolkjlpklaaaaDoorR
import Derived.Test.YtecolkjlpklaaaaDoorProg
import Derived.Test.YtecolkjlpklaaaaDoorG1
import Derived.Test.YtecolkjlpklaaaaDoorG2
import Derived.Test.YtecolkjlpklaaaaDoorG3
import Derived.Test.YtecolkjlpklaaaaDoorH4
import Derived.Test.YtecolkjlpklaaaaDoorH5
import Derived.Test.YtecolkjlpklaaaaDoorH6
import Derived.Test.YtecolkjlpklaaaaDoorH7
set_option linter.unusedVariables false
set_option linter.unusedSimpArgs false
namespace Go.Proofs.YtecolkjlpklaaaaDoor
open E Go.RowKit


def crawlwaylaw11_CidrTexts (x0 : S_api_Prefix) : Option (Bool) :=
  cidr_Text x0 >>= fun t2 => crawlwayref11_Text x0 >>= fun t3 => if (!seq t2 t3) = true then (some false) else (crawlwayref11_Right x0 >>= fun t5 => if (!t5) = true then (if (seq t2 (⟨#[]⟩ : ByteArray)) = true then (crawlwaylaw11_alive >>= fun t8 => some t8) else (some false)) else (cidr_Parse t2 >>= fun t9 => if (decide (t9.1 = x0)) = true then (if (t9.2 == 0) = true then (crawlwaylaw11_alive >>= fun t13 => some t13) else (some false)) else (some false)))
theorem crawlwaylaw11_CidrTexts_ok (x0 : S_api_Prefix) (r : Bool) (hF : crawlwaylaw11_CidrTexts x0 = some r) (w : World) (hg_strconv_ErrRange : GV_strconv_ErrRange w) (hg_strconv_ErrSyntax : GV_strconv_ErrSyntax w) (hg_strconv_uint64pow10 : GV_strconv_uint64pow10 w) :
    Calls Tryd.prog 9 #[.agg (Cd.cs c_api_Prefix x0).toArray] w (fun e w' => e = .returned (.bool r) ∧ Below w.heap.size w w') := by
  unfold crawlwaylaw11_CidrTexts at hF
  refine calls_enter (l := [.agg (Cd.cs c_api_Prefix x0).toArray]) Tryd.func9 rfl rfl rfl ?_
  refine at_start ?_
  refine at_weak [(0, _)] ⟨rfl, trivial⟩ ?_
  refine at_seq ?_
  refine at_region ?_
  refine at_box (cs := Cd.cs c_api_Prefix x0) rfl rfl rfl ?_
  intro b1
  refine at_val rfl rfl rfl (r_assign rfl) ?_
  refine at_nil ?_
  refine at_weak [(1, _)] ⟨rfl, trivial⟩ ?_
  refine at_then_normal ?_
  refine at_seq ?_
  refine at_region ?_
  refine at_val rfl rfl rfl (r_load_aggc (c := c_api_Prefix) (z := x0) Tryd.isAgg50 Tryd.sizeOf50 rfl (lens_cell .z (Lens.whole _ _))) ?_
  obtain ⟨t2, ht2, hF⟩ := of_bindM hF
  refine at_callB Tryd.func48 rfl (by kernel_rfl) rfl rfl (fun w hw => cidr_Text_ok _ _ ht2 w (hg_strconv_uint64pow10.on hw.below)) ?_
  refine at_val rfl rfl rfl (r_assign rfl) ?_
  refine at_nil ?_
  refine at_weak [(1, _), (3, _)] ⟨rfl, rfl, trivial⟩ ?_
  refine at_then_normal ?_
  refine at_seq ?_
  refine at_seq ?_
  refine at_region ?_
  refine at_val rfl rfl rfl (r_move rfl) ?_
  refine at_val rfl rfl rfl (r_load_aggc (c := c_api_Prefix) (z := x0) Tryd.isAgg50 Tryd.sizeOf50 rfl (lens_cell .z (Lens.whole _ _))) ?_
  obtain ⟨t3, ht3, hF⟩ := of_bindM hF
  refine at_callB Tryd.func49 rfl (by kernel_rfl) rfl rfl (fun w hw => crawlwayref11_Text_ok _ _ ht3 w) ?_
  refine at_val rfl rfl rfl (r_sneq rfl rfl) ?_
  refine at_nil ?_
  refine at_weak [(1, _), (3, _), (11, _)] ⟨rfl, rfl, rfl, trivial⟩ ?_
  refine at_then_normal ?_
  rcases of_ite hF with ⟨h4, hF⟩ | ⟨h4, hF⟩
  · refine at_cond_true rfl h4 ?_
    refine at_seq ?_
    refine at_region ?_
    refine at_val rfl rfl rfl (r_assign rfl) ?_
    refine at_nil ?_
    refine at_drop (H := _) .z ?_
    refine at_weak [(2, _)] ⟨rfl, trivial⟩ ?_
    refine at_then_normal ?_
    refine at_ret ?_
    refine at_then_ret ?_
    have K := of_some hF
    subst K
    exact at_return1 rfl rfl (fun w1 hw => ⟨rfl, hw.below⟩)
  · refine at_cond_false rfl h4 ?_
    refine at_skip ?_
    refine at_then_normal ?_
    refine at_seq ?_
    refine at_seq ?_
    refine at_region ?_
    refine at_val rfl rfl rfl (r_load_aggc (c := c_api_Prefix) (z := x0) Tryd.isAgg50 Tryd.sizeOf50 rfl (lens_cell .z (Lens.whole _ _))) ?_
    obtain ⟨t5, ht5, hF⟩ := of_bindM hF
    refine at_callB Tryd.func50 rfl (by kernel_rfl) rfl rfl (fun w hw => crawlwayref11_Right_ok _ _ ht5 w) ?_
    refine at_val rfl rfl rfl (r_not rfl) ?_
    refine at_nil ?_
    refine at_weak [(1, _), (3, _), (14, _)] ⟨rfl, rfl, rfl, trivial⟩ ?_
    refine at_then_normal ?_
    rcases of_ite hF with ⟨h6, hF⟩ | ⟨h6, hF⟩
    · refine at_cond_true rfl h6 ?_
      refine at_seq ?_
      refine at_region ?_
      refine at_val rfl rfl rfl (r_move rfl) ?_
      refine at_val rfl rfl rfl (r_seql rfl rfl) ?_
      refine at_val rfl rfl rfl (r_move rfl) ?_
      rcases of_ite hF with ⟨h7, hF⟩ | ⟨h7, hF⟩
      · refine at_fix (g := 17) rfl h7 ?_
        refine at_guard_yes rfl rfl rfl ?_
        obtain ⟨t8, ht8, hF⟩ := of_bindM hF
        refine at_callB Tryd.func47 rfl (by kernel_rfl) rfl rfl (fun w hw => crawlwaylaw11_alive_ok  _ ht8 w (hg_strconv_ErrRange.on hw.below) (hg_strconv_ErrSyntax.on hw.below) (hg_strconv_uint64pow10.on hw.below)) ?_
        refine at_val rfl rfl rfl (r_pick rfl rfl rfl) ?_
        refine at_val rfl rfl rfl (r_assign rfl) ?_
        refine at_nil ?_
        refine at_drop (H := _) .z ?_
        refine at_weak [(2, _)] ⟨rfl, trivial⟩ ?_
        refine at_then_normal ?_
        refine at_ret ?_
        refine at_then_ret ?_
        have K := of_some hF
        subst K
        exact at_return1 rfl rfl (fun w1 hw => ⟨rfl, hw.below⟩)
      · refine at_fix (g := 17) rfl h7 ?_
        refine at_guard_no rfl rfl rfl rfl rfl ?_
        refine at_val rfl rfl rfl (r_pick rfl rfl rfl) ?_
        refine at_val rfl rfl rfl (r_assign rfl) ?_
        refine at_nil ?_
        refine at_drop (H := _) .z ?_
        refine at_weak [(2, _)] ⟨rfl, trivial⟩ ?_
        refine at_then_normal ?_
        refine at_ret ?_
        refine at_then_ret ?_
        have K := of_some hF
        subst K
        exact at_return1 rfl rfl (fun w1 hw => ⟨rfl, hw.below⟩)
    · refine at_cond_false rfl h6 ?_
      refine at_skip ?_
      refine at_then_normal ?_
      refine at_seq ?_
      refine at_region ?_
      refine at_val rfl rfl rfl (r_move rfl) ?_
      obtain ⟨t9, ht9, hF⟩ := of_bindM hF
      refine at_callB Tryd.func51 rfl (by kernel_rfl) rfl rfl (fun w hw => cidr_Parse_ok _ _ ht9 w (hg_strconv_ErrRange.on hw.below) (hg_strconv_ErrSyntax.on hw.below)) ?_
      refine at_val rfl rfl rfl (r_move rfl) ?_
      refine at_val rfl rfl rfl (r_extract rfl rfl) ?_
      refine at_val rfl rfl rfl (r_extract rfl rfl) ?_
      refine at_alloc (cs := Cd.cs c_api_Prefix ({ f_A := ({ f_V := (0 : Int), f_B := (Vector.replicate 16 (0 : Int) : (Vector Int 16)) } : S_api_Addr), f_Bits := (0 : Int) } : S_api_Prefix)) Tryd.zeroValue50 rfl rfl ?_
      intro b10
      refine at_store (c := c_api_Prefix) (z := t9.1) .z (Lens.whole _ _) Tryd.sizeOf50 rfl rfl rfl ?_
      refine at_val rfl rfl rfl (r_assign rfl) ?_
      refine at_nil ?_
      refine at_weak [(1, _), (4, _), (5, _)] ⟨rfl, rfl, rfl, trivial⟩ ?_
      refine at_then_normal ?_
      refine at_seq ?_
      refine at_region ?_
      refine at_val rfl rfl rfl (r_load_aggc (c := c_api_Prefix) (z := t9.1) Tryd.isAgg50 Tryd.sizeOf50 rfl (lens_cell .z (Lens.whole _ _))) ?_
      refine at_val rfl rfl rfl (r_load_aggc (c := c_api_Prefix) (z := x0) Tryd.isAgg50 Tryd.sizeOf50 rfl (lens_cell (.s .z) (Lens.whole _ _))) ?_
      refine at_val rfl rfl rfl (r_eqagg (c := c_api_Prefix) (a := t9.1) (b := x0) (eq_api_Prefix_50) rfl Tryd.eqGuardType50 rfl rfl (.inl rfl) rfl) ?_
      refine at_val rfl rfl rfl (r_move rfl) ?_
      rcases of_ite hF with ⟨h11, hF⟩ | ⟨h11, hF⟩
      · refine at_fix (g := 28) rfl h11 ?_
        refine at_guard_yes rfl rfl rfl ?_
        refine at_val rfl rfl rfl (r_move rfl) ?_
        refine at_guard_yes rfl rfl rfl ?_
        refine at_val rfl rfl rfl (r_ieql rfl rfl) ?_
        refine at_val rfl rfl rfl (r_pick rfl rfl rfl) ?_
        refine at_val rfl rfl rfl (r_move rfl) ?_
        rcases of_ite hF with ⟨h12, hF⟩ | ⟨h12, hF⟩
        · refine at_fix (g := 32) rfl h12 ?_
          refine at_guard_yes rfl rfl rfl ?_
          obtain ⟨t13, ht13, hF⟩ := of_bindM hF
          refine at_callB Tryd.func47 rfl (by kernel_rfl) rfl rfl (fun w hw => crawlwaylaw11_alive_ok  _ ht13 w (hg_strconv_ErrRange.on hw.below) (hg_strconv_ErrSyntax.on hw.below) (hg_strconv_uint64pow10.on hw.below)) ?_
          refine at_val rfl rfl rfl (r_pick rfl rfl rfl) ?_
          refine at_val rfl rfl rfl (r_assign rfl) ?_
          refine at_nil ?_
          refine at_drop (H := _) .z ?_
          refine at_drop (H := _) .z ?_
          refine at_weak [(2, _)] ⟨rfl, trivial⟩ ?_
          refine at_then_normal ?_
          refine at_ret ?_
          have K := of_some hF
          subst K
          exact at_return1 rfl rfl (fun w1 hw => ⟨rfl, hw.below⟩)
        · refine at_fix (g := 32) rfl h12 ?_
          refine at_guard_no rfl rfl rfl rfl rfl ?_
          refine at_val rfl rfl rfl (r_pick rfl rfl rfl) ?_
          refine at_val rfl rfl rfl (r_assign rfl) ?_
          refine at_nil ?_
          refine at_drop (H := _) .z ?_
          refine at_drop (H := _) .z ?_
          refine at_weak [(2, _)] ⟨rfl, trivial⟩ ?_
          refine at_then_normal ?_
          refine at_ret ?_
          have K := of_some hF
          subst K
          exact at_return1 rfl rfl (fun w1 hw => ⟨rfl, hw.below⟩)
      · refine at_fix (g := 28) rfl h11 ?_
        refine at_guard_no rfl rfl rfl rfl rfl ?_
        refine at_guard_no rfl rfl rfl rfl rfl ?_
        refine at_val rfl rfl rfl (r_pick rfl rfl rfl) ?_
        refine at_val rfl rfl rfl (r_move rfl) ?_
        refine at_guard_no rfl rfl rfl rfl rfl ?_
        refine at_val rfl rfl rfl (r_pick rfl rfl rfl) ?_
        refine at_val rfl rfl rfl (r_assign rfl) ?_
        refine at_nil ?_
        refine at_drop (H := _) .z ?_
        refine at_drop (H := _) .z ?_
        refine at_weak [(2, _)] ⟨rfl, trivial⟩ ?_
        refine at_then_normal ?_
        refine at_ret ?_
        have K := of_some hF
        subst K
        exact at_return1 rfl rfl (fun w1 hw => ⟨rfl, hw.below⟩)
end Go.Proofs.YtecolkjlpklaaaaDoor
