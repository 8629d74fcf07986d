/- Functions with the same answers as the Go functions that they are named for, and the proofs of it, by a program of this project (gen.py). -/
import Derived.Test.YtecolkjlpklaaaaDoorT
import Derived.Test.YtecolkjlpklaaaaDoorShelf
import Derived.Test.YtecolkjlpklaaaaDoorW
import Derived.Test.YtecolkjlpklaaaaDoorL
import Derived.Test.YtecolkjlpklaaaaDoorS
import Derived.Test.YtecolkjlpklaaaaDoorJ
import Derived.Test.YtecolkjlpklaaaaDoorK
import Derived.Test.YtecolkjlpklaaaaDoorR
import Derived.Test.YtecolkjlpklaaaaDoorProg
import Derived.Test.YtecolkjlpklaaaaDoorG1
import Derived.Test.YtecolkjlpklaaaaDoorG2
import Derived.Test.YtecolkjlpklaaaaDoorG3
import Derived.Test.YtecolkjlpklaaaaDoorH4
import Derived.Test.YtecolkjlpklaaaaDoorH5
import Derived.Test.YtecolkjlpklaaaaDoorH6
import Derived.Test.YtecolkjlpklaaaaDoorH7
set_option linter.unusedVariables false
set_option linter.unusedSimpArgs false
namespace Go.Proofs.YtecolkjlpklaaaaDoor
open E Go.RowKit


def crawlwaylaw11_CidrReads (x0 : ByteArray) : Option (Bool) :=
  if (decide ((x0.size : Int) > 100)) = true then (crawlwaylaw11_alive >>= fun t2 => some t2) else (cidr_Parse x0 >>= fun t3 => crawlwayref11_Parse x0 >>= fun t5 => if (!decide (t3.1 = t5.1)) = true then (some false) else (if (t3.2 != t5.2) = true then (some false) else (if (t5.2 != 0) = true then (crawlwaylaw11_alive >>= fun t10 => some t10) else (cidr_Text t3.1 >>= fun t11 => cidr_Parse t11 >>= fun t12 => if (decide (t12.1 = t3.1)) = true then (if (t12.2 == 0) = true then (crawlwaylaw11_alive >>= fun t16 => some t16) else (some false)) else (some false)))))
theorem crawlwaylaw11_CidrReads_ok (x0 : ByteArray) (r : Bool) (hF : crawlwaylaw11_CidrReads x0 = some r) (w : World) (hg_strconv_ErrRange : GV_strconv_ErrRange w) (hg_strconv_ErrSyntax : GV_strconv_ErrSyntax w) (hg_strconv_uint64pow10 : GV_strconv_uint64pow10 w) :
    Calls Tryd.prog 10 #[.string x0] w (fun e w' => e = .returned (.bool r) ∧ Below w.heap.size w w') := by
  unfold crawlwaylaw11_CidrReads at hF
  refine calls_enter (l := [.string x0]) Tryd.func10 rfl rfl rfl ?_
  refine at_start ?_
  refine at_weak [(0, _)] ⟨rfl, trivial⟩ ?_
  refine at_seq ?_
  refine at_region ?_
  refine at_val rfl rfl rfl (r_assign rfl) ?_
  refine at_nil ?_
  refine at_weak [(0, _)] ⟨rfl, trivial⟩ ?_
  refine at_then_normal ?_
  refine at_seq ?_
  refine at_seq ?_
  refine at_region ?_
  refine at_val rfl rfl rfl (r_move rfl) ?_
  refine at_val rfl rfl rfl (r_len_str Tryd.underlying9 rfl) ?_
  refine at_val rfl rfl rfl (r_igtr rfl rfl) ?_
  refine at_nil ?_
  refine at_weak [(0, _), (11, _)] ⟨rfl, rfl, trivial⟩ ?_
  refine at_then_normal ?_
  rcases of_ite hF with ⟨h1, hF⟩ | ⟨h1, hF⟩
  · refine at_cond_true rfl h1 ?_
    refine at_seq ?_
    refine at_region ?_
    obtain ⟨t2, ht2, hF⟩ := of_bindM hF
    refine at_callB Tryd.func47 rfl (by kernel_rfl) rfl rfl (fun w hw => crawlwaylaw11_alive_ok  _ ht2 w (hg_strconv_ErrRange.on hw.below) (hg_strconv_ErrSyntax.on hw.below) (hg_strconv_uint64pow10.on hw.below)) ?_
    refine at_val rfl rfl rfl (r_assign rfl) ?_
    refine at_nil ?_
    refine at_weak [(2, _)] ⟨rfl, trivial⟩ ?_
    refine at_then_normal ?_
    refine at_ret ?_
    refine at_then_ret ?_
    have K := of_some hF
    subst K
    exact at_return1 rfl rfl (fun w1 hw => ⟨rfl, hw.below⟩)
  · refine at_cond_false rfl h1 ?_
    refine at_skip ?_
    refine at_then_normal ?_
    refine at_seq ?_
    refine at_region ?_
    refine at_val rfl rfl rfl (r_move rfl) ?_
    obtain ⟨t3, ht3, hF⟩ := of_bindM hF
    refine at_callB Tryd.func51 rfl (by kernel_rfl) rfl rfl (fun w hw => cidr_Parse_ok _ _ ht3 w (hg_strconv_ErrRange.on hw.below) (hg_strconv_ErrSyntax.on hw.below)) ?_
    refine at_val rfl rfl rfl (r_move rfl) ?_
    refine at_val rfl rfl rfl (r_extract rfl rfl) ?_
    refine at_val rfl rfl rfl (r_extract rfl rfl) ?_
    refine at_alloc (cs := Cd.cs c_api_Prefix ({ f_A := ({ f_V := (0 : Int), f_B := (Vector.replicate 16 (0 : Int) : (Vector Int 16)) } : S_api_Addr), f_Bits := (0 : Int) } : S_api_Prefix)) Tryd.zeroValue50 rfl rfl ?_
    intro b4
    refine at_store (c := c_api_Prefix) (z := t3.1) .z (Lens.whole _ _) Tryd.sizeOf50 rfl rfl rfl ?_
    refine at_val rfl rfl rfl (r_assign rfl) ?_
    refine at_nil ?_
    refine at_weak [(0, _), (3, _), (4, _)] ⟨rfl, rfl, rfl, trivial⟩ ?_
    refine at_then_normal ?_
    refine at_seq ?_
    refine at_region ?_
    refine at_val rfl rfl rfl (r_move rfl) ?_
    obtain ⟨t5, ht5, hF⟩ := of_bindM hF
    refine at_callB Tryd.func52 rfl (by kernel_rfl) rfl rfl (fun w hw => crawlwayref11_Parse_ok _ _ ht5 w) ?_
    refine at_val rfl rfl rfl (r_move rfl) ?_
    refine at_val rfl rfl rfl (r_extract rfl rfl) ?_
    refine at_val rfl rfl rfl (r_extract rfl rfl) ?_
    refine at_alloc (cs := Cd.cs c_api_Prefix ({ f_A := ({ f_V := (0 : Int), f_B := (Vector.replicate 16 (0 : Int) : (Vector Int 16)) } : S_api_Addr), f_Bits := (0 : Int) } : S_api_Prefix)) Tryd.zeroValue50 rfl rfl ?_
    intro b6
    refine at_store (c := c_api_Prefix) (z := t5.1) .z (Lens.whole _ _) Tryd.sizeOf50 rfl rfl rfl ?_
    refine at_val rfl rfl rfl (r_assign rfl) ?_
    refine at_nil ?_
    refine at_weak [(3, _), (4, _), (5, _), (6, _)] ⟨rfl, rfl, rfl, rfl, trivial⟩ ?_
    refine at_then_normal ?_
    refine at_seq ?_
    refine at_seq ?_
    refine at_region ?_
    refine at_val rfl rfl rfl (r_load_aggc (c := c_api_Prefix) (z := t3.1) Tryd.isAgg50 Tryd.sizeOf50 rfl (lens_cell (.s .z) (Lens.whole _ _))) ?_
    refine at_val rfl rfl rfl (r_load_aggc (c := c_api_Prefix) (z := t5.1) Tryd.isAgg50 Tryd.sizeOf50 rfl (lens_cell .z (Lens.whole _ _))) ?_
    refine at_val rfl rfl rfl (r_eqagg (c := c_api_Prefix) (a := t3.1) (b := t5.1) (eq_api_Prefix_50) rfl Tryd.eqGuardType50 rfl rfl (.inr rfl) rfl) ?_
    refine at_val rfl rfl rfl (r_move rfl) ?_
    rcases of_ite hF with ⟨h7, hF⟩ | ⟨h7, hF⟩
    · refine at_fix (g := 26) rfl h7 ?_
      refine at_guard_no rfl rfl rfl rfl rfl ?_
      refine at_guard_no rfl rfl rfl rfl rfl ?_
      refine at_guard_no rfl rfl rfl rfl rfl ?_
      refine at_val rfl rfl rfl (r_pick rfl rfl rfl) ?_
      refine at_nil ?_
      refine at_drop (H := _) .z ?_
      refine at_weak [(3, _), (6, _), (30, _)] ⟨rfl, rfl, rfl, trivial⟩ ?_
      refine at_then_normal ?_
      refine at_cond_true rfl rfl ?_
      refine at_seq ?_
      refine at_region ?_
      refine at_val rfl rfl rfl (r_assign rfl) ?_
      refine at_nil ?_
      refine at_drop (H := _) .z ?_
      refine at_weak [(2, _)] ⟨rfl, trivial⟩ ?_
      refine at_then_normal ?_
      refine at_ret ?_
      refine at_then_ret ?_
      have K := of_some hF
      subst K
      exact at_return1 rfl rfl (fun w1 hw => ⟨rfl, hw.below⟩)
    · refine at_fix (g := 26) rfl h7 ?_
      refine at_guard_yes rfl rfl rfl ?_
      refine at_val rfl rfl rfl (r_move rfl) ?_
      refine at_guard_yes rfl rfl rfl ?_
      refine at_val rfl rfl rfl (r_move rfl) ?_
      refine at_guard_yes rfl rfl rfl ?_
      refine at_val rfl rfl rfl (r_ineq rfl rfl) ?_
      refine at_val rfl rfl rfl (r_pick rfl rfl rfl) ?_
      refine at_nil ?_
      refine at_drop (H := _) .z ?_
      refine at_weak [(3, _), (6, _), (30, _)] ⟨rfl, rfl, rfl, trivial⟩ ?_
      refine at_then_normal ?_
      rcases of_ite hF with ⟨h8, hF⟩ | ⟨h8, hF⟩
      · refine at_cond_true rfl h8 ?_
        refine at_seq ?_
        refine at_region ?_
        refine at_val rfl rfl rfl (r_assign rfl) ?_
        refine at_nil ?_
        refine at_drop (H := _) .z ?_
        refine at_weak [(2, _)] ⟨rfl, trivial⟩ ?_
        refine at_then_normal ?_
        refine at_ret ?_
        refine at_then_ret ?_
        have K := of_some hF
        subst K
        exact at_return1 rfl rfl (fun w1 hw => ⟨rfl, hw.below⟩)
      · refine at_cond_false rfl h8 ?_
        refine at_skip ?_
        refine at_then_normal ?_
        refine at_seq ?_
        refine at_seq ?_
        refine at_region ?_
        refine at_val rfl rfl rfl (r_move rfl) ?_
        refine at_val rfl rfl rfl (r_ineq rfl rfl) ?_
        refine at_nil ?_
        refine at_weak [(3, _), (32, _)] ⟨rfl, rfl, trivial⟩ ?_
        refine at_then_normal ?_
        rcases of_ite hF with ⟨h9, hF⟩ | ⟨h9, hF⟩
        · refine at_cond_true rfl h9 ?_
          refine at_seq ?_
          refine at_region ?_
          obtain ⟨t10, ht10, hF⟩ := of_bindM hF
          refine at_callB Tryd.func47 rfl (by kernel_rfl) rfl rfl (fun w hw => crawlwaylaw11_alive_ok  _ ht10 w (hg_strconv_ErrRange.on hw.below) (hg_strconv_ErrSyntax.on hw.below) (hg_strconv_uint64pow10.on hw.below)) ?_
          refine at_val rfl rfl rfl (r_assign rfl) ?_
          refine at_nil ?_
          refine at_drop (H := _) .z ?_
          refine at_weak [(2, _)] ⟨rfl, trivial⟩ ?_
          refine at_then_normal ?_
          refine at_ret ?_
          refine at_then_ret ?_
          have K := of_some hF
          subst K
          exact at_return1 rfl rfl (fun w1 hw => ⟨rfl, hw.below⟩)
        · refine at_cond_false rfl h9 ?_
          refine at_skip ?_
          refine at_then_normal ?_
          refine at_seq ?_
          refine at_region ?_
          refine at_val rfl rfl rfl (r_load_aggc (c := c_api_Prefix) (z := t3.1) Tryd.isAgg50 Tryd.sizeOf50 rfl (lens_cell .z (Lens.whole _ _))) ?_
          obtain ⟨t11, ht11, hF⟩ := of_bindM hF
          refine at_callB Tryd.func48 rfl (by kernel_rfl) rfl rfl (fun w hw => cidr_Text_ok _ _ ht11 w (hg_strconv_uint64pow10.on hw.below)) ?_
          obtain ⟨t12, ht12, hF⟩ := of_bindM hF
          refine at_callB Tryd.func51 rfl (by kernel_rfl) rfl rfl (fun w hw => cidr_Parse_ok _ _ ht12 w (hg_strconv_ErrRange.on hw.below) (hg_strconv_ErrSyntax.on hw.below)) ?_
          refine at_val rfl rfl rfl (r_move rfl) ?_
          refine at_val rfl rfl rfl (r_extract rfl rfl) ?_
          refine at_val rfl rfl rfl (r_extract rfl rfl) ?_
          refine at_alloc (cs := Cd.cs c_api_Prefix ({ f_A := ({ f_V := (0 : Int), f_B := (Vector.replicate 16 (0 : Int) : (Vector Int 16)) } : S_api_Addr), f_Bits := (0 : Int) } : S_api_Prefix)) Tryd.zeroValue50 rfl rfl ?_
          intro b13
          refine at_store (c := c_api_Prefix) (z := t12.1) .z (Lens.whole _ _) Tryd.sizeOf50 rfl rfl rfl ?_
          refine at_val rfl rfl rfl (r_assign rfl) ?_
          refine at_nil ?_
          refine at_weak [(3, _), (7, _), (8, _)] ⟨rfl, rfl, rfl, trivial⟩ ?_
          refine at_then_normal ?_
          refine at_seq ?_
          refine at_region ?_
          refine at_val rfl rfl rfl (r_load_aggc (c := c_api_Prefix) (z := t12.1) Tryd.isAgg50 Tryd.sizeOf50 rfl (lens_cell .z (Lens.whole _ _))) ?_
          refine at_val rfl rfl rfl (r_load_aggc (c := c_api_Prefix) (z := t3.1) Tryd.isAgg50 Tryd.sizeOf50 rfl (lens_cell (.s .z) (Lens.whole _ _))) ?_
          refine at_val rfl rfl rfl (r_eqagg (c := c_api_Prefix) (a := t12.1) (b := t3.1) (eq_api_Prefix_50) rfl Tryd.eqGuardType50 rfl rfl (.inl rfl) rfl) ?_
          refine at_val rfl rfl rfl (r_move rfl) ?_
          rcases of_ite hF with ⟨h14, hF⟩ | ⟨h14, hF⟩
          · refine at_fix (g := 43) rfl h14 ?_
            refine at_guard_yes rfl rfl rfl ?_
            refine at_val rfl rfl rfl (r_move rfl) ?_
            refine at_guard_yes rfl rfl rfl ?_
            refine at_val rfl rfl rfl (r_ieql rfl rfl) ?_
            refine at_val rfl rfl rfl (r_pick rfl rfl rfl) ?_
            refine at_val rfl rfl rfl (r_move rfl) ?_
            rcases of_ite hF with ⟨h15, hF⟩ | ⟨h15, hF⟩
            · refine at_fix (g := 47) rfl h15 ?_
              refine at_guard_yes rfl rfl rfl ?_
              obtain ⟨t16, ht16, hF⟩ := of_bindM hF
              refine at_callB Tryd.func47 rfl (by kernel_rfl) rfl rfl (fun w hw => crawlwaylaw11_alive_ok  _ ht16 w (hg_strconv_ErrRange.on hw.below) (hg_strconv_ErrSyntax.on hw.below) (hg_strconv_uint64pow10.on hw.below)) ?_
              refine at_val rfl rfl rfl (r_pick rfl rfl rfl) ?_
              refine at_val rfl rfl rfl (r_assign rfl) ?_
              refine at_nil ?_
              refine at_drop (H := _) .z ?_
              refine at_drop (H := _) .z ?_
              refine at_weak [(2, _)] ⟨rfl, trivial⟩ ?_
              refine at_then_normal ?_
              refine at_ret ?_
              have K := of_some hF
              subst K
              exact at_return1 rfl rfl (fun w1 hw => ⟨rfl, hw.below⟩)
            · refine at_fix (g := 47) rfl h15 ?_
              refine at_guard_no rfl rfl rfl rfl rfl ?_
              refine at_val rfl rfl rfl (r_pick rfl rfl rfl) ?_
              refine at_val rfl rfl rfl (r_assign rfl) ?_
              refine at_nil ?_
              refine at_drop (H := _) .z ?_
              refine at_drop (H := _) .z ?_
              refine at_weak [(2, _)] ⟨rfl, trivial⟩ ?_
              refine at_then_normal ?_
              refine at_ret ?_
              have K := of_some hF
              subst K
              exact at_return1 rfl rfl (fun w1 hw => ⟨rfl, hw.below⟩)
          · refine at_fix (g := 43) rfl h14 ?_
            refine at_guard_no rfl rfl rfl rfl rfl ?_
            refine at_guard_no rfl rfl rfl rfl rfl ?_
            refine at_val rfl rfl rfl (r_pick rfl rfl rfl) ?_
            refine at_val rfl rfl rfl (r_move rfl) ?_
            refine at_guard_no rfl rfl rfl rfl rfl ?_
            refine at_val rfl rfl rfl (r_pick rfl rfl rfl) ?_
            refine at_val rfl rfl rfl (r_assign rfl) ?_
            refine at_nil ?_
            refine at_drop (H := _) .z ?_
            refine at_drop (H := _) .z ?_
            refine at_weak [(2, _)] ⟨rfl, trivial⟩ ?_
            refine at_then_normal ?_
            refine at_ret ?_
            have K := of_some hF
            subst K
            exact at_return1 rfl rfl (fun w1 hw => ⟨rfl, hw.below⟩)
end Go.Proofs.YtecolkjlpklaaaaDoor
