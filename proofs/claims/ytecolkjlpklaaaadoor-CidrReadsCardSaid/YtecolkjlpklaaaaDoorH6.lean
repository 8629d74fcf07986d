/- Functions with the same answers as the Go functions that they are named for, and the proofs of it, by a program of this project (gen.py). -/
import Derived.Test.YtecolkjlpklaaaaDoorT
import Derived.Test.YtecolkjlpklaaaaDoorShelf
import Derived.Test.YtecolkjlpklaaaaDoorW
import Derived.Test.YtecolkjlpklaaaaDoorL
import Derived.Test.YtecolkjlpklaaaaDoorS
import Derived.Test.YtecolkjlpklaaaaDoorJ
import Derived.Test.YtecolkjlpklaaaaDoorK
import Derived.Test.YtecolkjlpklaaaaDoorR
import Derived.Test.YtecolkjlpklaaaaDoorProg
import Derived.Test.YtecolkjlpklaaaaDoorG1
import Derived.Test.YtecolkjlpklaaaaDoorG2
import Derived.Test.YtecolkjlpklaaaaDoorG3
import Derived.Test.YtecolkjlpklaaaaDoorH4
import Derived.Test.YtecolkjlpklaaaaDoorH5
set_option linter.unusedVariables false
set_option linter.unusedSimpArgs false
namespace Go.Proofs.YtecolkjlpklaaaaDoor
open E Go.RowKit


def addr_Parse (x0 : ByteArray) : Option (S_api_Addr × Int) :=
  lines_Cut x0 58 >>= fun t2 => if t2.2.2 = true then (colon_Parse x0 >>= fun t4 => if (t4.2 != 0) = true then (some (({ f_V := (0 : Int), f_B := (Vector.replicate 16 (0 : Int) : (Vector Int 16)) } : S_api_Addr), t4.2)) else (addr_Six t4.1 >>= fun t7 => some (t7, 0))) else (quad_Parse x0 >>= fun t8 => if (t8.2 != 0) = true then (some (({ f_V := (0 : Int), f_B := (Vector.replicate 16 (0 : Int) : (Vector Int 16)) } : S_api_Addr), t8.2)) else (addr_Four t8.1 >>= fun t11 => some (t11, 0)))
theorem addr_Parse_ok (x0 : ByteArray) (r : S_api_Addr × Int) (hF : addr_Parse x0 = some r) (w : World) (hg_strconv_ErrRange : GV_strconv_ErrRange w) (hg_strconv_ErrSyntax : GV_strconv_ErrSyntax w) :
    Calls Tryd.prog 30 #[.string x0] w (fun e w' => e = .returned (.tuple #[.agg (Cd.cs c_api_Addr r.1).toArray, .int .i64 r.2]) ∧ Below w.heap.size w w') := by
  unfold addr_Parse at hF
  refine calls_enter (l := [.string x0]) Tryd.func30 rfl rfl rfl ?_
  refine at_start ?_
  refine at_weak [(0, _)] ⟨rfl, trivial⟩ ?_
  refine at_seq ?_
  refine at_region ?_
  refine at_alloc (cs := Cd.cs c_api_Addr ({ f_V := (0 : Int), f_B := (Vector.replicate 16 (0 : Int) : (Vector Int 16)) } : S_api_Addr)) Tryd.zeroValue24 rfl rfl ?_
  intro b1
  refine at_val rfl rfl rfl (r_assign rfl) ?_
  refine at_nil ?_
  refine at_weak [(0, _), (2, _)] ⟨rfl, rfl, trivial⟩ ?_
  refine at_then_normal ?_
  refine at_seq ?_
  refine at_seq ?_
  refine at_region ?_
  refine at_val rfl rfl rfl (r_move rfl) ?_
  obtain ⟨t2, ht2, hF⟩ := of_bindM hF
  refine at_callB Tryd.func67 rfl (by kernel_rfl) rfl rfl (fun w hw => lines_Cut_ok _ _ _ ht2 w) ?_
  refine at_val rfl rfl rfl (r_move rfl) ?_
  refine at_val rfl rfl rfl (r_extract rfl rfl) ?_
  refine at_val rfl rfl rfl (r_extract rfl rfl) ?_
  refine at_val rfl rfl rfl (r_extract rfl rfl) ?_
  refine at_val rfl rfl rfl (r_assign rfl) ?_
  refine at_val rfl rfl rfl (r_assign rfl) ?_
  refine at_val rfl rfl rfl (r_assign rfl) ?_
  refine at_nil ?_
  refine at_weak [(0, _), (2, _), (6, _)] ⟨rfl, rfl, rfl, trivial⟩ ?_
  refine at_then_normal ?_
  refine at_seq ?_
  refine at_region ?_
  refine at_val rfl rfl rfl (r_move rfl) ?_
  refine at_nil ?_
  refine at_weak [(0, _), (2, _), (17, _)] ⟨rfl, rfl, rfl, trivial⟩ ?_
  refine at_then_normal ?_
  rcases of_ite hF with ⟨h3, hF⟩ | ⟨h3, hF⟩
  · refine at_cond_true rfl h3 ?_
    refine at_seq ?_
    refine at_region ?_
    refine at_val rfl rfl rfl (r_move rfl) ?_
    obtain ⟨t4, ht4, hF⟩ := of_bindM hF
    refine at_callB Tryd.func60 rfl (by kernel_rfl) rfl rfl (fun w hw => colon_Parse_ok _ _ ht4 w (hg_strconv_ErrRange.on hw.below) (hg_strconv_ErrSyntax.on hw.below)) ?_
    refine at_val rfl rfl rfl (r_move rfl) ?_
    refine at_val rfl rfl rfl (r_extract rfl rfl) ?_
    refine at_val rfl rfl rfl (r_extract rfl rfl) ?_
    refine at_alloc (cs := Cd.cs (cVec (cInt .u8) 16 (by decide)) (Vector.replicate 16 (0 : Int) : (Vector Int 16))) Tryd.zeroValue22 rfl rfl ?_
    intro b5
    refine at_store (c := (cVec (cInt .u8) 16 (by decide))) (z := t4.1) .z (Lens.whole _ _) Tryd.sizeOf22 rfl rfl rfl ?_
    refine at_val rfl rfl rfl (r_assign rfl) ?_
    refine at_nil ?_
    refine at_weak [(2, _), (7, _), (8, _)] ⟨rfl, rfl, rfl, trivial⟩ ?_
    refine at_then_normal ?_
    refine at_seq ?_
    refine at_seq ?_
    refine at_region ?_
    refine at_val rfl rfl rfl (r_move rfl) ?_
    refine at_val rfl rfl rfl (r_ineq rfl rfl) ?_
    refine at_nil ?_
    refine at_weak [(2, _), (7, _), (8, _), (24, _)] ⟨rfl, rfl, rfl, rfl, trivial⟩ ?_
    refine at_then_normal ?_
    rcases of_ite hF with ⟨h6, hF⟩ | ⟨h6, hF⟩
    · refine at_cond_true rfl h6 ?_
      refine at_seq ?_
      refine at_region ?_
      refine at_val rfl rfl rfl (r_build_struct (zs := Cd.cs c_api_Addr ({ f_V := (0 : Int), f_B := (Vector.replicate 16 (0 : Int) : (Vector Int 16)) } : S_api_Addr)) (cs := Cd.cs c_api_Addr ({ f_V := (0 : Int), f_B := (Vector.replicate 16 (0 : Int) : (Vector Int 16)) } : S_api_Addr)) Tryd.underlying24 Tryd.zeroValue24 rfl (places_api_Addr_24) rfl rfl) ?_
      refine at_val rfl rfl rfl (r_move rfl) ?_
      refine at_store (c := c_api_Addr) (z := ({ f_V := (0 : Int), f_B := (Vector.replicate 16 (0 : Int) : (Vector Int 16)) } : S_api_Addr)) (.s .z) (Lens.whole _ _) Tryd.sizeOf24 rfl rfl rfl ?_
      refine at_val rfl rfl rfl (r_assign rfl) ?_
      refine at_nil ?_
      refine at_drop (H := _) .z ?_
      refine at_weak [(2, _), (3, _)] ⟨rfl, rfl, trivial⟩ ?_
      refine at_then_normal ?_
      refine at_ret ?_
      refine at_then_ret (at_then_ret ?_)
      have K := of_some hF
      subst K
      exact at_res2 rfl (res_cell (c := c_api_Addr) (y := ({ f_V := (0 : Int), f_B := (Vector.replicate 16 (0 : Int) : (Vector Int 16)) } : S_api_Addr)) rfl .z (Lens.whole _ _) Tryd.isAgg24 Tryd.sizeOf24 (.inl rfl)) (res_tmp rfl) (fun w1 hw => ⟨rfl, hw.below⟩)
    · refine at_cond_false rfl h6 ?_
      refine at_skip ?_
      refine at_then_normal ?_
      refine at_seq ?_
      refine at_region ?_
      refine at_val rfl rfl rfl (r_load_aggc (c := (cVec (cInt .u8) 16 (by decide))) (z := t4.1) Tryd.isAgg22 Tryd.sizeOf22 rfl (lens_cell .z (Lens.whole _ _))) ?_
      obtain ⟨t7, ht7, hF⟩ := of_bindM hF
      refine at_callB Tryd.func42 rfl (by kernel_rfl) rfl rfl (fun w hw => addr_Six_ok _ _ ht7 w) ?_
      refine at_store (c := c_api_Addr) (z := t7) (.s .z) (Lens.whole _ _) Tryd.sizeOf24 rfl rfl rfl ?_
      refine at_val rfl rfl rfl (r_assign rfl) ?_
      refine at_nil ?_
      refine at_drop (H := _) .z ?_
      refine at_weak [(2, _), (3, _)] ⟨rfl, rfl, trivial⟩ ?_
      refine at_then_normal ?_
      refine at_ret ?_
      refine at_then_ret ?_
      have K := of_some hF
      subst K
      exact at_res2 rfl (res_cell (c := c_api_Addr) (y := t7) rfl .z (Lens.whole _ _) Tryd.isAgg24 Tryd.sizeOf24 (.inl rfl)) (res_tmp rfl) (fun w1 hw => ⟨rfl, hw.below⟩)
  · refine at_cond_false rfl h3 ?_
    refine at_skip ?_
    refine at_then_normal ?_
    refine at_seq ?_
    refine at_region ?_
    refine at_val rfl rfl rfl (r_move rfl) ?_
    obtain ⟨t8, ht8, hF⟩ := of_bindM hF
    refine at_callB Tryd.func68 rfl (by kernel_rfl) rfl rfl (fun w hw => quad_Parse_ok _ _ ht8 w (hg_strconv_ErrRange.on hw.below) (hg_strconv_ErrSyntax.on hw.below)) ?_
    refine at_val rfl rfl rfl (r_move rfl) ?_
    refine at_val rfl rfl rfl (r_extract rfl rfl) ?_
    refine at_val rfl rfl rfl (r_extract rfl rfl) ?_
    refine at_alloc (cs := Cd.cs (cVec (cInt .u8) 4 (by decide)) (Vector.replicate 4 (0 : Int) : (Vector Int 4))) Tryd.zeroValue47 rfl rfl ?_
    intro b9
    refine at_store (c := (cVec (cInt .u8) 4 (by decide))) (z := t8.1) .z (Lens.whole _ _) Tryd.sizeOf47 rfl rfl rfl ?_
    refine at_val rfl rfl rfl (r_assign rfl) ?_
    refine at_nil ?_
    refine at_weak [(2, _), (9, _), (10, _)] ⟨rfl, rfl, rfl, trivial⟩ ?_
    refine at_then_normal ?_
    refine at_seq ?_
    refine at_seq ?_
    refine at_region ?_
    refine at_val rfl rfl rfl (r_move rfl) ?_
    refine at_val rfl rfl rfl (r_ineq rfl rfl) ?_
    refine at_nil ?_
    refine at_weak [(2, _), (9, _), (10, _), (35, _)] ⟨rfl, rfl, rfl, rfl, trivial⟩ ?_
    refine at_then_normal ?_
    rcases of_ite hF with ⟨h10, hF⟩ | ⟨h10, hF⟩
    · refine at_cond_true rfl h10 ?_
      refine at_seq ?_
      refine at_region ?_
      refine at_val rfl rfl rfl (r_build_struct (zs := Cd.cs c_api_Addr ({ f_V := (0 : Int), f_B := (Vector.replicate 16 (0 : Int) : (Vector Int 16)) } : S_api_Addr)) (cs := Cd.cs c_api_Addr ({ f_V := (0 : Int), f_B := (Vector.replicate 16 (0 : Int) : (Vector Int 16)) } : S_api_Addr)) Tryd.underlying24 Tryd.zeroValue24 rfl (places_api_Addr_24) rfl rfl) ?_
      refine at_val rfl rfl rfl (r_move rfl) ?_
      refine at_store (c := c_api_Addr) (z := ({ f_V := (0 : Int), f_B := (Vector.replicate 16 (0 : Int) : (Vector Int 16)) } : S_api_Addr)) (.s .z) (Lens.whole _ _) Tryd.sizeOf24 rfl rfl rfl ?_
      refine at_val rfl rfl rfl (r_assign rfl) ?_
      refine at_nil ?_
      refine at_drop (H := _) .z ?_
      refine at_weak [(2, _), (3, _)] ⟨rfl, rfl, trivial⟩ ?_
      refine at_then_normal ?_
      refine at_ret ?_
      refine at_then_ret ?_
      have K := of_some hF
      subst K
      exact at_res2 rfl (res_cell (c := c_api_Addr) (y := ({ f_V := (0 : Int), f_B := (Vector.replicate 16 (0 : Int) : (Vector Int 16)) } : S_api_Addr)) rfl .z (Lens.whole _ _) Tryd.isAgg24 Tryd.sizeOf24 (.inl rfl)) (res_tmp rfl) (fun w1 hw => ⟨rfl, hw.below⟩)
    · refine at_cond_false rfl h10 ?_
      refine at_skip ?_
      refine at_then_normal ?_
      refine at_seq ?_
      refine at_region ?_
      refine at_val rfl rfl rfl (r_load_aggc (c := (cVec (cInt .u8) 4 (by decide))) (z := t8.1) Tryd.isAgg47 Tryd.sizeOf47 rfl (lens_cell .z (Lens.whole _ _))) ?_
      obtain ⟨t11, ht11, hF⟩ := of_bindM hF
      refine at_callB Tryd.func41 rfl (by kernel_rfl) rfl rfl (fun w hw => addr_Four_ok _ _ ht11 w) ?_
      refine at_store (c := c_api_Addr) (z := t11) (.s .z) (Lens.whole _ _) Tryd.sizeOf24 rfl rfl rfl ?_
      refine at_val rfl rfl rfl (r_assign rfl) ?_
      refine at_nil ?_
      refine at_drop (H := _) .z ?_
      refine at_weak [(2, _), (3, _)] ⟨rfl, rfl, trivial⟩ ?_
      refine at_then_normal ?_
      refine at_ret ?_
      have K := of_some hF
      subst K
      exact at_res2 rfl (res_cell (c := c_api_Addr) (y := t11) rfl .z (Lens.whole _ _) Tryd.isAgg24 Tryd.sizeOf24 (.inl rfl)) (res_tmp rfl) (fun w1 hw => ⟨rfl, hw.below⟩)

def crawlwayref10_Of.l0 (x0 : List Int) (i9 : Int) (i10 : S_api_Addr) : Option (S_api_Addr) :=
  if (decide (i9 < (x0.length : Int))) = true then (if (0 : Int) ≤ i9 ∧ i9 < (x0.length : Int) then if (0 : Int) ≤ i9 ∧ i9 < 16 then crawlwayref10_Of.l0 x0 (wr .i64 (i9 + 1)) ({ i10 with f_B := vset i10.f_B i9 (lget x0 i9) }) else none else none) else (some i10)
  partial_fixpoint
def crawlwayref10_Of.l1 (x0 : List Int) (i21 : Int) (i22 : S_api_Addr) : Option (S_api_Addr) :=
  if (decide (i21 < (x0.length : Int))) = true then (if (0 : Int) ≤ i21 ∧ i21 < (x0.length : Int) then if (0 : Int) ≤ i21 ∧ i21 < 16 then crawlwayref10_Of.l1 x0 (wr .i64 (i21 + 1)) ({ i22 with f_B := vset i22.f_B i21 (lget x0 i21) }) else none else none) else (some i22)
  partial_fixpoint
def crawlwayref10_Of (x0 : List Int) : Option (S_api_Addr × Bool) :=
  if ((x0.length : Int) != 4) = true then (if ((x0.length : Int) != 16) = true then (some (({ f_V := (0 : Int), f_B := (Vector.replicate 16 (0 : Int) : (Vector Int 16)) } : S_api_Addr), false)) else ((if ((x0.length : Int) == 16) = true then (some ({ { ({ f_V := (0 : Int), f_B := (Vector.replicate 16 (0 : Int) : (Vector Int 16)) } : S_api_Addr) with f_V := 4 } with f_V := 6 })) else (some ({ ({ f_V := (0 : Int), f_B := (Vector.replicate 16 (0 : Int) : (Vector Int 16)) } : S_api_Addr) with f_V := 4 }))) >>= fun q5 => crawlwayref10_Of.l0 x0 0 q5 >>= fun q8 => some (q8, true))) else ((if ((x0.length : Int) == 16) = true then (some ({ { ({ f_V := (0 : Int), f_B := (Vector.replicate 16 (0 : Int) : (Vector Int 16)) } : S_api_Addr) with f_V := 4 } with f_V := 6 })) else (some ({ ({ f_V := (0 : Int), f_B := (Vector.replicate 16 (0 : Int) : (Vector Int 16)) } : S_api_Addr) with f_V := 4 }))) >>= fun q17 => crawlwayref10_Of.l1 x0 0 q17 >>= fun q20 => some (q20, true))
theorem crawlwayref10_Of_ok (x0 : List Int) (p0_ : Option Addr) (c0_ : Nat) (r : S_api_Addr × Bool) (hF : crawlwayref10_Of x0 = some r) (w : World) (hr0 : Row (cInt .u8) w p0_ c0_ x0) :
    Calls Tryd.prog 33 #[.slice p0_ x0.length c0_] w (fun e w' => e = .returned (.tuple #[.agg (Cd.cs c_api_Addr r.1).toArray, .bool r.2]) ∧ Below w.heap.size w w') := by
  unfold crawlwayref10_Of at hF
  refine calls_enter (l := [.slice p0_ x0.length c0_]) Tryd.func33 rfl rfl rfl ?_
  refine at_start ?_
  refine at_weak [(0, _)] ⟨rfl, trivial⟩ ?_
  refine at_seq ?_
  refine at_region ?_
  refine at_alloc (cs := Cd.cs c_api_Addr ({ f_V := (0 : Int), f_B := (Vector.replicate 16 (0 : Int) : (Vector Int 16)) } : S_api_Addr)) Tryd.zeroValue24 rfl rfl ?_
  intro b1
  refine at_val rfl rfl rfl (r_assign rfl) ?_
  refine at_nil ?_
  refine at_weak [(0, _), (2, _)] ⟨rfl, rfl, trivial⟩ ?_
  refine at_then_normal ?_
  refine at_seq ?_
  refine at_region ?_
  refine at_alloc (cs := Cd.cs c_api_Addr ({ f_V := (0 : Int), f_B := (Vector.replicate 16 (0 : Int) : (Vector Int 16)) } : S_api_Addr)) Tryd.zeroValue24 rfl rfl ?_
  intro b2
  refine at_nil ?_
  refine at_weak [(0, _), (2, _), (4, _)] ⟨rfl, rfl, rfl, trivial⟩ ?_
  refine at_then_normal ?_
  refine at_seq ?_
  refine at_seq ?_
  refine at_region ?_
  refine at_val rfl rfl rfl (r_move rfl) ?_
  refine at_val rfl rfl rfl (r_len_sl Tryd.underlying33 rfl) ?_
  refine at_val rfl rfl rfl (r_ineq rfl rfl) ?_
  refine at_val rfl rfl rfl (r_move rfl) ?_
  rcases of_ite hF with ⟨h3, hF⟩ | ⟨h3, hF⟩
  · refine at_fix (g := 9) rfl h3 ?_
    refine at_guard_yes rfl rfl rfl ?_
    refine at_val rfl rfl rfl (r_move rfl) ?_
    refine at_guard_yes rfl rfl rfl ?_
    refine at_val rfl rfl rfl (r_len_sl Tryd.underlying33 rfl) ?_
    refine at_guard_yes rfl rfl rfl ?_
    refine at_val rfl rfl rfl (r_ineq rfl rfl) ?_
    refine at_val rfl rfl rfl (r_pick rfl rfl rfl) ?_
    refine at_nil ?_
    refine at_weak [(0, _), (2, _), (4, _), (13, _)] ⟨rfl, rfl, rfl, rfl, trivial⟩ ?_
    refine at_then_normal ?_
    rcases of_ite hF with ⟨h4, hF⟩ | ⟨h4, hF⟩
    · refine at_cond_true rfl h4 ?_
      refine at_seq ?_
      refine at_region ?_
      refine at_val rfl rfl rfl (r_load_aggc (c := c_api_Addr) (z := ({ f_V := (0 : Int), f_B := (Vector.replicate 16 (0 : Int) : (Vector Int 16)) } : S_api_Addr)) Tryd.isAgg24 Tryd.sizeOf24 rfl (lens_cell .z (Lens.whole _ _))) ?_
      refine at_store (c := c_api_Addr) (z := ({ f_V := (0 : Int), f_B := (Vector.replicate 16 (0 : Int) : (Vector Int 16)) } : S_api_Addr)) (.s .z) (Lens.whole _ _) Tryd.sizeOf24 rfl rfl rfl ?_
      refine at_val rfl rfl rfl (r_assign rfl) ?_
      refine at_nil ?_
      refine at_drop (H := _) .z ?_
      refine at_weak [(2, _), (3, _)] ⟨rfl, rfl, trivial⟩ ?_
      refine at_then_normal ?_
      refine at_ret ?_
      refine at_then_ret ?_
      have K := of_some hF
      subst K
      exact at_res2 rfl (res_cell (c := c_api_Addr) (y := ({ f_V := (0 : Int), f_B := (Vector.replicate 16 (0 : Int) : (Vector Int 16)) } : S_api_Addr)) rfl .z (Lens.whole _ _) Tryd.isAgg24 Tryd.sizeOf24 (.inl rfl)) (res_tmp rfl) (fun w1 hw => ⟨rfl, hw.below⟩)
    · refine at_cond_false rfl h4 ?_
      refine at_skip ?_
      refine at_then_normal ?_
      refine at_seq ?_
      refine at_region ?_
      refine at_val rfl rfl rfl (r_fieldAddr (fo := 0) Tryd.underlying24 rfl rfl (fun w => ⟨_, Tryd.sizeOf3 w⟩) rfl) ?_
      refine at_store (c := (cInt .i64)) (z := 4) .z (Lens.comp (Lens.whole _ _) (fun z => { ({ f_V := (0 : Int), f_B := (Vector.replicate 16 (0 : Int) : (Vector Int 16)) } : S_api_Addr) with f_V := z }) (c_api_Addr_f_V ({ f_V := (0 : Int), f_B := (Vector.replicate 16 (0 : Int) : (Vector Int 16)) } : S_api_Addr))) Tryd.sizeOf3 rfl rfl rfl ?_
      refine at_nil ?_
      refine at_weak [(0, _), (2, _), (4, _)] ⟨rfl, rfl, rfl, trivial⟩ ?_
      refine at_then_normal ?_
      obtain ⟨q5, hq5, hF⟩ := of_bindM hF
      refine at_joinp (A := fun Y => At 34 [(0, .slice p0_ x0.length c0_), (2, .pointer (some ⟨b1, 0, none⟩)), (4, .pointer (some ⟨b2, 0, none⟩))] (Wd w [cellsE b2 (Cd.cs c_api_Addr q5) 24, cellsE b1 (Cd.cs c_api_Addr ({ f_V := (0 : Int), f_B := (Vector.replicate 16 (0 : Int) : (Vector Int 16)) } : S_api_Addr)) 24]) Y) ?_ ?_
      · intro Y K
        replace hF := hq5
        refine at_seq ?_
        refine at_region ?_
        refine at_val rfl rfl rfl (r_move rfl) ?_
        refine at_val rfl rfl rfl (r_len_sl Tryd.underlying33 rfl) ?_
        refine at_val rfl rfl rfl (r_ieql rfl rfl) ?_
        refine at_nil ?_
        refine at_weak [(0, _), (2, _), (4, _), (18, _)] ⟨rfl, rfl, rfl, rfl, trivial⟩ ?_
        refine at_then_normal ?_
        rcases of_ite hF with ⟨h7, hF⟩ | ⟨h7, hF⟩
        · refine at_cond_true rfl h7 ?_
          refine at_region ?_
          refine at_val rfl rfl rfl (r_fieldAddr (fo := 0) Tryd.underlying24 rfl rfl (fun w => ⟨_, Tryd.sizeOf3 w⟩) rfl) ?_
          refine at_store (c := (cInt .i64)) (z := 6) .z (Lens.comp (Lens.whole _ _) (fun z => { { ({ f_V := (0 : Int), f_B := (Vector.replicate 16 (0 : Int) : (Vector Int 16)) } : S_api_Addr) with f_V := 4 } with f_V := z }) (c_api_Addr_f_V ({ ({ f_V := (0 : Int), f_B := (Vector.replicate 16 (0 : Int) : (Vector Int 16)) } : S_api_Addr) with f_V := 4 }))) Tryd.sizeOf3 rfl rfl rfl ?_
          refine at_nil ?_
          refine at_weak [(0, _), (2, _), (4, _)] ⟨rfl, rfl, rfl, trivial⟩ ?_
          refine at_then_normal ?_
          obtain rfl := of_some hF
          exact at_weak_k K ⟨rfl, rfl, rfl, trivial⟩
        · refine at_cond_false rfl h7 ?_
          refine at_skip ?_
          refine at_then_normal ?_
          obtain rfl := of_some hF
          exact at_weak_k K ⟨rfl, rfl, rfl, trivial⟩
      · skip
        skip
        refine at_seq ?_
        refine at_seq ?_
        refine at_region ?_
        refine at_val rfl rfl rfl (r_assign rfl) ?_
        refine at_nil ?_
        refine at_weak [(0, _), (2, _), (4, _), (5, _)] ⟨rfl, rfl, rfl, rfl, trivial⟩ ?_
        refine at_then_normal ?_
        refine at_block ?_
        obtain ⟨q8, hq8, hF⟩ := of_bindM hF
        refine at_weak [(0, _), (2, _), (4, _), (5, _)] ⟨rfl, rfl, rfl, rfl, trivial⟩ ?_
        refine at_loop_n (B := 0) (A := fun Y => At 34 [(2, .pointer (some ⟨b1, 0, none⟩)), (4, .pointer (some ⟨b2, 0, none⟩))] (Wd w [cellsE b2 (Cd.cs c_api_Addr q8) 24, cellsE b1 (Cd.cs c_api_Addr ({ f_V := (0 : Int), f_B := (Vector.replicate 16 (0 : Int) : (Vector Int 16)) } : S_api_Addr)) 24]) Y) ?_ ?_
        · intro K
          refine crawlwayref10_Of.l0.partial_correctness x0 (motive := fun i9 i10 x => KN (fun Y => At 34 [(2, .pointer (some ⟨b1, 0, none⟩)), (4, .pointer (some ⟨b2, 0, none⟩))] (Wd w [cellsE b2 (Cd.cs c_api_Addr x) 24, cellsE b1 (Cd.cs c_api_Addr ({ f_V := (0 : Int), f_B := (Vector.replicate 16 (0 : Int) : (Vector Int 16)) } : S_api_Addr)) 24]) Y) _ 0 → Round (fun Y => At 34 [(0, .slice p0_ x0.length c0_), (2, .pointer (some ⟨b1, 0, none⟩)), (4, .pointer (some ⟨b2, 0, none⟩)), (5, .int .i64 i9)] (Wd w [cellsE b2 (Cd.cs c_api_Addr i10) 24, cellsE b1 (Cd.cs c_api_Addr ({ f_V := (0 : Int), f_B := (Vector.replicate 16 (0 : Int) : (Vector Int 16)) } : S_api_Addr)) 24]) Y) _ _ _) ?_ _ _ _ hq8 K
          · clear K hF
            intro g ih i9 i10 x hF K
            refine at_round ?_
            refine at_seq ?_
            refine at_seq ?_
            refine at_region ?_
            refine at_val rfl rfl rfl (r_move rfl) ?_
            refine at_val rfl rfl rfl (r_move rfl) ?_
            refine at_val rfl rfl rfl (r_len_sl Tryd.underlying33 rfl) ?_
            refine at_val rfl rfl rfl (r_ilss rfl rfl) ?_
            refine at_nil ?_
            refine at_weak [(0, _), (2, _), (4, _), (5, _), (23, _)] ⟨rfl, rfl, rfl, rfl, rfl, trivial⟩ ?_
            refine at_then_normal ?_
            rcases of_ite hF with ⟨h11, hF⟩ | ⟨h11, hF⟩
            · refine at_cond_true rfl h11 ?_
              refine at_skip ?_
              refine at_then_normal ?_
              refine at_seq ?_
              refine at_block ?_
              refine at_region ?_
              refine at_val rfl rfl rfl (r_move rfl) ?_
              refine at_val rfl rfl rfl (r_move rfl) ?_
              refine at_val rfl rfl rfl (r_move rfl) ?_
              obtain ⟨h12, hF⟩ := of_guard hF
              obtain ⟨b14, o15, hp13⟩ := row_ptr hr0 h12
              refine at_val rfl rfl rfl (r_idx Tryd.underlying33 Tryd.sizeOf5 rfl rfl h12 hp13) ?_
              refine at_val rfl rfl rfl (r_load_cell Tryd.isAgg5 rfl (row_cell0 (fun _ h => h.below) hr0 h12 hp13 rfl)) ?_
              refine at_val rfl rfl rfl (r_fieldAddr (fo := 1) Tryd.underlying24 rfl rfl (fun w => ⟨_, Tryd.sizeOf22 w⟩) rfl) ?_
              obtain ⟨h16, hF⟩ := of_guard hF
              refine at_val rfl rfl rfl (r_idxArr Tryd.underlying22 Tryd.sizeOf5 rfl rfl h16) ?_
              refine at_store (c := (cInt .u8)) (z := lget x0 i9) .z (Lens.comp (Lens.comp (Lens.whole _ _) (fun z => { i10 with f_B := z }) (c_api_Addr_f_B i10)) (fun z => vset i10.f_B i9 z) (Lens.vec (cInt .u8) (by decide) i10.f_B i9 h16)) Tryd.sizeOf5 rfl rfl rfl ?_
              refine at_nil ?_
              refine at_weak [(0, _), (2, _), (4, _), (5, _)] ⟨rfl, rfl, rfl, rfl, trivial⟩ ?_
              refine at_blk_normal (at_then_normal ?_)
              refine at_region ?_
              refine at_val rfl rfl rfl (r_move rfl) ?_
              refine at_val rfl rfl rfl (r_iadd rfl rfl) ?_
              refine at_val rfl rfl rfl (r_assign rfl) ?_
              refine at_nil ?_
              refine at_weak [(0, _), (2, _), (4, _), (5, _)] ⟨rfl, rfl, rfl, rfl, trivial⟩ ?_
              refine at_then_normal ?_
              exact at_weak_k (ih _ _ _ hF K) ⟨rfl, rfl, rfl, rfl, trivial⟩
            · refine at_cond_false rfl h11 ?_
              refine at_exit ?_
              refine at_then_exit (at_then_exit ?_)
              obtain rfl := of_some hF
              exact at_weak_k K ⟨rfl, rfl, trivial⟩
        · skip
          skip
          refine at_blk_same ?_
          refine at_then_normal ?_
          refine at_seq ?_
          refine at_region ?_
          refine at_val rfl rfl rfl (r_load_aggc (c := c_api_Addr) (z := q8) Tryd.isAgg24 Tryd.sizeOf24 rfl (lens_cell .z (Lens.whole _ _))) ?_
          refine at_store (c := c_api_Addr) (z := q8) (.s .z) (Lens.whole _ _) Tryd.sizeOf24 rfl rfl rfl ?_
          refine at_val rfl rfl rfl (r_assign rfl) ?_
          refine at_nil ?_
          refine at_drop (H := _) .z ?_
          refine at_weak [(2, _), (3, _)] ⟨rfl, rfl, trivial⟩ ?_
          refine at_then_normal ?_
          refine at_ret ?_
          have K := of_some hF
          subst K
          exact at_res2 rfl (res_cell (c := c_api_Addr) (y := q8) rfl .z (Lens.whole _ _) Tryd.isAgg24 Tryd.sizeOf24 (.inl rfl)) (res_tmp rfl) (fun w1 hw => ⟨rfl, hw.below⟩)
  · refine at_fix (g := 9) rfl h3 ?_
    refine at_guard_no rfl rfl rfl rfl rfl ?_
    refine at_guard_no rfl rfl rfl rfl rfl ?_
    refine at_guard_no rfl rfl rfl rfl rfl ?_
    refine at_val rfl rfl rfl (r_pick rfl rfl rfl) ?_
    refine at_nil ?_
    refine at_weak [(0, _), (2, _), (4, _), (13, _)] ⟨rfl, rfl, rfl, rfl, trivial⟩ ?_
    refine at_then_normal ?_
    refine at_cond_false rfl rfl ?_
    refine at_skip ?_
    refine at_then_normal ?_
    refine at_seq ?_
    refine at_region ?_
    refine at_val rfl rfl rfl (r_fieldAddr (fo := 0) Tryd.underlying24 rfl rfl (fun w => ⟨_, Tryd.sizeOf3 w⟩) rfl) ?_
    refine at_store (c := (cInt .i64)) (z := 4) .z (Lens.comp (Lens.whole _ _) (fun z => { ({ f_V := (0 : Int), f_B := (Vector.replicate 16 (0 : Int) : (Vector Int 16)) } : S_api_Addr) with f_V := z }) (c_api_Addr_f_V ({ f_V := (0 : Int), f_B := (Vector.replicate 16 (0 : Int) : (Vector Int 16)) } : S_api_Addr))) Tryd.sizeOf3 rfl rfl rfl ?_
    refine at_nil ?_
    refine at_weak [(0, _), (2, _), (4, _)] ⟨rfl, rfl, rfl, trivial⟩ ?_
    refine at_then_normal ?_
    obtain ⟨q17, hq17, hF⟩ := of_bindM hF
    refine at_joinp (A := fun Y => At 34 [(0, .slice p0_ x0.length c0_), (2, .pointer (some ⟨b1, 0, none⟩)), (4, .pointer (some ⟨b2, 0, none⟩))] (Wd w [cellsE b2 (Cd.cs c_api_Addr q17) 24, cellsE b1 (Cd.cs c_api_Addr ({ f_V := (0 : Int), f_B := (Vector.replicate 16 (0 : Int) : (Vector Int 16)) } : S_api_Addr)) 24]) Y) ?_ ?_
    · intro Y K
      replace hF := hq17
      refine at_seq ?_
      refine at_region ?_
      refine at_val rfl rfl rfl (r_move rfl) ?_
      refine at_val rfl rfl rfl (r_len_sl Tryd.underlying33 rfl) ?_
      refine at_val rfl rfl rfl (r_ieql rfl rfl) ?_
      refine at_nil ?_
      refine at_weak [(0, _), (2, _), (4, _), (18, _)] ⟨rfl, rfl, rfl, rfl, trivial⟩ ?_
      refine at_then_normal ?_
      rcases of_ite hF with ⟨h19, hF⟩ | ⟨h19, hF⟩
      · refine at_cond_true rfl h19 ?_
        refine at_region ?_
        refine at_val rfl rfl rfl (r_fieldAddr (fo := 0) Tryd.underlying24 rfl rfl (fun w => ⟨_, Tryd.sizeOf3 w⟩) rfl) ?_
        refine at_store (c := (cInt .i64)) (z := 6) .z (Lens.comp (Lens.whole _ _) (fun z => { { ({ f_V := (0 : Int), f_B := (Vector.replicate 16 (0 : Int) : (Vector Int 16)) } : S_api_Addr) with f_V := 4 } with f_V := z }) (c_api_Addr_f_V ({ ({ f_V := (0 : Int), f_B := (Vector.replicate 16 (0 : Int) : (Vector Int 16)) } : S_api_Addr) with f_V := 4 }))) Tryd.sizeOf3 rfl rfl rfl ?_
        refine at_nil ?_
        refine at_weak [(0, _), (2, _), (4, _)] ⟨rfl, rfl, rfl, trivial⟩ ?_
        refine at_then_normal ?_
        obtain rfl := of_some hF
        exact at_weak_k K ⟨rfl, rfl, rfl, trivial⟩
      · refine at_cond_false rfl h19 ?_
        refine at_skip ?_
        refine at_then_normal ?_
        obtain rfl := of_some hF
        exact at_weak_k K ⟨rfl, rfl, rfl, trivial⟩
    · skip
      skip
      refine at_seq ?_
      refine at_seq ?_
      refine at_region ?_
      refine at_val rfl rfl rfl (r_assign rfl) ?_
      refine at_nil ?_
      refine at_weak [(0, _), (2, _), (4, _), (5, _)] ⟨rfl, rfl, rfl, rfl, trivial⟩ ?_
      refine at_then_normal ?_
      refine at_block ?_
      obtain ⟨q20, hq20, hF⟩ := of_bindM hF
      refine at_weak [(0, _), (2, _), (4, _), (5, _)] ⟨rfl, rfl, rfl, rfl, trivial⟩ ?_
      refine at_loop_n (B := 0) (A := fun Y => At 34 [(2, .pointer (some ⟨b1, 0, none⟩)), (4, .pointer (some ⟨b2, 0, none⟩))] (Wd w [cellsE b2 (Cd.cs c_api_Addr q20) 24, cellsE b1 (Cd.cs c_api_Addr ({ f_V := (0 : Int), f_B := (Vector.replicate 16 (0 : Int) : (Vector Int 16)) } : S_api_Addr)) 24]) Y) ?_ ?_
      · intro K
        refine crawlwayref10_Of.l1.partial_correctness x0 (motive := fun i21 i22 x => KN (fun Y => At 34 [(2, .pointer (some ⟨b1, 0, none⟩)), (4, .pointer (some ⟨b2, 0, none⟩))] (Wd w [cellsE b2 (Cd.cs c_api_Addr x) 24, cellsE b1 (Cd.cs c_api_Addr ({ f_V := (0 : Int), f_B := (Vector.replicate 16 (0 : Int) : (Vector Int 16)) } : S_api_Addr)) 24]) Y) _ 0 → Round (fun Y => At 34 [(0, .slice p0_ x0.length c0_), (2, .pointer (some ⟨b1, 0, none⟩)), (4, .pointer (some ⟨b2, 0, none⟩)), (5, .int .i64 i21)] (Wd w [cellsE b2 (Cd.cs c_api_Addr i22) 24, cellsE b1 (Cd.cs c_api_Addr ({ f_V := (0 : Int), f_B := (Vector.replicate 16 (0 : Int) : (Vector Int 16)) } : S_api_Addr)) 24]) Y) _ _ _) ?_ _ _ _ hq20 K
        · clear K hF
          intro g ih i21 i22 x hF K
          refine at_round ?_
          refine at_seq ?_
          refine at_seq ?_
          refine at_region ?_
          refine at_val rfl rfl rfl (r_move rfl) ?_
          refine at_val rfl rfl rfl (r_move rfl) ?_
          refine at_val rfl rfl rfl (r_len_sl Tryd.underlying33 rfl) ?_
          refine at_val rfl rfl rfl (r_ilss rfl rfl) ?_
          refine at_nil ?_
          refine at_weak [(0, _), (2, _), (4, _), (5, _), (23, _)] ⟨rfl, rfl, rfl, rfl, rfl, trivial⟩ ?_
          refine at_then_normal ?_
          rcases of_ite hF with ⟨h23, hF⟩ | ⟨h23, hF⟩
          · refine at_cond_true rfl h23 ?_
            refine at_skip ?_
            refine at_then_normal ?_
            refine at_seq ?_
            refine at_block ?_
            refine at_region ?_
            refine at_val rfl rfl rfl (r_move rfl) ?_
            refine at_val rfl rfl rfl (r_move rfl) ?_
            refine at_val rfl rfl rfl (r_move rfl) ?_
            obtain ⟨h24, hF⟩ := of_guard hF
            obtain ⟨b26, o27, hp25⟩ := row_ptr hr0 h24
            refine at_val rfl rfl rfl (r_idx Tryd.underlying33 Tryd.sizeOf5 rfl rfl h24 hp25) ?_
            refine at_val rfl rfl rfl (r_load_cell Tryd.isAgg5 rfl (row_cell0 (fun _ h => h.below) hr0 h24 hp25 rfl)) ?_
            refine at_val rfl rfl rfl (r_fieldAddr (fo := 1) Tryd.underlying24 rfl rfl (fun w => ⟨_, Tryd.sizeOf22 w⟩) rfl) ?_
            obtain ⟨h28, hF⟩ := of_guard hF
            refine at_val rfl rfl rfl (r_idxArr Tryd.underlying22 Tryd.sizeOf5 rfl rfl h28) ?_
            refine at_store (c := (cInt .u8)) (z := lget x0 i21) .z (Lens.comp (Lens.comp (Lens.whole _ _) (fun z => { i22 with f_B := z }) (c_api_Addr_f_B i22)) (fun z => vset i22.f_B i21 z) (Lens.vec (cInt .u8) (by decide) i22.f_B i21 h28)) Tryd.sizeOf5 rfl rfl rfl ?_
            refine at_nil ?_
            refine at_weak [(0, _), (2, _), (4, _), (5, _)] ⟨rfl, rfl, rfl, rfl, trivial⟩ ?_
            refine at_blk_normal (at_then_normal ?_)
            refine at_region ?_
            refine at_val rfl rfl rfl (r_move rfl) ?_
            refine at_val rfl rfl rfl (r_iadd rfl rfl) ?_
            refine at_val rfl rfl rfl (r_assign rfl) ?_
            refine at_nil ?_
            refine at_weak [(0, _), (2, _), (4, _), (5, _)] ⟨rfl, rfl, rfl, rfl, trivial⟩ ?_
            refine at_then_normal ?_
            exact at_weak_k (ih _ _ _ hF K) ⟨rfl, rfl, rfl, rfl, trivial⟩
          · refine at_cond_false rfl h23 ?_
            refine at_exit ?_
            refine at_then_exit (at_then_exit ?_)
            obtain rfl := of_some hF
            exact at_weak_k K ⟨rfl, rfl, trivial⟩
      · skip
        skip
        refine at_blk_same ?_
        refine at_then_normal ?_
        refine at_seq ?_
        refine at_region ?_
        refine at_val rfl rfl rfl (r_load_aggc (c := c_api_Addr) (z := q20) Tryd.isAgg24 Tryd.sizeOf24 rfl (lens_cell .z (Lens.whole _ _))) ?_
        refine at_store (c := c_api_Addr) (z := q20) (.s .z) (Lens.whole _ _) Tryd.sizeOf24 rfl rfl rfl ?_
        refine at_val rfl rfl rfl (r_assign rfl) ?_
        refine at_nil ?_
        refine at_drop (H := _) .z ?_
        refine at_weak [(2, _), (3, _)] ⟨rfl, rfl, trivial⟩ ?_
        refine at_then_normal ?_
        refine at_ret ?_
        have K := of_some hF
        subst K
        exact at_res2 rfl (res_cell (c := c_api_Addr) (y := q20) rfl .z (Lens.whole _ _) Tryd.isAgg24 Tryd.sizeOf24 (.inl rfl)) (res_tmp rfl) (fun w1 hw => ⟨rfl, hw.below⟩)

def crawlwayref10_Parse (x0 : ByteArray) : Option (S_api_Addr × Int) :=
  crawlwayref06_Parts x0 58 >>= fun t2 => if (decide ((t2.length : Int) > 1)) = true then (crawlwayref09_Parse x0 >>= fun t6 => if (!t6.2) = true then (some (({ f_V := (0 : Int), f_B := (Vector.replicate 16 (0 : Int) : (Vector Int 16)) } : S_api_Addr), 5)) else (some ({ { ({ f_V := (0 : Int), f_B := (Vector.replicate 16 (0 : Int) : (Vector Int 16)) } : S_api_Addr) with f_V := 6 } with f_B := t6.1 }, 0))) else (crawlwayref08_Parse x0 >>= fun t9 => if (t9.2 != 0) = true then (some (({ f_V := (0 : Int), f_B := (Vector.replicate 16 (0 : Int) : (Vector Int 16)) } : S_api_Addr), t9.2)) else (crawlwayref10_Of ([vget t9.1 0, vget t9.1 1, vget t9.1 2, vget t9.1 3]) >>= fun t13 => some (t13.1, 0)))
theorem crawlwayref10_Parse_ok (x0 : ByteArray) (r : S_api_Addr × Int) (hF : crawlwayref10_Parse x0 = some r) (w : World) :
    Calls Tryd.prog 31 #[.string x0] w (fun e w' => e = .returned (.tuple #[.agg (Cd.cs c_api_Addr r.1).toArray, .int .i64 r.2]) ∧ Below w.heap.size w w') := by
  unfold crawlwayref10_Parse at hF
  refine calls_enter (l := [.string x0]) Tryd.func31 rfl rfl rfl ?_
  refine at_start ?_
  refine at_weak [(0, _)] ⟨rfl, trivial⟩ ?_
  refine at_seq ?_
  refine at_region ?_
  refine at_alloc (cs := Cd.cs c_api_Addr ({ f_V := (0 : Int), f_B := (Vector.replicate 16 (0 : Int) : (Vector Int 16)) } : S_api_Addr)) Tryd.zeroValue24 rfl rfl ?_
  intro b1
  refine at_val rfl rfl rfl (r_assign rfl) ?_
  refine at_nil ?_
  refine at_weak [(0, _), (2, _)] ⟨rfl, rfl, trivial⟩ ?_
  refine at_then_normal ?_
  refine at_seq ?_
  refine at_seq ?_
  refine at_region ?_
  refine at_val rfl rfl rfl (r_move rfl) ?_
  obtain ⟨t2, ht2, hF⟩ := of_bindM hF
  refine at_callO (c := cStr) (e := 9) (ys := t2) (V := fun p cap => .slice p t2.length cap) Tryd.func69 rfl (by kernel_rfl) rfl rfl (fun w hw => crawlwayref06_Parts_ok _ _ _ ht2 w) ?_
  intro p3 c4
  refine at_val rfl rfl rfl (r_len_sl Tryd.underlying76 rfl) ?_
  refine at_val rfl rfl rfl (r_igtr rfl rfl) ?_
  refine at_nil ?_
  refine at_drop (H := _) .z ?_
  refine at_weak [(0, _), (2, _), (13, _)] ⟨rfl, rfl, rfl, trivial⟩ ?_
  refine at_then_normal ?_
  rcases of_ite hF with ⟨h5, hF⟩ | ⟨h5, hF⟩
  · refine at_cond_true rfl h5 ?_
    refine at_seq ?_
    refine at_region ?_
    refine at_val rfl rfl rfl (r_move rfl) ?_
    obtain ⟨t6, ht6, hF⟩ := of_bindM hF
    refine at_callB Tryd.func63 rfl (by kernel_rfl) rfl rfl (fun w hw => crawlwayref09_Parse_ok _ _ ht6 w) ?_
    refine at_val rfl rfl rfl (r_move rfl) ?_
    refine at_val rfl rfl rfl (r_extract rfl rfl) ?_
    refine at_val rfl rfl rfl (r_extract rfl rfl) ?_
    refine at_alloc (cs := Cd.cs (cVec (cInt .u8) 16 (by decide)) (Vector.replicate 16 (0 : Int) : (Vector Int 16))) Tryd.zeroValue22 rfl rfl ?_
    intro b7
    refine at_store (c := (cVec (cInt .u8) 16 (by decide))) (z := t6.1) .z (Lens.whole _ _) Tryd.sizeOf22 rfl rfl rfl ?_
    refine at_val rfl rfl rfl (r_assign rfl) ?_
    refine at_nil ?_
    refine at_weak [(2, _), (4, _), (5, _)] ⟨rfl, rfl, rfl, trivial⟩ ?_
    refine at_then_normal ?_
    refine at_seq ?_
    refine at_seq ?_
    refine at_region ?_
    refine at_val rfl rfl rfl (r_move rfl) ?_
    refine at_val rfl rfl rfl (r_not rfl) ?_
    refine at_nil ?_
    refine at_weak [(2, _), (4, _), (20, _)] ⟨rfl, rfl, rfl, trivial⟩ ?_
    refine at_then_normal ?_
    rcases of_ite hF with ⟨h8, hF⟩ | ⟨h8, hF⟩
    · refine at_cond_true rfl h8 ?_
      refine at_seq ?_
      refine at_region ?_
      refine at_val rfl rfl rfl (r_build_struct (zs := Cd.cs c_api_Addr ({ f_V := (0 : Int), f_B := (Vector.replicate 16 (0 : Int) : (Vector Int 16)) } : S_api_Addr)) (cs := Cd.cs c_api_Addr ({ f_V := (0 : Int), f_B := (Vector.replicate 16 (0 : Int) : (Vector Int 16)) } : S_api_Addr)) Tryd.underlying24 Tryd.zeroValue24 rfl (places_api_Addr_24) rfl rfl) ?_
      refine at_store (c := c_api_Addr) (z := ({ f_V := (0 : Int), f_B := (Vector.replicate 16 (0 : Int) : (Vector Int 16)) } : S_api_Addr)) (.s .z) (Lens.whole _ _) Tryd.sizeOf24 rfl rfl rfl ?_
      refine at_val rfl rfl rfl (r_assign rfl) ?_
      refine at_nil ?_
      refine at_drop (H := _) .z ?_
      refine at_weak [(2, _), (3, _)] ⟨rfl, rfl, trivial⟩ ?_
      refine at_then_normal ?_
      refine at_ret ?_
      refine at_then_ret (at_then_ret ?_)
      have K := of_some hF
      subst K
      exact at_res2 rfl (res_cell (c := c_api_Addr) (y := ({ f_V := (0 : Int), f_B := (Vector.replicate 16 (0 : Int) : (Vector Int 16)) } : S_api_Addr)) rfl .z (Lens.whole _ _) Tryd.isAgg24 Tryd.sizeOf24 (.inl rfl)) (res_tmp rfl) (fun w1 hw => ⟨rfl, hw.below⟩)
    · refine at_cond_false rfl h8 ?_
      refine at_skip ?_
      refine at_then_normal ?_
      refine at_seq ?_
      refine at_region ?_
      refine at_val rfl rfl rfl (r_load_aggc (c := (cVec (cInt .u8) 16 (by decide))) (z := t6.1) Tryd.isAgg22 Tryd.sizeOf22 rfl (lens_cell .z (Lens.whole _ _))) ?_
      refine at_val rfl rfl rfl (r_build_struct (zs := Cd.cs c_api_Addr ({ f_V := (0 : Int), f_B := (Vector.replicate 16 (0 : Int) : (Vector Int 16)) } : S_api_Addr)) (cs := Cd.cs c_api_Addr ({ { ({ f_V := (0 : Int), f_B := (Vector.replicate 16 (0 : Int) : (Vector Int 16)) } : S_api_Addr) with f_V := 6 } with f_B := t6.1 })) Tryd.underlying24 Tryd.zeroValue24 rfl (places_api_Addr_24) rfl (fill_step (c := (cInt .i64)) (z := 6) rfl (c_api_Addr_f_V ({ f_V := (0 : Int), f_B := (Vector.replicate 16 (0 : Int) : (Vector Int 16)) } : S_api_Addr)) rfl (fill_step (c := (cVec (cInt .u8) 16 (by decide))) (z := t6.1) rfl (c_api_Addr_f_B ({ ({ f_V := (0 : Int), f_B := (Vector.replicate 16 (0 : Int) : (Vector Int 16)) } : S_api_Addr) with f_V := 6 })) rfl rfl))) ?_
      refine at_store (c := c_api_Addr) (z := { { ({ f_V := (0 : Int), f_B := (Vector.replicate 16 (0 : Int) : (Vector Int 16)) } : S_api_Addr) with f_V := 6 } with f_B := t6.1 }) (.s .z) (Lens.whole _ _) Tryd.sizeOf24 rfl rfl rfl ?_
      refine at_val rfl rfl rfl (r_assign rfl) ?_
      refine at_nil ?_
      refine at_drop (H := _) .z ?_
      refine at_weak [(2, _), (3, _)] ⟨rfl, rfl, trivial⟩ ?_
      refine at_then_normal ?_
      refine at_ret ?_
      refine at_then_ret ?_
      have K := of_some hF
      subst K
      exact at_res2 rfl (res_cell (c := c_api_Addr) (y := { { ({ f_V := (0 : Int), f_B := (Vector.replicate 16 (0 : Int) : (Vector Int 16)) } : S_api_Addr) with f_V := 6 } with f_B := t6.1 }) rfl .z (Lens.whole _ _) Tryd.isAgg24 Tryd.sizeOf24 (.inl rfl)) (res_tmp rfl) (fun w1 hw => ⟨rfl, hw.below⟩)
  · refine at_cond_false rfl h5 ?_
    refine at_skip ?_
    refine at_then_normal ?_
    refine at_seq ?_
    refine at_region ?_
    refine at_val rfl rfl rfl (r_move rfl) ?_
    obtain ⟨t9, ht9, hF⟩ := of_bindM hF
    refine at_callB Tryd.func70 rfl (by kernel_rfl) rfl rfl (fun w hw => crawlwayref08_Parse_ok _ _ ht9 w) ?_
    refine at_val rfl rfl rfl (r_move rfl) ?_
    refine at_val rfl rfl rfl (r_extract rfl rfl) ?_
    refine at_val rfl rfl rfl (r_extract rfl rfl) ?_
    refine at_alloc (cs := Cd.cs (cVec (cInt .u8) 4 (by decide)) (Vector.replicate 4 (0 : Int) : (Vector Int 4))) Tryd.zeroValue47 rfl rfl ?_
    intro b10
    refine at_store (c := (cVec (cInt .u8) 4 (by decide))) (z := t9.1) .z (Lens.whole _ _) Tryd.sizeOf47 rfl rfl rfl ?_
    refine at_val rfl rfl rfl (r_assign rfl) ?_
    refine at_nil ?_
    refine at_weak [(2, _), (6, _), (7, _)] ⟨rfl, rfl, rfl, trivial⟩ ?_
    refine at_then_normal ?_
    refine at_seq ?_
    refine at_seq ?_
    refine at_region ?_
    refine at_val rfl rfl rfl (r_move rfl) ?_
    refine at_val rfl rfl rfl (r_ineq rfl rfl) ?_
    refine at_nil ?_
    refine at_weak [(2, _), (6, _), (7, _), (30, _)] ⟨rfl, rfl, rfl, rfl, trivial⟩ ?_
    refine at_then_normal ?_
    rcases of_ite hF with ⟨h11, hF⟩ | ⟨h11, hF⟩
    · refine at_cond_true rfl h11 ?_
      refine at_seq ?_
      refine at_region ?_
      refine at_val rfl rfl rfl (r_build_struct (zs := Cd.cs c_api_Addr ({ f_V := (0 : Int), f_B := (Vector.replicate 16 (0 : Int) : (Vector Int 16)) } : S_api_Addr)) (cs := Cd.cs c_api_Addr ({ f_V := (0 : Int), f_B := (Vector.replicate 16 (0 : Int) : (Vector Int 16)) } : S_api_Addr)) Tryd.underlying24 Tryd.zeroValue24 rfl (places_api_Addr_24) rfl rfl) ?_
      refine at_val rfl rfl rfl (r_move rfl) ?_
      refine at_store (c := c_api_Addr) (z := ({ f_V := (0 : Int), f_B := (Vector.replicate 16 (0 : Int) : (Vector Int 16)) } : S_api_Addr)) (.s .z) (Lens.whole _ _) Tryd.sizeOf24 rfl rfl rfl ?_
      refine at_val rfl rfl rfl (r_assign rfl) ?_
      refine at_nil ?_
      refine at_drop (H := _) .z ?_
      refine at_weak [(2, _), (3, _)] ⟨rfl, rfl, trivial⟩ ?_
      refine at_then_normal ?_
      refine at_ret ?_
      refine at_then_ret ?_
      have K := of_some hF
      subst K
      exact at_res2 rfl (res_cell (c := c_api_Addr) (y := ({ f_V := (0 : Int), f_B := (Vector.replicate 16 (0 : Int) : (Vector Int 16)) } : S_api_Addr)) rfl .z (Lens.whole _ _) Tryd.isAgg24 Tryd.sizeOf24 (.inl rfl)) (res_tmp rfl) (fun w1 hw => ⟨rfl, hw.below⟩)
    · refine at_cond_false rfl h11 ?_
      refine at_skip ?_
      refine at_then_normal ?_
      refine at_seq ?_
      refine at_region ?_
      refine at_val rfl rfl rfl (r_idxArr Tryd.underlying47 Tryd.sizeOf5 rfl rfl (by decide)) ?_
      refine at_val rfl rfl rfl (r_load_cell Tryd.isAgg5 rfl (lens_cell0 (c := (cInt .u8)) (y := vget t9.1 0) .z (Lens.comp (Lens.whole _ _) (fun z => vset t9.1 0 z) (Lens.vec (cInt .u8) (by decide) t9.1 0 (by decide))) rfl)) ?_
      refine at_val rfl rfl rfl (r_idxArr Tryd.underlying47 Tryd.sizeOf5 rfl rfl (by decide)) ?_
      refine at_val rfl rfl rfl (r_load_cell Tryd.isAgg5 rfl (lens_cell0 (c := (cInt .u8)) (y := vget t9.1 1) .z (Lens.comp (Lens.whole _ _) (fun z => vset t9.1 1 z) (Lens.vec (cInt .u8) (by decide) t9.1 1 (by decide))) rfl)) ?_
      refine at_val rfl rfl rfl (r_idxArr Tryd.underlying47 Tryd.sizeOf5 rfl rfl (by decide)) ?_
      refine at_val rfl rfl rfl (r_load_cell Tryd.isAgg5 rfl (lens_cell0 (c := (cInt .u8)) (y := vget t9.1 2) .z (Lens.comp (Lens.whole _ _) (fun z => vset t9.1 2 z) (Lens.vec (cInt .u8) (by decide) t9.1 2 (by decide))) rfl)) ?_
      refine at_val rfl rfl rfl (r_idxArr Tryd.underlying47 Tryd.sizeOf5 rfl rfl (by decide)) ?_
      refine at_val rfl rfl rfl (r_load_cell Tryd.isAgg5 rfl (lens_cell0 (c := (cInt .u8)) (y := vget t9.1 3) .z (Lens.comp (Lens.whole _ _) (fun z => vset t9.1 3 z) (Lens.vec (cInt .u8) (by decide) t9.1 3 (by decide))) rfl)) ?_
      refine at_lit (cs := (cInt .u8).all ([vget t9.1 0, vget t9.1 1, vget t9.1 2, vget t9.1 3] : List Int)) Tryd.underlying33 Tryd.sizeOf5 Tryd.zeroValue5 rfl rfl rfl (by kernel_rfl) rfl ?_
      intro b12
      obtain ⟨t13, ht13, hF⟩ := of_bindM hF
      refine at_callB Tryd.func33 rfl (by kernel_rfl) rfl rfl (fun w hw => crawlwayref10_Of_ok _ _ _ _ ht13 w (cells_row (hw.ok (Upd.mem .z)))) ?_
      refine at_val rfl rfl rfl (r_move rfl) ?_
      refine at_val rfl rfl rfl (r_extract rfl rfl) ?_
      refine at_val rfl rfl rfl (r_extract rfl rfl) ?_
      refine at_alloc (cs := Cd.cs c_api_Addr ({ f_V := (0 : Int), f_B := (Vector.replicate 16 (0 : Int) : (Vector Int 16)) } : S_api_Addr)) Tryd.zeroValue24 rfl rfl ?_
      intro b14
      refine at_store (c := c_api_Addr) (z := t13.1) .z (Lens.whole _ _) Tryd.sizeOf24 rfl rfl rfl ?_
      refine at_val rfl rfl rfl (r_assign rfl) ?_
      refine at_nil ?_
      refine at_drop (H := _) (.s .z) ?_
      refine at_drop (H := _) (.s .z) ?_
      refine at_weak [(2, _), (8, _)] ⟨rfl, rfl, trivial⟩ ?_
      refine at_then_normal ?_
      refine at_seq ?_
      refine at_region ?_
      refine at_val rfl rfl rfl (r_load_aggc (c := c_api_Addr) (z := t13.1) Tryd.isAgg24 Tryd.sizeOf24 rfl (lens_cell .z (Lens.whole _ _))) ?_
      refine at_store (c := c_api_Addr) (z := t13.1) (.s .z) (Lens.whole _ _) Tryd.sizeOf24 rfl rfl rfl ?_
      refine at_val rfl rfl rfl (r_assign rfl) ?_
      refine at_nil ?_
      refine at_drop (H := _) .z ?_
      refine at_weak [(2, _), (3, _)] ⟨rfl, rfl, trivial⟩ ?_
      refine at_then_normal ?_
      refine at_ret ?_
      have K := of_some hF
      subst K
      exact at_res2 rfl (res_cell (c := c_api_Addr) (y := t13.1) rfl .z (Lens.whole _ _) Tryd.isAgg24 Tryd.sizeOf24 (.inl rfl)) (res_tmp rfl) (fun w1 hw => ⟨rfl, hw.below⟩)

def crawlwayref10_Text (x0 : S_api_Addr) : Option (ByteArray) :=
  crawlwayref10_Right x0 >>= fun t2 => if (!t2) = true then (some (⟨#[]⟩)) else (if (x0.f_V == 6) = true then (crawlwayref09_Text x0.f_B >>= fun t5 => some t5) else (crawlwayref08_Text (vset (vset (vset (vset (Vector.replicate 4 (0 : Int) : (Vector Int 4)) 0 (vget x0.f_B 0)) 1 (vget x0.f_B 1)) 2 (vget x0.f_B 2)) 3 (vget x0.f_B 3)) >>= fun t6 => some t6))
theorem crawlwayref10_Text_ok (x0 : S_api_Addr) (r : ByteArray) (hF : crawlwayref10_Text x0 = some r) (w : World) :
    Calls Tryd.prog 39 #[.agg (Cd.cs c_api_Addr x0).toArray] w (fun e w' => e = .returned (.string r) ∧ Below w.heap.size w w') := by
  unfold crawlwayref10_Text at hF
  refine calls_enter (l := [.agg (Cd.cs c_api_Addr x0).toArray]) Tryd.func39 rfl rfl rfl ?_
  refine at_start ?_
  refine at_weak [(0, _)] ⟨rfl, trivial⟩ ?_
  refine at_seq ?_
  refine at_region ?_
  refine at_box (cs := Cd.cs c_api_Addr x0) rfl rfl rfl ?_
  intro b1
  refine at_val rfl rfl rfl (r_assign rfl) ?_
  refine at_nil ?_
  refine at_weak [(1, _)] ⟨rfl, trivial⟩ ?_
  refine at_then_normal ?_
  refine at_seq ?_
  refine at_seq ?_
  refine at_region ?_
  refine at_val rfl rfl rfl (r_load_aggc (c := c_api_Addr) (z := x0) Tryd.isAgg24 Tryd.sizeOf24 rfl (lens_cell .z (Lens.whole _ _))) ?_
  obtain ⟨t2, ht2, hF⟩ := of_bindM hF
  refine at_callB Tryd.func26 rfl (by kernel_rfl) rfl rfl (fun w hw => crawlwayref10_Right_ok _ _ ht2 w) ?_
  refine at_val rfl rfl rfl (r_not rfl) ?_
  refine at_nil ?_
  refine at_weak [(1, _), (5, _)] ⟨rfl, rfl, trivial⟩ ?_
  refine at_then_normal ?_
  rcases of_ite hF with ⟨h3, hF⟩ | ⟨h3, hF⟩
  · refine at_cond_true rfl h3 ?_
    refine at_seq ?_
    refine at_region ?_
    refine at_val rfl rfl rfl (r_assign rfl) ?_
    refine at_nil ?_
    refine at_drop (H := _) .z ?_
    refine at_weak [(2, _)] ⟨rfl, trivial⟩ ?_
    refine at_then_normal ?_
    refine at_ret ?_
    refine at_then_ret ?_
    have K := of_some hF
    subst K
    exact at_return1 rfl rfl (fun w1 hw => ⟨rfl, hw.below⟩)
  · refine at_cond_false rfl h3 ?_
    refine at_skip ?_
    refine at_then_normal ?_
    refine at_seq ?_
    refine at_seq ?_
    refine at_region ?_
    refine at_val rfl rfl rfl (r_fieldAddr (fo := 0) Tryd.underlying24 rfl rfl (fun w => ⟨_, Tryd.sizeOf3 w⟩) rfl) ?_
    refine at_val rfl rfl rfl (r_load_cell Tryd.isAgg3 rfl (lens_cell0 (c := (cInt .i64)) (y := x0.f_V) .z (Lens.comp (Lens.whole _ _) (fun z => { x0 with f_V := z }) (c_api_Addr_f_V x0)) rfl)) ?_
    refine at_val rfl rfl rfl (r_ieql rfl rfl) ?_
    refine at_nil ?_
    refine at_weak [(1, _), (8, _)] ⟨rfl, rfl, trivial⟩ ?_
    refine at_then_normal ?_
    rcases of_ite hF with ⟨h4, hF⟩ | ⟨h4, hF⟩
    · refine at_cond_true rfl h4 ?_
      refine at_seq ?_
      refine at_region ?_
      refine at_val rfl rfl rfl (r_fieldAddr (fo := 1) Tryd.underlying24 rfl rfl (fun w => ⟨_, Tryd.sizeOf22 w⟩) rfl) ?_
      refine at_val rfl rfl rfl (r_load_aggc (c := (cVec (cInt .u8) 16 (by decide))) (z := x0.f_B) Tryd.isAgg22 Tryd.sizeOf22 rfl (lens_cell .z (Lens.comp (Lens.whole _ _) (fun z => { x0 with f_B := z }) (c_api_Addr_f_B x0)))) ?_
      obtain ⟨t5, ht5, hF⟩ := of_bindM hF
      refine at_callB Tryd.func61 rfl (by kernel_rfl) rfl rfl (fun w hw => crawlwayref09_Text_ok _ _ ht5 w) ?_
      refine at_val rfl rfl rfl (r_assign rfl) ?_
      refine at_nil ?_
      refine at_drop (H := _) .z ?_
      refine at_weak [(2, _)] ⟨rfl, trivial⟩ ?_
      refine at_then_normal ?_
      refine at_ret ?_
      refine at_then_ret ?_
      have K := of_some hF
      subst K
      exact at_return1 rfl rfl (fun w1 hw => ⟨rfl, hw.below⟩)
    · refine at_cond_false rfl h4 ?_
      refine at_skip ?_
      refine at_then_normal ?_
      refine at_seq ?_
      refine at_region ?_
      refine at_val rfl rfl rfl (r_fieldAddr (fo := 1) Tryd.underlying24 rfl rfl (fun w => ⟨_, Tryd.sizeOf22 w⟩) rfl) ?_
      refine at_val rfl rfl rfl (r_idxArr Tryd.underlying22 Tryd.sizeOf5 rfl rfl (by decide)) ?_
      refine at_val rfl rfl rfl (r_load_cell Tryd.isAgg5 rfl (lens_cell0 (c := (cInt .u8)) (y := vget x0.f_B 0) .z (Lens.comp (Lens.comp (Lens.whole _ _) (fun z => { x0 with f_B := z }) (c_api_Addr_f_B x0)) (fun z => vset x0.f_B 0 z) (Lens.vec (cInt .u8) (by decide) x0.f_B 0 (by decide))) rfl)) ?_
      refine at_val rfl rfl rfl (r_fieldAddr (fo := 1) Tryd.underlying24 rfl rfl (fun w => ⟨_, Tryd.sizeOf22 w⟩) rfl) ?_
      refine at_val rfl rfl rfl (r_idxArr Tryd.underlying22 Tryd.sizeOf5 rfl rfl (by decide)) ?_
      refine at_val rfl rfl rfl (r_load_cell Tryd.isAgg5 rfl (lens_cell0 (c := (cInt .u8)) (y := vget x0.f_B 1) .z (Lens.comp (Lens.comp (Lens.whole _ _) (fun z => { x0 with f_B := z }) (c_api_Addr_f_B x0)) (fun z => vset x0.f_B 1 z) (Lens.vec (cInt .u8) (by decide) x0.f_B 1 (by decide))) rfl)) ?_
      refine at_val rfl rfl rfl (r_fieldAddr (fo := 1) Tryd.underlying24 rfl rfl (fun w => ⟨_, Tryd.sizeOf22 w⟩) rfl) ?_
      refine at_val rfl rfl rfl (r_idxArr Tryd.underlying22 Tryd.sizeOf5 rfl rfl (by decide)) ?_
      refine at_val rfl rfl rfl (r_load_cell Tryd.isAgg5 rfl (lens_cell0 (c := (cInt .u8)) (y := vget x0.f_B 2) .z (Lens.comp (Lens.comp (Lens.whole _ _) (fun z => { x0 with f_B := z }) (c_api_Addr_f_B x0)) (fun z => vset x0.f_B 2 z) (Lens.vec (cInt .u8) (by decide) x0.f_B 2 (by decide))) rfl)) ?_
      refine at_val rfl rfl rfl (r_fieldAddr (fo := 1) Tryd.underlying24 rfl rfl (fun w => ⟨_, Tryd.sizeOf22 w⟩) rfl) ?_
      refine at_val rfl rfl rfl (r_idxArr Tryd.underlying22 Tryd.sizeOf5 rfl rfl (by decide)) ?_
      refine at_val rfl rfl rfl (r_load_cell Tryd.isAgg5 rfl (lens_cell0 (c := (cInt .u8)) (y := vget x0.f_B 3) .z (Lens.comp (Lens.comp (Lens.whole _ _) (fun z => { x0 with f_B := z }) (c_api_Addr_f_B x0)) (fun z => vset x0.f_B 3 z) (Lens.vec (cInt .u8) (by decide) x0.f_B 3 (by decide))) rfl)) ?_
      refine at_val rfl rfl rfl (r_build_array (zs := Cd.cs (cVec (cInt .u8) 4 (by decide)) (Vector.replicate 4 (0 : Int) : (Vector Int 4))) (cs := Cd.cs (cVec (cInt .u8) 4 (by decide)) (vset (vset (vset (vset (Vector.replicate 4 (0 : Int) : (Vector Int 4)) 0 (vget x0.f_B 0)) 1 (vget x0.f_B 1)) 2 (vget x0.f_B 2)) 3 (vget x0.f_B 3))) Tryd.underlying47 Tryd.zeroValue47 rfl Tryd.sizeOf5 rfl (fill_step (c := (cInt .u8)) (z := vget x0.f_B 0) rfl (Lens.vec (cInt .u8) (by decide) (Vector.replicate 4 (0 : Int) : (Vector Int 4)) 0 (by decide)) rfl (fill_step (c := (cInt .u8)) (z := vget x0.f_B 1) rfl (Lens.vec (cInt .u8) (by decide) (vset (Vector.replicate 4 (0 : Int) : (Vector Int 4)) 0 (vget x0.f_B 0)) 1 (by decide)) rfl (fill_step (c := (cInt .u8)) (z := vget x0.f_B 2) rfl (Lens.vec (cInt .u8) (by decide) (vset (vset (Vector.replicate 4 (0 : Int) : (Vector Int 4)) 0 (vget x0.f_B 0)) 1 (vget x0.f_B 1)) 2 (by decide)) rfl (fill_step (c := (cInt .u8)) (z := vget x0.f_B 3) rfl (Lens.vec (cInt .u8) (by decide) (vset (vset (vset (Vector.replicate 4 (0 : Int) : (Vector Int 4)) 0 (vget x0.f_B 0)) 1 (vget x0.f_B 1)) 2 (vget x0.f_B 2)) 3 (by decide)) rfl rfl))))) ?_
      obtain ⟨t6, ht6, hF⟩ := of_bindM hF
      refine at_callB Tryd.func73 rfl (by kernel_rfl) rfl rfl (fun w hw => crawlwayref08_Text_ok _ _ ht6 w) ?_
      refine at_val rfl rfl rfl (r_assign rfl) ?_
      refine at_nil ?_
      refine at_drop (H := _) .z ?_
      refine at_weak [(2, _)] ⟨rfl, trivial⟩ ?_
      refine at_then_normal ?_
      refine at_ret ?_
      have K := of_some hF
      subst K
      exact at_return1 rfl rfl (fun w1 hw => ⟨rfl, hw.below⟩)
end Go.Proofs.YtecolkjlpklaaaaDoor
