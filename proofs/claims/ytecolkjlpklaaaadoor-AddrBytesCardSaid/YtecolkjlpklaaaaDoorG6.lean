/- Functions with the same answers as the Go functions that they are named for, and the proofs of it, by a program of this project (gen.py). -/
import Derived.Test.YtecolkjlpklaaaaDoorT
import Derived.Test.YtecolkjlpklaaaaDoorShelf
import Derived.Test.YtecolkjlpklaaaaDoorW
import Derived.Test.YtecolkjlpklaaaaDoorL
import Derived.Test.YtecolkjlpklaaaaDoorS
import Derived.Test.YtecolkjlpklaaaaDoorJ
import Derived.Test.YtecolkjlpklaaaaDoorK
import Derived.Test.YtecolkjlpklaaaaDoorR
import Derived.Test.YtecolkjlpklaaaaDoorProg
import Derived.Test.YtecolkjlpklaaaaDoorG1
import Derived.Test.YtecolkjlpklaaaaDoorG2
import Derived.Test.YtecolkjlpklaaaaDoorG3
import Derived.Test.YtecolkjlpklaaaaDoorG4
import Derived.Test.YtecolkjlpklaaaaDoorG5
set_option linter.unusedVariables false
set_option linter.unusedSimpArgs false
namespace Go.Proofs.YtecolkjlpklaaaaDoor
open E Go.RowKit

theorem infoG65_is : (Tryd.prog.info? 5).isSome = true := by kernel_rfl
noncomputable def infoG65_v : TypeInfo := (Tryd.prog.info? 5).get infoG65_is
theorem infoG65 : Tryd.prog.info? 5 = some infoG65_v := (Option.some_get _).symm

def addr_Parse (x0 : ByteArray) : Option (S_api_Addr × Int) :=
  lines_Cut x0 58 >>= fun t2 => if t2.2.2 = true then (colon_Parse x0 >>= fun t4 => if (t4.2 != 0) = true then (some (({ f_V := (0 : Int), f_B := (Vector.replicate 16 (0 : Int) : (Vector Int 16)) } : S_api_Addr), t4.2)) else (addr_Six t4.1 >>= fun t7 => some (t7, 0))) else (quad_Parse x0 >>= fun t8 => if (t8.2 != 0) = true then (some (({ f_V := (0 : Int), f_B := (Vector.replicate 16 (0 : Int) : (Vector Int 16)) } : S_api_Addr), t8.2)) else (addr_Four t8.1 >>= fun t11 => some (t11, 0)))
theorem addr_Parse_ok (x0 : ByteArray) (r : S_api_Addr × Int) (hF : addr_Parse x0 = some r) (w : World) (hg_strconv_ErrRange : GV_strconv_ErrRange w) (hg_strconv_ErrSyntax : GV_strconv_ErrSyntax w) :
    Calls Tryd.prog 30 #[.string x0] w (fun e w' => e = .returned (.tuple #[.agg (Cd.cs c_api_Addr r.1).toArray, .int .i64 r.2]) ∧ Below w.heap.size w w') := by
  unfold addr_Parse at hF
  refine calls_enter (l := [.string x0]) Tryd.func30 rfl rfl rfl ?_
  refine at_start ?_
  refine at_weak [(0, _)] ⟨rfl, trivial⟩ ?_
  refine at_seq ?_
  refine at_region ?_
  refine at_alloc (cs := Cd.cs c_api_Addr ({ f_V := (0 : Int), f_B := (Vector.replicate 16 (0 : Int) : (Vector Int 16)) } : S_api_Addr)) Tryd.zeroValue24 rfl rfl ?_
  intro b1
  refine at_val rfl rfl rfl (r_assign rfl) ?_
  refine at_nil ?_
  refine at_weak [(0, _), (2, _)] ⟨rfl, rfl, trivial⟩ ?_
  refine at_then_normal ?_
  refine at_seq ?_
  refine at_seq ?_
  refine at_region ?_
  refine at_val rfl rfl rfl (r_move rfl) ?_
  obtain ⟨t2, ht2, hF⟩ := of_bindM hF
  refine at_callB Tryd.func67 rfl (by kernel_rfl) rfl rfl (fun w hw => lines_Cut_ok _ _ _ ht2 w) ?_
  refine at_val rfl rfl rfl (r_move rfl) ?_
  refine at_val rfl rfl rfl (r_extract rfl rfl) ?_
  refine at_val rfl rfl rfl (r_extract rfl rfl) ?_
  refine at_val rfl rfl rfl (r_extract rfl rfl) ?_
  refine at_val rfl rfl rfl (r_assign rfl) ?_
  refine at_val rfl rfl rfl (r_assign rfl) ?_
  refine at_val rfl rfl rfl (r_assign rfl) ?_
  refine at_nil ?_
  refine at_weak [(0, _), (2, _), (6, _)] ⟨rfl, rfl, rfl, trivial⟩ ?_
  refine at_then_normal ?_
  refine at_seq ?_
  refine at_region ?_
  refine at_val rfl rfl rfl (r_move rfl) ?_
  refine at_nil ?_
  refine at_weak [(0, _), (2, _), (17, _)] ⟨rfl, rfl, rfl, trivial⟩ ?_
  refine at_then_normal ?_
  rcases of_ite hF with ⟨h3, hF⟩ | ⟨h3, hF⟩
  · refine at_cond_true rfl h3 ?_
    refine at_seq ?_
    refine at_region ?_
    refine at_val rfl rfl rfl (r_move rfl) ?_
    obtain ⟨t4, ht4, hF⟩ := of_bindM hF
    refine at_callB Tryd.func60 rfl (by kernel_rfl) rfl rfl (fun w hw => colon_Parse_ok _ _ ht4 w (hg_strconv_ErrRange.on hw.below) (hg_strconv_ErrSyntax.on hw.below)) ?_
    refine at_val rfl rfl rfl (r_move rfl) ?_
    refine at_val rfl rfl rfl (r_extract rfl rfl) ?_
    refine at_val rfl rfl rfl (r_extract rfl rfl) ?_
    refine at_alloc (cs := Cd.cs (cVec (cInt .u8) 16 (by decide)) (Vector.replicate 16 (0 : Int) : (Vector Int 16))) Tryd.zeroValue22 rfl rfl ?_
    intro b5
    refine at_store (c := (cVec (cInt .u8) 16 (by decide))) (z := t4.1) .z (Lens.whole _ _) Tryd.sizeOf22 rfl rfl rfl ?_
    refine at_val rfl rfl rfl (r_assign rfl) ?_
    refine at_nil ?_
    refine at_weak [(2, _), (7, _), (8, _)] ⟨rfl, rfl, rfl, trivial⟩ ?_
    refine at_then_normal ?_
    refine at_seq ?_
    refine at_seq ?_
    refine at_region ?_
    refine at_val rfl rfl rfl (r_move rfl) ?_
    refine at_val rfl rfl rfl (r_ineq rfl rfl) ?_
    refine at_nil ?_
    refine at_weak [(2, _), (7, _), (8, _), (24, _)] ⟨rfl, rfl, rfl, rfl, trivial⟩ ?_
    refine at_then_normal ?_
    rcases of_ite hF with ⟨h6, hF⟩ | ⟨h6, hF⟩
    · refine at_cond_true rfl h6 ?_
      refine at_seq ?_
      refine at_region ?_
      refine at_val rfl rfl rfl (r_build_struct (zs := Cd.cs c_api_Addr ({ f_V := (0 : Int), f_B := (Vector.replicate 16 (0 : Int) : (Vector Int 16)) } : S_api_Addr)) (cs := Cd.cs c_api_Addr ({ f_V := (0 : Int), f_B := (Vector.replicate 16 (0 : Int) : (Vector Int 16)) } : S_api_Addr)) Tryd.underlying24 Tryd.zeroValue24 rfl (places_api_Addr_24) rfl rfl) ?_
      refine at_val rfl rfl rfl (r_move rfl) ?_
      refine at_store (c := c_api_Addr) (z := ({ f_V := (0 : Int), f_B := (Vector.replicate 16 (0 : Int) : (Vector Int 16)) } : S_api_Addr)) (.s .z) (Lens.whole _ _) Tryd.sizeOf24 rfl rfl rfl ?_
      refine at_val rfl rfl rfl (r_assign rfl) ?_
      refine at_nil ?_
      refine at_drop (H := _) .z ?_
      refine at_weak [(2, _), (3, _)] ⟨rfl, rfl, trivial⟩ ?_
      refine at_then_normal ?_
      refine at_ret ?_
      refine at_then_ret (at_then_ret ?_)
      have K := of_some hF
      subst K
      exact at_res2 rfl (res_cell (c := c_api_Addr) (y := ({ f_V := (0 : Int), f_B := (Vector.replicate 16 (0 : Int) : (Vector Int 16)) } : S_api_Addr)) rfl .z (Lens.whole _ _) Tryd.isAgg24 Tryd.sizeOf24 (.inl rfl)) (res_tmp rfl) (fun w1 hw => ⟨rfl, hw.below⟩)
    · refine at_cond_false rfl h6 ?_
      refine at_skip ?_
      refine at_then_normal ?_
      refine at_seq ?_
      refine at_region ?_
      refine at_val rfl rfl rfl (r_load_aggc (c := (cVec (cInt .u8) 16 (by decide))) (z := t4.1) Tryd.isAgg22 Tryd.sizeOf22 rfl (lens_cell .z (Lens.whole _ _))) ?_
      obtain ⟨t7, ht7, hF⟩ := of_bindM hF
      refine at_callB Tryd.func42 rfl (by kernel_rfl) rfl rfl (fun w hw => addr_Six_ok _ _ ht7 w) ?_
      refine at_store (c := c_api_Addr) (z := t7) (.s .z) (Lens.whole _ _) Tryd.sizeOf24 rfl rfl rfl ?_
      refine at_val rfl rfl rfl (r_assign rfl) ?_
      refine at_nil ?_
      refine at_drop (H := _) .z ?_
      refine at_weak [(2, _), (3, _)] ⟨rfl, rfl, trivial⟩ ?_
      refine at_then_normal ?_
      refine at_ret ?_
      refine at_then_ret ?_
      have K := of_some hF
      subst K
      exact at_res2 rfl (res_cell (c := c_api_Addr) (y := t7) rfl .z (Lens.whole _ _) Tryd.isAgg24 Tryd.sizeOf24 (.inl rfl)) (res_tmp rfl) (fun w1 hw => ⟨rfl, hw.below⟩)
  · refine at_cond_false rfl h3 ?_
    refine at_skip ?_
    refine at_then_normal ?_
    refine at_seq ?_
    refine at_region ?_
    refine at_val rfl rfl rfl (r_move rfl) ?_
    obtain ⟨t8, ht8, hF⟩ := of_bindM hF
    refine at_callB Tryd.func68 rfl (by kernel_rfl) rfl rfl (fun w hw => quad_Parse_ok _ _ ht8 w (hg_strconv_ErrRange.on hw.below) (hg_strconv_ErrSyntax.on hw.below)) ?_
    refine at_val rfl rfl rfl (r_move rfl) ?_
    refine at_val rfl rfl rfl (r_extract rfl rfl) ?_
    refine at_val rfl rfl rfl (r_extract rfl rfl) ?_
    refine at_alloc (cs := Cd.cs (cVec (cInt .u8) 4 (by decide)) (Vector.replicate 4 (0 : Int) : (Vector Int 4))) Tryd.zeroValue47 rfl rfl ?_
    intro b9
    refine at_store (c := (cVec (cInt .u8) 4 (by decide))) (z := t8.1) .z (Lens.whole _ _) Tryd.sizeOf47 rfl rfl rfl ?_
    refine at_val rfl rfl rfl (r_assign rfl) ?_
    refine at_nil ?_
    refine at_weak [(2, _), (9, _), (10, _)] ⟨rfl, rfl, rfl, trivial⟩ ?_
    refine at_then_normal ?_
    refine at_seq ?_
    refine at_seq ?_
    refine at_region ?_
    refine at_val rfl rfl rfl (r_move rfl) ?_
    refine at_val rfl rfl rfl (r_ineq rfl rfl) ?_
    refine at_nil ?_
    refine at_weak [(2, _), (9, _), (10, _), (35, _)] ⟨rfl, rfl, rfl, rfl, trivial⟩ ?_
    refine at_then_normal ?_
    rcases of_ite hF with ⟨h10, hF⟩ | ⟨h10, hF⟩
    · refine at_cond_true rfl h10 ?_
      refine at_seq ?_
      refine at_region ?_
      refine at_val rfl rfl rfl (r_build_struct (zs := Cd.cs c_api_Addr ({ f_V := (0 : Int), f_B := (Vector.replicate 16 (0 : Int) : (Vector Int 16)) } : S_api_Addr)) (cs := Cd.cs c_api_Addr ({ f_V := (0 : Int), f_B := (Vector.replicate 16 (0 : Int) : (Vector Int 16)) } : S_api_Addr)) Tryd.underlying24 Tryd.zeroValue24 rfl (places_api_Addr_24) rfl rfl) ?_
      refine at_val rfl rfl rfl (r_move rfl) ?_
      refine at_store (c := c_api_Addr) (z := ({ f_V := (0 : Int), f_B := (Vector.replicate 16 (0 : Int) : (Vector Int 16)) } : S_api_Addr)) (.s .z) (Lens.whole _ _) Tryd.sizeOf24 rfl rfl rfl ?_
      refine at_val rfl rfl rfl (r_assign rfl) ?_
      refine at_nil ?_
      refine at_drop (H := _) .z ?_
      refine at_weak [(2, _), (3, _)] ⟨rfl, rfl, trivial⟩ ?_
      refine at_then_normal ?_
      refine at_ret ?_
      refine at_then_ret ?_
      have K := of_some hF
      subst K
      exact at_res2 rfl (res_cell (c := c_api_Addr) (y := ({ f_V := (0 : Int), f_B := (Vector.replicate 16 (0 : Int) : (Vector Int 16)) } : S_api_Addr)) rfl .z (Lens.whole _ _) Tryd.isAgg24 Tryd.sizeOf24 (.inl rfl)) (res_tmp rfl) (fun w1 hw => ⟨rfl, hw.below⟩)
    · refine at_cond_false rfl h10 ?_
      refine at_skip ?_
      refine at_then_normal ?_
      refine at_seq ?_
      refine at_region ?_
      refine at_val rfl rfl rfl (r_load_aggc (c := (cVec (cInt .u8) 4 (by decide))) (z := t8.1) Tryd.isAgg47 Tryd.sizeOf47 rfl (lens_cell .z (Lens.whole _ _))) ?_
      obtain ⟨t11, ht11, hF⟩ := of_bindM hF
      refine at_callB Tryd.func41 rfl (by kernel_rfl) rfl rfl (fun w hw => addr_Four_ok _ _ ht11 w) ?_
      refine at_store (c := c_api_Addr) (z := t11) (.s .z) (Lens.whole _ _) Tryd.sizeOf24 rfl rfl rfl ?_
      refine at_val rfl rfl rfl (r_assign rfl) ?_
      refine at_nil ?_
      refine at_drop (H := _) .z ?_
      refine at_weak [(2, _), (3, _)] ⟨rfl, rfl, trivial⟩ ?_
      refine at_then_normal ?_
      refine at_ret ?_
      have K := of_some hF
      subst K
      exact at_res2 rfl (res_cell (c := c_api_Addr) (y := t11) rfl .z (Lens.whole _ _) Tryd.isAgg24 Tryd.sizeOf24 (.inl rfl)) (res_tmp rfl) (fun w1 hw => ⟨rfl, hw.below⟩)

def crawlwayref10_Of.l0 (x0 : List Int) (i9 : Int) (i10 : S_api_Addr) : Option (S_api_Addr) :=
  if (decide (i9 < (x0.length : Int))) = true then (if (0 : Int) ≤ i9 ∧ i9 < (x0.length : Int) then if (0 : Int) ≤ i9 ∧ i9 < 16 then crawlwayref10_Of.l0 x0 (wr .i64 (i9 + 1)) ({ i10 with f_B := vset i10.f_B i9 (lget x0 i9) }) else none else none) else (some i10)
  partial_fixpoint
def crawlwayref10_Of.l1 (x0 : List Int) (i21 : Int) (i22 : S_api_Addr) : Option (S_api_Addr) :=
  if (decide (i21 < (x0.length : Int))) = true then (if (0 : Int) ≤ i21 ∧ i21 < (x0.length : Int) then if (0 : Int) ≤ i21 ∧ i21 < 16 then crawlwayref10_Of.l1 x0 (wr .i64 (i21 + 1)) ({ i22 with f_B := vset i22.f_B i21 (lget x0 i21) }) else none else none) else (some i22)
  partial_fixpoint
def crawlwayref10_Of (x0 : List Int) : Option (S_api_Addr × Bool) :=
  if ((x0.length : Int) != 4) = true then (if ((x0.length : Int) != 16) = true then (some (({ f_V := (0 : Int), f_B := (Vector.replicate 16 (0 : Int) : (Vector Int 16)) } : S_api_Addr), false)) else ((if ((x0.length : Int) == 16) = true then (some ({ { ({ f_V := (0 : Int), f_B := (Vector.replicate 16 (0 : Int) : (Vector Int 16)) } : S_api_Addr) with f_V := 4 } with f_V := 6 })) else (some ({ ({ f_V := (0 : Int), f_B := (Vector.replicate 16 (0 : Int) : (Vector Int 16)) } : S_api_Addr) with f_V := 4 }))) >>= fun q5 => crawlwayref10_Of.l0 x0 0 q5 >>= fun q8 => some (q8, true))) else ((if ((x0.length : Int) == 16) = true then (some ({ { ({ f_V := (0 : Int), f_B := (Vector.replicate 16 (0 : Int) : (Vector Int 16)) } : S_api_Addr) with f_V := 4 } with f_V := 6 })) else (some ({ ({ f_V := (0 : Int), f_B := (Vector.replicate 16 (0 : Int) : (Vector Int 16)) } : S_api_Addr) with f_V := 4 }))) >>= fun q17 => crawlwayref10_Of.l1 x0 0 q17 >>= fun q20 => some (q20, true))
theorem crawlwayref10_Of_ok (x0 : List Int) (p0_ : Option Addr) (c0_ : Nat) (r : S_api_Addr × Bool) (hF : crawlwayref10_Of x0 = some r) (w : World) (hr0 : Row (cInt .u8) w p0_ c0_ x0) :
    Calls Tryd.prog 33 #[.slice p0_ x0.length c0_] w (fun e w' => e = .returned (.tuple #[.agg (Cd.cs c_api_Addr r.1).toArray, .bool r.2]) ∧ Below w.heap.size w w') := by
  unfold crawlwayref10_Of at hF
  refine calls_enter (l := [.slice p0_ x0.length c0_]) Tryd.func33 rfl rfl rfl ?_
  refine at_start ?_
  refine at_weak [(0, _)] ⟨rfl, trivial⟩ ?_
  refine at_seq ?_
  refine at_region ?_
  refine at_alloc (cs := Cd.cs c_api_Addr ({ f_V := (0 : Int), f_B := (Vector.replicate 16 (0 : Int) : (Vector Int 16)) } : S_api_Addr)) Tryd.zeroValue24 rfl rfl ?_
  intro b1
  refine at_val rfl rfl rfl (r_assign rfl) ?_
  refine at_nil ?_
  refine at_weak [(0, _), (2, _)] ⟨rfl, rfl, trivial⟩ ?_
  refine at_then_normal ?_
  refine at_seq ?_
  refine at_region ?_
  refine at_alloc (cs := Cd.cs c_api_Addr ({ f_V := (0 : Int), f_B := (Vector.replicate 16 (0 : Int) : (Vector Int 16)) } : S_api_Addr)) Tryd.zeroValue24 rfl rfl ?_
  intro b2
  refine at_nil ?_
  refine at_weak [(0, _), (2, _), (4, _)] ⟨rfl, rfl, rfl, trivial⟩ ?_
  refine at_then_normal ?_
  refine at_seq ?_
  refine at_seq ?_
  refine at_region ?_
  refine at_val rfl rfl rfl (r_move rfl) ?_
  refine at_val rfl rfl rfl (r_len_sl Tryd.underlying33 rfl) ?_
  refine at_val rfl rfl rfl (r_ineq rfl rfl) ?_
  refine at_val rfl rfl rfl (r_move rfl) ?_
  rcases of_ite hF with ⟨h3, hF⟩ | ⟨h3, hF⟩
  · refine at_fix (g := 9) rfl h3 ?_
    refine at_guard_yes rfl rfl rfl ?_
    refine at_val rfl rfl rfl (r_move rfl) ?_
    refine at_guard_yes rfl rfl rfl ?_
    refine at_val rfl rfl rfl (r_len_sl Tryd.underlying33 rfl) ?_
    refine at_guard_yes rfl rfl rfl ?_
    refine at_val rfl rfl rfl (r_ineq rfl rfl) ?_
    refine at_val rfl rfl rfl (r_pick rfl rfl rfl) ?_
    refine at_nil ?_
    refine at_weak [(0, _), (2, _), (4, _), (13, _)] ⟨rfl, rfl, rfl, rfl, trivial⟩ ?_
    refine at_then_normal ?_
    rcases of_ite hF with ⟨h4, hF⟩ | ⟨h4, hF⟩
    · refine at_cond_true rfl h4 ?_
      refine at_seq ?_
      refine at_region ?_
      refine at_val rfl rfl rfl (r_load_aggc (c := c_api_Addr) (z := ({ f_V := (0 : Int), f_B := (Vector.replicate 16 (0 : Int) : (Vector Int 16)) } : S_api_Addr)) Tryd.isAgg24 Tryd.sizeOf24 rfl (lens_cell .z (Lens.whole _ _))) ?_
      refine at_store (c := c_api_Addr) (z := ({ f_V := (0 : Int), f_B := (Vector.replicate 16 (0 : Int) : (Vector Int 16)) } : S_api_Addr)) (.s .z) (Lens.whole _ _) Tryd.sizeOf24 rfl rfl rfl ?_
      refine at_val rfl rfl rfl (r_assign rfl) ?_
      refine at_nil ?_
      refine at_drop (H := _) .z ?_
      refine at_weak [(2, _), (3, _)] ⟨rfl, rfl, trivial⟩ ?_
      refine at_then_normal ?_
      refine at_ret ?_
      refine at_then_ret ?_
      have K := of_some hF
      subst K
      exact at_res2 rfl (res_cell (c := c_api_Addr) (y := ({ f_V := (0 : Int), f_B := (Vector.replicate 16 (0 : Int) : (Vector Int 16)) } : S_api_Addr)) rfl .z (Lens.whole _ _) Tryd.isAgg24 Tryd.sizeOf24 (.inl rfl)) (res_tmp rfl) (fun w1 hw => ⟨rfl, hw.below⟩)
    · refine at_cond_false rfl h4 ?_
      refine at_skip ?_
      refine at_then_normal ?_
      refine at_seq ?_
      refine at_region ?_
      refine at_val rfl rfl rfl (r_fieldAddr (fo := 0) Tryd.underlying24 rfl rfl (fun w => ⟨_, Tryd.sizeOf3 w⟩) rfl) ?_
      refine at_store (c := (cInt .i64)) (z := 4) .z (Lens.comp (Lens.whole _ _) (fun z => { ({ f_V := (0 : Int), f_B := (Vector.replicate 16 (0 : Int) : (Vector Int 16)) } : S_api_Addr) with f_V := z }) (c_api_Addr_f_V ({ f_V := (0 : Int), f_B := (Vector.replicate 16 (0 : Int) : (Vector Int 16)) } : S_api_Addr))) Tryd.sizeOf3 rfl rfl rfl ?_
      refine at_nil ?_
      refine at_weak [(0, _), (2, _), (4, _)] ⟨rfl, rfl, rfl, trivial⟩ ?_
      refine at_then_normal ?_
      obtain ⟨q5, hq5, hF⟩ := of_bindM hF
      refine at_joinp (A := fun Y => At 34 [(0, .slice p0_ x0.length c0_), (2, .pointer (some ⟨b1, 0, none⟩)), (4, .pointer (some ⟨b2, 0, none⟩))] (Wd w [cellsE b2 (Cd.cs c_api_Addr q5) 24, cellsE b1 (Cd.cs c_api_Addr ({ f_V := (0 : Int), f_B := (Vector.replicate 16 (0 : Int) : (Vector Int 16)) } : S_api_Addr)) 24]) Y) ?_ ?_
      · intro Y K
        replace hF := hq5
        refine at_seq ?_
        refine at_region ?_
        refine at_val rfl rfl rfl (r_move rfl) ?_
        refine at_val rfl rfl rfl (r_len_sl Tryd.underlying33 rfl) ?_
        refine at_val rfl rfl rfl (r_ieql rfl rfl) ?_
        refine at_nil ?_
        refine at_weak [(0, _), (2, _), (4, _), (18, _)] ⟨rfl, rfl, rfl, rfl, trivial⟩ ?_
        refine at_then_normal ?_
        rcases of_ite hF with ⟨h7, hF⟩ | ⟨h7, hF⟩
        · refine at_cond_true rfl h7 ?_
          refine at_region ?_
          refine at_val rfl rfl rfl (r_fieldAddr (fo := 0) Tryd.underlying24 rfl rfl (fun w => ⟨_, Tryd.sizeOf3 w⟩) rfl) ?_
          refine at_store (c := (cInt .i64)) (z := 6) .z (Lens.comp (Lens.whole _ _) (fun z => { { ({ f_V := (0 : Int), f_B := (Vector.replicate 16 (0 : Int) : (Vector Int 16)) } : S_api_Addr) with f_V := 4 } with f_V := z }) (c_api_Addr_f_V ({ ({ f_V := (0 : Int), f_B := (Vector.replicate 16 (0 : Int) : (Vector Int 16)) } : S_api_Addr) with f_V := 4 }))) Tryd.sizeOf3 rfl rfl rfl ?_
          refine at_nil ?_
          refine at_weak [(0, _), (2, _), (4, _)] ⟨rfl, rfl, rfl, trivial⟩ ?_
          refine at_then_normal ?_
          obtain rfl := of_some hF
          exact at_weak_k K ⟨rfl, rfl, rfl, trivial⟩
        · refine at_cond_false rfl h7 ?_
          refine at_skip ?_
          refine at_then_normal ?_
          obtain rfl := of_some hF
          exact at_weak_k K ⟨rfl, rfl, rfl, trivial⟩
      · skip
        skip
        refine at_seq ?_
        refine at_seq ?_
        refine at_region ?_
        refine at_val rfl rfl rfl (r_assign rfl) ?_
        refine at_nil ?_
        refine at_weak [(0, _), (2, _), (4, _), (5, _)] ⟨rfl, rfl, rfl, rfl, trivial⟩ ?_
        refine at_then_normal ?_
        refine at_block ?_
        obtain ⟨q8, hq8, hF⟩ := of_bindM hF
        refine at_weak [(0, _), (2, _), (4, _), (5, _)] ⟨rfl, rfl, rfl, rfl, trivial⟩ ?_
        refine at_loop_n (B := 0) (A := fun Y => At 34 [(2, .pointer (some ⟨b1, 0, none⟩)), (4, .pointer (some ⟨b2, 0, none⟩))] (Wd w [cellsE b2 (Cd.cs c_api_Addr q8) 24, cellsE b1 (Cd.cs c_api_Addr ({ f_V := (0 : Int), f_B := (Vector.replicate 16 (0 : Int) : (Vector Int 16)) } : S_api_Addr)) 24]) Y) ?_ ?_
        · intro K
          refine crawlwayref10_Of.l0.partial_correctness x0 (motive := fun i9 i10 x => KN (fun Y => At 34 [(2, .pointer (some ⟨b1, 0, none⟩)), (4, .pointer (some ⟨b2, 0, none⟩))] (Wd w [cellsE b2 (Cd.cs c_api_Addr x) 24, cellsE b1 (Cd.cs c_api_Addr ({ f_V := (0 : Int), f_B := (Vector.replicate 16 (0 : Int) : (Vector Int 16)) } : S_api_Addr)) 24]) Y) _ 0 → Round (fun Y => At 34 [(0, .slice p0_ x0.length c0_), (2, .pointer (some ⟨b1, 0, none⟩)), (4, .pointer (some ⟨b2, 0, none⟩)), (5, .int .i64 i9)] (Wd w [cellsE b2 (Cd.cs c_api_Addr i10) 24, cellsE b1 (Cd.cs c_api_Addr ({ f_V := (0 : Int), f_B := (Vector.replicate 16 (0 : Int) : (Vector Int 16)) } : S_api_Addr)) 24]) Y) _ _ _) ?_ _ _ _ hq8 K
          · clear K hF
            intro g ih i9 i10 x hF K
            refine at_round ?_
            refine at_seq ?_
            refine at_seq ?_
            refine at_region ?_
            refine at_val rfl rfl rfl (r_move rfl) ?_
            refine at_val rfl rfl rfl (r_move rfl) ?_
            refine at_val rfl rfl rfl (r_len_sl Tryd.underlying33 rfl) ?_
            refine at_val rfl rfl rfl (r_ilss rfl rfl) ?_
            refine at_nil ?_
            refine at_weak [(0, _), (2, _), (4, _), (5, _), (23, _)] ⟨rfl, rfl, rfl, rfl, rfl, trivial⟩ ?_
            refine at_then_normal ?_
            rcases of_ite hF with ⟨h11, hF⟩ | ⟨h11, hF⟩
            · refine at_cond_true rfl h11 ?_
              refine at_skip ?_
              refine at_then_normal ?_
              refine at_seq ?_
              refine at_block ?_
              refine at_region ?_
              refine at_val rfl rfl rfl (r_move rfl) ?_
              refine at_val rfl rfl rfl (r_move rfl) ?_
              refine at_val rfl rfl rfl (r_move rfl) ?_
              obtain ⟨h12, hF⟩ := of_guard hF
              obtain ⟨b14, o15, hp13⟩ := row_ptr hr0 h12
              refine at_val rfl rfl rfl (r_idx Tryd.underlying33 Tryd.sizeOf5 rfl rfl h12 hp13) ?_
              refine at_val rfl rfl rfl (r_load_cell Tryd.isAgg5 rfl (row_cell0 (fun _ h => h.below) hr0 h12 hp13 rfl)) ?_
              refine at_val rfl rfl rfl (r_fieldAddr (fo := 1) Tryd.underlying24 rfl rfl (fun w => ⟨_, Tryd.sizeOf22 w⟩) rfl) ?_
              obtain ⟨h16, hF⟩ := of_guard hF
              refine at_val rfl rfl rfl (r_idxArr Tryd.underlying22 Tryd.sizeOf5 rfl rfl h16) ?_
              refine at_store (c := (cInt .u8)) (z := lget x0 i9) .z (Lens.comp (Lens.comp (Lens.whole _ _) (fun z => { i10 with f_B := z }) (c_api_Addr_f_B i10)) (fun z => vset i10.f_B i9 z) (Lens.vec (cInt .u8) (by decide) i10.f_B i9 h16)) Tryd.sizeOf5 rfl rfl rfl ?_
              refine at_nil ?_
              refine at_weak [(0, _), (2, _), (4, _), (5, _)] ⟨rfl, rfl, rfl, rfl, trivial⟩ ?_
              refine at_blk_normal (at_then_normal ?_)
              refine at_region ?_
              refine at_val rfl rfl rfl (r_move rfl) ?_
              refine at_val rfl rfl rfl (r_iadd rfl rfl) ?_
              refine at_val rfl rfl rfl (r_assign rfl) ?_
              refine at_nil ?_
              refine at_weak [(0, _), (2, _), (4, _), (5, _)] ⟨rfl, rfl, rfl, rfl, trivial⟩ ?_
              refine at_then_normal ?_
              exact at_weak_k (ih _ _ _ hF K) ⟨rfl, rfl, rfl, rfl, trivial⟩
            · refine at_cond_false rfl h11 ?_
              refine at_exit ?_
              refine at_then_exit (at_then_exit ?_)
              obtain rfl := of_some hF
              exact at_weak_k K ⟨rfl, rfl, trivial⟩
        · skip
          skip
          refine at_blk_same ?_
          refine at_then_normal ?_
          refine at_seq ?_
          refine at_region ?_
          refine at_val rfl rfl rfl (r_load_aggc (c := c_api_Addr) (z := q8) Tryd.isAgg24 Tryd.sizeOf24 rfl (lens_cell .z (Lens.whole _ _))) ?_
          refine at_store (c := c_api_Addr) (z := q8) (.s .z) (Lens.whole _ _) Tryd.sizeOf24 rfl rfl rfl ?_
          refine at_val rfl rfl rfl (r_assign rfl) ?_
          refine at_nil ?_
          refine at_drop (H := _) .z ?_
          refine at_weak [(2, _), (3, _)] ⟨rfl, rfl, trivial⟩ ?_
          refine at_then_normal ?_
          refine at_ret ?_
          have K := of_some hF
          subst K
          exact at_res2 rfl (res_cell (c := c_api_Addr) (y := q8) rfl .z (Lens.whole _ _) Tryd.isAgg24 Tryd.sizeOf24 (.inl rfl)) (res_tmp rfl) (fun w1 hw => ⟨rfl, hw.below⟩)
  · refine at_fix (g := 9) rfl h3 ?_
    refine at_guard_no rfl rfl rfl rfl rfl ?_
    refine at_guard_no rfl rfl rfl rfl rfl ?_
    refine at_guard_no rfl rfl rfl rfl rfl ?_
    refine at_val rfl rfl rfl (r_pick rfl rfl rfl) ?_
    refine at_nil ?_
    refine at_weak [(0, _), (2, _), (4, _), (13, _)] ⟨rfl, rfl, rfl, rfl, trivial⟩ ?_
    refine at_then_normal ?_
    refine at_cond_false rfl rfl ?_
    refine at_skip ?_
    refine at_then_normal ?_
    refine at_seq ?_
    refine at_region ?_
    refine at_val rfl rfl rfl (r_fieldAddr (fo := 0) Tryd.underlying24 rfl rfl (fun w => ⟨_, Tryd.sizeOf3 w⟩) rfl) ?_
    refine at_store (c := (cInt .i64)) (z := 4) .z (Lens.comp (Lens.whole _ _) (fun z => { ({ f_V := (0 : Int), f_B := (Vector.replicate 16 (0 : Int) : (Vector Int 16)) } : S_api_Addr) with f_V := z }) (c_api_Addr_f_V ({ f_V := (0 : Int), f_B := (Vector.replicate 16 (0 : Int) : (Vector Int 16)) } : S_api_Addr))) Tryd.sizeOf3 rfl rfl rfl ?_
    refine at_nil ?_
    refine at_weak [(0, _), (2, _), (4, _)] ⟨rfl, rfl, rfl, trivial⟩ ?_
    refine at_then_normal ?_
    obtain ⟨q17, hq17, hF⟩ := of_bindM hF
    refine at_joinp (A := fun Y => At 34 [(0, .slice p0_ x0.length c0_), (2, .pointer (some ⟨b1, 0, none⟩)), (4, .pointer (some ⟨b2, 0, none⟩))] (Wd w [cellsE b2 (Cd.cs c_api_Addr q17) 24, cellsE b1 (Cd.cs c_api_Addr ({ f_V := (0 : Int), f_B := (Vector.replicate 16 (0 : Int) : (Vector Int 16)) } : S_api_Addr)) 24]) Y) ?_ ?_
    · intro Y K
      replace hF := hq17
      refine at_seq ?_
      refine at_region ?_
      refine at_val rfl rfl rfl (r_move rfl) ?_
      refine at_val rfl rfl rfl (r_len_sl Tryd.underlying33 rfl) ?_
      refine at_val rfl rfl rfl (r_ieql rfl rfl) ?_
      refine at_nil ?_
      refine at_weak [(0, _), (2, _), (4, _), (18, _)] ⟨rfl, rfl, rfl, rfl, trivial⟩ ?_
      refine at_then_normal ?_
      rcases of_ite hF with ⟨h19, hF⟩ | ⟨h19, hF⟩
      · refine at_cond_true rfl h19 ?_
        refine at_region ?_
        refine at_val rfl rfl rfl (r_fieldAddr (fo := 0) Tryd.underlying24 rfl rfl (fun w => ⟨_, Tryd.sizeOf3 w⟩) rfl) ?_
        refine at_store (c := (cInt .i64)) (z := 6) .z (Lens.comp (Lens.whole _ _) (fun z => { { ({ f_V := (0 : Int), f_B := (Vector.replicate 16 (0 : Int) : (Vector Int 16)) } : S_api_Addr) with f_V := 4 } with f_V := z }) (c_api_Addr_f_V ({ ({ f_V := (0 : Int), f_B := (Vector.replicate 16 (0 : Int) : (Vector Int 16)) } : S_api_Addr) with f_V := 4 }))) Tryd.sizeOf3 rfl rfl rfl ?_
        refine at_nil ?_
        refine at_weak [(0, _), (2, _), (4, _)] ⟨rfl, rfl, rfl, trivial⟩ ?_
        refine at_then_normal ?_
        obtain rfl := of_some hF
        exact at_weak_k K ⟨rfl, rfl, rfl, trivial⟩
      · refine at_cond_false rfl h19 ?_
        refine at_skip ?_
        refine at_then_normal ?_
        obtain rfl := of_some hF
        exact at_weak_k K ⟨rfl, rfl, rfl, trivial⟩
    · skip
      skip
      refine at_seq ?_
      refine at_seq ?_
      refine at_region ?_
      refine at_val rfl rfl rfl (r_assign rfl) ?_
      refine at_nil ?_
      refine at_weak [(0, _), (2, _), (4, _), (5, _)] ⟨rfl, rfl, rfl, rfl, trivial⟩ ?_
      refine at_then_normal ?_
      refine at_block ?_
      obtain ⟨q20, hq20, hF⟩ := of_bindM hF
      refine at_weak [(0, _), (2, _), (4, _), (5, _)] ⟨rfl, rfl, rfl, rfl, trivial⟩ ?_
      refine at_loop_n (B := 0) (A := fun Y => At 34 [(2, .pointer (some ⟨b1, 0, none⟩)), (4, .pointer (some ⟨b2, 0, none⟩))] (Wd w [cellsE b2 (Cd.cs c_api_Addr q20) 24, cellsE b1 (Cd.cs c_api_Addr ({ f_V := (0 : Int), f_B := (Vector.replicate 16 (0 : Int) : (Vector Int 16)) } : S_api_Addr)) 24]) Y) ?_ ?_
      · intro K
        refine crawlwayref10_Of.l1.partial_correctness x0 (motive := fun i21 i22 x => KN (fun Y => At 34 [(2, .pointer (some ⟨b1, 0, none⟩)), (4, .pointer (some ⟨b2, 0, none⟩))] (Wd w [cellsE b2 (Cd.cs c_api_Addr x) 24, cellsE b1 (Cd.cs c_api_Addr ({ f_V := (0 : Int), f_B := (Vector.replicate 16 (0 : Int) : (Vector Int 16)) } : S_api_Addr)) 24]) Y) _ 0 → Round (fun Y => At 34 [(0, .slice p0_ x0.length c0_), (2, .pointer (some ⟨b1, 0, none⟩)), (4, .pointer (some ⟨b2, 0, none⟩)), (5, .int .i64 i21)] (Wd w [cellsE b2 (Cd.cs c_api_Addr i22) 24, cellsE b1 (Cd.cs c_api_Addr ({ f_V := (0 : Int), f_B := (Vector.replicate 16 (0 : Int) : (Vector Int 16)) } : S_api_Addr)) 24]) Y) _ _ _) ?_ _ _ _ hq20 K
        · clear K hF
          intro g ih i21 i22 x hF K
          refine at_round ?_
          refine at_seq ?_
          refine at_seq ?_
          refine at_region ?_
          refine at_val rfl rfl rfl (r_move rfl) ?_
          refine at_val rfl rfl rfl (r_move rfl) ?_
          refine at_val rfl rfl rfl (r_len_sl Tryd.underlying33 rfl) ?_
          refine at_val rfl rfl rfl (r_ilss rfl rfl) ?_
          refine at_nil ?_
          refine at_weak [(0, _), (2, _), (4, _), (5, _), (23, _)] ⟨rfl, rfl, rfl, rfl, rfl, trivial⟩ ?_
          refine at_then_normal ?_
          rcases of_ite hF with ⟨h23, hF⟩ | ⟨h23, hF⟩
          · refine at_cond_true rfl h23 ?_
            refine at_skip ?_
            refine at_then_normal ?_
            refine at_seq ?_
            refine at_block ?_
            refine at_region ?_
            refine at_val rfl rfl rfl (r_move rfl) ?_
            refine at_val rfl rfl rfl (r_move rfl) ?_
            refine at_val rfl rfl rfl (r_move rfl) ?_
            obtain ⟨h24, hF⟩ := of_guard hF
            obtain ⟨b26, o27, hp25⟩ := row_ptr hr0 h24
            refine at_val rfl rfl rfl (r_idx Tryd.underlying33 Tryd.sizeOf5 rfl rfl h24 hp25) ?_
            refine at_val rfl rfl rfl (r_load_cell Tryd.isAgg5 rfl (row_cell0 (fun _ h => h.below) hr0 h24 hp25 rfl)) ?_
            refine at_val rfl rfl rfl (r_fieldAddr (fo := 1) Tryd.underlying24 rfl rfl (fun w => ⟨_, Tryd.sizeOf22 w⟩) rfl) ?_
            obtain ⟨h28, hF⟩ := of_guard hF
            refine at_val rfl rfl rfl (r_idxArr Tryd.underlying22 Tryd.sizeOf5 rfl rfl h28) ?_
            refine at_store (c := (cInt .u8)) (z := lget x0 i21) .z (Lens.comp (Lens.comp (Lens.whole _ _) (fun z => { i22 with f_B := z }) (c_api_Addr_f_B i22)) (fun z => vset i22.f_B i21 z) (Lens.vec (cInt .u8) (by decide) i22.f_B i21 h28)) Tryd.sizeOf5 rfl rfl rfl ?_
            refine at_nil ?_
            refine at_weak [(0, _), (2, _), (4, _), (5, _)] ⟨rfl, rfl, rfl, rfl, trivial⟩ ?_
            refine at_blk_normal (at_then_normal ?_)
            refine at_region ?_
            refine at_val rfl rfl rfl (r_move rfl) ?_
            refine at_val rfl rfl rfl (r_iadd rfl rfl) ?_
            refine at_val rfl rfl rfl (r_assign rfl) ?_
            refine at_nil ?_
            refine at_weak [(0, _), (2, _), (4, _), (5, _)] ⟨rfl, rfl, rfl, rfl, trivial⟩ ?_
            refine at_then_normal ?_
            exact at_weak_k (ih _ _ _ hF K) ⟨rfl, rfl, rfl, rfl, trivial⟩
          · refine at_cond_false rfl h23 ?_
            refine at_exit ?_
            refine at_then_exit (at_then_exit ?_)
            obtain rfl := of_some hF
            exact at_weak_k K ⟨rfl, rfl, trivial⟩
      · skip
        skip
        refine at_blk_same ?_
        refine at_then_normal ?_
        refine at_seq ?_
        refine at_region ?_
        refine at_val rfl rfl rfl (r_load_aggc (c := c_api_Addr) (z := q20) Tryd.isAgg24 Tryd.sizeOf24 rfl (lens_cell .z (Lens.whole _ _))) ?_
        refine at_store (c := c_api_Addr) (z := q20) (.s .z) (Lens.whole _ _) Tryd.sizeOf24 rfl rfl rfl ?_
        refine at_val rfl rfl rfl (r_assign rfl) ?_
        refine at_nil ?_
        refine at_drop (H := _) .z ?_
        refine at_weak [(2, _), (3, _)] ⟨rfl, rfl, trivial⟩ ?_
        refine at_then_normal ?_
        refine at_ret ?_
        have K := of_some hF
        subst K
        exact at_res2 rfl (res_cell (c := c_api_Addr) (y := q20) rfl .z (Lens.whole _ _) Tryd.isAgg24 Tryd.sizeOf24 (.inl rfl)) (res_tmp rfl) (fun w1 hw => ⟨rfl, hw.below⟩)

def crawlwayref10_Parse (x0 : ByteArray) : Option (S_api_Addr × Int) :=
  crawlwayref06_Parts x0 58 >>= fun t2 => if (decide ((t2.length : Int) > 1)) = true then (crawlwayref09_Parse x0 >>= fun t6 => if (!t6.2) = true then (some (({ f_V := (0 : Int), f_B := (Vector.replicate 16 (0 : Int) : (Vector Int 16)) } : S_api_Addr), 5)) else (some ({ { ({ f_V := (0 : Int), f_B := (Vector.replicate 16 (0 : Int) : (Vector Int 16)) } : S_api_Addr) with f_V := 6 } with f_B := t6.1 }, 0))) else (crawlwayref08_Parse x0 >>= fun t9 => if (t9.2 != 0) = true then (some (({ f_V := (0 : Int), f_B := (Vector.replicate 16 (0 : Int) : (Vector Int 16)) } : S_api_Addr), t9.2)) else (crawlwayref10_Of ([vget t9.1 0, vget t9.1 1, vget t9.1 2, vget t9.1 3]) >>= fun t13 => some (t13.1, 0)))
theorem crawlwayref10_Parse_ok (x0 : ByteArray) (r : S_api_Addr × Int) (hF : crawlwayref10_Parse x0 = some r) (w : World) :
    Calls Tryd.prog 31 #[.string x0] w (fun e w' => e = .returned (.tuple #[.agg (Cd.cs c_api_Addr r.1).toArray, .int .i64 r.2]) ∧ Below w.heap.size w w') := by
  unfold crawlwayref10_Parse at hF
  refine calls_enter (l := [.string x0]) Tryd.func31 rfl rfl rfl ?_
  refine at_start ?_
  refine at_weak [(0, _)] ⟨rfl, trivial⟩ ?_
  refine at_seq ?_
  refine at_region ?_
  refine at_alloc (cs := Cd.cs c_api_Addr ({ f_V := (0 : Int), f_B := (Vector.replicate 16 (0 : Int) : (Vector Int 16)) } : S_api_Addr)) Tryd.zeroValue24 rfl rfl ?_
  intro b1
  refine at_val rfl rfl rfl (r_assign rfl) ?_
  refine at_nil ?_
  refine at_weak [(0, _), (2, _)] ⟨rfl, rfl, trivial⟩ ?_
  refine at_then_normal ?_
  refine at_seq ?_
  refine at_seq ?_
  refine at_region ?_
  refine at_val rfl rfl rfl (r_move rfl) ?_
  obtain ⟨t2, ht2, hF⟩ := of_bindM hF
  refine at_callO (c := cStr) (e := 9) (ys := t2) (V := fun p cap => .slice p t2.length cap) Tryd.func69 rfl (by kernel_rfl) rfl rfl (fun w hw => crawlwayref06_Parts_ok _ _ _ ht2 w) ?_
  intro p3 c4
  refine at_val rfl rfl rfl (r_len_sl Tryd.underlying76 rfl) ?_
  refine at_val rfl rfl rfl (r_igtr rfl rfl) ?_
  refine at_nil ?_
  refine at_drop (H := _) .z ?_
  refine at_weak [(0, _), (2, _), (13, _)] ⟨rfl, rfl, rfl, trivial⟩ ?_
  refine at_then_normal ?_
  rcases of_ite hF with ⟨h5, hF⟩ | ⟨h5, hF⟩
  · refine at_cond_true rfl h5 ?_
    refine at_seq ?_
    refine at_region ?_
    refine at_val rfl rfl rfl (r_move rfl) ?_
    obtain ⟨t6, ht6, hF⟩ := of_bindM hF
    refine at_callB Tryd.func63 rfl (by kernel_rfl) rfl rfl (fun w hw => crawlwayref09_Parse_ok _ _ ht6 w) ?_
    refine at_val rfl rfl rfl (r_move rfl) ?_
    refine at_val rfl rfl rfl (r_extract rfl rfl) ?_
    refine at_val rfl rfl rfl (r_extract rfl rfl) ?_
    refine at_alloc (cs := Cd.cs (cVec (cInt .u8) 16 (by decide)) (Vector.replicate 16 (0 : Int) : (Vector Int 16))) Tryd.zeroValue22 rfl rfl ?_
    intro b7
    refine at_store (c := (cVec (cInt .u8) 16 (by decide))) (z := t6.1) .z (Lens.whole _ _) Tryd.sizeOf22 rfl rfl rfl ?_
    refine at_val rfl rfl rfl (r_assign rfl) ?_
    refine at_nil ?_
    refine at_weak [(2, _), (4, _), (5, _)] ⟨rfl, rfl, rfl, trivial⟩ ?_
    refine at_then_normal ?_
    refine at_seq ?_
    refine at_seq ?_
    refine at_region ?_
    refine at_val rfl rfl rfl (r_move rfl) ?_
    refine at_val rfl rfl rfl (r_not rfl) ?_
    refine at_nil ?_
    refine at_weak [(2, _), (4, _), (20, _)] ⟨rfl, rfl, rfl, trivial⟩ ?_
    refine at_then_normal ?_
    rcases of_ite hF with ⟨h8, hF⟩ | ⟨h8, hF⟩
    · refine at_cond_true rfl h8 ?_
      refine at_seq ?_
      refine at_region ?_
      refine at_val rfl rfl rfl (r_build_struct (zs := Cd.cs c_api_Addr ({ f_V := (0 : Int), f_B := (Vector.replicate 16 (0 : Int) : (Vector Int 16)) } : S_api_Addr)) (cs := Cd.cs c_api_Addr ({ f_V := (0 : Int), f_B := (Vector.replicate 16 (0 : Int) : (Vector Int 16)) } : S_api_Addr)) Tryd.underlying24 Tryd.zeroValue24 rfl (places_api_Addr_24) rfl rfl) ?_
      refine at_store (c := c_api_Addr) (z := ({ f_V := (0 : Int), f_B := (Vector.replicate 16 (0 : Int) : (Vector Int 16)) } : S_api_Addr)) (.s .z) (Lens.whole _ _) Tryd.sizeOf24 rfl rfl rfl ?_
      refine at_val rfl rfl rfl (r_assign rfl) ?_
      refine at_nil ?_
      refine at_drop (H := _) .z ?_
      refine at_weak [(2, _), (3, _)] ⟨rfl, rfl, trivial⟩ ?_
      refine at_then_normal ?_
      refine at_ret ?_
      refine at_then_ret (at_then_ret ?_)
      have K := of_some hF
      subst K
      exact at_res2 rfl (res_cell (c := c_api_Addr) (y := ({ f_V := (0 : Int), f_B := (Vector.replicate 16 (0 : Int) : (Vector Int 16)) } : S_api_Addr)) rfl .z (Lens.whole _ _) Tryd.isAgg24 Tryd.sizeOf24 (.inl rfl)) (res_tmp rfl) (fun w1 hw => ⟨rfl, hw.below⟩)
    · refine at_cond_false rfl h8 ?_
      refine at_skip ?_
      refine at_then_normal ?_
      refine at_seq ?_
      refine at_region ?_
      refine at_val rfl rfl rfl (r_load_aggc (c := (cVec (cInt .u8) 16 (by decide))) (z := t6.1) Tryd.isAgg22 Tryd.sizeOf22 rfl (lens_cell .z (Lens.whole _ _))) ?_
      refine at_val rfl rfl rfl (r_build_struct (zs := Cd.cs c_api_Addr ({ f_V := (0 : Int), f_B := (Vector.replicate 16 (0 : Int) : (Vector Int 16)) } : S_api_Addr)) (cs := Cd.cs c_api_Addr ({ { ({ f_V := (0 : Int), f_B := (Vector.replicate 16 (0 : Int) : (Vector Int 16)) } : S_api_Addr) with f_V := 6 } with f_B := t6.1 })) Tryd.underlying24 Tryd.zeroValue24 rfl (places_api_Addr_24) rfl (fill_step (c := (cInt .i64)) (z := 6) rfl (c_api_Addr_f_V ({ f_V := (0 : Int), f_B := (Vector.replicate 16 (0 : Int) : (Vector Int 16)) } : S_api_Addr)) rfl (fill_step (c := (cVec (cInt .u8) 16 (by decide))) (z := t6.1) rfl (c_api_Addr_f_B ({ ({ f_V := (0 : Int), f_B := (Vector.replicate 16 (0 : Int) : (Vector Int 16)) } : S_api_Addr) with f_V := 6 })) rfl rfl))) ?_
      refine at_store (c := c_api_Addr) (z := { { ({ f_V := (0 : Int), f_B := (Vector.replicate 16 (0 : Int) : (Vector Int 16)) } : S_api_Addr) with f_V := 6 } with f_B := t6.1 }) (.s .z) (Lens.whole _ _) Tryd.sizeOf24 rfl rfl rfl ?_
      refine at_val rfl rfl rfl (r_assign rfl) ?_
      refine at_nil ?_
      refine at_drop (H := _) .z ?_
      refine at_weak [(2, _), (3, _)] ⟨rfl, rfl, trivial⟩ ?_
      refine at_then_normal ?_
      refine at_ret ?_
      refine at_then_ret ?_
      have K := of_some hF
      subst K
      exact at_res2 rfl (res_cell (c := c_api_Addr) (y := { { ({ f_V := (0 : Int), f_B := (Vector.replicate 16 (0 : Int) : (Vector Int 16)) } : S_api_Addr) with f_V := 6 } with f_B := t6.1 }) rfl .z (Lens.whole _ _) Tryd.isAgg24 Tryd.sizeOf24 (.inl rfl)) (res_tmp rfl) (fun w1 hw => ⟨rfl, hw.below⟩)
  · refine at_cond_false rfl h5 ?_
    refine at_skip ?_
    refine at_then_normal ?_
    refine at_seq ?_
    refine at_region ?_
    refine at_val rfl rfl rfl (r_move rfl) ?_
    obtain ⟨t9, ht9, hF⟩ := of_bindM hF
    refine at_callB Tryd.func70 rfl (by kernel_rfl) rfl rfl (fun w hw => crawlwayref08_Parse_ok _ _ ht9 w) ?_
    refine at_val rfl rfl rfl (r_move rfl) ?_
    refine at_val rfl rfl rfl (r_extract rfl rfl) ?_
    refine at_val rfl rfl rfl (r_extract rfl rfl) ?_
    refine at_alloc (cs := Cd.cs (cVec (cInt .u8) 4 (by decide)) (Vector.replicate 4 (0 : Int) : (Vector Int 4))) Tryd.zeroValue47 rfl rfl ?_
    intro b10
    refine at_store (c := (cVec (cInt .u8) 4 (by decide))) (z := t9.1) .z (Lens.whole _ _) Tryd.sizeOf47 rfl rfl rfl ?_
    refine at_val rfl rfl rfl (r_assign rfl) ?_
    refine at_nil ?_
    refine at_weak [(2, _), (6, _), (7, _)] ⟨rfl, rfl, rfl, trivial⟩ ?_
    refine at_then_normal ?_
    refine at_seq ?_
    refine at_seq ?_
    refine at_region ?_
    refine at_val rfl rfl rfl (r_move rfl) ?_
    refine at_val rfl rfl rfl (r_ineq rfl rfl) ?_
    refine at_nil ?_
    refine at_weak [(2, _), (6, _), (7, _), (30, _)] ⟨rfl, rfl, rfl, rfl, trivial⟩ ?_
    refine at_then_normal ?_
    rcases of_ite hF with ⟨h11, hF⟩ | ⟨h11, hF⟩
    · refine at_cond_true rfl h11 ?_
      refine at_seq ?_
      refine at_region ?_
      refine at_val rfl rfl rfl (r_build_struct (zs := Cd.cs c_api_Addr ({ f_V := (0 : Int), f_B := (Vector.replicate 16 (0 : Int) : (Vector Int 16)) } : S_api_Addr)) (cs := Cd.cs c_api_Addr ({ f_V := (0 : Int), f_B := (Vector.replicate 16 (0 : Int) : (Vector Int 16)) } : S_api_Addr)) Tryd.underlying24 Tryd.zeroValue24 rfl (places_api_Addr_24) rfl rfl) ?_
      refine at_val rfl rfl rfl (r_move rfl) ?_
      refine at_store (c := c_api_Addr) (z := ({ f_V := (0 : Int), f_B := (Vector.replicate 16 (0 : Int) : (Vector Int 16)) } : S_api_Addr)) (.s .z) (Lens.whole _ _) Tryd.sizeOf24 rfl rfl rfl ?_
      refine at_val rfl rfl rfl (r_assign rfl) ?_
      refine at_nil ?_
      refine at_drop (H := _) .z ?_
      refine at_weak [(2, _), (3, _)] ⟨rfl, rfl, trivial⟩ ?_
      refine at_then_normal ?_
      refine at_ret ?_
      refine at_then_ret ?_
      have K := of_some hF
      subst K
      exact at_res2 rfl (res_cell (c := c_api_Addr) (y := ({ f_V := (0 : Int), f_B := (Vector.replicate 16 (0 : Int) : (Vector Int 16)) } : S_api_Addr)) rfl .z (Lens.whole _ _) Tryd.isAgg24 Tryd.sizeOf24 (.inl rfl)) (res_tmp rfl) (fun w1 hw => ⟨rfl, hw.below⟩)
    · refine at_cond_false rfl h11 ?_
      refine at_skip ?_
      refine at_then_normal ?_
      refine at_seq ?_
      refine at_region ?_
      refine at_val rfl rfl rfl (r_idxArr Tryd.underlying47 Tryd.sizeOf5 rfl rfl (by decide)) ?_
      refine at_val rfl rfl rfl (r_load_cell Tryd.isAgg5 rfl (lens_cell0 (c := (cInt .u8)) (y := vget t9.1 0) .z (Lens.comp (Lens.whole _ _) (fun z => vset t9.1 0 z) (Lens.vec (cInt .u8) (by decide) t9.1 0 (by decide))) rfl)) ?_
      refine at_val rfl rfl rfl (r_idxArr Tryd.underlying47 Tryd.sizeOf5 rfl rfl (by decide)) ?_
      refine at_val rfl rfl rfl (r_load_cell Tryd.isAgg5 rfl (lens_cell0 (c := (cInt .u8)) (y := vget t9.1 1) .z (Lens.comp (Lens.whole _ _) (fun z => vset t9.1 1 z) (Lens.vec (cInt .u8) (by decide) t9.1 1 (by decide))) rfl)) ?_
      refine at_val rfl rfl rfl (r_idxArr Tryd.underlying47 Tryd.sizeOf5 rfl rfl (by decide)) ?_
      refine at_val rfl rfl rfl (r_load_cell Tryd.isAgg5 rfl (lens_cell0 (c := (cInt .u8)) (y := vget t9.1 2) .z (Lens.comp (Lens.whole _ _) (fun z => vset t9.1 2 z) (Lens.vec (cInt .u8) (by decide) t9.1 2 (by decide))) rfl)) ?_
      refine at_val rfl rfl rfl (r_idxArr Tryd.underlying47 Tryd.sizeOf5 rfl rfl (by decide)) ?_
      refine at_val rfl rfl rfl (r_load_cell Tryd.isAgg5 rfl (lens_cell0 (c := (cInt .u8)) (y := vget t9.1 3) .z (Lens.comp (Lens.whole _ _) (fun z => vset t9.1 3 z) (Lens.vec (cInt .u8) (by decide) t9.1 3 (by decide))) rfl)) ?_
      refine at_lit (cs := (cInt .u8).all ([vget t9.1 0, vget t9.1 1, vget t9.1 2, vget t9.1 3] : List Int)) Tryd.underlying33 Tryd.sizeOf5 Tryd.zeroValue5 rfl rfl rfl (by kernel_rfl) rfl ?_
      intro b12
      obtain ⟨t13, ht13, hF⟩ := of_bindM hF
      refine at_callB Tryd.func33 rfl (by kernel_rfl) rfl rfl (fun w hw => crawlwayref10_Of_ok _ _ _ _ ht13 w (cells_row (hw.ok (Upd.mem .z)))) ?_
      refine at_val rfl rfl rfl (r_move rfl) ?_
      refine at_val rfl rfl rfl (r_extract rfl rfl) ?_
      refine at_val rfl rfl rfl (r_extract rfl rfl) ?_
      refine at_alloc (cs := Cd.cs c_api_Addr ({ f_V := (0 : Int), f_B := (Vector.replicate 16 (0 : Int) : (Vector Int 16)) } : S_api_Addr)) Tryd.zeroValue24 rfl rfl ?_
      intro b14
      refine at_store (c := c_api_Addr) (z := t13.1) .z (Lens.whole _ _) Tryd.sizeOf24 rfl rfl rfl ?_
      refine at_val rfl rfl rfl (r_assign rfl) ?_
      refine at_nil ?_
      refine at_drop (H := _) (.s .z) ?_
      refine at_drop (H := _) (.s .z) ?_
      refine at_weak [(2, _), (8, _)] ⟨rfl, rfl, trivial⟩ ?_
      refine at_then_normal ?_
      refine at_seq ?_
      refine at_region ?_
      refine at_val rfl rfl rfl (r_load_aggc (c := c_api_Addr) (z := t13.1) Tryd.isAgg24 Tryd.sizeOf24 rfl (lens_cell .z (Lens.whole _ _))) ?_
      refine at_store (c := c_api_Addr) (z := t13.1) (.s .z) (Lens.whole _ _) Tryd.sizeOf24 rfl rfl rfl ?_
      refine at_val rfl rfl rfl (r_assign rfl) ?_
      refine at_nil ?_
      refine at_drop (H := _) .z ?_
      refine at_weak [(2, _), (3, _)] ⟨rfl, rfl, trivial⟩ ?_
      refine at_then_normal ?_
      refine at_ret ?_
      have K := of_some hF
      subst K
      exact at_res2 rfl (res_cell (c := c_api_Addr) (y := t13.1) rfl .z (Lens.whole _ _) Tryd.isAgg24 Tryd.sizeOf24 (.inl rfl)) (res_tmp rfl) (fun w1 hw => ⟨rfl, hw.below⟩)

def addr_Of (x0 : List Int) : Option (S_api_Addr × Int) :=
  if ((x0.length : Int) == 4) = true then (if 4 ≤ x0.length then addr_Four (lvec 4 x0) >>= fun t7 => some (t7, 0) else none) else (if ((x0.length : Int) == 16) = true then (if 16 ≤ x0.length then addr_Six (lvec 16 x0) >>= fun t13 => some (t13, 0) else none) else (some (({ f_V := (0 : Int), f_B := (Vector.replicate 16 (0 : Int) : (Vector Int 16)) } : S_api_Addr), 5)))
theorem addr_Of_ok (x0 : List Int) (p0_ : Option Addr) (c0_ : Nat) (r : S_api_Addr × Int) (hF : addr_Of x0 = some r) (w : World) (hr0 : Row (cInt .u8) w p0_ c0_ x0) :
    Calls Tryd.prog 32 #[.slice p0_ x0.length c0_] w (fun e w' => e = .returned (.tuple #[.agg (Cd.cs c_api_Addr r.1).toArray, .int .i64 r.2]) ∧ Below w.heap.size w w') := by
  unfold addr_Of at hF
  refine calls_enter (l := [.slice p0_ x0.length c0_]) Tryd.func32 rfl rfl rfl ?_
  refine at_start ?_
  refine at_weak [(0, _)] ⟨rfl, trivial⟩ ?_
  refine at_seq ?_
  refine at_region ?_
  refine at_alloc (cs := Cd.cs c_api_Addr ({ f_V := (0 : Int), f_B := (Vector.replicate 16 (0 : Int) : (Vector Int 16)) } : S_api_Addr)) Tryd.zeroValue24 rfl rfl ?_
  intro b1
  refine at_val rfl rfl rfl (r_assign rfl) ?_
  refine at_nil ?_
  refine at_weak [(0, _), (2, _)] ⟨rfl, rfl, trivial⟩ ?_
  refine at_then_normal ?_
  refine at_seq ?_
  refine at_seq ?_
  refine at_region ?_
  refine at_val rfl rfl rfl (r_move rfl) ?_
  refine at_val rfl rfl rfl (r_len_sl Tryd.underlying33 rfl) ?_
  refine at_nil ?_
  refine at_weak [(0, _), (2, _), (5, _)] ⟨rfl, rfl, rfl, trivial⟩ ?_
  refine at_then_normal ?_
  refine at_block ?_
  refine at_seq ?_
  refine at_region ?_
  refine at_val rfl rfl rfl (r_ieql rfl rfl) ?_
  refine at_val rfl rfl rfl (r_assign rfl) ?_
  refine at_nil ?_
  refine at_weak [(0, _), (2, _), (5, _), (6, _)] ⟨rfl, rfl, rfl, rfl, trivial⟩ ?_
  refine at_then_normal ?_
  rcases of_ite hF with ⟨h2, hF⟩ | ⟨h2, hF⟩
  · refine at_cond_true rfl h2 ?_
    refine at_seq ?_
    refine at_region ?_
    refine at_val rfl rfl rfl (r_move rfl) ?_
    obtain ⟨h3, hF⟩ := of_guard hF
    refine at_val rfl rfl rfl (r_arrptr Tryd.underlying47 rfl h3) ?_
    refine at_pure (φ := ∃ b o, p0_ = some ⟨b, o, none⟩) (fun w1 hw => row_ptr (i := 0) (hr0.below hw.below) (by omega)) ?_
    rintro ⟨b4, o5, hp6⟩
    refine at_val rfl rfl rfl (r_load_aggc (c := (cVec (cInt .u8) 4 (by decide))) (z := lvec 4 x0) Tryd.isAgg47 Tryd.sizeOf47 (by rw [← hp6]; rfl) (fun w1 hw => row_lvec (hr0.below hw.below) h3 hp6)) ?_
    obtain ⟨t7, ht7, hF⟩ := of_bindM hF
    refine at_callB Tryd.func41 rfl (by kernel_rfl) rfl rfl (fun w hw => addr_Four_ok _ _ ht7 w) ?_
    refine at_store (c := c_api_Addr) (z := t7) .z (Lens.whole _ _) Tryd.sizeOf24 rfl rfl rfl ?_
    refine at_val rfl rfl rfl (r_assign rfl) ?_
    refine at_nil ?_
    refine at_weak [(2, _), (3, _)] ⟨rfl, rfl, trivial⟩ ?_
    refine at_then_normal ?_
    refine at_ret ?_
    refine at_blk_ret (at_then_ret ?_)
    have K := of_some hF
    subst K
    exact at_res2 rfl (res_cell (c := c_api_Addr) (y := t7) rfl .z (Lens.whole _ _) Tryd.isAgg24 Tryd.sizeOf24 (.inl rfl)) (res_tmp rfl) (fun w1 hw => ⟨rfl, hw.below⟩)
  · refine at_cond_false rfl h2 ?_
    refine at_seq ?_
    refine at_region ?_
    refine at_val rfl rfl rfl (r_ieql rfl rfl) ?_
    refine at_val rfl rfl rfl (r_assign rfl) ?_
    refine at_nil ?_
    refine at_weak [(0, _), (2, _), (12, _)] ⟨rfl, rfl, rfl, trivial⟩ ?_
    refine at_then_normal ?_
    rcases of_ite hF with ⟨h8, hF⟩ | ⟨h8, hF⟩
    · refine at_cond_true rfl h8 ?_
      refine at_seq ?_
      refine at_region ?_
      refine at_val rfl rfl rfl (r_move rfl) ?_
      obtain ⟨h9, hF⟩ := of_guard hF
      refine at_val rfl rfl rfl (r_arrptr Tryd.underlying22 rfl h9) ?_
      refine at_pure (φ := ∃ b o, p0_ = some ⟨b, o, none⟩) (fun w1 hw => row_ptr (i := 0) (hr0.below hw.below) (by omega)) ?_
      rintro ⟨b10, o11, hp12⟩
      refine at_val rfl rfl rfl (r_load_aggc (c := (cVec (cInt .u8) 16 (by decide))) (z := lvec 16 x0) Tryd.isAgg22 Tryd.sizeOf22 (by rw [← hp12]; rfl) (fun w1 hw => row_lvec (hr0.below hw.below) h9 hp12)) ?_
      obtain ⟨t13, ht13, hF⟩ := of_bindM hF
      refine at_callB Tryd.func42 rfl (by kernel_rfl) rfl rfl (fun w hw => addr_Six_ok _ _ ht13 w) ?_
      refine at_store (c := c_api_Addr) (z := t13) .z (Lens.whole _ _) Tryd.sizeOf24 rfl rfl rfl ?_
      refine at_val rfl rfl rfl (r_assign rfl) ?_
      refine at_nil ?_
      refine at_weak [(2, _), (3, _)] ⟨rfl, rfl, trivial⟩ ?_
      refine at_then_normal ?_
      refine at_ret ?_
      refine at_blk_ret (at_then_ret ?_)
      have K := of_some hF
      subst K
      exact at_res2 rfl (res_cell (c := c_api_Addr) (y := t13) rfl .z (Lens.whole _ _) Tryd.isAgg24 Tryd.sizeOf24 (.inl rfl)) (res_tmp rfl) (fun w1 hw => ⟨rfl, hw.below⟩)
    · refine at_cond_false rfl h8 ?_
      refine at_skip ?_
      refine at_blk_normal (at_then_normal ?_)
      refine at_seq ?_
      refine at_region ?_
      refine at_val rfl rfl rfl (r_build_struct (zs := Cd.cs c_api_Addr ({ f_V := (0 : Int), f_B := (Vector.replicate 16 (0 : Int) : (Vector Int 16)) } : S_api_Addr)) (cs := Cd.cs c_api_Addr ({ f_V := (0 : Int), f_B := (Vector.replicate 16 (0 : Int) : (Vector Int 16)) } : S_api_Addr)) Tryd.underlying24 Tryd.zeroValue24 rfl (places_api_Addr_24) rfl rfl) ?_
      refine at_store (c := c_api_Addr) (z := ({ f_V := (0 : Int), f_B := (Vector.replicate 16 (0 : Int) : (Vector Int 16)) } : S_api_Addr)) .z (Lens.whole _ _) Tryd.sizeOf24 rfl rfl rfl ?_
      refine at_val rfl rfl rfl (r_assign rfl) ?_
      refine at_nil ?_
      refine at_weak [(2, _), (3, _)] ⟨rfl, rfl, trivial⟩ ?_
      refine at_then_normal ?_
      refine at_ret ?_
      have K := of_some hF
      subst K
      exact at_res2 rfl (res_cell (c := c_api_Addr) (y := ({ f_V := (0 : Int), f_B := (Vector.replicate 16 (0 : Int) : (Vector Int 16)) } : S_api_Addr)) rfl .z (Lens.whole _ _) Tryd.isAgg24 Tryd.sizeOf24 (.inl rfl)) (res_tmp rfl) (fun w1 hw => ⟨rfl, hw.below⟩)

def crawlwaylaw10_AddrReads (x0 : ByteArray) (x1 : List Int) : Option (Bool) :=
  if (decide ((x0.size : Int) > 100)) = true then (crawlwaylaw10_alive >>= fun t2 => some t2) else (if (decide ((x1.length : Int) > 100)) = true then (crawlwaylaw10_alive >>= fun t4 => some t4) else (addr_Parse x0 >>= fun t5 => crawlwayref10_Parse x0 >>= fun t7 => addr_Of x1 >>= fun t9 => crawlwayref10_Of x1 >>= fun t11 => if (decide (t5.1 = t7.1)) = true then (if (t5.2 == t7.2) = true then (if (decide (t9.1 = t11.1)) = true then (if ((t9.2 == 0) == t11.2) = true then (if t11.2 = true then (crawlwaylaw10_alive >>= fun t18 => some t18) else (if (t9.2 == 5) = true then (crawlwaylaw10_alive >>= fun t20 => some t20) else (some false))) else (some false)) else (some false)) else (some false)) else (some false)))
theorem crawlwaylaw10_AddrReads_ok (x0 : ByteArray) (x1 : List Int) (p1_ : Option Addr) (c1_ : Nat) (r : Bool) (hF : crawlwaylaw10_AddrReads x0 x1 = some r) (w : World) (hr1 : Row (cInt .u8) w p1_ c1_ x1) (hg_strconv_ErrRange : GV_strconv_ErrRange w) (hg_strconv_ErrSyntax : GV_strconv_ErrSyntax w) (hg_strconv_uint64pow10 : GV_strconv_uint64pow10 w) :
    Calls Tryd.prog 6 #[.string x0, .slice p1_ x1.length c1_] w (fun e w' => e = .returned (.bool r) ∧ Below w.heap.size w w') := by
  unfold crawlwaylaw10_AddrReads at hF
  refine calls_enter (l := [.string x0, .slice p1_ x1.length c1_]) Tryd.func6 rfl rfl rfl ?_
  refine at_start ?_
  refine at_weak [(0, _), (1, _)] ⟨rfl, rfl, trivial⟩ ?_
  refine at_seq ?_
  refine at_region ?_
  refine at_val rfl rfl rfl (r_assign rfl) ?_
  refine at_nil ?_
  refine at_weak [(0, _), (1, _)] ⟨rfl, rfl, trivial⟩ ?_
  refine at_then_normal ?_
  refine at_seq ?_
  refine at_seq ?_
  refine at_region ?_
  refine at_val rfl rfl rfl (r_move rfl) ?_
  refine at_val rfl rfl rfl (r_len_str Tryd.underlying9 rfl) ?_
  refine at_val rfl rfl rfl (r_igtr rfl rfl) ?_
  refine at_val rfl rfl rfl (r_move rfl) ?_
  rcases of_ite hF with ⟨h1, hF⟩ | ⟨h1, hF⟩
  · refine at_fix (g := 16) rfl h1 ?_
    refine at_guard_no rfl rfl rfl rfl rfl ?_
    refine at_guard_no rfl rfl rfl rfl rfl ?_
    refine at_guard_no rfl rfl rfl rfl rfl ?_
    refine at_val rfl rfl rfl (r_pick rfl rfl rfl) ?_
    refine at_nil ?_
    refine at_weak [(0, _), (1, _), (20, _)] ⟨rfl, rfl, rfl, trivial⟩ ?_
    refine at_then_normal ?_
    refine at_cond_true rfl rfl ?_
    refine at_seq ?_
    refine at_region ?_
    obtain ⟨t2, ht2, hF⟩ := of_bindM hF
    refine at_callB Tryd.func19 rfl (by kernel_rfl) rfl rfl (fun w hw => crawlwaylaw10_alive_ok  _ ht2 w (hg_strconv_uint64pow10.on hw.below)) ?_
    refine at_val rfl rfl rfl (r_assign rfl) ?_
    refine at_nil ?_
    refine at_weak [(4, _)] ⟨rfl, trivial⟩ ?_
    refine at_then_normal ?_
    refine at_ret ?_
    refine at_then_ret ?_
    have K := of_some hF
    subst K
    exact at_return1 rfl rfl (fun w1 hw => ⟨rfl, hw.below⟩)
  · refine at_fix (g := 16) rfl h1 ?_
    refine at_guard_yes rfl rfl rfl ?_
    refine at_val rfl rfl rfl (r_move rfl) ?_
    refine at_guard_yes rfl rfl rfl ?_
    refine at_val rfl rfl rfl (r_len_sl Tryd.underlying33 rfl) ?_
    refine at_guard_yes rfl rfl rfl ?_
    refine at_val rfl rfl rfl (r_igtr rfl rfl) ?_
    refine at_val rfl rfl rfl (r_pick rfl rfl rfl) ?_
    refine at_nil ?_
    refine at_weak [(0, _), (1, _), (20, _)] ⟨rfl, rfl, rfl, trivial⟩ ?_
    refine at_then_normal ?_
    rcases of_ite hF with ⟨h3, hF⟩ | ⟨h3, hF⟩
    · refine at_cond_true rfl h3 ?_
      refine at_seq ?_
      refine at_region ?_
      obtain ⟨t4, ht4, hF⟩ := of_bindM hF
      refine at_callB Tryd.func19 rfl (by kernel_rfl) rfl rfl (fun w hw => crawlwaylaw10_alive_ok  _ ht4 w (hg_strconv_uint64pow10.on hw.below)) ?_
      refine at_val rfl rfl rfl (r_assign rfl) ?_
      refine at_nil ?_
      refine at_weak [(4, _)] ⟨rfl, trivial⟩ ?_
      refine at_then_normal ?_
      refine at_ret ?_
      refine at_then_ret ?_
      have K := of_some hF
      subst K
      exact at_return1 rfl rfl (fun w1 hw => ⟨rfl, hw.below⟩)
    · refine at_cond_false rfl h3 ?_
      refine at_skip ?_
      refine at_then_normal ?_
      refine at_seq ?_
      refine at_region ?_
      refine at_val rfl rfl rfl (r_move rfl) ?_
      obtain ⟨t5, ht5, hF⟩ := of_bindM hF
      refine at_callB Tryd.func30 rfl (by kernel_rfl) rfl rfl (fun w hw => addr_Parse_ok _ _ ht5 w (hg_strconv_ErrRange.on hw.below) (hg_strconv_ErrSyntax.on hw.below)) ?_
      refine at_val rfl rfl rfl (r_move rfl) ?_
      refine at_val rfl rfl rfl (r_extract rfl rfl) ?_
      refine at_val rfl rfl rfl (r_extract rfl rfl) ?_
      refine at_alloc (cs := Cd.cs c_api_Addr ({ f_V := (0 : Int), f_B := (Vector.replicate 16 (0 : Int) : (Vector Int 16)) } : S_api_Addr)) Tryd.zeroValue24 rfl rfl ?_
      intro b6
      refine at_store (c := c_api_Addr) (z := t5.1) .z (Lens.whole _ _) Tryd.sizeOf24 rfl rfl rfl ?_
      refine at_val rfl rfl rfl (r_assign rfl) ?_
      refine at_nil ?_
      refine at_weak [(0, _), (1, _), (5, _), (6, _)] ⟨rfl, rfl, rfl, rfl, trivial⟩ ?_
      refine at_then_normal ?_
      refine at_seq ?_
      refine at_region ?_
      refine at_val rfl rfl rfl (r_move rfl) ?_
      obtain ⟨t7, ht7, hF⟩ := of_bindM hF
      refine at_callB Tryd.func31 rfl (by kernel_rfl) rfl rfl (fun w hw => crawlwayref10_Parse_ok _ _ ht7 w) ?_
      refine at_val rfl rfl rfl (r_move rfl) ?_
      refine at_val rfl rfl rfl (r_extract rfl rfl) ?_
      refine at_val rfl rfl rfl (r_extract rfl rfl) ?_
      refine at_alloc (cs := Cd.cs c_api_Addr ({ f_V := (0 : Int), f_B := (Vector.replicate 16 (0 : Int) : (Vector Int 16)) } : S_api_Addr)) Tryd.zeroValue24 rfl rfl ?_
      intro b8
      refine at_store (c := c_api_Addr) (z := t7.1) .z (Lens.whole _ _) Tryd.sizeOf24 rfl rfl rfl ?_
      refine at_val rfl rfl rfl (r_assign rfl) ?_
      refine at_nil ?_
      refine at_weak [(1, _), (5, _), (6, _), (7, _), (8, _)] ⟨rfl, rfl, rfl, rfl, rfl, trivial⟩ ?_
      refine at_then_normal ?_
      refine at_seq ?_
      refine at_region ?_
      refine at_val rfl rfl rfl (r_move rfl) ?_
      obtain ⟨t9, ht9, hF⟩ := of_bindM hF
      refine at_callB Tryd.func32 rfl (by kernel_rfl) rfl rfl (fun w hw => addr_Of_ok _ _ _ _ ht9 w (hr1.below hw.below)) ?_
      refine at_val rfl rfl rfl (r_move rfl) ?_
      refine at_val rfl rfl rfl (r_extract rfl rfl) ?_
      refine at_val rfl rfl rfl (r_extract rfl rfl) ?_
      refine at_alloc (cs := Cd.cs c_api_Addr ({ f_V := (0 : Int), f_B := (Vector.replicate 16 (0 : Int) : (Vector Int 16)) } : S_api_Addr)) Tryd.zeroValue24 rfl rfl ?_
      intro b10
      refine at_store (c := c_api_Addr) (z := t9.1) .z (Lens.whole _ _) Tryd.sizeOf24 rfl rfl rfl ?_
      refine at_val rfl rfl rfl (r_assign rfl) ?_
      refine at_nil ?_
      refine at_weak [(1, _), (5, _), (6, _), (7, _), (8, _), (9, _), (10, _)] ⟨rfl, rfl, rfl, rfl, rfl, rfl, rfl, trivial⟩ ?_
      refine at_then_normal ?_
      refine at_seq ?_
      refine at_region ?_
      refine at_val rfl rfl rfl (r_move rfl) ?_
      obtain ⟨t11, ht11, hF⟩ := of_bindM hF
      refine at_callB Tryd.func33 rfl (by kernel_rfl) rfl rfl (fun w hw => crawlwayref10_Of_ok _ _ _ _ ht11 w (hr1.below hw.below)) ?_
      refine at_val rfl rfl rfl (r_move rfl) ?_
      refine at_val rfl rfl rfl (r_extract rfl rfl) ?_
      refine at_val rfl rfl rfl (r_extract rfl rfl) ?_
      refine at_alloc (cs := Cd.cs c_api_Addr ({ f_V := (0 : Int), f_B := (Vector.replicate 16 (0 : Int) : (Vector Int 16)) } : S_api_Addr)) Tryd.zeroValue24 rfl rfl ?_
      intro b12
      refine at_store (c := c_api_Addr) (z := t11.1) .z (Lens.whole _ _) Tryd.sizeOf24 rfl rfl rfl ?_
      refine at_val rfl rfl rfl (r_assign rfl) ?_
      refine at_nil ?_
      refine at_weak [(5, _), (6, _), (7, _), (8, _), (9, _), (10, _), (11, _), (12, _)] ⟨rfl, rfl, rfl, rfl, rfl, rfl, rfl, rfl, trivial⟩ ?_
      refine at_then_normal ?_
      refine at_seq ?_
      refine at_region ?_
      refine at_val rfl rfl rfl (r_load_aggc (c := c_api_Addr) (z := t5.1) Tryd.isAgg24 Tryd.sizeOf24 rfl (lens_cell (.s (.s (.s .z))) (Lens.whole _ _))) ?_
      refine at_val rfl rfl rfl (r_load_aggc (c := c_api_Addr) (z := t7.1) Tryd.isAgg24 Tryd.sizeOf24 rfl (lens_cell (.s (.s .z)) (Lens.whole _ _))) ?_
      refine at_val rfl rfl rfl (r_eqagg (c := c_api_Addr) (a := t5.1) (b := t7.1) (eq_api_Addr_24) rfl Tryd.eqGuardType24 rfl rfl (.inl rfl) rfl) ?_
      refine at_val rfl rfl rfl (r_move rfl) ?_
      rcases of_ite hF with ⟨h13, hF⟩ | ⟨h13, hF⟩
      · refine at_fix (g := 45) rfl h13 ?_
        refine at_guard_yes rfl rfl rfl ?_
        refine at_val rfl rfl rfl (r_move rfl) ?_
        refine at_guard_yes rfl rfl rfl ?_
        refine at_val rfl rfl rfl (r_move rfl) ?_
        refine at_guard_yes rfl rfl rfl ?_
        refine at_val rfl rfl rfl (r_ieql rfl rfl) ?_
        refine at_val rfl rfl rfl (r_pick rfl rfl rfl) ?_
        refine at_val rfl rfl rfl (r_move rfl) ?_
        rcases of_ite hF with ⟨h14, hF⟩ | ⟨h14, hF⟩
        · refine at_fix (g := 50) rfl h14 ?_
          refine at_guard_yes rfl rfl rfl ?_
          refine at_val rfl rfl rfl (r_load_aggc (c := c_api_Addr) (z := t9.1) Tryd.isAgg24 Tryd.sizeOf24 rfl (lens_cell (.s .z) (Lens.whole _ _))) ?_
          refine at_guard_yes rfl rfl rfl ?_
          refine at_val rfl rfl rfl (r_load_aggc (c := c_api_Addr) (z := t11.1) Tryd.isAgg24 Tryd.sizeOf24 rfl (lens_cell .z (Lens.whole _ _))) ?_
          refine at_guard_yes rfl rfl rfl ?_
          refine at_val rfl rfl rfl (r_eqagg (c := c_api_Addr) (a := t9.1) (b := t11.1) (eq_api_Addr_24) rfl Tryd.eqGuardType24 rfl rfl (.inl rfl) rfl) ?_
          refine at_val rfl rfl rfl (r_pick rfl rfl rfl) ?_
          refine at_val rfl rfl rfl (r_move rfl) ?_
          rcases of_ite hF with ⟨h15, hF⟩ | ⟨h15, hF⟩
          · refine at_fix (g := 55) rfl h15 ?_
            refine at_guard_yes rfl rfl rfl ?_
            refine at_val rfl rfl rfl (r_move rfl) ?_
            refine at_guard_yes rfl rfl rfl ?_
            refine at_val rfl rfl rfl (r_ieql rfl rfl) ?_
            refine at_guard_yes rfl rfl rfl ?_
            refine at_val rfl rfl rfl (r_move rfl) ?_
            refine at_guard_yes rfl rfl rfl ?_
            refine at_val rfl rfl rfl (r_bool Tryd.underlying4 rfl rfl (.inl rfl) rfl) ?_
            refine at_val rfl rfl rfl (r_pick rfl rfl rfl) ?_
            refine at_val rfl rfl rfl (r_move rfl) ?_
            rcases of_ite hF with ⟨h16, hF⟩ | ⟨h16, hF⟩
            · refine at_fix (g := 61) rfl h16 ?_
              refine at_guard_yes rfl rfl rfl ?_
              refine at_val rfl rfl rfl (r_move rfl) ?_
              refine at_guard_yes rfl rfl rfl ?_
              refine at_val rfl rfl rfl (r_move rfl) ?_
              rcases of_ite hF with ⟨h17, hF⟩ | ⟨h17, hF⟩
              · refine at_fix (g := 63) rfl h17 ?_
                refine at_guard_no rfl rfl rfl rfl rfl ?_
                refine at_guard_no rfl rfl rfl rfl rfl ?_
                refine at_guard_yes rfl rfl rfl ?_
                refine at_val rfl rfl rfl (r_pick rfl rfl rfl) ?_
                refine at_val rfl rfl rfl (r_pick rfl rfl rfl) ?_
                refine at_val rfl rfl rfl (r_move rfl) ?_
                refine at_guard_yes rfl rfl rfl ?_
                obtain ⟨t18, ht18, hF⟩ := of_bindM hF
                refine at_callB Tryd.func19 rfl (by kernel_rfl) rfl rfl (fun w hw => crawlwaylaw10_alive_ok  _ ht18 w (hg_strconv_uint64pow10.on hw.below)) ?_
                refine at_val rfl rfl rfl (r_pick rfl rfl rfl) ?_
                refine at_val rfl rfl rfl (r_assign rfl) ?_
                refine at_nil ?_
                refine at_drop (H := _) .z ?_
                refine at_drop (H := _) .z ?_
                refine at_drop (H := _) .z ?_
                refine at_drop (H := _) .z ?_
                refine at_weak [(4, _)] ⟨rfl, trivial⟩ ?_
                refine at_then_normal ?_
                refine at_ret ?_
                have K := of_some hF
                subst K
                exact at_return1 rfl rfl (fun w1 hw => ⟨rfl, hw.below⟩)
              · refine at_fix (g := 63) rfl h17 ?_
                refine at_guard_yes rfl rfl rfl ?_
                refine at_val rfl rfl rfl (r_move rfl) ?_
                refine at_guard_yes rfl rfl rfl ?_
                refine at_val rfl rfl rfl (r_ieql rfl rfl) ?_
                refine at_guard_yes rfl rfl rfl ?_
                refine at_val rfl rfl rfl (r_pick rfl rfl rfl) ?_
                refine at_val rfl rfl rfl (r_pick rfl rfl rfl) ?_
                refine at_val rfl rfl rfl (r_move rfl) ?_
                rcases of_ite hF with ⟨h19, hF⟩ | ⟨h19, hF⟩
                · refine at_fix (g := 68) rfl h19 ?_
                  refine at_guard_yes rfl rfl rfl ?_
                  obtain ⟨t20, ht20, hF⟩ := of_bindM hF
                  refine at_callB Tryd.func19 rfl (by kernel_rfl) rfl rfl (fun w hw => crawlwaylaw10_alive_ok  _ ht20 w (hg_strconv_uint64pow10.on hw.below)) ?_
                  refine at_val rfl rfl rfl (r_pick rfl rfl rfl) ?_
                  refine at_val rfl rfl rfl (r_assign rfl) ?_
                  refine at_nil ?_
                  refine at_drop (H := _) .z ?_
                  refine at_drop (H := _) .z ?_
                  refine at_drop (H := _) .z ?_
                  refine at_drop (H := _) .z ?_
                  refine at_weak [(4, _)] ⟨rfl, trivial⟩ ?_
                  refine at_then_normal ?_
                  refine at_ret ?_
                  have K := of_some hF
                  subst K
                  exact at_return1 rfl rfl (fun w1 hw => ⟨rfl, hw.below⟩)
                · refine at_fix (g := 68) rfl h19 ?_
                  refine at_guard_no rfl rfl rfl rfl rfl ?_
                  refine at_val rfl rfl rfl (r_pick rfl rfl rfl) ?_
                  refine at_val rfl rfl rfl (r_assign rfl) ?_
                  refine at_nil ?_
                  refine at_drop (H := _) .z ?_
                  refine at_drop (H := _) .z ?_
                  refine at_drop (H := _) .z ?_
                  refine at_drop (H := _) .z ?_
                  refine at_weak [(4, _)] ⟨rfl, trivial⟩ ?_
                  refine at_then_normal ?_
                  refine at_ret ?_
                  have K := of_some hF
                  subst K
                  exact at_return1 rfl rfl (fun w1 hw => ⟨rfl, hw.below⟩)
            · refine at_fix (g := 61) rfl h16 ?_
              refine at_guard_no rfl rfl rfl rfl rfl ?_
              refine at_guard_no rfl rfl rfl rfl rfl ?_
              refine at_guard_undef rfl rfl rfl rfl ?_
              refine at_guard_undef rfl rfl rfl rfl ?_
              refine at_guard_no rfl rfl rfl rfl rfl ?_
              refine at_val rfl rfl rfl (r_pick rfl rfl rfl) ?_
              refine at_val rfl rfl rfl (r_move rfl) ?_
              refine at_guard_no rfl rfl rfl rfl rfl ?_
              refine at_val rfl rfl rfl (r_pick rfl rfl rfl) ?_
              refine at_val rfl rfl rfl (r_assign rfl) ?_
              refine at_nil ?_
              refine at_drop (H := _) .z ?_
              refine at_drop (H := _) .z ?_
              refine at_drop (H := _) .z ?_
              refine at_drop (H := _) .z ?_
              refine at_weak [(4, _)] ⟨rfl, trivial⟩ ?_
              refine at_then_normal ?_
              refine at_ret ?_
              have K := of_some hF
              subst K
              exact at_return1 rfl rfl (fun w1 hw => ⟨rfl, hw.below⟩)
          · refine at_fix (g := 55) rfl h15 ?_
            refine at_guard_no rfl rfl rfl rfl rfl ?_
            refine at_guard_no rfl rfl rfl rfl rfl ?_
            refine at_guard_no rfl rfl rfl rfl rfl ?_
            refine at_guard_no rfl rfl rfl rfl rfl ?_
            refine at_val rfl rfl rfl (r_pick rfl rfl rfl) ?_
            refine at_val rfl rfl rfl (r_move rfl) ?_
            refine at_guard_no rfl rfl rfl rfl rfl ?_
            refine at_guard_no rfl rfl rfl rfl rfl ?_
            refine at_guard_undef rfl rfl rfl rfl ?_
            refine at_guard_undef rfl rfl rfl rfl ?_
            refine at_guard_no rfl rfl rfl rfl rfl ?_
            refine at_val rfl rfl rfl (r_pick rfl rfl rfl) ?_
            refine at_val rfl rfl rfl (r_move rfl) ?_
            refine at_guard_no rfl rfl rfl rfl rfl ?_
            refine at_val rfl rfl rfl (r_pick rfl rfl rfl) ?_
            refine at_val rfl rfl rfl (r_assign rfl) ?_
            refine at_nil ?_
            refine at_drop (H := _) .z ?_
            refine at_drop (H := _) .z ?_
            refine at_drop (H := _) .z ?_
            refine at_drop (H := _) .z ?_
            refine at_weak [(4, _)] ⟨rfl, trivial⟩ ?_
            refine at_then_normal ?_
            refine at_ret ?_
            have K := of_some hF
            subst K
            exact at_return1 rfl rfl (fun w1 hw => ⟨rfl, hw.below⟩)
        · refine at_fix (g := 50) rfl h14 ?_
          refine at_guard_no rfl rfl rfl rfl rfl ?_
          refine at_guard_no rfl rfl rfl rfl rfl ?_
          refine at_guard_no rfl rfl rfl rfl rfl ?_
          refine at_val rfl rfl rfl (r_pick rfl rfl rfl) ?_
          refine at_val rfl rfl rfl (r_move rfl) ?_
          refine at_guard_no rfl rfl rfl rfl rfl ?_
          refine at_guard_no rfl rfl rfl rfl rfl ?_
          refine at_guard_no rfl rfl rfl rfl rfl ?_
          refine at_guard_no rfl rfl rfl rfl rfl ?_
          refine at_val rfl rfl rfl (r_pick rfl rfl rfl) ?_
          refine at_val rfl rfl rfl (r_move rfl) ?_
          refine at_guard_no rfl rfl rfl rfl rfl ?_
          refine at_guard_no rfl rfl rfl rfl rfl ?_
          refine at_guard_undef rfl rfl rfl rfl ?_
          refine at_guard_undef rfl rfl rfl rfl ?_
          refine at_guard_no rfl rfl rfl rfl rfl ?_
          refine at_val rfl rfl rfl (r_pick rfl rfl rfl) ?_
          refine at_val rfl rfl rfl (r_move rfl) ?_
          refine at_guard_no rfl rfl rfl rfl rfl ?_
          refine at_val rfl rfl rfl (r_pick rfl rfl rfl) ?_
          refine at_val rfl rfl rfl (r_assign rfl) ?_
          refine at_nil ?_
          refine at_drop (H := _) .z ?_
          refine at_drop (H := _) .z ?_
          refine at_drop (H := _) .z ?_
          refine at_drop (H := _) .z ?_
          refine at_weak [(4, _)] ⟨rfl, trivial⟩ ?_
          refine at_then_normal ?_
          refine at_ret ?_
          have K := of_some hF
          subst K
          exact at_return1 rfl rfl (fun w1 hw => ⟨rfl, hw.below⟩)
      · refine at_fix (g := 45) rfl h13 ?_
        refine at_guard_no rfl rfl rfl rfl rfl ?_
        refine at_guard_no rfl rfl rfl rfl rfl ?_
        refine at_guard_no rfl rfl rfl rfl rfl ?_
        refine at_val rfl rfl rfl (r_pick rfl rfl rfl) ?_
        refine at_val rfl rfl rfl (r_move rfl) ?_
        refine at_guard_no rfl rfl rfl rfl rfl ?_
        refine at_guard_no rfl rfl rfl rfl rfl ?_
        refine at_guard_no rfl rfl rfl rfl rfl ?_
        refine at_val rfl rfl rfl (r_pick rfl rfl rfl) ?_
        refine at_val rfl rfl rfl (r_move rfl) ?_
        refine at_guard_no rfl rfl rfl rfl rfl ?_
        refine at_guard_no rfl rfl rfl rfl rfl ?_
        refine at_guard_no rfl rfl rfl rfl rfl ?_
        refine at_guard_no rfl rfl rfl rfl rfl ?_
        refine at_val rfl rfl rfl (r_pick rfl rfl rfl) ?_
        refine at_val rfl rfl rfl (r_move rfl) ?_
        refine at_guard_no rfl rfl rfl rfl rfl ?_
        refine at_guard_no rfl rfl rfl rfl rfl ?_
        refine at_guard_undef rfl rfl rfl rfl ?_
        refine at_guard_undef rfl rfl rfl rfl ?_
        refine at_guard_no rfl rfl rfl rfl rfl ?_
        refine at_val rfl rfl rfl (r_pick rfl rfl rfl) ?_
        refine at_val rfl rfl rfl (r_move rfl) ?_
        refine at_guard_no rfl rfl rfl rfl rfl ?_
        refine at_val rfl rfl rfl (r_pick rfl rfl rfl) ?_
        refine at_val rfl rfl rfl (r_assign rfl) ?_
        refine at_nil ?_
        refine at_drop (H := _) .z ?_
        refine at_drop (H := _) .z ?_
        refine at_drop (H := _) .z ?_
        refine at_drop (H := _) .z ?_
        refine at_weak [(4, _)] ⟨rfl, trivial⟩ ?_
        refine at_then_normal ?_
        refine at_ret ?_
        have K := of_some hF
        subst K
        exact at_return1 rfl rfl (fun w1 hw => ⟨rfl, hw.below⟩)

def addr_Bytes (x0 : S_api_Addr) : Option (List Int) :=
  addr_Width x0 >>= fun t2 => if (0 : Int) ≤ 0 ∧ 0 ≤ wr .i64 (Int.tdiv t2 8) ∧ wr .i64 (Int.tdiv t2 8) ≤ (16 : Int) then if (0 + List.length (lsub (Vector.toList x0.f_B) 0 (wr .i64 (Int.tdiv t2 8)))) * 1 ≤ 140737488355328 then some (lsub (Vector.toList x0.f_B) 0 (wr .i64 (Int.tdiv t2 8))) else none else none
theorem addr_Bytes_ok (x0 : S_api_Addr) (r : List Int) (hF : addr_Bytes x0 = some r) (w : World) :
    Calls Tryd.prog 34 #[.agg (Cd.cs c_api_Addr x0).toArray] w (fun e w' => ∃ p cap, e = .returned (.slice p r.length cap) ∧ Own (cInt .u8) 5 w.heap.size w' p cap r ∧ Below w.heap.size w w') := by
  unfold addr_Bytes at hF
  refine calls_enter (l := [.agg (Cd.cs c_api_Addr x0).toArray]) Tryd.func34 rfl rfl rfl ?_
  refine at_start ?_
  refine at_weak [(0, _)] ⟨rfl, trivial⟩ ?_
  refine at_seq ?_
  refine at_region ?_
  refine at_box (cs := Cd.cs c_api_Addr x0) rfl rfl rfl ?_
  intro b1
  refine at_val rfl rfl rfl (r_assign rfl) ?_
  refine at_nil ?_
  refine at_weak [(1, _)] ⟨rfl, trivial⟩ ?_
  refine at_then_normal ?_
  refine at_seq ?_
  refine at_region ?_
  refine at_val rfl rfl rfl (r_fieldAddr (fo := 1) Tryd.underlying24 rfl rfl (fun w => ⟨_, Tryd.sizeOf22 w⟩) rfl) ?_
  refine at_val rfl rfl rfl (r_load_aggc (c := c_api_Addr) (z := x0) Tryd.isAgg24 Tryd.sizeOf24 rfl (lens_cell .z (Lens.whole _ _))) ?_
  obtain ⟨t2, ht2, hF⟩ := of_bindM hF
  refine at_callB Tryd.func40 rfl (by kernel_rfl) rfl rfl (fun w hw => addr_Width_ok _ _ ht2 w) ?_
  refine at_val rfl rfl rfl (r_iquo rfl rfl (by decide)) ?_
  obtain ⟨h3, hF⟩ := of_guard hF
  refine at_val rfl rfl rfl (r_view (c := (cInt .u8)) (v := x0.f_B) (l := 0) (h := wr .i64 (Int.tdiv t2 8)) Tryd.underlying22 Tryd.sizeOf5 rfl rfl ⟨_, rfl⟩ h3) ?_
  obtain ⟨h4, hF⟩ := of_guard hF
  refine at_callO (c := (cInt .u8)) (e := 5) (ys := lsub (Vector.toList x0.f_B) 0 (wr .i64 (Int.tdiv t2 8))) (V := fun p cap => .slice p (lsub (Vector.toList x0.f_B) 0 (wr .i64 (Int.tdiv t2 8))).length cap) Tryd.func71 rfl (by kernel_rfl) rfl rfl (fun w1 hw => clone_ok _ h4 _ _ w1 (Row.sub (lens_row .z (Lens.comp (Lens.whole _ _) (fun z => { x0 with f_B := z }) (c_api_Addr_f_B x0)) hw) (vbnd h3))) ?_
  intro p5 c6
  refine at_val rfl rfl rfl (r_assign rfl) ?_
  refine at_nil ?_
  refine at_drop (H := _) (.s .z) ?_
  refine at_weak [(2, _)] ⟨rfl, trivial⟩ ?_
  refine at_then_normal ?_
  refine at_ret ?_
  have K := of_some hF
  subst K
  exact at_return1 rfl rfl (fun w1 hw => ⟨p5, c6, rfl, hw.own .z, hw.below⟩)

def crawlwayref01_Same.l0 (x0 : List Int) (x1 : List Int) (i3 : Int) : Option (Ctl (Bool) (Unit)) :=
  if (decide (i3 < (x0.length : Int))) = true then (if (0 : Int) ≤ i3 ∧ i3 < (x0.length : Int) then if (0 : Int) ≤ i3 ∧ i3 < (x1.length : Int) then if (lget x0 i3 != lget x1 i3) = true then (some (.ret false)) else (crawlwayref01_Same.l0 x0 x1 (wr .i64 (i3 + 1))) else none else none) else (some (.nx ()))
  partial_fixpoint
def crawlwayref01_Same (x0 : List Int) (x1 : List Int) : Option (Bool) :=
  if ((x0.length : Int) != (x1.length : Int)) = true then (some false) else (crawlwayref01_Same.l0 x0 x1 0 >>= fun q2 => match q2 with | .ret r' => some r' | .nx sq2 => (some true))
theorem crawlwayref01_Same_ok (x0 : List Int) (p0_ : Option Addr) (c0_ : Nat) (x1 : List Int) (p1_ : Option Addr) (c1_ : Nat) (r : Bool) (hF : crawlwayref01_Same x0 x1 = some r) (w : World) (hr0 : Row (cInt .u8) w p0_ c0_ x0) (hr1 : Row (cInt .u8) w p1_ c1_ x1) :
    Calls Tryd.prog 37 #[.slice p0_ x0.length c0_, .slice p1_ x1.length c1_] w (fun e w' => e = .returned (.bool r) ∧ Below w.heap.size w w') := by
  unfold crawlwayref01_Same at hF
  refine calls_enter (l := [.slice p0_ x0.length c0_, .slice p1_ x1.length c1_]) Tryd.func37 rfl rfl rfl ?_
  refine at_start ?_
  refine at_weak [(0, _), (1, _)] ⟨rfl, rfl, trivial⟩ ?_
  refine at_seq ?_
  refine at_region ?_
  refine at_val rfl rfl rfl (r_assign rfl) ?_
  refine at_nil ?_
  refine at_weak [(0, _), (1, _)] ⟨rfl, rfl, trivial⟩ ?_
  refine at_then_normal ?_
  refine at_seq ?_
  refine at_seq ?_
  refine at_region ?_
  refine at_val rfl rfl rfl (r_move rfl) ?_
  refine at_val rfl rfl rfl (r_len_sl Tryd.underlying33 rfl) ?_
  refine at_val rfl rfl rfl (r_move rfl) ?_
  refine at_val rfl rfl rfl (r_len_sl Tryd.underlying33 rfl) ?_
  refine at_val rfl rfl rfl (r_ineq rfl rfl) ?_
  refine at_nil ?_
  refine at_weak [(0, _), (1, _), (10, _)] ⟨rfl, rfl, rfl, trivial⟩ ?_
  refine at_then_normal ?_
  rcases of_ite hF with ⟨h1, hF⟩ | ⟨h1, hF⟩
  · refine at_cond_true rfl h1 ?_
    refine at_seq ?_
    refine at_region ?_
    refine at_val rfl rfl rfl (r_assign rfl) ?_
    refine at_nil ?_
    refine at_weak [(4, _)] ⟨rfl, trivial⟩ ?_
    refine at_then_normal ?_
    refine at_ret ?_
    refine at_then_ret ?_
    have K := of_some hF
    subst K
    exact at_return1 rfl rfl (fun w1 hw => ⟨rfl, hw.below⟩)
  · refine at_cond_false rfl h1 ?_
    refine at_skip ?_
    refine at_then_normal ?_
    refine at_seq ?_
    refine at_seq ?_
    refine at_region ?_
    refine at_val rfl rfl rfl (r_assign rfl) ?_
    refine at_nil ?_
    refine at_weak [(0, _), (1, _), (5, _)] ⟨rfl, rfl, rfl, trivial⟩ ?_
    refine at_then_normal ?_
    refine at_block ?_
    obtain ⟨q2, hq2, hF⟩ := of_bindM hF
    refine at_weak [(0, _), (1, _), (5, _)] ⟨rfl, rfl, rfl, trivial⟩ ?_
    refine at_loop_r (B := 0) (r := r) (q := q2) (A := fun (_ : Unit) Y => At 26 [] (Wd w []) Y) ?_ ?_
    · intro K
      refine crawlwayref01_Same.l0.partial_correctness x0 x1 (motive := fun i3 x => KR (fun (_ : Unit) Y => At 26 [] (Wd w []) Y) _ 0 r x → Round (fun Y => At 26 [(0, .slice p0_ x0.length c0_), (1, .slice p1_ x1.length c1_), (5, .int .i64 i3)] (Wd w []) Y) _ _ _) ?_ _ _ hq2 K
      · clear K hF
        intro g ih i3 x hF K
        refine at_round ?_
        refine at_seq ?_
        refine at_seq ?_
        refine at_region ?_
        refine at_val rfl rfl rfl (r_move rfl) ?_
        refine at_val rfl rfl rfl (r_move rfl) ?_
        refine at_val rfl rfl rfl (r_len_sl Tryd.underlying33 rfl) ?_
        refine at_val rfl rfl rfl (r_ilss rfl rfl) ?_
        refine at_nil ?_
        refine at_weak [(0, _), (1, _), (5, _), (14, _)] ⟨rfl, rfl, rfl, rfl, trivial⟩ ?_
        refine at_then_normal ?_
        rcases of_ite hF with ⟨h4, hF⟩ | ⟨h4, hF⟩
        · refine at_cond_true rfl h4 ?_
          refine at_skip ?_
          refine at_then_normal ?_
          refine at_seq ?_
          refine at_block ?_
          refine at_seq ?_
          refine at_draw (by kernel_rfl) (by kernel_rfl) (fun _ h => h.drew) ?_
          refine atq_val rfl rfl rfl (r_move rfl) ?_
          refine atq_val rfl rfl rfl (r_move rfl) ?_
          obtain ⟨h5, hF⟩ := of_guard hF
          obtain ⟨b7, o8, hp6⟩ := row_ptr hr0 h5
          refine atq_val rfl rfl rfl (r_idx Tryd.underlying33 Tryd.sizeOf5 rfl rfl h5 hp6) ?_
          refine atq_val rfl rfl rfl (r_load_cell Tryd.isAgg5 rfl (row_cell0 (fun _ h => h.below) hr0 h5 hp6 rfl)) ?_
          refine atq_val rfl rfl rfl (r_move rfl) ?_
          refine atq_val rfl rfl rfl (r_move rfl) ?_
          obtain ⟨h9, hF⟩ := of_guard hF
          obtain ⟨b11, o12, hp10⟩ := row_ptr hr1 h9
          refine atq_val rfl rfl rfl (r_idx Tryd.underlying33 Tryd.sizeOf5 rfl rfl h9 hp10) ?_
          refine atq_val rfl rfl rfl (r_load_cell Tryd.isAgg5 rfl (row_cell0 (fun _ h => h.below) hr1 h9 hp10 rfl)) ?_
          refine atq_val rfl rfl rfl (r_ineq rfl rfl) ?_
          refine atq_nil ?_
          refine at_weak [(0, _), (1, _), (5, _), (25, _)] ⟨rfl, rfl, rfl, rfl, trivial⟩ ?_
          refine at_then_normal ?_
          rcases of_ite hF with ⟨h13, hF⟩ | ⟨h13, hF⟩
          · refine at_cond_true rfl h13 ?_
            refine at_seq ?_
            refine at_region ?_
            refine at_val rfl rfl rfl (r_assign rfl) ?_
            refine at_nil ?_
            refine at_weak [(4, _)] ⟨rfl, trivial⟩ ?_
            refine at_then_normal ?_
            refine at_ret ?_
            refine at_blk_ret (at_then_ret (at_then_ret (at_blk_ret (at_then_ret ?_))))
            obtain rfl := of_some hF
            subst K
            exact at_return1 rfl rfl (fun w1 hw => ⟨rfl, hw.below⟩)
          · refine at_cond_false rfl h13 ?_
            refine at_skip ?_
            refine at_blk_normal (at_then_normal ?_)
            refine at_region ?_
            refine at_val rfl rfl rfl (r_move rfl) ?_
            refine at_val rfl rfl rfl (r_iadd rfl rfl) ?_
            refine at_val rfl rfl rfl (r_assign rfl) ?_
            refine at_nil ?_
            refine at_weak [(0, _), (1, _), (5, _)] ⟨rfl, rfl, rfl, trivial⟩ ?_
            refine at_then_normal ?_
            exact at_weak_k (ih _ _ hF K) ⟨rfl, rfl, rfl, trivial⟩
        · refine at_cond_false rfl h4 ?_
          refine at_exit ?_
          refine at_then_exit (at_then_exit ?_)
          obtain rfl := of_some hF
          exact at_weak_k K trivial
    · cases q2 with
      | ret r' => exact of_some hF
      | nx sq2 =>
        skip
        refine at_blk_same ?_
        refine at_then_normal ?_
        refine at_seq ?_
        refine at_region ?_
        refine at_val rfl rfl rfl (r_assign rfl) ?_
        refine at_nil ?_
        refine at_weak [(4, _)] ⟨rfl, trivial⟩ ?_
        refine at_then_normal ?_
        refine at_ret ?_
        have K := of_some hF
        subst K
        exact at_return1 rfl rfl (fun w1 hw => ⟨rfl, hw.below⟩)

def crawlwayref10_Bytes.l0 (x0 : S_api_Addr) (i5 : List Int) (i6 : Int) : Option (List Int) :=
  crawlwayref10_Width x0 >>= fun t11 => if (decide (i6 < wr .i64 (Int.tdiv t11 8))) = true then (if (0 : Int) ≤ i6 ∧ i6 < 16 then if (i5.length + 1) * 1 ≤ 140737488355328 then crawlwayref10_Bytes.l0 x0 (i5 ++ [vget x0.f_B i6]) (wr .i64 (i6 + 1)) else none else none) else (some i5)
  partial_fixpoint
def crawlwayref10_Bytes (x0 : S_api_Addr) : Option (List Int) :=
  crawlwayref10_Bytes.l0 x0 ([] : List Int) 0 >>= fun q4 => some q4
theorem crawlwayref10_Bytes_ok (x0 : S_api_Addr) (r : List Int) (hF : crawlwayref10_Bytes x0 = some r) (w : World) :
    Calls Tryd.prog 38 #[.agg (Cd.cs c_api_Addr x0).toArray] w (fun e w' => ∃ p cap, e = .returned (.slice p r.length cap) ∧ Own (cInt .u8) 5 w.heap.size w' p cap r ∧ Below w.heap.size w w') := by
  unfold crawlwayref10_Bytes at hF
  refine calls_enter (l := [.agg (Cd.cs c_api_Addr x0).toArray]) Tryd.func38 rfl rfl rfl ?_
  refine at_start ?_
  refine at_weak [(0, _)] ⟨rfl, trivial⟩ ?_
  refine at_seq ?_
  refine at_region ?_
  refine at_box (cs := Cd.cs c_api_Addr x0) rfl rfl rfl ?_
  intro b1
  refine at_val rfl rfl rfl (r_assign rfl) ?_
  refine at_nil ?_
  refine at_weak [(1, _)] ⟨rfl, trivial⟩ ?_
  refine at_then_normal ?_
  refine at_seq ?_
  refine at_region ?_
  refine at_val rfl rfl rfl (r_assign rfl) ?_
  refine at_nil ?_
  refine at_weak [(1, _), (3, _)] ⟨rfl, rfl, trivial⟩ ?_
  refine at_then_normal ?_
  refine at_seq ?_
  refine at_seq ?_
  refine at_region ?_
  refine at_val rfl rfl rfl (r_assign rfl) ?_
  refine at_nil ?_
  refine at_weak [(1, _), (3, _), (4, _)] ⟨rfl, rfl, rfl, trivial⟩ ?_
  refine at_then_normal ?_
  refine at_block ?_
  refine at_own_nil (cInt .u8) 5 ?_
  refine at_weak [(1, _), (3, .slice none ([] : List Int).length 0), (4, _)] ⟨rfl, rfl, rfl, trivial⟩ ?_
  obtain ⟨q4, hq4, hF⟩ := of_bindM hF
  refine at_weak [(1, _), (3, _), (4, _)] ⟨rfl, rfl, rfl, trivial⟩ ?_
  refine at_loop_n (B := 0) (A := fun Y => ∀ (p9 : Option Addr) (c10 : Nat), At 20 [(3, .slice p9 q4.length c10)] (Wd w [rowE (cInt .u8) 5 p9 c10 q4]) Y) ?_ ?_
  · intro K
    refine crawlwayref10_Bytes.l0.partial_correctness x0 (motive := fun i5 i6 x => KN (fun Y => ∀ (p9 : Option Addr) (c10 : Nat), At 20 [(3, .slice p9 x.length c10)] (Wd w [rowE (cInt .u8) 5 p9 c10 x]) Y) _ 0 → Round (fun Y => ∀ (p7 : Option Addr) (c8 : Nat), At 20 [(1, .pointer (some ⟨b1, 0, none⟩)), (3, .slice p7 i5.length c8), (4, .int .i64 i6)] (Wd w [rowE (cInt .u8) 5 p7 c8 i5, cellsE b1 (Cd.cs c_api_Addr x0) 24]) Y) _ _ _) ?_ _ _ _ hq4 K none 0
    · clear K hF
      intro g ih i5 i6 x hF K p7 c8
      refine at_round ?_
      refine at_seq ?_
      refine at_seq ?_
      refine at_region ?_
      refine at_val rfl rfl rfl (r_move rfl) ?_
      refine at_val rfl rfl rfl (r_load_aggc (c := c_api_Addr) (z := x0) Tryd.isAgg24 Tryd.sizeOf24 rfl (lens_cell (.s .z) (Lens.whole _ _))) ?_
      obtain ⟨t11, ht11, hF⟩ := of_bindM hF
      refine at_callB Tryd.func29 rfl (by kernel_rfl) rfl rfl (fun w hw => crawlwayref10_Width_ok _ _ ht11 w) ?_
      refine at_val rfl rfl rfl (r_iquo rfl rfl (by decide)) ?_
      refine at_val rfl rfl rfl (r_ilss rfl rfl) ?_
      refine at_nil ?_
      refine at_weak [(1, _), (3, _), (4, _), (9, _)] ⟨rfl, rfl, rfl, rfl, trivial⟩ ?_
      refine at_then_normal ?_
      rcases of_ite hF with ⟨h12, hF⟩ | ⟨h12, hF⟩
      · refine at_cond_true rfl h12 ?_
        refine at_skip ?_
        refine at_then_normal ?_
        refine at_seq ?_
        refine at_block ?_
        refine at_region ?_
        refine at_val rfl rfl rfl (r_move rfl) ?_
        refine at_val rfl rfl rfl (r_move rfl) ?_
        refine at_val rfl rfl rfl (r_fieldAddr (fo := 1) Tryd.underlying24 rfl rfl (fun w => ⟨_, Tryd.sizeOf22 w⟩) rfl) ?_
        obtain ⟨h13, hF⟩ := of_guard hF
        refine at_val rfl rfl rfl (r_idxArr Tryd.underlying22 Tryd.sizeOf5 rfl rfl h13) ?_
        refine at_val rfl rfl rfl (r_load_cell Tryd.isAgg5 rfl (lens_cell0 (c := (cInt .u8)) (y := vget x0.f_B i6) (.s .z) (Lens.comp (Lens.comp (Lens.whole _ _) (fun z => { x0 with f_B := z }) (c_api_Addr_f_B x0)) (fun z => vset x0.f_B i6 z) (Lens.vec (cInt .u8) (by decide) x0.f_B i6 h13)) rfl)) ?_
        refine at_lit (cs := (cInt .u8).all ([vget x0.f_B i6] : List Int)) Tryd.underlying33 Tryd.sizeOf5 Tryd.zeroValue5 rfl rfl rfl (by kernel_rfl) rfl ?_
        intro b14
        obtain ⟨h15, hF⟩ := of_guard hF
        refine at_append (z := .int .u8 0) (c := (cInt .u8)) (ys := ([vget x0.f_B i6] : List Int)) (.s .z) Tryd.underlying33 infoG65 (by kernel_rfl) (by kernel_rfl) rfl rfl rfl rfl (fun _ hw => cells_src (hw.ok (Upd.mem .z))) (by kernel_rfl) h15 (app_small h15) rfl ?_
        intro p16 c17
        refine at_val rfl rfl rfl (r_assign rfl) ?_
        refine at_nil ?_
        refine at_drop (H := _) .z ?_
        refine at_weak [(1, _), (3, _), (4, _)] ⟨rfl, rfl, rfl, trivial⟩ ?_
        refine at_blk_normal (at_then_normal ?_)
        refine at_region ?_
        refine at_val rfl rfl rfl (r_move rfl) ?_
        refine at_val rfl rfl rfl (r_iadd rfl rfl) ?_
        refine at_val rfl rfl rfl (r_assign rfl) ?_
        refine at_nil ?_
        refine at_weak [(1, _), (3, _), (4, _)] ⟨rfl, rfl, rfl, trivial⟩ ?_
        refine at_then_normal ?_
        exact at_weak_k (ih _ _ _ hF K p16 c17) ⟨rfl, rfl, rfl, trivial⟩
      · refine at_cond_false rfl h12 ?_
        refine at_exit ?_
        refine at_then_exit (at_then_exit ?_)
        refine at_drop (H := _) (.s .z) ?_
        obtain rfl := of_some hF
        exact at_weak_k (K p7 c8) ⟨rfl, trivial⟩
  · skip
    intro p9 c10
    refine at_blk_same ?_
    refine at_then_normal ?_
    refine at_seq ?_
    refine at_region ?_
    refine at_val rfl rfl rfl (r_move rfl) ?_
    refine at_val rfl rfl rfl (r_assign rfl) ?_
    refine at_nil ?_
    refine at_weak [(2, _)] ⟨rfl, trivial⟩ ?_
    refine at_then_normal ?_
    refine at_ret ?_
    have K := of_some hF
    subst K
    exact at_return1 rfl rfl (fun w1 hw => ⟨p9, c10, rfl, hw.own .z, hw.below⟩)

def crawlwayref10_Text (x0 : S_api_Addr) : Option (ByteArray) :=
  crawlwayref10_Right x0 >>= fun t2 => if (!t2) = true then (some (⟨#[]⟩)) else (if (x0.f_V == 6) = true then (crawlwayref09_Text x0.f_B >>= fun t5 => some t5) else (crawlwayref08_Text (vset (vset (vset (vset (Vector.replicate 4 (0 : Int) : (Vector Int 4)) 0 (vget x0.f_B 0)) 1 (vget x0.f_B 1)) 2 (vget x0.f_B 2)) 3 (vget x0.f_B 3)) >>= fun t6 => some t6))
theorem crawlwayref10_Text_ok (x0 : S_api_Addr) (r : ByteArray) (hF : crawlwayref10_Text x0 = some r) (w : World) :
    Calls Tryd.prog 39 #[.agg (Cd.cs c_api_Addr x0).toArray] w (fun e w' => e = .returned (.string r) ∧ Below w.heap.size w w') := by
  unfold crawlwayref10_Text at hF
  refine calls_enter (l := [.agg (Cd.cs c_api_Addr x0).toArray]) Tryd.func39 rfl rfl rfl ?_
  refine at_start ?_
  refine at_weak [(0, _)] ⟨rfl, trivial⟩ ?_
  refine at_seq ?_
  refine at_region ?_
  refine at_box (cs := Cd.cs c_api_Addr x0) rfl rfl rfl ?_
  intro b1
  refine at_val rfl rfl rfl (r_assign rfl) ?_
  refine at_nil ?_
  refine at_weak [(1, _)] ⟨rfl, trivial⟩ ?_
  refine at_then_normal ?_
  refine at_seq ?_
  refine at_seq ?_
  refine at_region ?_
  refine at_val rfl rfl rfl (r_load_aggc (c := c_api_Addr) (z := x0) Tryd.isAgg24 Tryd.sizeOf24 rfl (lens_cell .z (Lens.whole _ _))) ?_
  obtain ⟨t2, ht2, hF⟩ := of_bindM hF
  refine at_callB Tryd.func26 rfl (by kernel_rfl) rfl rfl (fun w hw => crawlwayref10_Right_ok _ _ ht2 w) ?_
  refine at_val rfl rfl rfl (r_not rfl) ?_
  refine at_nil ?_
  refine at_weak [(1, _), (5, _)] ⟨rfl, rfl, trivial⟩ ?_
  refine at_then_normal ?_
  rcases of_ite hF with ⟨h3, hF⟩ | ⟨h3, hF⟩
  · refine at_cond_true rfl h3 ?_
    refine at_seq ?_
    refine at_region ?_
    refine at_val rfl rfl rfl (r_assign rfl) ?_
    refine at_nil ?_
    refine at_drop (H := _) .z ?_
    refine at_weak [(2, _)] ⟨rfl, trivial⟩ ?_
    refine at_then_normal ?_
    refine at_ret ?_
    refine at_then_ret ?_
    have K := of_some hF
    subst K
    exact at_return1 rfl rfl (fun w1 hw => ⟨rfl, hw.below⟩)
  · refine at_cond_false rfl h3 ?_
    refine at_skip ?_
    refine at_then_normal ?_
    refine at_seq ?_
    refine at_seq ?_
    refine at_region ?_
    refine at_val rfl rfl rfl (r_fieldAddr (fo := 0) Tryd.underlying24 rfl rfl (fun w => ⟨_, Tryd.sizeOf3 w⟩) rfl) ?_
    refine at_val rfl rfl rfl (r_load_cell Tryd.isAgg3 rfl (lens_cell0 (c := (cInt .i64)) (y := x0.f_V) .z (Lens.comp (Lens.whole _ _) (fun z => { x0 with f_V := z }) (c_api_Addr_f_V x0)) rfl)) ?_
    refine at_val rfl rfl rfl (r_ieql rfl rfl) ?_
    refine at_nil ?_
    refine at_weak [(1, _), (8, _)] ⟨rfl, rfl, trivial⟩ ?_
    refine at_then_normal ?_
    rcases of_ite hF with ⟨h4, hF⟩ | ⟨h4, hF⟩
    · refine at_cond_true rfl h4 ?_
      refine at_seq ?_
      refine at_region ?_
      refine at_val rfl rfl rfl (r_fieldAddr (fo := 1) Tryd.underlying24 rfl rfl (fun w => ⟨_, Tryd.sizeOf22 w⟩) rfl) ?_
      refine at_val rfl rfl rfl (r_load_aggc (c := (cVec (cInt .u8) 16 (by decide))) (z := x0.f_B) Tryd.isAgg22 Tryd.sizeOf22 rfl (lens_cell .z (Lens.comp (Lens.whole _ _) (fun z => { x0 with f_B := z }) (c_api_Addr_f_B x0)))) ?_
      obtain ⟨t5, ht5, hF⟩ := of_bindM hF
      refine at_callB Tryd.func61 rfl (by kernel_rfl) rfl rfl (fun w hw => crawlwayref09_Text_ok _ _ ht5 w) ?_
      refine at_val rfl rfl rfl (r_assign rfl) ?_
      refine at_nil ?_
      refine at_drop (H := _) .z ?_
      refine at_weak [(2, _)] ⟨rfl, trivial⟩ ?_
      refine at_then_normal ?_
      refine at_ret ?_
      refine at_then_ret ?_
      have K := of_some hF
      subst K
      exact at_return1 rfl rfl (fun w1 hw => ⟨rfl, hw.below⟩)
    · refine at_cond_false rfl h4 ?_
      refine at_skip ?_
      refine at_then_normal ?_
      refine at_seq ?_
      refine at_region ?_
      refine at_val rfl rfl rfl (r_fieldAddr (fo := 1) Tryd.underlying24 rfl rfl (fun w => ⟨_, Tryd.sizeOf22 w⟩) rfl) ?_
      refine at_val rfl rfl rfl (r_idxArr Tryd.underlying22 Tryd.sizeOf5 rfl rfl (by decide)) ?_
      refine at_val rfl rfl rfl (r_load_cell Tryd.isAgg5 rfl (lens_cell0 (c := (cInt .u8)) (y := vget x0.f_B 0) .z (Lens.comp (Lens.comp (Lens.whole _ _) (fun z => { x0 with f_B := z }) (c_api_Addr_f_B x0)) (fun z => vset x0.f_B 0 z) (Lens.vec (cInt .u8) (by decide) x0.f_B 0 (by decide))) rfl)) ?_
      refine at_val rfl rfl rfl (r_fieldAddr (fo := 1) Tryd.underlying24 rfl rfl (fun w => ⟨_, Tryd.sizeOf22 w⟩) rfl) ?_
      refine at_val rfl rfl rfl (r_idxArr Tryd.underlying22 Tryd.sizeOf5 rfl rfl (by decide)) ?_
      refine at_val rfl rfl rfl (r_load_cell Tryd.isAgg5 rfl (lens_cell0 (c := (cInt .u8)) (y := vget x0.f_B 1) .z (Lens.comp (Lens.comp (Lens.whole _ _) (fun z => { x0 with f_B := z }) (c_api_Addr_f_B x0)) (fun z => vset x0.f_B 1 z) (Lens.vec (cInt .u8) (by decide) x0.f_B 1 (by decide))) rfl)) ?_
      refine at_val rfl rfl rfl (r_fieldAddr (fo := 1) Tryd.underlying24 rfl rfl (fun w => ⟨_, Tryd.sizeOf22 w⟩) rfl) ?_
      refine at_val rfl rfl rfl (r_idxArr Tryd.underlying22 Tryd.sizeOf5 rfl rfl (by decide)) ?_
      refine at_val rfl rfl rfl (r_load_cell Tryd.isAgg5 rfl (lens_cell0 (c := (cInt .u8)) (y := vget x0.f_B 2) .z (Lens.comp (Lens.comp (Lens.whole _ _) (fun z => { x0 with f_B := z }) (c_api_Addr_f_B x0)) (fun z => vset x0.f_B 2 z) (Lens.vec (cInt .u8) (by decide) x0.f_B 2 (by decide))) rfl)) ?_
      refine at_val rfl rfl rfl (r_fieldAddr (fo := 1) Tryd.underlying24 rfl rfl (fun w => ⟨_, Tryd.sizeOf22 w⟩) rfl) ?_
      refine at_val rfl rfl rfl (r_idxArr Tryd.underlying22 Tryd.sizeOf5 rfl rfl (by decide)) ?_
      refine at_val rfl rfl rfl (r_load_cell Tryd.isAgg5 rfl (lens_cell0 (c := (cInt .u8)) (y := vget x0.f_B 3) .z (Lens.comp (Lens.comp (Lens.whole _ _) (fun z => { x0 with f_B := z }) (c_api_Addr_f_B x0)) (fun z => vset x0.f_B 3 z) (Lens.vec (cInt .u8) (by decide) x0.f_B 3 (by decide))) rfl)) ?_
      refine at_val rfl rfl rfl (r_build_array (zs := Cd.cs (cVec (cInt .u8) 4 (by decide)) (Vector.replicate 4 (0 : Int) : (Vector Int 4))) (cs := Cd.cs (cVec (cInt .u8) 4 (by decide)) (vset (vset (vset (vset (Vector.replicate 4 (0 : Int) : (Vector Int 4)) 0 (vget x0.f_B 0)) 1 (vget x0.f_B 1)) 2 (vget x0.f_B 2)) 3 (vget x0.f_B 3))) Tryd.underlying47 Tryd.zeroValue47 rfl Tryd.sizeOf5 rfl (fill_step (c := (cInt .u8)) (z := vget x0.f_B 0) rfl (Lens.vec (cInt .u8) (by decide) (Vector.replicate 4 (0 : Int) : (Vector Int 4)) 0 (by decide)) rfl (fill_step (c := (cInt .u8)) (z := vget x0.f_B 1) rfl (Lens.vec (cInt .u8) (by decide) (vset (Vector.replicate 4 (0 : Int) : (Vector Int 4)) 0 (vget x0.f_B 0)) 1 (by decide)) rfl (fill_step (c := (cInt .u8)) (z := vget x0.f_B 2) rfl (Lens.vec (cInt .u8) (by decide) (vset (vset (Vector.replicate 4 (0 : Int) : (Vector Int 4)) 0 (vget x0.f_B 0)) 1 (vget x0.f_B 1)) 2 (by decide)) rfl (fill_step (c := (cInt .u8)) (z := vget x0.f_B 3) rfl (Lens.vec (cInt .u8) (by decide) (vset (vset (vset (Vector.replicate 4 (0 : Int) : (Vector Int 4)) 0 (vget x0.f_B 0)) 1 (vget x0.f_B 1)) 2 (vget x0.f_B 2)) 3 (by decide)) rfl rfl))))) ?_
      obtain ⟨t6, ht6, hF⟩ := of_bindM hF
      refine at_callB Tryd.func73 rfl (by kernel_rfl) rfl rfl (fun w hw => crawlwayref08_Text_ok _ _ ht6 w) ?_
      refine at_val rfl rfl rfl (r_assign rfl) ?_
      refine at_nil ?_
      refine at_drop (H := _) .z ?_
      refine at_weak [(2, _)] ⟨rfl, trivial⟩ ?_
      refine at_then_normal ?_
      refine at_ret ?_
      have K := of_some hF
      subst K
      exact at_return1 rfl rfl (fun w1 hw => ⟨rfl, hw.below⟩)

def crawlwaylaw10_AddrBytes (x0 : S_api_Addr) : Option (Bool) :=
  crawlwayref10_Right x0 >>= fun t2 => addr_Bytes x0 >>= fun t3 => addr_Text x0 >>= fun t6 => addr_Right x0 >>= fun t7 => if (t7 != t2) = true then (some false) else (crawlwayref10_Bytes x0 >>= fun t10 => crawlwayref01_Same t3 t10 >>= fun t13 => if (!t13) = true then (some false) else (crawlwayref10_Text x0 >>= fun t16 => if (!seq t6 t16) = true then (some false) else (addr_Width x0 >>= fun t19 => crawlwayref10_Width x0 >>= fun t20 => if (t19 != t20) = true then (some false) else (if (!t2) = true then (crawlwaylaw10_alive >>= fun t24 => some t24) else (addr_Of t3 >>= fun t25 => addr_Parse t6 >>= fun t27 => addr_Four (vset (vset (vset (vset (Vector.replicate 4 (0 : Int) : (Vector Int 4)) 0 (vget x0.f_B 0)) 1 (vget x0.f_B 1)) 2 (vget x0.f_B 2)) 3 (vget x0.f_B 3)) >>= fun t29 => if (x0.f_V == 6) = true then (addr_Six x0.f_B >>= fun t32 => if (decide (t32 = x0)) = true then (if (decide (t25.1 = x0)) = true then (if (decide (t27.1 = x0)) = true then (if (t25.2 == 0) = true then (if (t27.2 == 0) = true then (crawlwaylaw10_alive >>= fun t38 => some t38) else (some false)) else (some false)) else (some false)) else (some false)) else (some false)) else (if (decide (t29 = x0)) = true then (if (decide (t25.1 = x0)) = true then (if (decide (t27.1 = x0)) = true then (if (t25.2 == 0) = true then (if (t27.2 == 0) = true then (crawlwaylaw10_alive >>= fun t44 => some t44) else (some false)) else (some false)) else (some false)) else (some false)) else (some false)))))))
theorem crawlwaylaw10_AddrBytes_ok (x0 : S_api_Addr) (r : Bool) (hF : crawlwaylaw10_AddrBytes x0 = some r) (w : World) (hg_strconv_ErrRange : GV_strconv_ErrRange w) (hg_strconv_ErrSyntax : GV_strconv_ErrSyntax w) (hg_strconv_uint64pow10 : GV_strconv_uint64pow10 w) :
    Calls Tryd.prog 7 #[.agg (Cd.cs c_api_Addr x0).toArray] w (fun e w' => e = .returned (.bool r) ∧ Below w.heap.size w w') := by
  unfold crawlwaylaw10_AddrBytes at hF
  refine calls_enter (l := [.agg (Cd.cs c_api_Addr x0).toArray]) Tryd.func7 rfl rfl rfl ?_
  refine at_start ?_
  refine at_weak [(0, _)] ⟨rfl, trivial⟩ ?_
  refine at_seq ?_
  refine at_region ?_
  refine at_box (cs := Cd.cs c_api_Addr x0) rfl rfl rfl ?_
  intro b1
  refine at_val rfl rfl rfl (r_assign rfl) ?_
  refine at_nil ?_
  refine at_weak [(1, _)] ⟨rfl, trivial⟩ ?_
  refine at_then_normal ?_
  refine at_seq ?_
  refine at_region ?_
  refine at_val rfl rfl rfl (r_load_aggc (c := c_api_Addr) (z := x0) Tryd.isAgg24 Tryd.sizeOf24 rfl (lens_cell .z (Lens.whole _ _))) ?_
  obtain ⟨t2, ht2, hF⟩ := of_bindM hF
  refine at_callB Tryd.func26 rfl (by kernel_rfl) rfl rfl (fun w hw => crawlwayref10_Right_ok _ _ ht2 w) ?_
  refine at_val rfl rfl rfl (r_assign rfl) ?_
  refine at_nil ?_
  refine at_weak [(1, _), (3, _)] ⟨rfl, rfl, trivial⟩ ?_
  refine at_then_normal ?_
  refine at_seq ?_
  refine at_region ?_
  refine at_val rfl rfl rfl (r_load_aggc (c := c_api_Addr) (z := x0) Tryd.isAgg24 Tryd.sizeOf24 rfl (lens_cell .z (Lens.whole _ _))) ?_
  obtain ⟨t3, ht3, hF⟩ := of_bindM hF
  refine at_callO (c := (cInt .u8)) (e := 5) (ys := t3) (V := fun p cap => .slice p t3.length cap) Tryd.func34 rfl (by kernel_rfl) rfl rfl (fun w hw => addr_Bytes_ok _ _ ht3 w) ?_
  intro p4 c5
  refine at_val rfl rfl rfl (r_assign rfl) ?_
  refine at_nil ?_
  refine at_weak [(1, _), (3, _), (4, _)] ⟨rfl, rfl, rfl, trivial⟩ ?_
  refine at_then_normal ?_
  refine at_seq ?_
  refine at_region ?_
  refine at_val rfl rfl rfl (r_load_aggc (c := c_api_Addr) (z := x0) Tryd.isAgg24 Tryd.sizeOf24 rfl (lens_cell (.s .z) (Lens.whole _ _))) ?_
  obtain ⟨t6, ht6, hF⟩ := of_bindM hF
  refine at_callB Tryd.func35 rfl (by kernel_rfl) rfl rfl (fun w hw => addr_Text_ok _ _ ht6 w (hg_strconv_uint64pow10.on hw.below)) ?_
  refine at_val rfl rfl rfl (r_assign rfl) ?_
  refine at_nil ?_
  refine at_weak [(1, _), (3, _), (4, _), (5, _)] ⟨rfl, rfl, rfl, rfl, trivial⟩ ?_
  refine at_then_normal ?_
  refine at_seq ?_
  refine at_seq ?_
  refine at_weak [(1, _), (3, _), (4, _), (5, _)] ⟨rfl, rfl, rfl, rfl, trivial⟩ ?_
  obtain ⟨t7, ht7, hF⟩ := of_bindM hF
  rcases of_ite hF with ⟨h8, hF⟩ | ⟨h8, hF⟩
  · skip
    refine at_inv [.q 17 (fun g9 => .agg (Cd.cs c_api_Addr x0).toArray) [] 0 0, .q 18 (fun g9 => .bool t7) [0] 0 0, .q 19 (fun g9 => .bool t2) [] 0 0, .q 20 (fun g9 => .bool (t7 != t2)) [1, 2] 0 0, .q 21 (fun g9 => .bool true) [3] 0 0, .q 22 (fun g9 => undef) [4] 0 0, .q 23 (fun g9 => undef) [4] 0 0, .q 24 (fun g9 => undef) [4, 6] 0 0, .q 25 (fun g9 => undef) [4, 5, 7] 0 0, .q 26 (fun g9 => undef) [4, 8] 0 0, .q 27 (fun g9 => .bool true) [4, 9] 0 0, .q 28 (fun g9 => .bool true) [10] 0 0, .q 29 (fun g9 => undef) [11] 0 0, .q 30 (fun g9 => undef) [11] 0 0, .q 31 (fun g9 => undef) [11, 13] 0 0, .q 32 (fun g9 => undef) [11, 12, 14] 0 0, .q 33 (fun g9 => .bool true) [11, 15] 0 0, .q 34 (fun g9 => .bool true) [16] 0 0, .q 35 (fun g9 => undef) [17] 0 0, .q 36 (fun g9 => undef) [17, 18] 0 0, .q 37 (fun g9 => undef) [17] 0 0, .q 38 (fun g9 => undef) [17, 20] 0 0, .q 39 (fun g9 => undef) [17, 19, 21] 0 0, .q 40 (fun g9 => .bool true) [17, 22] 0 0] (fun g9 s => match s with | _ => (Wd w [rowE (cInt .u8) 5 p4 c5 t3, cellsE b1 (Cd.cs c_api_Addr x0) 24])) 0 (by kernel_rfl) (by kernel_rfl) (by kernel_rfl) (by kernel_rfl) (by kernel_rfl) ⟨fun _ _ _ => rfl, fun _ _ _ => rfl, fun _ _ _ => rfl, fun _ _ _ => rfl, fun _ _ _ => rfl, fun _ _ _ => rfl, fun _ _ _ => rfl, fun _ _ _ => rfl, fun _ _ _ => rfl, fun _ _ _ => rfl, fun _ _ _ => rfl, fun _ _ _ => rfl, fun _ _ _ => rfl, fun _ _ _ => rfl, fun _ _ _ => rfl, fun _ _ _ => rfl, fun _ _ _ => rfl, fun _ _ _ => rfl, fun _ _ _ => rfl, fun _ _ _ => rfl, fun _ _ _ => rfl, fun _ _ _ => rfl, fun _ _ _ => rfl, fun _ _ _ => rfl, trivial⟩ (by kernel_rfl) (fun _ h => ⟨fun _ => (0, none, 0), h.drew⟩) ⟨?_, ?_, ?_, ?_, ?_, ?_, ?_, ?_, ?_, ?_, ?_, ?_, ?_, ?_, ?_, ?_, ?_, ?_, ?_, ?_, ?_, ?_, ?_, ?_, trivial⟩ ?_
    · intro Lx g9 s K hl hh k
      show At 98 ((1, _) :: (3, _) :: (4, _) :: (5, _) :: Lx) _ _
      obtain rfl : s = 0 := by omega
      refine at_val rfl rfl rfl (r_load_aggc (c := c_api_Addr) (z := x0) Tryd.isAgg24 Tryd.sizeOf24 rfl (lens_cell (.s .z) (Lens.whole _ _))) ?_
      exact at_nil k
    · intro Lx g9 s K hl hh k
      show At 98 ((17, _) :: (1, _) :: (3, _) :: (4, _) :: (5, _) :: Lx) _ _
      obtain rfl : s = 0 := by omega
      refine at_callB Tryd.func36 rfl (by kernel_rfl) rfl rfl (fun w hw => addr_Right_ok _ _ ht7 w) ?_
      exact at_nil k
    · intro Lx g9 s K hl hh k
      show At 98 ((1, _) :: (3, _) :: (4, _) :: (5, _) :: Lx) _ _
      refine at_val rfl rfl rfl (r_move rfl) ?_
      exact at_nil k
    · intro Lx g9 s K hl hh k
      show At 98 ((18, _) :: (19, _) :: (1, _) :: (3, _) :: (4, _) :: (5, _) :: Lx) _ _
      refine at_val rfl rfl rfl (r_bool Tryd.underlying4 rfl rfl (.inr rfl) rfl) ?_
      exact at_nil k
    · intro Lx g9 s K hl hh k
      show At 98 ((20, _) :: (1, _) :: (3, _) :: (4, _) :: (5, _) :: Lx) _ _
      refine at_val rfl rfl rfl (r_move rfl) ?_
      exact at_nil (at_cast h8 k)
    · intro Lx g9 s K hl hh k
      show At 98 ((21, _) :: (1, _) :: (3, _) :: (4, _) :: (5, _) :: Lx) _ _
      refine at_guard_no rfl rfl rfl rfl rfl ?_
      exact at_nil k
    · intro Lx g9 s K hl hh k
      show At 98 ((21, _) :: (1, _) :: (3, _) :: (4, _) :: (5, _) :: Lx) _ _
      obtain rfl : s = 0 := by omega
      refine at_guard_no rfl rfl rfl rfl rfl ?_
      exact at_nil k
    · intro Lx g9 s K hl hh k
      show At 98 ((21, _) :: (23, _) :: (1, _) :: (3, _) :: (4, _) :: (5, _) :: Lx) _ _
      obtain rfl : s = 0 := by omega
      refine at_guard_no rfl rfl rfl rfl rfl ?_
      exact at_nil k
    · intro Lx g9 s K hl hh k
      show At 98 ((21, _) :: (22, _) :: (24, _) :: (1, _) :: (3, _) :: (4, _) :: (5, _) :: Lx) _ _
      obtain rfl : s = 0 := by omega
      refine at_guard_no rfl rfl rfl rfl rfl ?_
      exact at_nil k
    · intro Lx g9 s K hl hh k
      show At 98 ((21, _) :: (25, _) :: (1, _) :: (3, _) :: (4, _) :: (5, _) :: Lx) _ _
      refine at_guard_no rfl rfl rfl rfl rfl ?_
      exact at_nil k
    · intro Lx g9 s K hl hh k
      show At 98 ((21, _) :: (26, _) :: (1, _) :: (3, _) :: (4, _) :: (5, _) :: Lx) _ _
      refine at_val rfl rfl rfl (r_pick rfl rfl rfl) ?_
      exact at_nil k
    · intro Lx g9 s K hl hh k
      show At 98 ((27, _) :: (1, _) :: (3, _) :: (4, _) :: (5, _) :: Lx) _ _
      refine at_val rfl rfl rfl (r_move rfl) ?_
      exact at_nil k
    · intro Lx g9 s K hl hh k
      show At 98 ((28, _) :: (1, _) :: (3, _) :: (4, _) :: (5, _) :: Lx) _ _
      refine at_guard_no rfl rfl rfl rfl rfl ?_
      exact at_nil k
    · intro Lx g9 s K hl hh k
      show At 98 ((28, _) :: (1, _) :: (3, _) :: (4, _) :: (5, _) :: Lx) _ _
      obtain rfl : s = 0 := by omega
      refine at_guard_no rfl rfl rfl rfl rfl ?_
      exact at_nil k
    · intro Lx g9 s K hl hh k
      show At 98 ((28, _) :: (30, _) :: (1, _) :: (3, _) :: (4, _) :: (5, _) :: Lx) _ _
      obtain rfl : s = 0 := by omega
      refine at_guard_no rfl rfl rfl rfl rfl ?_
      exact at_nil k
    · intro Lx g9 s K hl hh k
      show At 98 ((28, _) :: (29, _) :: (31, _) :: (1, _) :: (3, _) :: (4, _) :: (5, _) :: Lx) _ _
      refine at_guard_no rfl rfl rfl rfl rfl ?_
      exact at_nil k
    · intro Lx g9 s K hl hh k
      show At 98 ((28, _) :: (32, _) :: (1, _) :: (3, _) :: (4, _) :: (5, _) :: Lx) _ _
      refine at_val rfl rfl rfl (r_pick rfl rfl rfl) ?_
      exact at_nil k
    · intro Lx g9 s K hl hh k
      show At 98 ((33, _) :: (1, _) :: (3, _) :: (4, _) :: (5, _) :: Lx) _ _
      refine at_val rfl rfl rfl (r_move rfl) ?_
      exact at_nil k
    · intro Lx g9 s K hl hh k
      show At 98 ((34, _) :: (1, _) :: (3, _) :: (4, _) :: (5, _) :: Lx) _ _
      obtain rfl : s = 0 := by omega
      refine at_guard_no rfl rfl rfl rfl rfl ?_
      exact at_nil k
    · intro Lx g9 s K hl hh k
      show At 98 ((34, _) :: (35, _) :: (1, _) :: (3, _) :: (4, _) :: (5, _) :: Lx) _ _
      obtain rfl : s = 0 := by omega
      refine at_guard_no rfl rfl rfl rfl rfl ?_
      exact at_nil k
    · intro Lx g9 s K hl hh k
      show At 98 ((34, _) :: (1, _) :: (3, _) :: (4, _) :: (5, _) :: Lx) _ _
      obtain rfl : s = 0 := by omega
      refine at_guard_no rfl rfl rfl rfl rfl ?_
      exact at_nil k
    · intro Lx g9 s K hl hh k
      show At 98 ((34, _) :: (37, _) :: (1, _) :: (3, _) :: (4, _) :: (5, _) :: Lx) _ _
      obtain rfl : s = 0 := by omega
      refine at_guard_no rfl rfl rfl rfl rfl ?_
      exact at_nil k
    · intro Lx g9 s K hl hh k
      show At 98 ((34, _) :: (36, _) :: (38, _) :: (1, _) :: (3, _) :: (4, _) :: (5, _) :: Lx) _ _
      refine at_guard_no rfl rfl rfl rfl rfl ?_
      exact at_nil k
    · intro Lx g9 s K hl hh k
      show At 98 ((34, _) :: (39, _) :: (1, _) :: (3, _) :: (4, _) :: (5, _) :: Lx) _ _
      refine at_val rfl rfl rfl (r_pick rfl rfl rfl) ?_
      exact at_nil k
    intro g9
    show At 98 [(17, _), (18, _), (19, _), (20, _), (21, _), (22, _), (23, _), (24, _), (25, _), (26, _), (27, _), (28, _), (29, _), (30, _), (31, _), (32, _), (33, _), (34, _), (35, _), (36, _), (37, _), (38, _), (39, _), (40, _), (1, _), (3, _), (4, _), (5, _)] _ _
    refine at_weak [(1, _), (3, _), (4, _), (5, _), (40, _)] ⟨rfl, rfl, rfl, rfl, rfl, trivial⟩ ?_
    refine at_then_normal ?_
    refine at_cond_true rfl rfl ?_
    refine at_seq ?_
    refine at_region ?_
    refine at_val rfl rfl rfl (r_assign rfl) ?_
    refine at_nil ?_
    refine at_drop (H := _) .z ?_
    refine at_drop (H := _) .z ?_
    refine at_weak [(2, _)] ⟨rfl, trivial⟩ ?_
    refine at_then_normal ?_
    refine at_ret ?_
    refine at_then_ret ?_
    have K := of_some hF
    subst K
    exact at_return1 rfl rfl (fun w1 hw => ⟨rfl, hw.below⟩)
  · skip
    obtain ⟨t10, ht10, hF⟩ := of_bindM hF
    obtain ⟨t13, ht13, hF⟩ := of_bindM hF
    rcases of_ite hF with ⟨h14, hF⟩ | ⟨h14, hF⟩
    · skip
      refine at_inv [.q 17 (fun g15 => .agg (Cd.cs c_api_Addr x0).toArray) [] 0 1, .q 18 (fun g15 => .bool t7) [0] 0 1, .q 19 (fun g15 => .bool t2) [] 0 1, .q 20 (fun g15 => .bool (t7 != t2)) [1, 2] 0 1, .q 21 (fun g15 => .bool false) [3] 0 0, .q 22 (fun g15 => .slice p4 t3.length c5) [4] 0 1, .q 23 (fun g15 => .agg (Cd.cs c_api_Addr x0).toArray) [4] 0 0, .al 0 24 (fun g15 => .slice ((g15 0).2.1) t10.length ((g15 0).2.2)) [4, 6], .q 25 (fun g15 => .bool t13) [4, 5, 7] 1 1, .q 26 (fun g15 => .bool (!t13)) [4, 8] 0 1, .q 27 (fun g15 => .bool (!t13)) [4, 9] 0 1, .q 28 (fun g15 => .bool true) [10] 0 1, .q 29 (fun g15 => undef) [11] 0 1, .q 30 (fun g15 => undef) [11] 0 1, .q 31 (fun g15 => undef) [11, 13] 0 1, .q 32 (fun g15 => undef) [11, 12, 14] 0 1, .q 33 (fun g15 => .bool true) [11, 15] 0 1, .q 34 (fun g15 => .bool true) [16] 0 1, .q 35 (fun g15 => undef) [17] 0 1, .q 36 (fun g15 => undef) [17, 18] 0 1, .q 37 (fun g15 => undef) [17] 0 1, .q 38 (fun g15 => undef) [17, 20] 0 1, .q 39 (fun g15 => undef) [17, 19, 21] 0 1, .q 40 (fun g15 => .bool true) [17, 22] 0 1] (fun g15 s => match s with | 0 => (Wd w [rowE (cInt .u8) 5 p4 c5 t3, cellsE b1 (Cd.cs c_api_Addr x0) 24]) | _ => (Wd w [rowE (cInt .u8) 5 ((g15 0).2.1) ((g15 0).2.2) t10, rowE (cInt .u8) 5 p4 c5 t3, cellsE b1 (Cd.cs c_api_Addr x0) 24])) 1 (by kernel_rfl) (by kernel_rfl) (by kernel_rfl) (by kernel_rfl) (by kernel_rfl) ⟨fun _ _ _ => rfl, fun _ _ _ => rfl, fun _ _ _ => rfl, fun _ _ _ => rfl, fun _ _ _ => rfl, fun _ _ _ => rfl, fun _ _ _ => rfl, fun g15 g2 h => by show (.slice ((g15 0).2.1) t10.length ((g15 0).2.2) : Value) = .slice ((g2 0).2.1) t10.length ((g2 0).2.2); rw [h 0 (show 0 < 1 by decide)], fun _ _ _ => rfl, fun _ _ _ => rfl, fun _ _ _ => rfl, fun _ _ _ => rfl, fun _ _ _ => rfl, fun _ _ _ => rfl, fun _ _ _ => rfl, fun _ _ _ => rfl, fun _ _ _ => rfl, fun _ _ _ => rfl, fun _ _ _ => rfl, fun _ _ _ => rfl, fun _ _ _ => rfl, fun _ _ _ => rfl, fun _ _ _ => rfl, fun _ _ _ => rfl, trivial⟩ (by kernel_rfl) (fun _ h => ⟨fun _ => (0, none, 0), h.drew⟩) ⟨?_, ?_, ?_, ?_, ?_, ?_, ?_, ?_, ?_, ?_, ?_, ?_, ?_, ?_, ?_, ?_, ?_, ?_, ?_, ?_, ?_, ?_, ?_, ?_, trivial⟩ ?_
      · intro Lx g15 s K hl hh k
        show At 98 ((1, _) :: (3, _) :: (4, _) :: (5, _) :: Lx) _ _
        rcases (by omega : s = 0 ∨ s = 1) with rfl | rfl
        · skip
          refine at_val rfl rfl rfl (r_load_aggc (c := c_api_Addr) (z := x0) Tryd.isAgg24 Tryd.sizeOf24 rfl (lens_cell (.s .z) (Lens.whole _ _))) ?_
          exact at_nil k
        · skip
          refine at_val rfl rfl rfl (r_load_aggc (c := c_api_Addr) (z := x0) Tryd.isAgg24 Tryd.sizeOf24 rfl (lens_cell (.s (.s .z)) (Lens.whole _ _))) ?_
          exact at_nil k
      · intro Lx g15 s K hl hh k
        show At 98 ((17, _) :: (1, _) :: (3, _) :: (4, _) :: (5, _) :: Lx) _ _
        rcases (by omega : s = 0 ∨ s = 1) with rfl | rfl
        · skip
          refine at_callB Tryd.func36 rfl (by kernel_rfl) rfl rfl (fun w hw => addr_Right_ok _ _ ht7 w) ?_
          exact at_nil k
        · skip
          refine at_callB Tryd.func36 rfl (by kernel_rfl) rfl rfl (fun w hw => addr_Right_ok _ _ ht7 w) ?_
          exact at_nil k
      · intro Lx g15 s K hl hh k
        show At 98 ((1, _) :: (3, _) :: (4, _) :: (5, _) :: Lx) _ _
        refine at_val rfl rfl rfl (r_move rfl) ?_
        exact at_nil k
      · intro Lx g15 s K hl hh k
        show At 98 ((18, _) :: (19, _) :: (1, _) :: (3, _) :: (4, _) :: (5, _) :: Lx) _ _
        refine at_val rfl rfl rfl (r_bool Tryd.underlying4 rfl rfl (.inr rfl) rfl) ?_
        exact at_nil k
      · intro Lx g15 s K hl hh k
        show At 98 ((20, _) :: (1, _) :: (3, _) :: (4, _) :: (5, _) :: Lx) _ _
        refine at_val rfl rfl rfl (r_move rfl) ?_
        exact at_nil (at_cast h8 k)
      · intro Lx g15 s K hl hh k
        show At 98 ((21, _) :: (1, _) :: (3, _) :: (4, _) :: (5, _) :: Lx) _ _
        refine at_guard_yes rfl rfl rfl ?_
        refine at_val rfl rfl rfl (r_move rfl) ?_
        exact at_nil k
      · intro Lx g15 s K hl hh k
        show At 98 ((21, _) :: (1, _) :: (3, _) :: (4, _) :: (5, _) :: Lx) _ _
        refine at_guard_yes rfl rfl rfl ?_
        obtain rfl : s = 0 := by omega
        refine at_val rfl rfl rfl (r_load_aggc (c := c_api_Addr) (z := x0) Tryd.isAgg24 Tryd.sizeOf24 rfl (lens_cell (.s .z) (Lens.whole _ _))) ?_
        exact at_nil k
      · intro Lx g15 K k
        show At 98 ((21, _) :: (23, _) :: (1, _) :: (3, _) :: (4, _) :: (5, _) :: Lx) _ _
        refine at_guard_yes rfl rfl rfl ?_
        refine at_callO (c := (cInt .u8)) (e := 5) (ys := t10) (V := fun p cap => .slice p t10.length cap) Tryd.func38 rfl (by kernel_rfl) rfl rfl (fun w hw => crawlwayref10_Bytes_ok _ _ ht10 w) ?_
        intro p11 c12
        exact at_nil (k (0, p11, c12))
      · intro Lx g15 s K hl hh k
        show At 98 ((21, _) :: (22, _) :: (24, _) :: (1, _) :: (3, _) :: (4, _) :: (5, _) :: Lx) _ _
        refine at_guard_yes rfl rfl rfl ?_
        obtain rfl : s = 1 := by omega
        refine at_callB Tryd.func37 rfl (by kernel_rfl) rfl rfl (fun w hw => crawlwayref01_Same_ok _ _ _ _ _ _ _ ht13 w (hw.own (.s .z)).row (hw.own .z).row) ?_
        exact at_nil k
      · intro Lx g15 s K hl hh k
        show At 98 ((21, _) :: (25, _) :: (1, _) :: (3, _) :: (4, _) :: (5, _) :: Lx) _ _
        refine at_guard_yes rfl rfl rfl ?_
        refine at_val rfl rfl rfl (r_not rfl) ?_
        exact at_nil k
      · intro Lx g15 s K hl hh k
        show At 98 ((21, _) :: (26, _) :: (1, _) :: (3, _) :: (4, _) :: (5, _) :: Lx) _ _
        refine at_val rfl rfl rfl (r_pick rfl rfl rfl) ?_
        exact at_nil k
      · intro Lx g15 s K hl hh k
        show At 98 ((27, _) :: (1, _) :: (3, _) :: (4, _) :: (5, _) :: Lx) _ _
        refine at_val rfl rfl rfl (r_move rfl) ?_
        exact at_nil (at_cast h14 k)
      · intro Lx g15 s K hl hh k
        show At 98 ((28, _) :: (1, _) :: (3, _) :: (4, _) :: (5, _) :: Lx) _ _
        refine at_guard_no rfl rfl rfl rfl rfl ?_
        exact at_nil k
      · intro Lx g15 s K hl hh k
        show At 98 ((28, _) :: (1, _) :: (3, _) :: (4, _) :: (5, _) :: Lx) _ _
        rcases (by omega : s = 0 ∨ s = 1) with rfl | rfl
        · skip
          refine at_guard_no rfl rfl rfl rfl rfl ?_
          exact at_nil k
        · skip
          refine at_guard_no rfl rfl rfl rfl rfl ?_
          exact at_nil k
      · intro Lx g15 s K hl hh k
        show At 98 ((28, _) :: (30, _) :: (1, _) :: (3, _) :: (4, _) :: (5, _) :: Lx) _ _
        rcases (by omega : s = 0 ∨ s = 1) with rfl | rfl
        · skip
          refine at_guard_no rfl rfl rfl rfl rfl ?_
          exact at_nil k
        · skip
          refine at_guard_no rfl rfl rfl rfl rfl ?_
          exact at_nil k
      · intro Lx g15 s K hl hh k
        show At 98 ((28, _) :: (29, _) :: (31, _) :: (1, _) :: (3, _) :: (4, _) :: (5, _) :: Lx) _ _
        refine at_guard_no rfl rfl rfl rfl rfl ?_
        exact at_nil k
      · intro Lx g15 s K hl hh k
        show At 98 ((28, _) :: (32, _) :: (1, _) :: (3, _) :: (4, _) :: (5, _) :: Lx) _ _
        refine at_val rfl rfl rfl (r_pick rfl rfl rfl) ?_
        exact at_nil k
      · intro Lx g15 s K hl hh k
        show At 98 ((33, _) :: (1, _) :: (3, _) :: (4, _) :: (5, _) :: Lx) _ _
        refine at_val rfl rfl rfl (r_move rfl) ?_
        exact at_nil k
      · intro Lx g15 s K hl hh k
        show At 98 ((34, _) :: (1, _) :: (3, _) :: (4, _) :: (5, _) :: Lx) _ _
        rcases (by omega : s = 0 ∨ s = 1) with rfl | rfl
        · skip
          refine at_guard_no rfl rfl rfl rfl rfl ?_
          exact at_nil k
        · skip
          refine at_guard_no rfl rfl rfl rfl rfl ?_
          exact at_nil k
      · intro Lx g15 s K hl hh k
        show At 98 ((34, _) :: (35, _) :: (1, _) :: (3, _) :: (4, _) :: (5, _) :: Lx) _ _
        rcases (by omega : s = 0 ∨ s = 1) with rfl | rfl
        · skip
          refine at_guard_no rfl rfl rfl rfl rfl ?_
          exact at_nil k
        · skip
          refine at_guard_no rfl rfl rfl rfl rfl ?_
          exact at_nil k
      · intro Lx g15 s K hl hh k
        show At 98 ((34, _) :: (1, _) :: (3, _) :: (4, _) :: (5, _) :: Lx) _ _
        rcases (by omega : s = 0 ∨ s = 1) with rfl | rfl
        · skip
          refine at_guard_no rfl rfl rfl rfl rfl ?_
          exact at_nil k
        · skip
          refine at_guard_no rfl rfl rfl rfl rfl ?_
          exact at_nil k
      · intro Lx g15 s K hl hh k
        show At 98 ((34, _) :: (37, _) :: (1, _) :: (3, _) :: (4, _) :: (5, _) :: Lx) _ _
        rcases (by omega : s = 0 ∨ s = 1) with rfl | rfl
        · skip
          refine at_guard_no rfl rfl rfl rfl rfl ?_
          exact at_nil k
        · skip
          refine at_guard_no rfl rfl rfl rfl rfl ?_
          exact at_nil k
      · intro Lx g15 s K hl hh k
        show At 98 ((34, _) :: (36, _) :: (38, _) :: (1, _) :: (3, _) :: (4, _) :: (5, _) :: Lx) _ _
        refine at_guard_no rfl rfl rfl rfl rfl ?_
        exact at_nil k
      · intro Lx g15 s K hl hh k
        show At 98 ((34, _) :: (39, _) :: (1, _) :: (3, _) :: (4, _) :: (5, _) :: Lx) _ _
        refine at_val rfl rfl rfl (r_pick rfl rfl rfl) ?_
        exact at_nil k
      intro g15
      show At 98 [(17, _), (18, _), (19, _), (20, _), (21, _), (22, _), (23, _), (24, _), (25, _), (26, _), (27, _), (28, _), (29, _), (30, _), (31, _), (32, _), (33, _), (34, _), (35, _), (36, _), (37, _), (38, _), (39, _), (40, _), (1, _), (3, _), (4, _), (5, _)] _ _
      refine at_drop (H := _) .z ?_
      refine at_weak [(1, _), (3, _), (4, _), (5, _), (40, _)] ⟨rfl, rfl, rfl, rfl, rfl, trivial⟩ ?_
      refine at_then_normal ?_
      refine at_cond_true rfl rfl ?_
      refine at_seq ?_
      refine at_region ?_
      refine at_val rfl rfl rfl (r_assign rfl) ?_
      refine at_nil ?_
      refine at_drop (H := _) .z ?_
      refine at_drop (H := _) .z ?_
      refine at_weak [(2, _)] ⟨rfl, trivial⟩ ?_
      refine at_then_normal ?_
      refine at_ret ?_
      refine at_then_ret ?_
      have K := of_some hF
      subst K
      exact at_return1 rfl rfl (fun w1 hw => ⟨rfl, hw.below⟩)
    · skip
      obtain ⟨t16, ht16, hF⟩ := of_bindM hF
      rcases of_ite hF with ⟨h17, hF⟩ | ⟨h17, hF⟩
      · skip
        refine at_inv [.q 17 (fun g18 => .agg (Cd.cs c_api_Addr x0).toArray) [] 0 1, .q 18 (fun g18 => .bool t7) [0] 0 1, .q 19 (fun g18 => .bool t2) [] 0 1, .q 20 (fun g18 => .bool (t7 != t2)) [1, 2] 0 1, .q 21 (fun g18 => .bool false) [3] 0 0, .q 22 (fun g18 => .slice p4 t3.length c5) [4] 0 1, .q 23 (fun g18 => .agg (Cd.cs c_api_Addr x0).toArray) [4] 0 0, .al 0 24 (fun g18 => .slice ((g18 0).2.1) t10.length ((g18 0).2.2)) [4, 6], .q 25 (fun g18 => .bool t13) [4, 5, 7] 1 1, .q 26 (fun g18 => .bool (!t13)) [4, 8] 0 1, .q 27 (fun g18 => .bool (!t13)) [4, 9] 0 1, .q 28 (fun g18 => .bool false) [10] 0 1, .q 29 (fun g18 => .string t6) [11] 0 1, .q 30 (fun g18 => .agg (Cd.cs c_api_Addr x0).toArray) [11] 0 1, .q 31 (fun g18 => .string t16) [11, 13] 0 1, .q 32 (fun g18 => .bool (!seq t6 t16)) [11, 12, 14] 0 1, .q 33 (fun g18 => .bool (!seq t6 t16)) [11, 15] 0 1, .q 34 (fun g18 => .bool true) [16] 0 1, .q 35 (fun g18 => undef) [17] 0 1, .q 36 (fun g18 => undef) [17, 18] 0 1, .q 37 (fun g18 => undef) [17] 0 1, .q 38 (fun g18 => undef) [17, 20] 0 1, .q 39 (fun g18 => undef) [17, 19, 21] 0 1, .q 40 (fun g18 => .bool true) [17, 22] 0 1] (fun g18 s => match s with | 0 => (Wd w [rowE (cInt .u8) 5 p4 c5 t3, cellsE b1 (Cd.cs c_api_Addr x0) 24]) | _ => (Wd w [rowE (cInt .u8) 5 ((g18 0).2.1) ((g18 0).2.2) t10, rowE (cInt .u8) 5 p4 c5 t3, cellsE b1 (Cd.cs c_api_Addr x0) 24])) 1 (by kernel_rfl) (by kernel_rfl) (by kernel_rfl) (by kernel_rfl) (by kernel_rfl) ⟨fun _ _ _ => rfl, fun _ _ _ => rfl, fun _ _ _ => rfl, fun _ _ _ => rfl, fun _ _ _ => rfl, fun _ _ _ => rfl, fun _ _ _ => rfl, fun g18 g2 h => by show (.slice ((g18 0).2.1) t10.length ((g18 0).2.2) : Value) = .slice ((g2 0).2.1) t10.length ((g2 0).2.2); rw [h 0 (show 0 < 1 by decide)], fun _ _ _ => rfl, fun _ _ _ => rfl, fun _ _ _ => rfl, fun _ _ _ => rfl, fun _ _ _ => rfl, fun _ _ _ => rfl, fun _ _ _ => rfl, fun _ _ _ => rfl, fun _ _ _ => rfl, fun _ _ _ => rfl, fun _ _ _ => rfl, fun _ _ _ => rfl, fun _ _ _ => rfl, fun _ _ _ => rfl, fun _ _ _ => rfl, fun _ _ _ => rfl, trivial⟩ (by kernel_rfl) (fun _ h => ⟨fun _ => (0, none, 0), h.drew⟩) ⟨?_, ?_, ?_, ?_, ?_, ?_, ?_, ?_, ?_, ?_, ?_, ?_, ?_, ?_, ?_, ?_, ?_, ?_, ?_, ?_, ?_, ?_, ?_, ?_, trivial⟩ ?_
        · intro Lx g18 s K hl hh k
          show At 98 ((1, _) :: (3, _) :: (4, _) :: (5, _) :: Lx) _ _
          rcases (by omega : s = 0 ∨ s = 1) with rfl | rfl
          · skip
            refine at_val rfl rfl rfl (r_load_aggc (c := c_api_Addr) (z := x0) Tryd.isAgg24 Tryd.sizeOf24 rfl (lens_cell (.s .z) (Lens.whole _ _))) ?_
            exact at_nil k
          · skip
            refine at_val rfl rfl rfl (r_load_aggc (c := c_api_Addr) (z := x0) Tryd.isAgg24 Tryd.sizeOf24 rfl (lens_cell (.s (.s .z)) (Lens.whole _ _))) ?_
            exact at_nil k
        · intro Lx g18 s K hl hh k
          show At 98 ((17, _) :: (1, _) :: (3, _) :: (4, _) :: (5, _) :: Lx) _ _
          rcases (by omega : s = 0 ∨ s = 1) with rfl | rfl
          · skip
            refine at_callB Tryd.func36 rfl (by kernel_rfl) rfl rfl (fun w hw => addr_Right_ok _ _ ht7 w) ?_
            exact at_nil k
          · skip
            refine at_callB Tryd.func36 rfl (by kernel_rfl) rfl rfl (fun w hw => addr_Right_ok _ _ ht7 w) ?_
            exact at_nil k
        · intro Lx g18 s K hl hh k
          show At 98 ((1, _) :: (3, _) :: (4, _) :: (5, _) :: Lx) _ _
          refine at_val rfl rfl rfl (r_move rfl) ?_
          exact at_nil k
        · intro Lx g18 s K hl hh k
          show At 98 ((18, _) :: (19, _) :: (1, _) :: (3, _) :: (4, _) :: (5, _) :: Lx) _ _
          refine at_val rfl rfl rfl (r_bool Tryd.underlying4 rfl rfl (.inr rfl) rfl) ?_
          exact at_nil k
        · intro Lx g18 s K hl hh k
          show At 98 ((20, _) :: (1, _) :: (3, _) :: (4, _) :: (5, _) :: Lx) _ _
          refine at_val rfl rfl rfl (r_move rfl) ?_
          exact at_nil (at_cast h8 k)
        · intro Lx g18 s K hl hh k
          show At 98 ((21, _) :: (1, _) :: (3, _) :: (4, _) :: (5, _) :: Lx) _ _
          refine at_guard_yes rfl rfl rfl ?_
          refine at_val rfl rfl rfl (r_move rfl) ?_
          exact at_nil k
        · intro Lx g18 s K hl hh k
          show At 98 ((21, _) :: (1, _) :: (3, _) :: (4, _) :: (5, _) :: Lx) _ _
          refine at_guard_yes rfl rfl rfl ?_
          obtain rfl : s = 0 := by omega
          refine at_val rfl rfl rfl (r_load_aggc (c := c_api_Addr) (z := x0) Tryd.isAgg24 Tryd.sizeOf24 rfl (lens_cell (.s .z) (Lens.whole _ _))) ?_
          exact at_nil k
        · intro Lx g18 K k
          show At 98 ((21, _) :: (23, _) :: (1, _) :: (3, _) :: (4, _) :: (5, _) :: Lx) _ _
          refine at_guard_yes rfl rfl rfl ?_
          refine at_callO (c := (cInt .u8)) (e := 5) (ys := t10) (V := fun p cap => .slice p t10.length cap) Tryd.func38 rfl (by kernel_rfl) rfl rfl (fun w hw => crawlwayref10_Bytes_ok _ _ ht10 w) ?_
          intro p11 c12
          exact at_nil (k (0, p11, c12))
        · intro Lx g18 s K hl hh k
          show At 98 ((21, _) :: (22, _) :: (24, _) :: (1, _) :: (3, _) :: (4, _) :: (5, _) :: Lx) _ _
          refine at_guard_yes rfl rfl rfl ?_
          obtain rfl : s = 1 := by omega
          refine at_callB Tryd.func37 rfl (by kernel_rfl) rfl rfl (fun w hw => crawlwayref01_Same_ok _ _ _ _ _ _ _ ht13 w (hw.own (.s .z)).row (hw.own .z).row) ?_
          exact at_nil k
        · intro Lx g18 s K hl hh k
          show At 98 ((21, _) :: (25, _) :: (1, _) :: (3, _) :: (4, _) :: (5, _) :: Lx) _ _
          refine at_guard_yes rfl rfl rfl ?_
          refine at_val rfl rfl rfl (r_not rfl) ?_
          exact at_nil k
        · intro Lx g18 s K hl hh k
          show At 98 ((21, _) :: (26, _) :: (1, _) :: (3, _) :: (4, _) :: (5, _) :: Lx) _ _
          refine at_val rfl rfl rfl (r_pick rfl rfl rfl) ?_
          exact at_nil k
        · intro Lx g18 s K hl hh k
          show At 98 ((27, _) :: (1, _) :: (3, _) :: (4, _) :: (5, _) :: Lx) _ _
          refine at_val rfl rfl rfl (r_move rfl) ?_
          exact at_nil (at_cast h14 k)
        · intro Lx g18 s K hl hh k
          show At 98 ((28, _) :: (1, _) :: (3, _) :: (4, _) :: (5, _) :: Lx) _ _
          refine at_guard_yes rfl rfl rfl ?_
          refine at_val rfl rfl rfl (r_move rfl) ?_
          exact at_nil k
        · intro Lx g18 s K hl hh k
          show At 98 ((28, _) :: (1, _) :: (3, _) :: (4, _) :: (5, _) :: Lx) _ _
          refine at_guard_yes rfl rfl rfl ?_
          rcases (by omega : s = 0 ∨ s = 1) with rfl | rfl
          · skip
            refine at_val rfl rfl rfl (r_load_aggc (c := c_api_Addr) (z := x0) Tryd.isAgg24 Tryd.sizeOf24 rfl (lens_cell (.s .z) (Lens.whole _ _))) ?_
            exact at_nil k
          · skip
            refine at_val rfl rfl rfl (r_load_aggc (c := c_api_Addr) (z := x0) Tryd.isAgg24 Tryd.sizeOf24 rfl (lens_cell (.s (.s .z)) (Lens.whole _ _))) ?_
            exact at_nil k
        · intro Lx g18 s K hl hh k
          show At 98 ((28, _) :: (30, _) :: (1, _) :: (3, _) :: (4, _) :: (5, _) :: Lx) _ _
          refine at_guard_yes rfl rfl rfl ?_
          rcases (by omega : s = 0 ∨ s = 1) with rfl | rfl
          · skip
            refine at_callB Tryd.func39 rfl (by kernel_rfl) rfl rfl (fun w hw => crawlwayref10_Text_ok _ _ ht16 w) ?_
            exact at_nil k
          · skip
            refine at_callB Tryd.func39 rfl (by kernel_rfl) rfl rfl (fun w hw => crawlwayref10_Text_ok _ _ ht16 w) ?_
            exact at_nil k
        · intro Lx g18 s K hl hh k
          show At 98 ((28, _) :: (29, _) :: (31, _) :: (1, _) :: (3, _) :: (4, _) :: (5, _) :: Lx) _ _
          refine at_guard_yes rfl rfl rfl ?_
          refine at_val rfl rfl rfl (r_sneq rfl rfl) ?_
          exact at_nil k
        · intro Lx g18 s K hl hh k
          show At 98 ((28, _) :: (32, _) :: (1, _) :: (3, _) :: (4, _) :: (5, _) :: Lx) _ _
          refine at_val rfl rfl rfl (r_pick rfl rfl rfl) ?_
          exact at_nil k
        · intro Lx g18 s K hl hh k
          show At 98 ((33, _) :: (1, _) :: (3, _) :: (4, _) :: (5, _) :: Lx) _ _
          refine at_val rfl rfl rfl (r_move rfl) ?_
          exact at_nil (at_cast h17 k)
        · intro Lx g18 s K hl hh k
          show At 98 ((34, _) :: (1, _) :: (3, _) :: (4, _) :: (5, _) :: Lx) _ _
          rcases (by omega : s = 0 ∨ s = 1) with rfl | rfl
          · skip
            refine at_guard_no rfl rfl rfl rfl rfl ?_
            exact at_nil k
          · skip
            refine at_guard_no rfl rfl rfl rfl rfl ?_
            exact at_nil k
        · intro Lx g18 s K hl hh k
          show At 98 ((34, _) :: (35, _) :: (1, _) :: (3, _) :: (4, _) :: (5, _) :: Lx) _ _
          rcases (by omega : s = 0 ∨ s = 1) with rfl | rfl
          · skip
            refine at_guard_no rfl rfl rfl rfl rfl ?_
            exact at_nil k
          · skip
            refine at_guard_no rfl rfl rfl rfl rfl ?_
            exact at_nil k
        · intro Lx g18 s K hl hh k
          show At 98 ((34, _) :: (1, _) :: (3, _) :: (4, _) :: (5, _) :: Lx) _ _
          rcases (by omega : s = 0 ∨ s = 1) with rfl | rfl
          · skip
            refine at_guard_no rfl rfl rfl rfl rfl ?_
            exact at_nil k
          · skip
            refine at_guard_no rfl rfl rfl rfl rfl ?_
            exact at_nil k
        · intro Lx g18 s K hl hh k
          show At 98 ((34, _) :: (37, _) :: (1, _) :: (3, _) :: (4, _) :: (5, _) :: Lx) _ _
          rcases (by omega : s = 0 ∨ s = 1) with rfl | rfl
          · skip
            refine at_guard_no rfl rfl rfl rfl rfl ?_
            exact at_nil k
          · skip
            refine at_guard_no rfl rfl rfl rfl rfl ?_
            exact at_nil k
        · intro Lx g18 s K hl hh k
          show At 98 ((34, _) :: (36, _) :: (38, _) :: (1, _) :: (3, _) :: (4, _) :: (5, _) :: Lx) _ _
          refine at_guard_no rfl rfl rfl rfl rfl ?_
          exact at_nil k
        · intro Lx g18 s K hl hh k
          show At 98 ((34, _) :: (39, _) :: (1, _) :: (3, _) :: (4, _) :: (5, _) :: Lx) _ _
          refine at_val rfl rfl rfl (r_pick rfl rfl rfl) ?_
          exact at_nil k
        intro g18
        show At 98 [(17, _), (18, _), (19, _), (20, _), (21, _), (22, _), (23, _), (24, _), (25, _), (26, _), (27, _), (28, _), (29, _), (30, _), (31, _), (32, _), (33, _), (34, _), (35, _), (36, _), (37, _), (38, _), (39, _), (40, _), (1, _), (3, _), (4, _), (5, _)] _ _
        refine at_drop (H := _) .z ?_
        refine at_weak [(1, _), (3, _), (4, _), (5, _), (40, _)] ⟨rfl, rfl, rfl, rfl, rfl, trivial⟩ ?_
        refine at_then_normal ?_
        refine at_cond_true rfl rfl ?_
        refine at_seq ?_
        refine at_region ?_
        refine at_val rfl rfl rfl (r_assign rfl) ?_
        refine at_nil ?_
        refine at_drop (H := _) .z ?_
        refine at_drop (H := _) .z ?_
        refine at_weak [(2, _)] ⟨rfl, trivial⟩ ?_
        refine at_then_normal ?_
        refine at_ret ?_
        refine at_then_ret ?_
        have K := of_some hF
        subst K
        exact at_return1 rfl rfl (fun w1 hw => ⟨rfl, hw.below⟩)
      · skip
        obtain ⟨t19, ht19, hF⟩ := of_bindM hF
        obtain ⟨t20, ht20, hF⟩ := of_bindM hF
        refine at_inv [.q 17 (fun g21 => .agg (Cd.cs c_api_Addr x0).toArray) [] 0 1, .q 18 (fun g21 => .bool t7) [0] 0 1, .q 19 (fun g21 => .bool t2) [] 0 1, .q 20 (fun g21 => .bool (t7 != t2)) [1, 2] 0 1, .q 21 (fun g21 => .bool false) [3] 0 0, .q 22 (fun g21 => .slice p4 t3.length c5) [4] 0 1, .q 23 (fun g21 => .agg (Cd.cs c_api_Addr x0).toArray) [4] 0 0, .al 0 24 (fun g21 => .slice ((g21 0).2.1) t10.length ((g21 0).2.2)) [4, 6], .q 25 (fun g21 => .bool t13) [4, 5, 7] 1 1, .q 26 (fun g21 => .bool (!t13)) [4, 8] 0 1, .q 27 (fun g21 => .bool (!t13)) [4, 9] 0 1, .q 28 (fun g21 => .bool false) [10] 0 1, .q 29 (fun g21 => .string t6) [11] 0 1, .q 30 (fun g21 => .agg (Cd.cs c_api_Addr x0).toArray) [11] 0 1, .q 31 (fun g21 => .string t16) [11, 13] 0 1, .q 32 (fun g21 => .bool (!seq t6 t16)) [11, 12, 14] 0 1, .q 33 (fun g21 => .bool (!seq t6 t16)) [11, 15] 0 1, .q 34 (fun g21 => .bool false) [16] 0 1, .q 35 (fun g21 => .agg (Cd.cs c_api_Addr x0).toArray) [17] 0 1, .q 36 (fun g21 => .int .i64 t19) [17, 18] 0 1, .q 37 (fun g21 => .agg (Cd.cs c_api_Addr x0).toArray) [17] 0 1, .q 38 (fun g21 => .int .i64 t20) [17, 20] 0 1, .q 39 (fun g21 => .bool (t19 != t20)) [17, 19, 21] 0 1, .q 40 (fun g21 => .bool (t19 != t20)) [17, 22] 0 1] (fun g21 s => match s with | 0 => (Wd w [rowE (cInt .u8) 5 p4 c5 t3, cellsE b1 (Cd.cs c_api_Addr x0) 24]) | _ => (Wd w [rowE (cInt .u8) 5 ((g21 0).2.1) ((g21 0).2.2) t10, rowE (cInt .u8) 5 p4 c5 t3, cellsE b1 (Cd.cs c_api_Addr x0) 24])) 1 (by kernel_rfl) (by kernel_rfl) (by kernel_rfl) (by kernel_rfl) (by kernel_rfl) ⟨fun _ _ _ => rfl, fun _ _ _ => rfl, fun _ _ _ => rfl, fun _ _ _ => rfl, fun _ _ _ => rfl, fun _ _ _ => rfl, fun _ _ _ => rfl, fun g21 g2 h => by show (.slice ((g21 0).2.1) t10.length ((g21 0).2.2) : Value) = .slice ((g2 0).2.1) t10.length ((g2 0).2.2); rw [h 0 (show 0 < 1 by decide)], fun _ _ _ => rfl, fun _ _ _ => rfl, fun _ _ _ => rfl, fun _ _ _ => rfl, fun _ _ _ => rfl, fun _ _ _ => rfl, fun _ _ _ => rfl, fun _ _ _ => rfl, fun _ _ _ => rfl, fun _ _ _ => rfl, fun _ _ _ => rfl, fun _ _ _ => rfl, fun _ _ _ => rfl, fun _ _ _ => rfl, fun _ _ _ => rfl, fun _ _ _ => rfl, trivial⟩ (by kernel_rfl) (fun _ h => ⟨fun _ => (0, none, 0), h.drew⟩) ⟨?_, ?_, ?_, ?_, ?_, ?_, ?_, ?_, ?_, ?_, ?_, ?_, ?_, ?_, ?_, ?_, ?_, ?_, ?_, ?_, ?_, ?_, ?_, ?_, trivial⟩ ?_
        · intro Lx g21 s K hl hh k
          show At 98 ((1, _) :: (3, _) :: (4, _) :: (5, _) :: Lx) _ _
          rcases (by omega : s = 0 ∨ s = 1) with rfl | rfl
          · skip
            refine at_val rfl rfl rfl (r_load_aggc (c := c_api_Addr) (z := x0) Tryd.isAgg24 Tryd.sizeOf24 rfl (lens_cell (.s .z) (Lens.whole _ _))) ?_
            exact at_nil k
          · skip
            refine at_val rfl rfl rfl (r_load_aggc (c := c_api_Addr) (z := x0) Tryd.isAgg24 Tryd.sizeOf24 rfl (lens_cell (.s (.s .z)) (Lens.whole _ _))) ?_
            exact at_nil k
        · intro Lx g21 s K hl hh k
          show At 98 ((17, _) :: (1, _) :: (3, _) :: (4, _) :: (5, _) :: Lx) _ _
          rcases (by omega : s = 0 ∨ s = 1) with rfl | rfl
          · skip
            refine at_callB Tryd.func36 rfl (by kernel_rfl) rfl rfl (fun w hw => addr_Right_ok _ _ ht7 w) ?_
            exact at_nil k
          · skip
            refine at_callB Tryd.func36 rfl (by kernel_rfl) rfl rfl (fun w hw => addr_Right_ok _ _ ht7 w) ?_
            exact at_nil k
        · intro Lx g21 s K hl hh k
          show At 98 ((1, _) :: (3, _) :: (4, _) :: (5, _) :: Lx) _ _
          refine at_val rfl rfl rfl (r_move rfl) ?_
          exact at_nil k
        · intro Lx g21 s K hl hh k
          show At 98 ((18, _) :: (19, _) :: (1, _) :: (3, _) :: (4, _) :: (5, _) :: Lx) _ _
          refine at_val rfl rfl rfl (r_bool Tryd.underlying4 rfl rfl (.inr rfl) rfl) ?_
          exact at_nil k
        · intro Lx g21 s K hl hh k
          show At 98 ((20, _) :: (1, _) :: (3, _) :: (4, _) :: (5, _) :: Lx) _ _
          refine at_val rfl rfl rfl (r_move rfl) ?_
          exact at_nil (at_cast h8 k)
        · intro Lx g21 s K hl hh k
          show At 98 ((21, _) :: (1, _) :: (3, _) :: (4, _) :: (5, _) :: Lx) _ _
          refine at_guard_yes rfl rfl rfl ?_
          refine at_val rfl rfl rfl (r_move rfl) ?_
          exact at_nil k
        · intro Lx g21 s K hl hh k
          show At 98 ((21, _) :: (1, _) :: (3, _) :: (4, _) :: (5, _) :: Lx) _ _
          refine at_guard_yes rfl rfl rfl ?_
          obtain rfl : s = 0 := by omega
          refine at_val rfl rfl rfl (r_load_aggc (c := c_api_Addr) (z := x0) Tryd.isAgg24 Tryd.sizeOf24 rfl (lens_cell (.s .z) (Lens.whole _ _))) ?_
          exact at_nil k
        · intro Lx g21 K k
          show At 98 ((21, _) :: (23, _) :: (1, _) :: (3, _) :: (4, _) :: (5, _) :: Lx) _ _
          refine at_guard_yes rfl rfl rfl ?_
          refine at_callO (c := (cInt .u8)) (e := 5) (ys := t10) (V := fun p cap => .slice p t10.length cap) Tryd.func38 rfl (by kernel_rfl) rfl rfl (fun w hw => crawlwayref10_Bytes_ok _ _ ht10 w) ?_
          intro p11 c12
          exact at_nil (k (0, p11, c12))
        · intro Lx g21 s K hl hh k
          show At 98 ((21, _) :: (22, _) :: (24, _) :: (1, _) :: (3, _) :: (4, _) :: (5, _) :: Lx) _ _
          refine at_guard_yes rfl rfl rfl ?_
          obtain rfl : s = 1 := by omega
          refine at_callB Tryd.func37 rfl (by kernel_rfl) rfl rfl (fun w hw => crawlwayref01_Same_ok _ _ _ _ _ _ _ ht13 w (hw.own (.s .z)).row (hw.own .z).row) ?_
          exact at_nil k
        · intro Lx g21 s K hl hh k
          show At 98 ((21, _) :: (25, _) :: (1, _) :: (3, _) :: (4, _) :: (5, _) :: Lx) _ _
          refine at_guard_yes rfl rfl rfl ?_
          refine at_val rfl rfl rfl (r_not rfl) ?_
          exact at_nil k
        · intro Lx g21 s K hl hh k
          show At 98 ((21, _) :: (26, _) :: (1, _) :: (3, _) :: (4, _) :: (5, _) :: Lx) _ _
          refine at_val rfl rfl rfl (r_pick rfl rfl rfl) ?_
          exact at_nil k
        · intro Lx g21 s K hl hh k
          show At 98 ((27, _) :: (1, _) :: (3, _) :: (4, _) :: (5, _) :: Lx) _ _
          refine at_val rfl rfl rfl (r_move rfl) ?_
          exact at_nil (at_cast h14 k)
        · intro Lx g21 s K hl hh k
          show At 98 ((28, _) :: (1, _) :: (3, _) :: (4, _) :: (5, _) :: Lx) _ _
          refine at_guard_yes rfl rfl rfl ?_
          refine at_val rfl rfl rfl (r_move rfl) ?_
          exact at_nil k
        · intro Lx g21 s K hl hh k
          show At 98 ((28, _) :: (1, _) :: (3, _) :: (4, _) :: (5, _) :: Lx) _ _
          refine at_guard_yes rfl rfl rfl ?_
          rcases (by omega : s = 0 ∨ s = 1) with rfl | rfl
          · skip
            refine at_val rfl rfl rfl (r_load_aggc (c := c_api_Addr) (z := x0) Tryd.isAgg24 Tryd.sizeOf24 rfl (lens_cell (.s .z) (Lens.whole _ _))) ?_
            exact at_nil k
          · skip
            refine at_val rfl rfl rfl (r_load_aggc (c := c_api_Addr) (z := x0) Tryd.isAgg24 Tryd.sizeOf24 rfl (lens_cell (.s (.s .z)) (Lens.whole _ _))) ?_
            exact at_nil k
        · intro Lx g21 s K hl hh k
          show At 98 ((28, _) :: (30, _) :: (1, _) :: (3, _) :: (4, _) :: (5, _) :: Lx) _ _
          refine at_guard_yes rfl rfl rfl ?_
          rcases (by omega : s = 0 ∨ s = 1) with rfl | rfl
          · skip
            refine at_callB Tryd.func39 rfl (by kernel_rfl) rfl rfl (fun w hw => crawlwayref10_Text_ok _ _ ht16 w) ?_
            exact at_nil k
          · skip
            refine at_callB Tryd.func39 rfl (by kernel_rfl) rfl rfl (fun w hw => crawlwayref10_Text_ok _ _ ht16 w) ?_
            exact at_nil k
        · intro Lx g21 s K hl hh k
          show At 98 ((28, _) :: (29, _) :: (31, _) :: (1, _) :: (3, _) :: (4, _) :: (5, _) :: Lx) _ _
          refine at_guard_yes rfl rfl rfl ?_
          refine at_val rfl rfl rfl (r_sneq rfl rfl) ?_
          exact at_nil k
        · intro Lx g21 s K hl hh k
          show At 98 ((28, _) :: (32, _) :: (1, _) :: (3, _) :: (4, _) :: (5, _) :: Lx) _ _
          refine at_val rfl rfl rfl (r_pick rfl rfl rfl) ?_
          exact at_nil k
        · intro Lx g21 s K hl hh k
          show At 98 ((33, _) :: (1, _) :: (3, _) :: (4, _) :: (5, _) :: Lx) _ _
          refine at_val rfl rfl rfl (r_move rfl) ?_
          exact at_nil (at_cast h17 k)
        · intro Lx g21 s K hl hh k
          show At 98 ((34, _) :: (1, _) :: (3, _) :: (4, _) :: (5, _) :: Lx) _ _
          refine at_guard_yes rfl rfl rfl ?_
          rcases (by omega : s = 0 ∨ s = 1) with rfl | rfl
          · skip
            refine at_val rfl rfl rfl (r_load_aggc (c := c_api_Addr) (z := x0) Tryd.isAgg24 Tryd.sizeOf24 rfl (lens_cell (.s .z) (Lens.whole _ _))) ?_
            exact at_nil k
          · skip
            refine at_val rfl rfl rfl (r_load_aggc (c := c_api_Addr) (z := x0) Tryd.isAgg24 Tryd.sizeOf24 rfl (lens_cell (.s (.s .z)) (Lens.whole _ _))) ?_
            exact at_nil k
        · intro Lx g21 s K hl hh k
          show At 98 ((34, _) :: (35, _) :: (1, _) :: (3, _) :: (4, _) :: (5, _) :: Lx) _ _
          refine at_guard_yes rfl rfl rfl ?_
          rcases (by omega : s = 0 ∨ s = 1) with rfl | rfl
          · skip
            refine at_callB Tryd.func40 rfl (by kernel_rfl) rfl rfl (fun w hw => addr_Width_ok _ _ ht19 w) ?_
            exact at_nil k
          · skip
            refine at_callB Tryd.func40 rfl (by kernel_rfl) rfl rfl (fun w hw => addr_Width_ok _ _ ht19 w) ?_
            exact at_nil k
        · intro Lx g21 s K hl hh k
          show At 98 ((34, _) :: (1, _) :: (3, _) :: (4, _) :: (5, _) :: Lx) _ _
          refine at_guard_yes rfl rfl rfl ?_
          rcases (by omega : s = 0 ∨ s = 1) with rfl | rfl
          · skip
            refine at_val rfl rfl rfl (r_load_aggc (c := c_api_Addr) (z := x0) Tryd.isAgg24 Tryd.sizeOf24 rfl (lens_cell (.s .z) (Lens.whole _ _))) ?_
            exact at_nil k
          · skip
            refine at_val rfl rfl rfl (r_load_aggc (c := c_api_Addr) (z := x0) Tryd.isAgg24 Tryd.sizeOf24 rfl (lens_cell (.s (.s .z)) (Lens.whole _ _))) ?_
            exact at_nil k
        · intro Lx g21 s K hl hh k
          show At 98 ((34, _) :: (37, _) :: (1, _) :: (3, _) :: (4, _) :: (5, _) :: Lx) _ _
          refine at_guard_yes rfl rfl rfl ?_
          rcases (by omega : s = 0 ∨ s = 1) with rfl | rfl
          · skip
            refine at_callB Tryd.func29 rfl (by kernel_rfl) rfl rfl (fun w hw => crawlwayref10_Width_ok _ _ ht20 w) ?_
            exact at_nil k
          · skip
            refine at_callB Tryd.func29 rfl (by kernel_rfl) rfl rfl (fun w hw => crawlwayref10_Width_ok _ _ ht20 w) ?_
            exact at_nil k
        · intro Lx g21 s K hl hh k
          show At 98 ((34, _) :: (36, _) :: (38, _) :: (1, _) :: (3, _) :: (4, _) :: (5, _) :: Lx) _ _
          refine at_guard_yes rfl rfl rfl ?_
          refine at_val rfl rfl rfl (r_ineq rfl rfl) ?_
          exact at_nil k
        · intro Lx g21 s K hl hh k
          show At 98 ((34, _) :: (39, _) :: (1, _) :: (3, _) :: (4, _) :: (5, _) :: Lx) _ _
          refine at_val rfl rfl rfl (r_pick rfl rfl rfl) ?_
          exact at_nil k
        intro g21
        show At 98 [(17, _), (18, _), (19, _), (20, _), (21, _), (22, _), (23, _), (24, _), (25, _), (26, _), (27, _), (28, _), (29, _), (30, _), (31, _), (32, _), (33, _), (34, _), (35, _), (36, _), (37, _), (38, _), (39, _), (40, _), (1, _), (3, _), (4, _), (5, _)] _ _
        refine at_drop (H := _) .z ?_
        refine at_weak [(1, _), (3, _), (4, _), (5, _), (40, _)] ⟨rfl, rfl, rfl, rfl, rfl, trivial⟩ ?_
        refine at_then_normal ?_
        rcases of_ite hF with ⟨h22, hF⟩ | ⟨h22, hF⟩
        · refine at_cond_true rfl h22 ?_
          refine at_seq ?_
          refine at_region ?_
          refine at_val rfl rfl rfl (r_assign rfl) ?_
          refine at_nil ?_
          refine at_drop (H := _) .z ?_
          refine at_drop (H := _) .z ?_
          refine at_weak [(2, _)] ⟨rfl, trivial⟩ ?_
          refine at_then_normal ?_
          refine at_ret ?_
          refine at_then_ret ?_
          have K := of_some hF
          subst K
          exact at_return1 rfl rfl (fun w1 hw => ⟨rfl, hw.below⟩)
        · refine at_cond_false rfl h22 ?_
          refine at_skip ?_
          refine at_then_normal ?_
          refine at_seq ?_
          refine at_seq ?_
          refine at_region ?_
          refine at_val rfl rfl rfl (r_move rfl) ?_
          refine at_val rfl rfl rfl (r_not rfl) ?_
          refine at_nil ?_
          refine at_weak [(1, _), (4, _), (5, _), (42, _)] ⟨rfl, rfl, rfl, rfl, trivial⟩ ?_
          refine at_then_normal ?_
          rcases of_ite hF with ⟨h23, hF⟩ | ⟨h23, hF⟩
          · refine at_cond_true rfl h23 ?_
            refine at_seq ?_
            refine at_region ?_
            obtain ⟨t24, ht24, hF⟩ := of_bindM hF
            refine at_callB Tryd.func19 rfl (by kernel_rfl) rfl rfl (fun w hw => crawlwaylaw10_alive_ok  _ ht24 w (hg_strconv_uint64pow10.on hw.below)) ?_
            refine at_val rfl rfl rfl (r_assign rfl) ?_
            refine at_nil ?_
            refine at_drop (H := _) .z ?_
            refine at_drop (H := _) .z ?_
            refine at_weak [(2, _)] ⟨rfl, trivial⟩ ?_
            refine at_then_normal ?_
            refine at_ret ?_
            refine at_then_ret ?_
            have K := of_some hF
            subst K
            exact at_return1 rfl rfl (fun w1 hw => ⟨rfl, hw.below⟩)
          · refine at_cond_false rfl h23 ?_
            refine at_skip ?_
            refine at_then_normal ?_
            refine at_seq ?_
            refine at_region ?_
            refine at_val rfl rfl rfl (r_move rfl) ?_
            obtain ⟨t25, ht25, hF⟩ := of_bindM hF
            refine at_callB Tryd.func32 rfl (by kernel_rfl) rfl rfl (fun w hw => addr_Of_ok _ _ _ _ ht25 w (hw.own .z).row) ?_
            refine at_val rfl rfl rfl (r_move rfl) ?_
            refine at_val rfl rfl rfl (r_extract rfl rfl) ?_
            refine at_val rfl rfl rfl (r_extract rfl rfl) ?_
            refine at_alloc (cs := Cd.cs c_api_Addr ({ f_V := (0 : Int), f_B := (Vector.replicate 16 (0 : Int) : (Vector Int 16)) } : S_api_Addr)) Tryd.zeroValue24 rfl rfl ?_
            intro b26
            refine at_store (c := c_api_Addr) (z := t25.1) .z (Lens.whole _ _) Tryd.sizeOf24 rfl rfl rfl ?_
            refine at_val rfl rfl rfl (r_assign rfl) ?_
            refine at_nil ?_
            refine at_drop (H := _) (.s .z) ?_
            refine at_weak [(1, _), (5, _), (6, _), (7, _)] ⟨rfl, rfl, rfl, rfl, trivial⟩ ?_
            refine at_then_normal ?_
            refine at_seq ?_
            refine at_region ?_
            refine at_val rfl rfl rfl (r_move rfl) ?_
            obtain ⟨t27, ht27, hF⟩ := of_bindM hF
            refine at_callB Tryd.func30 rfl (by kernel_rfl) rfl rfl (fun w hw => addr_Parse_ok _ _ ht27 w (hg_strconv_ErrRange.on hw.below) (hg_strconv_ErrSyntax.on hw.below)) ?_
            refine at_val rfl rfl rfl (r_move rfl) ?_
            refine at_val rfl rfl rfl (r_extract rfl rfl) ?_
            refine at_val rfl rfl rfl (r_extract rfl rfl) ?_
            refine at_alloc (cs := Cd.cs c_api_Addr ({ f_V := (0 : Int), f_B := (Vector.replicate 16 (0 : Int) : (Vector Int 16)) } : S_api_Addr)) Tryd.zeroValue24 rfl rfl ?_
            intro b28
            refine at_store (c := c_api_Addr) (z := t27.1) .z (Lens.whole _ _) Tryd.sizeOf24 rfl rfl rfl ?_
            refine at_val rfl rfl rfl (r_assign rfl) ?_
            refine at_nil ?_
            refine at_weak [(1, _), (6, _), (7, _), (8, _), (9, _)] ⟨rfl, rfl, rfl, rfl, rfl, trivial⟩ ?_
            refine at_then_normal ?_
            refine at_seq ?_
            refine at_region ?_
            refine at_val rfl rfl rfl (r_fieldAddr (fo := 1) Tryd.underlying24 rfl rfl (fun w => ⟨_, Tryd.sizeOf22 w⟩) rfl) ?_
            refine at_val rfl rfl rfl (r_idxArr Tryd.underlying22 Tryd.sizeOf5 rfl rfl (by decide)) ?_
            refine at_val rfl rfl rfl (r_load_cell Tryd.isAgg5 rfl (lens_cell0 (c := (cInt .u8)) (y := vget x0.f_B 0) (.s (.s .z)) (Lens.comp (Lens.comp (Lens.whole _ _) (fun z => { x0 with f_B := z }) (c_api_Addr_f_B x0)) (fun z => vset x0.f_B 0 z) (Lens.vec (cInt .u8) (by decide) x0.f_B 0 (by decide))) rfl)) ?_
            refine at_val rfl rfl rfl (r_fieldAddr (fo := 1) Tryd.underlying24 rfl rfl (fun w => ⟨_, Tryd.sizeOf22 w⟩) rfl) ?_
            refine at_val rfl rfl rfl (r_idxArr Tryd.underlying22 Tryd.sizeOf5 rfl rfl (by decide)) ?_
            refine at_val rfl rfl rfl (r_load_cell Tryd.isAgg5 rfl (lens_cell0 (c := (cInt .u8)) (y := vget x0.f_B 1) (.s (.s .z)) (Lens.comp (Lens.comp (Lens.whole _ _) (fun z => { x0 with f_B := z }) (c_api_Addr_f_B x0)) (fun z => vset x0.f_B 1 z) (Lens.vec (cInt .u8) (by decide) x0.f_B 1 (by decide))) rfl)) ?_
            refine at_val rfl rfl rfl (r_fieldAddr (fo := 1) Tryd.underlying24 rfl rfl (fun w => ⟨_, Tryd.sizeOf22 w⟩) rfl) ?_
            refine at_val rfl rfl rfl (r_idxArr Tryd.underlying22 Tryd.sizeOf5 rfl rfl (by decide)) ?_
            refine at_val rfl rfl rfl (r_load_cell Tryd.isAgg5 rfl (lens_cell0 (c := (cInt .u8)) (y := vget x0.f_B 2) (.s (.s .z)) (Lens.comp (Lens.comp (Lens.whole _ _) (fun z => { x0 with f_B := z }) (c_api_Addr_f_B x0)) (fun z => vset x0.f_B 2 z) (Lens.vec (cInt .u8) (by decide) x0.f_B 2 (by decide))) rfl)) ?_
            refine at_val rfl rfl rfl (r_fieldAddr (fo := 1) Tryd.underlying24 rfl rfl (fun w => ⟨_, Tryd.sizeOf22 w⟩) rfl) ?_
            refine at_val rfl rfl rfl (r_idxArr Tryd.underlying22 Tryd.sizeOf5 rfl rfl (by decide)) ?_
            refine at_val rfl rfl rfl (r_load_cell Tryd.isAgg5 rfl (lens_cell0 (c := (cInt .u8)) (y := vget x0.f_B 3) (.s (.s .z)) (Lens.comp (Lens.comp (Lens.whole _ _) (fun z => { x0 with f_B := z }) (c_api_Addr_f_B x0)) (fun z => vset x0.f_B 3 z) (Lens.vec (cInt .u8) (by decide) x0.f_B 3 (by decide))) rfl)) ?_
            refine at_val rfl rfl rfl (r_build_array (zs := Cd.cs (cVec (cInt .u8) 4 (by decide)) (Vector.replicate 4 (0 : Int) : (Vector Int 4))) (cs := Cd.cs (cVec (cInt .u8) 4 (by decide)) (vset (vset (vset (vset (Vector.replicate 4 (0 : Int) : (Vector Int 4)) 0 (vget x0.f_B 0)) 1 (vget x0.f_B 1)) 2 (vget x0.f_B 2)) 3 (vget x0.f_B 3))) Tryd.underlying47 Tryd.zeroValue47 rfl Tryd.sizeOf5 rfl (fill_step (c := (cInt .u8)) (z := vget x0.f_B 0) rfl (Lens.vec (cInt .u8) (by decide) (Vector.replicate 4 (0 : Int) : (Vector Int 4)) 0 (by decide)) rfl (fill_step (c := (cInt .u8)) (z := vget x0.f_B 1) rfl (Lens.vec (cInt .u8) (by decide) (vset (Vector.replicate 4 (0 : Int) : (Vector Int 4)) 0 (vget x0.f_B 0)) 1 (by decide)) rfl (fill_step (c := (cInt .u8)) (z := vget x0.f_B 2) rfl (Lens.vec (cInt .u8) (by decide) (vset (vset (Vector.replicate 4 (0 : Int) : (Vector Int 4)) 0 (vget x0.f_B 0)) 1 (vget x0.f_B 1)) 2 (by decide)) rfl (fill_step (c := (cInt .u8)) (z := vget x0.f_B 3) rfl (Lens.vec (cInt .u8) (by decide) (vset (vset (vset (Vector.replicate 4 (0 : Int) : (Vector Int 4)) 0 (vget x0.f_B 0)) 1 (vget x0.f_B 1)) 2 (vget x0.f_B 2)) 3 (by decide)) rfl rfl))))) ?_
            obtain ⟨t29, ht29, hF⟩ := of_bindM hF
            refine at_callB Tryd.func41 rfl (by kernel_rfl) rfl rfl (fun w hw => addr_Four_ok _ _ ht29 w) ?_
            refine at_alloc (cs := Cd.cs c_api_Addr ({ f_V := (0 : Int), f_B := (Vector.replicate 16 (0 : Int) : (Vector Int 16)) } : S_api_Addr)) Tryd.zeroValue24 rfl rfl ?_
            intro b30
            refine at_store (c := c_api_Addr) (z := t29) .z (Lens.whole _ _) Tryd.sizeOf24 rfl rfl rfl ?_
            refine at_nil ?_
            refine at_weak [(1, _), (6, _), (7, _), (8, _), (9, _), (10, _)] ⟨rfl, rfl, rfl, rfl, rfl, rfl, trivial⟩ ?_
            refine at_then_normal ?_
            refine at_seq ?_
            refine at_seq ?_
            refine at_region ?_
            refine at_val rfl rfl rfl (r_fieldAddr (fo := 0) Tryd.underlying24 rfl rfl (fun w => ⟨_, Tryd.sizeOf3 w⟩) rfl) ?_
            refine at_val rfl rfl rfl (r_load_cell Tryd.isAgg3 rfl (lens_cell0 (c := (cInt .i64)) (y := x0.f_V) (.s (.s (.s .z))) (Lens.comp (Lens.whole _ _) (fun z => { x0 with f_V := z }) (c_api_Addr_f_V x0)) rfl)) ?_
            refine at_val rfl rfl rfl (r_ieql rfl rfl) ?_
            refine at_nil ?_
            refine at_weak [(1, _), (6, _), (7, _), (8, _), (9, _), (10, _), (70, _)] ⟨rfl, rfl, rfl, rfl, rfl, rfl, rfl, trivial⟩ ?_
            refine at_then_normal ?_
            rcases of_ite hF with ⟨h31, hF⟩ | ⟨h31, hF⟩
            · refine at_cond_true rfl h31 ?_
              refine at_region ?_
              refine at_val rfl rfl rfl (r_fieldAddr (fo := 1) Tryd.underlying24 rfl rfl (fun w => ⟨_, Tryd.sizeOf22 w⟩) rfl) ?_
              refine at_val rfl rfl rfl (r_load_aggc (c := (cVec (cInt .u8) 16 (by decide))) (z := x0.f_B) Tryd.isAgg22 Tryd.sizeOf22 rfl (lens_cell (.s (.s (.s .z))) (Lens.comp (Lens.whole _ _) (fun z => { x0 with f_B := z }) (c_api_Addr_f_B x0)))) ?_
              obtain ⟨t32, ht32, hF⟩ := of_bindM hF
              refine at_callB Tryd.func42 rfl (by kernel_rfl) rfl rfl (fun w hw => addr_Six_ok _ _ ht32 w) ?_
              refine at_store (c := c_api_Addr) (z := t32) .z (Lens.whole _ _) Tryd.sizeOf24 rfl rfl rfl ?_
              refine at_nil ?_
              refine at_weak [(1, _), (6, _), (7, _), (8, _), (9, _), (10, _)] ⟨rfl, rfl, rfl, rfl, rfl, rfl, trivial⟩ ?_
              refine at_then_normal ?_
              refine at_seq ?_
              refine at_region ?_
              refine at_val rfl rfl rfl (r_load_aggc (c := c_api_Addr) (z := t32) Tryd.isAgg24 Tryd.sizeOf24 rfl (lens_cell .z (Lens.whole _ _))) ?_
              refine at_val rfl rfl rfl (r_load_aggc (c := c_api_Addr) (z := x0) Tryd.isAgg24 Tryd.sizeOf24 rfl (lens_cell (.s (.s (.s .z))) (Lens.whole _ _))) ?_
              refine at_val rfl rfl rfl (r_eqagg (c := c_api_Addr) (a := t32) (b := x0) (eq_api_Addr_24) rfl Tryd.eqGuardType24 rfl rfl (.inl rfl) rfl) ?_
              refine at_val rfl rfl rfl (r_move rfl) ?_
              rcases of_ite hF with ⟨h33, hF⟩ | ⟨h33, hF⟩
              · refine at_fix (g := 77) rfl h33 ?_
                refine at_guard_yes rfl rfl rfl ?_
                refine at_val rfl rfl rfl (r_load_aggc (c := c_api_Addr) (z := t25.1) Tryd.isAgg24 Tryd.sizeOf24 rfl (lens_cell (.s (.s .z)) (Lens.whole _ _))) ?_
                refine at_guard_yes rfl rfl rfl ?_
                refine at_val rfl rfl rfl (r_load_aggc (c := c_api_Addr) (z := x0) Tryd.isAgg24 Tryd.sizeOf24 rfl (lens_cell (.s (.s (.s .z))) (Lens.whole _ _))) ?_
                refine at_guard_yes rfl rfl rfl ?_
                refine at_val rfl rfl rfl (r_eqagg (c := c_api_Addr) (a := t25.1) (b := x0) (eq_api_Addr_24) rfl Tryd.eqGuardType24 rfl rfl (.inl rfl) rfl) ?_
                refine at_val rfl rfl rfl (r_pick rfl rfl rfl) ?_
                refine at_val rfl rfl rfl (r_move rfl) ?_
                rcases of_ite hF with ⟨h34, hF⟩ | ⟨h34, hF⟩
                · refine at_fix (g := 82) rfl h34 ?_
                  refine at_guard_yes rfl rfl rfl ?_
                  refine at_val rfl rfl rfl (r_load_aggc (c := c_api_Addr) (z := t27.1) Tryd.isAgg24 Tryd.sizeOf24 rfl (lens_cell (.s .z) (Lens.whole _ _))) ?_
                  refine at_guard_yes rfl rfl rfl ?_
                  refine at_val rfl rfl rfl (r_load_aggc (c := c_api_Addr) (z := x0) Tryd.isAgg24 Tryd.sizeOf24 rfl (lens_cell (.s (.s (.s .z))) (Lens.whole _ _))) ?_
                  refine at_guard_yes rfl rfl rfl ?_
                  refine at_val rfl rfl rfl (r_eqagg (c := c_api_Addr) (a := t27.1) (b := x0) (eq_api_Addr_24) rfl Tryd.eqGuardType24 rfl rfl (.inl rfl) rfl) ?_
                  refine at_val rfl rfl rfl (r_pick rfl rfl rfl) ?_
                  refine at_val rfl rfl rfl (r_move rfl) ?_
                  rcases of_ite hF with ⟨h35, hF⟩ | ⟨h35, hF⟩
                  · refine at_fix (g := 87) rfl h35 ?_
                    refine at_guard_yes rfl rfl rfl ?_
                    refine at_val rfl rfl rfl (r_move rfl) ?_
                    refine at_guard_yes rfl rfl rfl ?_
                    refine at_val rfl rfl rfl (r_ieql rfl rfl) ?_
                    refine at_val rfl rfl rfl (r_pick rfl rfl rfl) ?_
                    refine at_val rfl rfl rfl (r_move rfl) ?_
                    rcases of_ite hF with ⟨h36, hF⟩ | ⟨h36, hF⟩
                    · refine at_fix (g := 91) rfl h36 ?_
                      refine at_guard_yes rfl rfl rfl ?_
                      refine at_val rfl rfl rfl (r_move rfl) ?_
                      refine at_guard_yes rfl rfl rfl ?_
                      refine at_val rfl rfl rfl (r_ieql rfl rfl) ?_
                      refine at_val rfl rfl rfl (r_pick rfl rfl rfl) ?_
                      refine at_val rfl rfl rfl (r_move rfl) ?_
                      rcases of_ite hF with ⟨h37, hF⟩ | ⟨h37, hF⟩
                      · refine at_fix (g := 95) rfl h37 ?_
                        refine at_guard_yes rfl rfl rfl ?_
                        obtain ⟨t38, ht38, hF⟩ := of_bindM hF
                        refine at_callB Tryd.func19 rfl (by kernel_rfl) rfl rfl (fun w hw => crawlwaylaw10_alive_ok  _ ht38 w (hg_strconv_uint64pow10.on hw.below)) ?_
                        refine at_val rfl rfl rfl (r_pick rfl rfl rfl) ?_
                        refine at_val rfl rfl rfl (r_assign rfl) ?_
                        refine at_nil ?_
                        refine at_drop (H := _) .z ?_
                        refine at_drop (H := _) .z ?_
                        refine at_drop (H := _) .z ?_
                        refine at_drop (H := _) .z ?_
                        refine at_weak [(2, _)] ⟨rfl, trivial⟩ ?_
                        refine at_then_normal ?_
                        refine at_ret ?_
                        have K := of_some hF
                        subst K
                        exact at_return1 rfl rfl (fun w1 hw => ⟨rfl, hw.below⟩)
                      · refine at_fix (g := 95) rfl h37 ?_
                        refine at_guard_no rfl rfl rfl rfl rfl ?_
                        refine at_val rfl rfl rfl (r_pick rfl rfl rfl) ?_
                        refine at_val rfl rfl rfl (r_assign rfl) ?_
                        refine at_nil ?_
                        refine at_drop (H := _) .z ?_
                        refine at_drop (H := _) .z ?_
                        refine at_drop (H := _) .z ?_
                        refine at_drop (H := _) .z ?_
                        refine at_weak [(2, _)] ⟨rfl, trivial⟩ ?_
                        refine at_then_normal ?_
                        refine at_ret ?_
                        have K := of_some hF
                        subst K
                        exact at_return1 rfl rfl (fun w1 hw => ⟨rfl, hw.below⟩)
                    · refine at_fix (g := 91) rfl h36 ?_
                      refine at_guard_no rfl rfl rfl rfl rfl ?_
                      refine at_guard_no rfl rfl rfl rfl rfl ?_
                      refine at_val rfl rfl rfl (r_pick rfl rfl rfl) ?_
                      refine at_val rfl rfl rfl (r_move rfl) ?_
                      refine at_guard_no rfl rfl rfl rfl rfl ?_
                      refine at_val rfl rfl rfl (r_pick rfl rfl rfl) ?_
                      refine at_val rfl rfl rfl (r_assign rfl) ?_
                      refine at_nil ?_
                      refine at_drop (H := _) .z ?_
                      refine at_drop (H := _) .z ?_
                      refine at_drop (H := _) .z ?_
                      refine at_drop (H := _) .z ?_
                      refine at_weak [(2, _)] ⟨rfl, trivial⟩ ?_
                      refine at_then_normal ?_
                      refine at_ret ?_
                      have K := of_some hF
                      subst K
                      exact at_return1 rfl rfl (fun w1 hw => ⟨rfl, hw.below⟩)
                  · refine at_fix (g := 87) rfl h35 ?_
                    refine at_guard_no rfl rfl rfl rfl rfl ?_
                    refine at_guard_no rfl rfl rfl rfl rfl ?_
                    refine at_val rfl rfl rfl (r_pick rfl rfl rfl) ?_
                    refine at_val rfl rfl rfl (r_move rfl) ?_
                    refine at_guard_no rfl rfl rfl rfl rfl ?_
                    refine at_guard_no rfl rfl rfl rfl rfl ?_
                    refine at_val rfl rfl rfl (r_pick rfl rfl rfl) ?_
                    refine at_val rfl rfl rfl (r_move rfl) ?_
                    refine at_guard_no rfl rfl rfl rfl rfl ?_
                    refine at_val rfl rfl rfl (r_pick rfl rfl rfl) ?_
                    refine at_val rfl rfl rfl (r_assign rfl) ?_
                    refine at_nil ?_
                    refine at_drop (H := _) .z ?_
                    refine at_drop (H := _) .z ?_
                    refine at_drop (H := _) .z ?_
                    refine at_drop (H := _) .z ?_
                    refine at_weak [(2, _)] ⟨rfl, trivial⟩ ?_
                    refine at_then_normal ?_
                    refine at_ret ?_
                    have K := of_some hF
                    subst K
                    exact at_return1 rfl rfl (fun w1 hw => ⟨rfl, hw.below⟩)
                · refine at_fix (g := 82) rfl h34 ?_
                  refine at_guard_no rfl rfl rfl rfl rfl ?_
                  refine at_guard_no rfl rfl rfl rfl rfl ?_
                  refine at_guard_no rfl rfl rfl rfl rfl ?_
                  refine at_val rfl rfl rfl (r_pick rfl rfl rfl) ?_
                  refine at_val rfl rfl rfl (r_move rfl) ?_
                  refine at_guard_no rfl rfl rfl rfl rfl ?_
                  refine at_guard_no rfl rfl rfl rfl rfl ?_
                  refine at_val rfl rfl rfl (r_pick rfl rfl rfl) ?_
                  refine at_val rfl rfl rfl (r_move rfl) ?_
                  refine at_guard_no rfl rfl rfl rfl rfl ?_
                  refine at_guard_no rfl rfl rfl rfl rfl ?_
                  refine at_val rfl rfl rfl (r_pick rfl rfl rfl) ?_
                  refine at_val rfl rfl rfl (r_move rfl) ?_
                  refine at_guard_no rfl rfl rfl rfl rfl ?_
                  refine at_val rfl rfl rfl (r_pick rfl rfl rfl) ?_
                  refine at_val rfl rfl rfl (r_assign rfl) ?_
                  refine at_nil ?_
                  refine at_drop (H := _) .z ?_
                  refine at_drop (H := _) .z ?_
                  refine at_drop (H := _) .z ?_
                  refine at_drop (H := _) .z ?_
                  refine at_weak [(2, _)] ⟨rfl, trivial⟩ ?_
                  refine at_then_normal ?_
                  refine at_ret ?_
                  have K := of_some hF
                  subst K
                  exact at_return1 rfl rfl (fun w1 hw => ⟨rfl, hw.below⟩)
              · refine at_fix (g := 77) rfl h33 ?_
                refine at_guard_no rfl rfl rfl rfl rfl ?_
                refine at_guard_no rfl rfl rfl rfl rfl ?_
                refine at_guard_no rfl rfl rfl rfl rfl ?_
                refine at_val rfl rfl rfl (r_pick rfl rfl rfl) ?_
                refine at_val rfl rfl rfl (r_move rfl) ?_
                refine at_guard_no rfl rfl rfl rfl rfl ?_
                refine at_guard_no rfl rfl rfl rfl rfl ?_
                refine at_guard_no rfl rfl rfl rfl rfl ?_
                refine at_val rfl rfl rfl (r_pick rfl rfl rfl) ?_
                refine at_val rfl rfl rfl (r_move rfl) ?_
                refine at_guard_no rfl rfl rfl rfl rfl ?_
                refine at_guard_no rfl rfl rfl rfl rfl ?_
                refine at_val rfl rfl rfl (r_pick rfl rfl rfl) ?_
                refine at_val rfl rfl rfl (r_move rfl) ?_
                refine at_guard_no rfl rfl rfl rfl rfl ?_
                refine at_guard_no rfl rfl rfl rfl rfl ?_
                refine at_val rfl rfl rfl (r_pick rfl rfl rfl) ?_
                refine at_val rfl rfl rfl (r_move rfl) ?_
                refine at_guard_no rfl rfl rfl rfl rfl ?_
                refine at_val rfl rfl rfl (r_pick rfl rfl rfl) ?_
                refine at_val rfl rfl rfl (r_assign rfl) ?_
                refine at_nil ?_
                refine at_drop (H := _) .z ?_
                refine at_drop (H := _) .z ?_
                refine at_drop (H := _) .z ?_
                refine at_drop (H := _) .z ?_
                refine at_weak [(2, _)] ⟨rfl, trivial⟩ ?_
                refine at_then_normal ?_
                refine at_ret ?_
                have K := of_some hF
                subst K
                exact at_return1 rfl rfl (fun w1 hw => ⟨rfl, hw.below⟩)
            · refine at_cond_false rfl h31 ?_
              refine at_skip ?_
              refine at_then_normal ?_
              refine at_seq ?_
              refine at_region ?_
              refine at_val rfl rfl rfl (r_load_aggc (c := c_api_Addr) (z := t29) Tryd.isAgg24 Tryd.sizeOf24 rfl (lens_cell .z (Lens.whole _ _))) ?_
              refine at_val rfl rfl rfl (r_load_aggc (c := c_api_Addr) (z := x0) Tryd.isAgg24 Tryd.sizeOf24 rfl (lens_cell (.s (.s (.s .z))) (Lens.whole _ _))) ?_
              refine at_val rfl rfl rfl (r_eqagg (c := c_api_Addr) (a := t29) (b := x0) (eq_api_Addr_24) rfl Tryd.eqGuardType24 rfl rfl (.inl rfl) rfl) ?_
              refine at_val rfl rfl rfl (r_move rfl) ?_
              rcases of_ite hF with ⟨h39, hF⟩ | ⟨h39, hF⟩
              · refine at_fix (g := 77) rfl h39 ?_
                refine at_guard_yes rfl rfl rfl ?_
                refine at_val rfl rfl rfl (r_load_aggc (c := c_api_Addr) (z := t25.1) Tryd.isAgg24 Tryd.sizeOf24 rfl (lens_cell (.s (.s .z)) (Lens.whole _ _))) ?_
                refine at_guard_yes rfl rfl rfl ?_
                refine at_val rfl rfl rfl (r_load_aggc (c := c_api_Addr) (z := x0) Tryd.isAgg24 Tryd.sizeOf24 rfl (lens_cell (.s (.s (.s .z))) (Lens.whole _ _))) ?_
                refine at_guard_yes rfl rfl rfl ?_
                refine at_val rfl rfl rfl (r_eqagg (c := c_api_Addr) (a := t25.1) (b := x0) (eq_api_Addr_24) rfl Tryd.eqGuardType24 rfl rfl (.inl rfl) rfl) ?_
                refine at_val rfl rfl rfl (r_pick rfl rfl rfl) ?_
                refine at_val rfl rfl rfl (r_move rfl) ?_
                rcases of_ite hF with ⟨h40, hF⟩ | ⟨h40, hF⟩
                · refine at_fix (g := 82) rfl h40 ?_
                  refine at_guard_yes rfl rfl rfl ?_
                  refine at_val rfl rfl rfl (r_load_aggc (c := c_api_Addr) (z := t27.1) Tryd.isAgg24 Tryd.sizeOf24 rfl (lens_cell (.s .z) (Lens.whole _ _))) ?_
                  refine at_guard_yes rfl rfl rfl ?_
                  refine at_val rfl rfl rfl (r_load_aggc (c := c_api_Addr) (z := x0) Tryd.isAgg24 Tryd.sizeOf24 rfl (lens_cell (.s (.s (.s .z))) (Lens.whole _ _))) ?_
                  refine at_guard_yes rfl rfl rfl ?_
                  refine at_val rfl rfl rfl (r_eqagg (c := c_api_Addr) (a := t27.1) (b := x0) (eq_api_Addr_24) rfl Tryd.eqGuardType24 rfl rfl (.inl rfl) rfl) ?_
                  refine at_val rfl rfl rfl (r_pick rfl rfl rfl) ?_
                  refine at_val rfl rfl rfl (r_move rfl) ?_
                  rcases of_ite hF with ⟨h41, hF⟩ | ⟨h41, hF⟩
                  · refine at_fix (g := 87) rfl h41 ?_
                    refine at_guard_yes rfl rfl rfl ?_
                    refine at_val rfl rfl rfl (r_move rfl) ?_
                    refine at_guard_yes rfl rfl rfl ?_
                    refine at_val rfl rfl rfl (r_ieql rfl rfl) ?_
                    refine at_val rfl rfl rfl (r_pick rfl rfl rfl) ?_
                    refine at_val rfl rfl rfl (r_move rfl) ?_
                    rcases of_ite hF with ⟨h42, hF⟩ | ⟨h42, hF⟩
                    · refine at_fix (g := 91) rfl h42 ?_
                      refine at_guard_yes rfl rfl rfl ?_
                      refine at_val rfl rfl rfl (r_move rfl) ?_
                      refine at_guard_yes rfl rfl rfl ?_
                      refine at_val rfl rfl rfl (r_ieql rfl rfl) ?_
                      refine at_val rfl rfl rfl (r_pick rfl rfl rfl) ?_
                      refine at_val rfl rfl rfl (r_move rfl) ?_
                      rcases of_ite hF with ⟨h43, hF⟩ | ⟨h43, hF⟩
                      · refine at_fix (g := 95) rfl h43 ?_
                        refine at_guard_yes rfl rfl rfl ?_
                        obtain ⟨t44, ht44, hF⟩ := of_bindM hF
                        refine at_callB Tryd.func19 rfl (by kernel_rfl) rfl rfl (fun w hw => crawlwaylaw10_alive_ok  _ ht44 w (hg_strconv_uint64pow10.on hw.below)) ?_
                        refine at_val rfl rfl rfl (r_pick rfl rfl rfl) ?_
                        refine at_val rfl rfl rfl (r_assign rfl) ?_
                        refine at_nil ?_
                        refine at_drop (H := _) .z ?_
                        refine at_drop (H := _) .z ?_
                        refine at_drop (H := _) .z ?_
                        refine at_drop (H := _) .z ?_
                        refine at_weak [(2, _)] ⟨rfl, trivial⟩ ?_
                        refine at_then_normal ?_
                        refine at_ret ?_
                        have K := of_some hF
                        subst K
                        exact at_return1 rfl rfl (fun w1 hw => ⟨rfl, hw.below⟩)
                      · refine at_fix (g := 95) rfl h43 ?_
                        refine at_guard_no rfl rfl rfl rfl rfl ?_
                        refine at_val rfl rfl rfl (r_pick rfl rfl rfl) ?_
                        refine at_val rfl rfl rfl (r_assign rfl) ?_
                        refine at_nil ?_
                        refine at_drop (H := _) .z ?_
                        refine at_drop (H := _) .z ?_
                        refine at_drop (H := _) .z ?_
                        refine at_drop (H := _) .z ?_
                        refine at_weak [(2, _)] ⟨rfl, trivial⟩ ?_
                        refine at_then_normal ?_
                        refine at_ret ?_
                        have K := of_some hF
                        subst K
                        exact at_return1 rfl rfl (fun w1 hw => ⟨rfl, hw.below⟩)
                    · refine at_fix (g := 91) rfl h42 ?_
                      refine at_guard_no rfl rfl rfl rfl rfl ?_
                      refine at_guard_no rfl rfl rfl rfl rfl ?_
                      refine at_val rfl rfl rfl (r_pick rfl rfl rfl) ?_
                      refine at_val rfl rfl rfl (r_move rfl) ?_
                      refine at_guard_no rfl rfl rfl rfl rfl ?_
                      refine at_val rfl rfl rfl (r_pick rfl rfl rfl) ?_
                      refine at_val rfl rfl rfl (r_assign rfl) ?_
                      refine at_nil ?_
                      refine at_drop (H := _) .z ?_
                      refine at_drop (H := _) .z ?_
                      refine at_drop (H := _) .z ?_
                      refine at_drop (H := _) .z ?_
                      refine at_weak [(2, _)] ⟨rfl, trivial⟩ ?_
                      refine at_then_normal ?_
                      refine at_ret ?_
                      have K := of_some hF
                      subst K
                      exact at_return1 rfl rfl (fun w1 hw => ⟨rfl, hw.below⟩)
                  · refine at_fix (g := 87) rfl h41 ?_
                    refine at_guard_no rfl rfl rfl rfl rfl ?_
                    refine at_guard_no rfl rfl rfl rfl rfl ?_
                    refine at_val rfl rfl rfl (r_pick rfl rfl rfl) ?_
                    refine at_val rfl rfl rfl (r_move rfl) ?_
                    refine at_guard_no rfl rfl rfl rfl rfl ?_
                    refine at_guard_no rfl rfl rfl rfl rfl ?_
                    refine at_val rfl rfl rfl (r_pick rfl rfl rfl) ?_
                    refine at_val rfl rfl rfl (r_move rfl) ?_
                    refine at_guard_no rfl rfl rfl rfl rfl ?_
                    refine at_val rfl rfl rfl (r_pick rfl rfl rfl) ?_
                    refine at_val rfl rfl rfl (r_assign rfl) ?_
                    refine at_nil ?_
                    refine at_drop (H := _) .z ?_
                    refine at_drop (H := _) .z ?_
                    refine at_drop (H := _) .z ?_
                    refine at_drop (H := _) .z ?_
                    refine at_weak [(2, _)] ⟨rfl, trivial⟩ ?_
                    refine at_then_normal ?_
                    refine at_ret ?_
                    have K := of_some hF
                    subst K
                    exact at_return1 rfl rfl (fun w1 hw => ⟨rfl, hw.below⟩)
                · refine at_fix (g := 82) rfl h40 ?_
                  refine at_guard_no rfl rfl rfl rfl rfl ?_
                  refine at_guard_no rfl rfl rfl rfl rfl ?_
                  refine at_guard_no rfl rfl rfl rfl rfl ?_
                  refine at_val rfl rfl rfl (r_pick rfl rfl rfl) ?_
                  refine at_val rfl rfl rfl (r_move rfl) ?_
                  refine at_guard_no rfl rfl rfl rfl rfl ?_
                  refine at_guard_no rfl rfl rfl rfl rfl ?_
                  refine at_val rfl rfl rfl (r_pick rfl rfl rfl) ?_
                  refine at_val rfl rfl rfl (r_move rfl) ?_
                  refine at_guard_no rfl rfl rfl rfl rfl ?_
                  refine at_guard_no rfl rfl rfl rfl rfl ?_
                  refine at_val rfl rfl rfl (r_pick rfl rfl rfl) ?_
                  refine at_val rfl rfl rfl (r_move rfl) ?_
                  refine at_guard_no rfl rfl rfl rfl rfl ?_
                  refine at_val rfl rfl rfl (r_pick rfl rfl rfl) ?_
                  refine at_val rfl rfl rfl (r_assign rfl) ?_
                  refine at_nil ?_
                  refine at_drop (H := _) .z ?_
                  refine at_drop (H := _) .z ?_
                  refine at_drop (H := _) .z ?_
                  refine at_drop (H := _) .z ?_
                  refine at_weak [(2, _)] ⟨rfl, trivial⟩ ?_
                  refine at_then_normal ?_
                  refine at_ret ?_
                  have K := of_some hF
                  subst K
                  exact at_return1 rfl rfl (fun w1 hw => ⟨rfl, hw.below⟩)
              · refine at_fix (g := 77) rfl h39 ?_
                refine at_guard_no rfl rfl rfl rfl rfl ?_
                refine at_guard_no rfl rfl rfl rfl rfl ?_
                refine at_guard_no rfl rfl rfl rfl rfl ?_
                refine at_val rfl rfl rfl (r_pick rfl rfl rfl) ?_
                refine at_val rfl rfl rfl (r_move rfl) ?_
                refine at_guard_no rfl rfl rfl rfl rfl ?_
                refine at_guard_no rfl rfl rfl rfl rfl ?_
                refine at_guard_no rfl rfl rfl rfl rfl ?_
                refine at_val rfl rfl rfl (r_pick rfl rfl rfl) ?_
                refine at_val rfl rfl rfl (r_move rfl) ?_
                refine at_guard_no rfl rfl rfl rfl rfl ?_
                refine at_guard_no rfl rfl rfl rfl rfl ?_
                refine at_val rfl rfl rfl (r_pick rfl rfl rfl) ?_
                refine at_val rfl rfl rfl (r_move rfl) ?_
                refine at_guard_no rfl rfl rfl rfl rfl ?_
                refine at_guard_no rfl rfl rfl rfl rfl ?_
                refine at_val rfl rfl rfl (r_pick rfl rfl rfl) ?_
                refine at_val rfl rfl rfl (r_move rfl) ?_
                refine at_guard_no rfl rfl rfl rfl rfl ?_
                refine at_val rfl rfl rfl (r_pick rfl rfl rfl) ?_
                refine at_val rfl rfl rfl (r_assign rfl) ?_
                refine at_nil ?_
                refine at_drop (H := _) .z ?_
                refine at_drop (H := _) .z ?_
                refine at_drop (H := _) .z ?_
                refine at_drop (H := _) .z ?_
                refine at_weak [(2, _)] ⟨rfl, trivial⟩ ?_
                refine at_then_normal ?_
                refine at_ret ?_
                have K := of_some hF
                subst K
                exact at_return1 rfl rfl (fun w1 hw => ⟨rfl, hw.below⟩)
end Go.Proofs.YtecolkjlpklaaaaDoor
