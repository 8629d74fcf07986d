/- Functions with the same answers as the Go functions that they are named for, and the proofs of it, by a program of this project (gen.py). -/
import Derived.Test.YtecolkjlpklaaaaDoorT
import Derived.Test.YtecolkjlpklaaaaDoorShelf
import Derived.Test.YtecolkjlpklaaaaDoorW
import Derived.Test.YtecolkjlpklaaaaDoorL
import Derived.Test.YtecolkjlpklaaaaDoorS
import Derived.Test.YtecolkjlpklaaaaDoorJ
import Derived.Test.YtecolkjlpklaaaaDoorK
import Derived.Test.YtecolkjlpklaaaaDoorR
import Derived.Test.YtecolkjlpklaaaaDoorProg
import Derived.Test.YtecolkjlpklaaaaDoorG1
import Derived.Test.YtecolkjlpklaaaaDoorG2
import Derived.Test.YtecolkjlpklaaaaDoorG3
import Derived.Test.YtecolkjlpklaaaaDoorH4
import Derived.Test.YtecolkjlpklaaaaDoorH5
import Derived.Test.YtecolkjlpklaaaaDoorH6
set_option linter.unusedVariables false
set_option linter.unusedSimpArgs false
namespace Go.Proofs.YtecolkjlpklaaaaDoor
open E Go.RowKit


def cidr_Of (x0 : S_api_Addr) (x1 : Int) : Option (S_api_Prefix × Int) :=
  addr_Right x0 >>= fun t3 => if (!t3) = true then (some (({ f_A := ({ f_V := (0 : Int), f_B := (Vector.replicate 16 (0 : Int) : (Vector Int 16)) } : S_api_Addr), f_Bits := (0 : Int) } : S_api_Prefix), 1)) else (if (decide (x1 < 0)) = true then (some (({ f_A := ({ f_V := (0 : Int), f_B := (Vector.replicate 16 (0 : Int) : (Vector Int 16)) } : S_api_Addr), f_Bits := (0 : Int) } : S_api_Prefix), 6)) else (addr_Width x0 >>= fun t6 => if (decide (x1 > t6)) = true then (some (({ f_A := ({ f_V := (0 : Int), f_B := (Vector.replicate 16 (0 : Int) : (Vector Int 16)) } : S_api_Addr), f_Bits := (0 : Int) } : S_api_Prefix), 6)) else (addr_Mask x0 x1 >>= fun t8 => some ({ { ({ f_A := ({ f_V := (0 : Int), f_B := (Vector.replicate 16 (0 : Int) : (Vector Int 16)) } : S_api_Addr), f_Bits := (0 : Int) } : S_api_Prefix) with f_A := t8 } with f_Bits := x1 }, 0))))
theorem cidr_Of_ok (x0 : S_api_Addr) (x1 : Int) (r : S_api_Prefix × Int) (hF : cidr_Of x0 x1 = some r) (w : World) :
    Calls Tryd.prog 43 #[.agg (Cd.cs c_api_Addr x0).toArray, .int .i64 x1] w (fun e w' => e = .returned (.tuple #[.agg (Cd.cs c_api_Prefix r.1).toArray, .int .i64 r.2]) ∧ Below w.heap.size w w') := by
  unfold cidr_Of at hF
  refine calls_enter (l := [.agg (Cd.cs c_api_Addr x0).toArray, .int .i64 x1]) Tryd.func43 rfl rfl rfl ?_
  refine at_start ?_
  refine at_weak [(0, _), (1, _)] ⟨rfl, rfl, trivial⟩ ?_
  refine at_seq ?_
  refine at_region ?_
  refine at_box (cs := Cd.cs c_api_Addr x0) rfl rfl rfl ?_
  intro b1
  refine at_alloc (cs := Cd.cs c_api_Prefix ({ f_A := ({ f_V := (0 : Int), f_B := (Vector.replicate 16 (0 : Int) : (Vector Int 16)) } : S_api_Addr), f_Bits := (0 : Int) } : S_api_Prefix)) Tryd.zeroValue50 rfl rfl ?_
  intro b2
  refine at_val rfl rfl rfl (r_assign rfl) ?_
  refine at_nil ?_
  refine at_weak [(1, _), (2, _), (4, _)] ⟨rfl, rfl, rfl, trivial⟩ ?_
  refine at_then_normal ?_
  refine at_seq ?_
  refine at_block ?_
  refine at_seq ?_
  refine at_region ?_
  refine at_val rfl rfl rfl (r_load_aggc (c := c_api_Addr) (z := x0) Tryd.isAgg24 Tryd.sizeOf24 rfl (lens_cell (.s .z) (Lens.whole _ _))) ?_
  obtain ⟨t3, ht3, hF⟩ := of_bindM hF
  refine at_callB Tryd.func36 rfl (by kernel_rfl) rfl rfl (fun w hw => addr_Right_ok _ _ ht3 w) ?_
  refine at_val rfl rfl rfl (r_not rfl) ?_
  refine at_val rfl rfl rfl (r_assign rfl) ?_
  refine at_nil ?_
  refine at_weak [(1, _), (2, _), (4, _), (6, _)] ⟨rfl, rfl, rfl, rfl, trivial⟩ ?_
  refine at_then_normal ?_
  rcases of_ite hF with ⟨h4, hF⟩ | ⟨h4, hF⟩
  · refine at_cond_true rfl h4 ?_
    refine at_seq ?_
    refine at_region ?_
    refine at_val rfl rfl rfl (r_build_struct (zs := Cd.cs c_api_Prefix ({ f_A := ({ f_V := (0 : Int), f_B := (Vector.replicate 16 (0 : Int) : (Vector Int 16)) } : S_api_Addr), f_Bits := (0 : Int) } : S_api_Prefix)) (cs := Cd.cs c_api_Prefix ({ f_A := ({ f_V := (0 : Int), f_B := (Vector.replicate 16 (0 : Int) : (Vector Int 16)) } : S_api_Addr), f_Bits := (0 : Int) } : S_api_Prefix)) Tryd.underlying50 Tryd.zeroValue50 rfl (places_api_Prefix_50) rfl rfl) ?_
    refine at_store (c := c_api_Prefix) (z := ({ f_A := ({ f_V := (0 : Int), f_B := (Vector.replicate 16 (0 : Int) : (Vector Int 16)) } : S_api_Addr), f_Bits := (0 : Int) } : S_api_Prefix)) .z (Lens.whole _ _) Tryd.sizeOf50 rfl rfl rfl ?_
    refine at_val rfl rfl rfl (r_assign rfl) ?_
    refine at_nil ?_
    refine at_drop (H := _) (.s .z) ?_
    refine at_weak [(4, _), (5, _)] ⟨rfl, rfl, trivial⟩ ?_
    refine at_then_normal ?_
    refine at_ret ?_
    refine at_blk_ret (at_then_ret ?_)
    have K := of_some hF
    subst K
    exact at_res2 rfl (res_cell (c := c_api_Prefix) (y := ({ f_A := ({ f_V := (0 : Int), f_B := (Vector.replicate 16 (0 : Int) : (Vector Int 16)) } : S_api_Addr), f_Bits := (0 : Int) } : S_api_Prefix)) rfl .z (Lens.whole _ _) Tryd.isAgg50 Tryd.sizeOf50 (.inl rfl)) (res_tmp rfl) (fun w1 hw => ⟨rfl, hw.below⟩)
  · refine at_cond_false rfl h4 ?_
    refine at_seq ?_
    refine at_region ?_
    refine at_val rfl rfl rfl (r_move rfl) ?_
    refine at_val rfl rfl rfl (r_ilss rfl rfl) ?_
    refine at_val rfl rfl rfl (r_move rfl) ?_
    rcases of_ite hF with ⟨h5, hF⟩ | ⟨h5, hF⟩
    · refine at_fix (g := 14) rfl h5 ?_
      refine at_guard_no rfl rfl rfl rfl rfl ?_
      refine at_guard_no rfl rfl rfl rfl rfl ?_
      refine at_guard_no rfl rfl rfl rfl rfl ?_
      refine at_guard_no rfl rfl rfl rfl rfl ?_
      refine at_val rfl rfl rfl (r_pick rfl rfl rfl) ?_
      refine at_val rfl rfl rfl (r_assign rfl) ?_
      refine at_nil ?_
      refine at_weak [(1, _), (2, _), (4, _), (11, _)] ⟨rfl, rfl, rfl, rfl, trivial⟩ ?_
      refine at_then_normal ?_
      refine at_cond_true rfl rfl ?_
      refine at_seq ?_
      refine at_region ?_
      refine at_val rfl rfl rfl (r_build_struct (zs := Cd.cs c_api_Prefix ({ f_A := ({ f_V := (0 : Int), f_B := (Vector.replicate 16 (0 : Int) : (Vector Int 16)) } : S_api_Addr), f_Bits := (0 : Int) } : S_api_Prefix)) (cs := Cd.cs c_api_Prefix ({ f_A := ({ f_V := (0 : Int), f_B := (Vector.replicate 16 (0 : Int) : (Vector Int 16)) } : S_api_Addr), f_Bits := (0 : Int) } : S_api_Prefix)) Tryd.underlying50 Tryd.zeroValue50 rfl (places_api_Prefix_50) rfl rfl) ?_
      refine at_store (c := c_api_Prefix) (z := ({ f_A := ({ f_V := (0 : Int), f_B := (Vector.replicate 16 (0 : Int) : (Vector Int 16)) } : S_api_Addr), f_Bits := (0 : Int) } : S_api_Prefix)) .z (Lens.whole _ _) Tryd.sizeOf50 rfl rfl rfl ?_
      refine at_val rfl rfl rfl (r_assign rfl) ?_
      refine at_nil ?_
      refine at_drop (H := _) (.s .z) ?_
      refine at_weak [(4, _), (5, _)] ⟨rfl, rfl, trivial⟩ ?_
      refine at_then_normal ?_
      refine at_ret ?_
      refine at_blk_ret (at_then_ret ?_)
      have K := of_some hF
      subst K
      exact at_res2 rfl (res_cell (c := c_api_Prefix) (y := ({ f_A := ({ f_V := (0 : Int), f_B := (Vector.replicate 16 (0 : Int) : (Vector Int 16)) } : S_api_Addr), f_Bits := (0 : Int) } : S_api_Prefix)) rfl .z (Lens.whole _ _) Tryd.isAgg50 Tryd.sizeOf50 (.inl rfl)) (res_tmp rfl) (fun w1 hw => ⟨rfl, hw.below⟩)
    · refine at_fix (g := 14) rfl h5 ?_
      refine at_guard_yes rfl rfl rfl ?_
      refine at_val rfl rfl rfl (r_move rfl) ?_
      refine at_guard_yes rfl rfl rfl ?_
      refine at_val rfl rfl rfl (r_load_aggc (c := c_api_Addr) (z := x0) Tryd.isAgg24 Tryd.sizeOf24 rfl (lens_cell (.s .z) (Lens.whole _ _))) ?_
      refine at_guard_yes rfl rfl rfl ?_
      obtain ⟨t6, ht6, hF⟩ := of_bindM hF
      refine at_callB Tryd.func40 rfl (by kernel_rfl) rfl rfl (fun w hw => addr_Width_ok _ _ ht6 w) ?_
      refine at_guard_yes rfl rfl rfl ?_
      refine at_val rfl rfl rfl (r_igtr rfl rfl) ?_
      refine at_val rfl rfl rfl (r_pick rfl rfl rfl) ?_
      refine at_val rfl rfl rfl (r_assign rfl) ?_
      refine at_nil ?_
      refine at_weak [(1, _), (2, _), (4, _), (11, _)] ⟨rfl, rfl, rfl, rfl, trivial⟩ ?_
      refine at_then_normal ?_
      rcases of_ite hF with ⟨h7, hF⟩ | ⟨h7, hF⟩
      · refine at_cond_true rfl h7 ?_
        refine at_seq ?_
        refine at_region ?_
        refine at_val rfl rfl rfl (r_build_struct (zs := Cd.cs c_api_Prefix ({ f_A := ({ f_V := (0 : Int), f_B := (Vector.replicate 16 (0 : Int) : (Vector Int 16)) } : S_api_Addr), f_Bits := (0 : Int) } : S_api_Prefix)) (cs := Cd.cs c_api_Prefix ({ f_A := ({ f_V := (0 : Int), f_B := (Vector.replicate 16 (0 : Int) : (Vector Int 16)) } : S_api_Addr), f_Bits := (0 : Int) } : S_api_Prefix)) Tryd.underlying50 Tryd.zeroValue50 rfl (places_api_Prefix_50) rfl rfl) ?_
        refine at_store (c := c_api_Prefix) (z := ({ f_A := ({ f_V := (0 : Int), f_B := (Vector.replicate 16 (0 : Int) : (Vector Int 16)) } : S_api_Addr), f_Bits := (0 : Int) } : S_api_Prefix)) .z (Lens.whole _ _) Tryd.sizeOf50 rfl rfl rfl ?_
        refine at_val rfl rfl rfl (r_assign rfl) ?_
        refine at_nil ?_
        refine at_drop (H := _) (.s .z) ?_
        refine at_weak [(4, _), (5, _)] ⟨rfl, rfl, trivial⟩ ?_
        refine at_then_normal ?_
        refine at_ret ?_
        refine at_blk_ret (at_then_ret ?_)
        have K := of_some hF
        subst K
        exact at_res2 rfl (res_cell (c := c_api_Prefix) (y := ({ f_A := ({ f_V := (0 : Int), f_B := (Vector.replicate 16 (0 : Int) : (Vector Int 16)) } : S_api_Addr), f_Bits := (0 : Int) } : S_api_Prefix)) rfl .z (Lens.whole _ _) Tryd.isAgg50 Tryd.sizeOf50 (.inl rfl)) (res_tmp rfl) (fun w1 hw => ⟨rfl, hw.below⟩)
      · refine at_cond_false rfl h7 ?_
        refine at_skip ?_
        refine at_blk_normal (at_then_normal ?_)
        refine at_seq ?_
        refine at_region ?_
        refine at_val rfl rfl rfl (r_load_aggc (c := c_api_Addr) (z := x0) Tryd.isAgg24 Tryd.sizeOf24 rfl (lens_cell (.s .z) (Lens.whole _ _))) ?_
        refine at_val rfl rfl rfl (r_move rfl) ?_
        obtain ⟨t8, ht8, hF⟩ := of_bindM hF
        refine at_callB Tryd.func15 rfl (by kernel_rfl) rfl rfl (fun w hw => addr_Mask_ok _ _ _ ht8 w) ?_
        refine at_val rfl rfl rfl (r_move rfl) ?_
        refine at_val rfl rfl rfl (r_build_struct (zs := Cd.cs c_api_Prefix ({ f_A := ({ f_V := (0 : Int), f_B := (Vector.replicate 16 (0 : Int) : (Vector Int 16)) } : S_api_Addr), f_Bits := (0 : Int) } : S_api_Prefix)) (cs := Cd.cs c_api_Prefix ({ { ({ f_A := ({ f_V := (0 : Int), f_B := (Vector.replicate 16 (0 : Int) : (Vector Int 16)) } : S_api_Addr), f_Bits := (0 : Int) } : S_api_Prefix) with f_A := t8 } with f_Bits := x1 })) Tryd.underlying50 Tryd.zeroValue50 rfl (places_api_Prefix_50) rfl (fill_step (c := c_api_Addr) (z := t8) rfl (c_api_Prefix_f_A ({ f_A := ({ f_V := (0 : Int), f_B := (Vector.replicate 16 (0 : Int) : (Vector Int 16)) } : S_api_Addr), f_Bits := (0 : Int) } : S_api_Prefix)) rfl (fill_step (c := (cInt .i64)) (z := x1) rfl (c_api_Prefix_f_Bits ({ ({ f_A := ({ f_V := (0 : Int), f_B := (Vector.replicate 16 (0 : Int) : (Vector Int 16)) } : S_api_Addr), f_Bits := (0 : Int) } : S_api_Prefix) with f_A := t8 })) rfl rfl))) ?_
        refine at_store (c := c_api_Prefix) (z := { { ({ f_A := ({ f_V := (0 : Int), f_B := (Vector.replicate 16 (0 : Int) : (Vector Int 16)) } : S_api_Addr), f_Bits := (0 : Int) } : S_api_Prefix) with f_A := t8 } with f_Bits := x1 }) .z (Lens.whole _ _) Tryd.sizeOf50 rfl rfl rfl ?_
        refine at_val rfl rfl rfl (r_assign rfl) ?_
        refine at_nil ?_
        refine at_drop (H := _) (.s .z) ?_
        refine at_weak [(4, _), (5, _)] ⟨rfl, rfl, trivial⟩ ?_
        refine at_then_normal ?_
        refine at_ret ?_
        have K := of_some hF
        subst K
        exact at_res2 rfl (res_cell (c := c_api_Prefix) (y := { { ({ f_A := ({ f_V := (0 : Int), f_B := (Vector.replicate 16 (0 : Int) : (Vector Int 16)) } : S_api_Addr), f_Bits := (0 : Int) } : S_api_Prefix) with f_A := t8 } with f_Bits := x1 }) rfl .z (Lens.whole _ _) Tryd.isAgg50 Tryd.sizeOf50 (.inl rfl)) (res_tmp rfl) (fun w1 hw => ⟨rfl, hw.below⟩)

def crawlwayref11_Of (x0 : S_api_Addr) (x1 : Int) : Option (S_api_Prefix × Int) :=
  crawlwayref10_Right x0 >>= fun t3 => if (!t3) = true then (some (({ f_A := ({ f_V := (0 : Int), f_B := (Vector.replicate 16 (0 : Int) : (Vector Int 16)) } : S_api_Addr), f_Bits := (0 : Int) } : S_api_Prefix), 1)) else (if (decide (x1 < 0)) = true then (some (({ f_A := ({ f_V := (0 : Int), f_B := (Vector.replicate 16 (0 : Int) : (Vector Int 16)) } : S_api_Addr), f_Bits := (0 : Int) } : S_api_Prefix), 6)) else (crawlwayref10_Width x0 >>= fun t6 => if (decide (x1 > t6)) = true then (some (({ f_A := ({ f_V := (0 : Int), f_B := (Vector.replicate 16 (0 : Int) : (Vector Int 16)) } : S_api_Addr), f_Bits := (0 : Int) } : S_api_Prefix), 6)) else (crawlwayref10_Mask x0 x1 >>= fun t8 => some ({ { ({ f_A := ({ f_V := (0 : Int), f_B := (Vector.replicate 16 (0 : Int) : (Vector Int 16)) } : S_api_Addr), f_Bits := (0 : Int) } : S_api_Prefix) with f_A := t8 } with f_Bits := x1 }, 0))))
theorem crawlwayref11_Of_ok (x0 : S_api_Addr) (x1 : Int) (r : S_api_Prefix × Int) (hF : crawlwayref11_Of x0 x1 = some r) (w : World) :
    Calls Tryd.prog 44 #[.agg (Cd.cs c_api_Addr x0).toArray, .int .i64 x1] w (fun e w' => e = .returned (.tuple #[.agg (Cd.cs c_api_Prefix r.1).toArray, .int .i64 r.2]) ∧ Below w.heap.size w w') := by
  unfold crawlwayref11_Of at hF
  refine calls_enter (l := [.agg (Cd.cs c_api_Addr x0).toArray, .int .i64 x1]) Tryd.func44 rfl rfl rfl ?_
  refine at_start ?_
  refine at_weak [(0, _), (1, _)] ⟨rfl, rfl, trivial⟩ ?_
  refine at_seq ?_
  refine at_region ?_
  refine at_box (cs := Cd.cs c_api_Addr x0) rfl rfl rfl ?_
  intro b1
  refine at_alloc (cs := Cd.cs c_api_Prefix ({ f_A := ({ f_V := (0 : Int), f_B := (Vector.replicate 16 (0 : Int) : (Vector Int 16)) } : S_api_Addr), f_Bits := (0 : Int) } : S_api_Prefix)) Tryd.zeroValue50 rfl rfl ?_
  intro b2
  refine at_val rfl rfl rfl (r_assign rfl) ?_
  refine at_nil ?_
  refine at_weak [(1, _), (2, _), (4, _)] ⟨rfl, rfl, rfl, trivial⟩ ?_
  refine at_then_normal ?_
  refine at_seq ?_
  refine at_seq ?_
  refine at_region ?_
  refine at_val rfl rfl rfl (r_load_aggc (c := c_api_Addr) (z := x0) Tryd.isAgg24 Tryd.sizeOf24 rfl (lens_cell (.s .z) (Lens.whole _ _))) ?_
  obtain ⟨t3, ht3, hF⟩ := of_bindM hF
  refine at_callB Tryd.func26 rfl (by kernel_rfl) rfl rfl (fun w hw => crawlwayref10_Right_ok _ _ ht3 w) ?_
  refine at_val rfl rfl rfl (r_not rfl) ?_
  refine at_nil ?_
  refine at_weak [(1, _), (2, _), (4, _), (8, _)] ⟨rfl, rfl, rfl, rfl, trivial⟩ ?_
  refine at_then_normal ?_
  rcases of_ite hF with ⟨h4, hF⟩ | ⟨h4, hF⟩
  · refine at_cond_true rfl h4 ?_
    refine at_seq ?_
    refine at_region ?_
    refine at_val rfl rfl rfl (r_build_struct (zs := Cd.cs c_api_Prefix ({ f_A := ({ f_V := (0 : Int), f_B := (Vector.replicate 16 (0 : Int) : (Vector Int 16)) } : S_api_Addr), f_Bits := (0 : Int) } : S_api_Prefix)) (cs := Cd.cs c_api_Prefix ({ f_A := ({ f_V := (0 : Int), f_B := (Vector.replicate 16 (0 : Int) : (Vector Int 16)) } : S_api_Addr), f_Bits := (0 : Int) } : S_api_Prefix)) Tryd.underlying50 Tryd.zeroValue50 rfl (places_api_Prefix_50) rfl rfl) ?_
    refine at_store (c := c_api_Prefix) (z := ({ f_A := ({ f_V := (0 : Int), f_B := (Vector.replicate 16 (0 : Int) : (Vector Int 16)) } : S_api_Addr), f_Bits := (0 : Int) } : S_api_Prefix)) .z (Lens.whole _ _) Tryd.sizeOf50 rfl rfl rfl ?_
    refine at_val rfl rfl rfl (r_assign rfl) ?_
    refine at_nil ?_
    refine at_drop (H := _) (.s .z) ?_
    refine at_weak [(4, _), (5, _)] ⟨rfl, rfl, trivial⟩ ?_
    refine at_then_normal ?_
    refine at_ret ?_
    refine at_then_ret ?_
    have K := of_some hF
    subst K
    exact at_res2 rfl (res_cell (c := c_api_Prefix) (y := ({ f_A := ({ f_V := (0 : Int), f_B := (Vector.replicate 16 (0 : Int) : (Vector Int 16)) } : S_api_Addr), f_Bits := (0 : Int) } : S_api_Prefix)) rfl .z (Lens.whole _ _) Tryd.isAgg50 Tryd.sizeOf50 (.inl rfl)) (res_tmp rfl) (fun w1 hw => ⟨rfl, hw.below⟩)
  · refine at_cond_false rfl h4 ?_
    refine at_skip ?_
    refine at_then_normal ?_
    refine at_seq ?_
    refine at_seq ?_
    refine at_region ?_
    refine at_val rfl rfl rfl (r_move rfl) ?_
    refine at_val rfl rfl rfl (r_ilss rfl rfl) ?_
    refine at_val rfl rfl rfl (r_move rfl) ?_
    rcases of_ite hF with ⟨h5, hF⟩ | ⟨h5, hF⟩
    · refine at_fix (g := 12) rfl h5 ?_
      refine at_guard_no rfl rfl rfl rfl rfl ?_
      refine at_guard_no rfl rfl rfl rfl rfl ?_
      refine at_guard_no rfl rfl rfl rfl rfl ?_
      refine at_guard_no rfl rfl rfl rfl rfl ?_
      refine at_val rfl rfl rfl (r_pick rfl rfl rfl) ?_
      refine at_nil ?_
      refine at_weak [(1, _), (2, _), (4, _), (17, _)] ⟨rfl, rfl, rfl, rfl, trivial⟩ ?_
      refine at_then_normal ?_
      refine at_cond_true rfl rfl ?_
      refine at_seq ?_
      refine at_region ?_
      refine at_val rfl rfl rfl (r_build_struct (zs := Cd.cs c_api_Prefix ({ f_A := ({ f_V := (0 : Int), f_B := (Vector.replicate 16 (0 : Int) : (Vector Int 16)) } : S_api_Addr), f_Bits := (0 : Int) } : S_api_Prefix)) (cs := Cd.cs c_api_Prefix ({ f_A := ({ f_V := (0 : Int), f_B := (Vector.replicate 16 (0 : Int) : (Vector Int 16)) } : S_api_Addr), f_Bits := (0 : Int) } : S_api_Prefix)) Tryd.underlying50 Tryd.zeroValue50 rfl (places_api_Prefix_50) rfl rfl) ?_
      refine at_store (c := c_api_Prefix) (z := ({ f_A := ({ f_V := (0 : Int), f_B := (Vector.replicate 16 (0 : Int) : (Vector Int 16)) } : S_api_Addr), f_Bits := (0 : Int) } : S_api_Prefix)) .z (Lens.whole _ _) Tryd.sizeOf50 rfl rfl rfl ?_
      refine at_val rfl rfl rfl (r_assign rfl) ?_
      refine at_nil ?_
      refine at_drop (H := _) (.s .z) ?_
      refine at_weak [(4, _), (5, _)] ⟨rfl, rfl, trivial⟩ ?_
      refine at_then_normal ?_
      refine at_ret ?_
      refine at_then_ret ?_
      have K := of_some hF
      subst K
      exact at_res2 rfl (res_cell (c := c_api_Prefix) (y := ({ f_A := ({ f_V := (0 : Int), f_B := (Vector.replicate 16 (0 : Int) : (Vector Int 16)) } : S_api_Addr), f_Bits := (0 : Int) } : S_api_Prefix)) rfl .z (Lens.whole _ _) Tryd.isAgg50 Tryd.sizeOf50 (.inl rfl)) (res_tmp rfl) (fun w1 hw => ⟨rfl, hw.below⟩)
    · refine at_fix (g := 12) rfl h5 ?_
      refine at_guard_yes rfl rfl rfl ?_
      refine at_val rfl rfl rfl (r_move rfl) ?_
      refine at_guard_yes rfl rfl rfl ?_
      refine at_val rfl rfl rfl (r_load_aggc (c := c_api_Addr) (z := x0) Tryd.isAgg24 Tryd.sizeOf24 rfl (lens_cell (.s .z) (Lens.whole _ _))) ?_
      refine at_guard_yes rfl rfl rfl ?_
      obtain ⟨t6, ht6, hF⟩ := of_bindM hF
      refine at_callB Tryd.func29 rfl (by kernel_rfl) rfl rfl (fun w hw => crawlwayref10_Width_ok _ _ ht6 w) ?_
      refine at_guard_yes rfl rfl rfl ?_
      refine at_val rfl rfl rfl (r_igtr rfl rfl) ?_
      refine at_val rfl rfl rfl (r_pick rfl rfl rfl) ?_
      refine at_nil ?_
      refine at_weak [(1, _), (2, _), (4, _), (17, _)] ⟨rfl, rfl, rfl, rfl, trivial⟩ ?_
      refine at_then_normal ?_
      rcases of_ite hF with ⟨h7, hF⟩ | ⟨h7, hF⟩
      · refine at_cond_true rfl h7 ?_
        refine at_seq ?_
        refine at_region ?_
        refine at_val rfl rfl rfl (r_build_struct (zs := Cd.cs c_api_Prefix ({ f_A := ({ f_V := (0 : Int), f_B := (Vector.replicate 16 (0 : Int) : (Vector Int 16)) } : S_api_Addr), f_Bits := (0 : Int) } : S_api_Prefix)) (cs := Cd.cs c_api_Prefix ({ f_A := ({ f_V := (0 : Int), f_B := (Vector.replicate 16 (0 : Int) : (Vector Int 16)) } : S_api_Addr), f_Bits := (0 : Int) } : S_api_Prefix)) Tryd.underlying50 Tryd.zeroValue50 rfl (places_api_Prefix_50) rfl rfl) ?_
        refine at_store (c := c_api_Prefix) (z := ({ f_A := ({ f_V := (0 : Int), f_B := (Vector.replicate 16 (0 : Int) : (Vector Int 16)) } : S_api_Addr), f_Bits := (0 : Int) } : S_api_Prefix)) .z (Lens.whole _ _) Tryd.sizeOf50 rfl rfl rfl ?_
        refine at_val rfl rfl rfl (r_assign rfl) ?_
        refine at_nil ?_
        refine at_drop (H := _) (.s .z) ?_
        refine at_weak [(4, _), (5, _)] ⟨rfl, rfl, trivial⟩ ?_
        refine at_then_normal ?_
        refine at_ret ?_
        refine at_then_ret ?_
        have K := of_some hF
        subst K
        exact at_res2 rfl (res_cell (c := c_api_Prefix) (y := ({ f_A := ({ f_V := (0 : Int), f_B := (Vector.replicate 16 (0 : Int) : (Vector Int 16)) } : S_api_Addr), f_Bits := (0 : Int) } : S_api_Prefix)) rfl .z (Lens.whole _ _) Tryd.isAgg50 Tryd.sizeOf50 (.inl rfl)) (res_tmp rfl) (fun w1 hw => ⟨rfl, hw.below⟩)
      · refine at_cond_false rfl h7 ?_
        refine at_skip ?_
        refine at_then_normal ?_
        refine at_seq ?_
        refine at_region ?_
        refine at_val rfl rfl rfl (r_load_aggc (c := c_api_Addr) (z := x0) Tryd.isAgg24 Tryd.sizeOf24 rfl (lens_cell (.s .z) (Lens.whole _ _))) ?_
        refine at_val rfl rfl rfl (r_move rfl) ?_
        obtain ⟨t8, ht8, hF⟩ := of_bindM hF
        refine at_callB Tryd.func18 rfl (by kernel_rfl) rfl rfl (fun w hw => crawlwayref10_Mask_ok _ _ _ ht8 w) ?_
        refine at_val rfl rfl rfl (r_move rfl) ?_
        refine at_val rfl rfl rfl (r_build_struct (zs := Cd.cs c_api_Prefix ({ f_A := ({ f_V := (0 : Int), f_B := (Vector.replicate 16 (0 : Int) : (Vector Int 16)) } : S_api_Addr), f_Bits := (0 : Int) } : S_api_Prefix)) (cs := Cd.cs c_api_Prefix ({ { ({ f_A := ({ f_V := (0 : Int), f_B := (Vector.replicate 16 (0 : Int) : (Vector Int 16)) } : S_api_Addr), f_Bits := (0 : Int) } : S_api_Prefix) with f_A := t8 } with f_Bits := x1 })) Tryd.underlying50 Tryd.zeroValue50 rfl (places_api_Prefix_50) rfl (fill_step (c := c_api_Addr) (z := t8) rfl (c_api_Prefix_f_A ({ f_A := ({ f_V := (0 : Int), f_B := (Vector.replicate 16 (0 : Int) : (Vector Int 16)) } : S_api_Addr), f_Bits := (0 : Int) } : S_api_Prefix)) rfl (fill_step (c := (cInt .i64)) (z := x1) rfl (c_api_Prefix_f_Bits ({ ({ f_A := ({ f_V := (0 : Int), f_B := (Vector.replicate 16 (0 : Int) : (Vector Int 16)) } : S_api_Addr), f_Bits := (0 : Int) } : S_api_Prefix) with f_A := t8 })) rfl rfl))) ?_
        refine at_store (c := c_api_Prefix) (z := { { ({ f_A := ({ f_V := (0 : Int), f_B := (Vector.replicate 16 (0 : Int) : (Vector Int 16)) } : S_api_Addr), f_Bits := (0 : Int) } : S_api_Prefix) with f_A := t8 } with f_Bits := x1 }) .z (Lens.whole _ _) Tryd.sizeOf50 rfl rfl rfl ?_
        refine at_val rfl rfl rfl (r_assign rfl) ?_
        refine at_nil ?_
        refine at_drop (H := _) (.s .z) ?_
        refine at_weak [(4, _), (5, _)] ⟨rfl, rfl, trivial⟩ ?_
        refine at_then_normal ?_
        refine at_ret ?_
        have K := of_some hF
        subst K
        exact at_res2 rfl (res_cell (c := c_api_Prefix) (y := { { ({ f_A := ({ f_V := (0 : Int), f_B := (Vector.replicate 16 (0 : Int) : (Vector Int 16)) } : S_api_Addr), f_Bits := (0 : Int) } : S_api_Prefix) with f_A := t8 } with f_Bits := x1 }) rfl .z (Lens.whole _ _) Tryd.isAgg50 Tryd.sizeOf50 (.inl rfl)) (res_tmp rfl) (fun w1 hw => ⟨rfl, hw.below⟩)

def cidr_Right (x0 : S_api_Prefix) : Option (Bool) :=
  cidr_Of x0.f_A x0.f_Bits >>= fun t2 => if (t2.2 == 0) = true then (some (decide (t2.1 = x0))) else (some false)
theorem cidr_Right_ok (x0 : S_api_Prefix) (r : Bool) (hF : cidr_Right x0 = some r) (w : World) :
    Calls Tryd.prog 45 #[.agg (Cd.cs c_api_Prefix x0).toArray] w (fun e w' => e = .returned (.bool r) ∧ Below w.heap.size w w') := by
  unfold cidr_Right at hF
  refine calls_enter (l := [.agg (Cd.cs c_api_Prefix x0).toArray]) Tryd.func45 rfl rfl rfl ?_
  refine at_start ?_
  refine at_weak [(0, _)] ⟨rfl, trivial⟩ ?_
  refine at_seq ?_
  refine at_region ?_
  refine at_box (cs := Cd.cs c_api_Prefix x0) rfl rfl rfl ?_
  intro b1
  refine at_val rfl rfl rfl (r_assign rfl) ?_
  refine at_nil ?_
  refine at_weak [(1, _)] ⟨rfl, trivial⟩ ?_
  refine at_then_normal ?_
  refine at_seq ?_
  refine at_region ?_
  refine at_val rfl rfl rfl (r_fieldAddr (fo := 0) Tryd.underlying50 rfl rfl (fun w => ⟨_, Tryd.sizeOf24 w⟩) rfl) ?_
  refine at_val rfl rfl rfl (r_load_aggc (c := c_api_Addr) (z := x0.f_A) Tryd.isAgg24 Tryd.sizeOf24 rfl (lens_cell .z (Lens.comp (Lens.whole _ _) (fun z => { x0 with f_A := z }) (c_api_Prefix_f_A x0)))) ?_
  refine at_val rfl rfl rfl (r_fieldAddr (fo := 17) Tryd.underlying50 rfl rfl (fun w => ⟨_, Tryd.sizeOf3 w⟩) rfl) ?_
  refine at_val rfl rfl rfl (r_load_cell Tryd.isAgg3 rfl (lens_cell0 (c := (cInt .i64)) (y := x0.f_Bits) .z (Lens.comp (Lens.whole _ _) (fun z => { x0 with f_Bits := z }) (c_api_Prefix_f_Bits x0)) rfl)) ?_
  obtain ⟨t2, ht2, hF⟩ := of_bindM hF
  refine at_callB Tryd.func43 rfl (by kernel_rfl) rfl rfl (fun w hw => cidr_Of_ok _ _ _ ht2 w) ?_
  refine at_val rfl rfl rfl (r_move rfl) ?_
  refine at_val rfl rfl rfl (r_extract rfl rfl) ?_
  refine at_val rfl rfl rfl (r_extract rfl rfl) ?_
  refine at_alloc (cs := Cd.cs c_api_Prefix ({ f_A := ({ f_V := (0 : Int), f_B := (Vector.replicate 16 (0 : Int) : (Vector Int 16)) } : S_api_Addr), f_Bits := (0 : Int) } : S_api_Prefix)) Tryd.zeroValue50 rfl rfl ?_
  intro b3
  refine at_store (c := c_api_Prefix) (z := t2.1) .z (Lens.whole _ _) Tryd.sizeOf50 rfl rfl rfl ?_
  refine at_val rfl rfl rfl (r_assign rfl) ?_
  refine at_nil ?_
  refine at_weak [(1, _), (3, _), (4, _)] ⟨rfl, rfl, rfl, trivial⟩ ?_
  refine at_then_normal ?_
  refine at_seq ?_
  refine at_region ?_
  refine at_val rfl rfl rfl (r_move rfl) ?_
  refine at_val rfl rfl rfl (r_ieql rfl rfl) ?_
  refine at_val rfl rfl rfl (r_move rfl) ?_
  rcases of_ite hF with ⟨h4, hF⟩ | ⟨h4, hF⟩
  · refine at_fix (g := 15) rfl h4 ?_
    refine at_guard_yes rfl rfl rfl ?_
    refine at_val rfl rfl rfl (r_load_aggc (c := c_api_Prefix) (z := t2.1) Tryd.isAgg50 Tryd.sizeOf50 rfl (lens_cell .z (Lens.whole _ _))) ?_
    refine at_guard_yes rfl rfl rfl ?_
    refine at_val rfl rfl rfl (r_load_aggc (c := c_api_Prefix) (z := x0) Tryd.isAgg50 Tryd.sizeOf50 rfl (lens_cell (.s .z) (Lens.whole _ _))) ?_
    refine at_guard_yes rfl rfl rfl ?_
    refine at_val rfl rfl rfl (r_eqagg (c := c_api_Prefix) (a := t2.1) (b := x0) (eq_api_Prefix_50) rfl Tryd.eqGuardType50 rfl rfl (.inl rfl) rfl) ?_
    refine at_val rfl rfl rfl (r_pick rfl rfl rfl) ?_
    refine at_val rfl rfl rfl (r_assign rfl) ?_
    refine at_nil ?_
    refine at_drop (H := _) .z ?_
    refine at_drop (H := _) .z ?_
    refine at_weak [(2, _)] ⟨rfl, trivial⟩ ?_
    refine at_then_normal ?_
    refine at_ret ?_
    have K := of_some hF
    subst K
    exact at_return1 rfl rfl (fun w1 hw => ⟨rfl, hw.below⟩)
  · refine at_fix (g := 15) rfl h4 ?_
    refine at_guard_no rfl rfl rfl rfl rfl ?_
    refine at_guard_no rfl rfl rfl rfl rfl ?_
    refine at_guard_no rfl rfl rfl rfl rfl ?_
    refine at_val rfl rfl rfl (r_pick rfl rfl rfl) ?_
    refine at_val rfl rfl rfl (r_assign rfl) ?_
    refine at_nil ?_
    refine at_drop (H := _) .z ?_
    refine at_drop (H := _) .z ?_
    refine at_weak [(2, _)] ⟨rfl, trivial⟩ ?_
    refine at_then_normal ?_
    refine at_ret ?_
    have K := of_some hF
    subst K
    exact at_return1 rfl rfl (fun w1 hw => ⟨rfl, hw.below⟩)

def cidr_Whole (x0 : S_api_Addr) : Option (S_api_Prefix) :=
  addr_Width x0 >>= fun t3 => cidr_Of x0 t3 >>= fun t4 => some t4.1
theorem cidr_Whole_ok (x0 : S_api_Addr) (r : S_api_Prefix) (hF : cidr_Whole x0 = some r) (w : World) :
    Calls Tryd.prog 46 #[.agg (Cd.cs c_api_Addr x0).toArray] w (fun e w' => e = .returned (.agg (Cd.cs c_api_Prefix r).toArray) ∧ Below w.heap.size w w') := by
  unfold cidr_Whole at hF
  refine calls_enter (l := [.agg (Cd.cs c_api_Addr x0).toArray]) Tryd.func46 rfl rfl rfl ?_
  refine at_start ?_
  refine at_weak [(0, _)] ⟨rfl, trivial⟩ ?_
  refine at_seq ?_
  refine at_region ?_
  refine at_box (cs := Cd.cs c_api_Addr x0) rfl rfl rfl ?_
  intro b1
  refine at_alloc (cs := Cd.cs c_api_Prefix ({ f_A := ({ f_V := (0 : Int), f_B := (Vector.replicate 16 (0 : Int) : (Vector Int 16)) } : S_api_Addr), f_Bits := (0 : Int) } : S_api_Prefix)) Tryd.zeroValue50 rfl rfl ?_
  intro b2
  refine at_nil ?_
  refine at_weak [(1, _), (2, _)] ⟨rfl, rfl, trivial⟩ ?_
  refine at_then_normal ?_
  refine at_seq ?_
  refine at_weak [(1, _), (2, _)] ⟨rfl, rfl, trivial⟩ ?_
  obtain ⟨t3, ht3, hF⟩ := of_bindM hF
  obtain ⟨t4, ht4, hF⟩ := of_bindM hF
  refine at_inv [.q 6 (fun g6 => .agg (Cd.cs c_api_Addr x0).toArray) [] 0 1, .q 7 (fun g6 => .agg (Cd.cs c_api_Addr x0).toArray) [] 0 1, .q 8 (fun g6 => .int .i64 t3) [1] 0 1, .q 9 (fun g6 => .tuple #[.agg (Cd.cs c_api_Prefix t4.1).toArray, .int .i64 t4.2]) [0, 2] 0 1, .q 5 (fun g6 => .tuple #[.agg (Cd.cs c_api_Prefix t4.1).toArray, .int .i64 t4.2]) [3] 0 1, .q 10 (fun g6 => .agg (Cd.cs c_api_Prefix t4.1).toArray) [4] 0 1, .q 11 (fun g6 => .int .i64 t4.2) [4] 0 2, .al 0 3 (fun g6 => .pointer (some ⟨((g6 0).1), 0, none⟩)) [], .st 1 none [7, 5], .q 4 (fun g6 => .int .i64 t4.2) [6] 2 2] (fun g6 s => match s with | 0 => (Wd w [cellsE b2 (Cd.cs c_api_Prefix ({ f_A := ({ f_V := (0 : Int), f_B := (Vector.replicate 16 (0 : Int) : (Vector Int 16)) } : S_api_Addr), f_Bits := (0 : Int) } : S_api_Prefix)) 50, cellsE b1 (Cd.cs c_api_Addr x0) 24]) | 1 => (Wd w [cellsE ((g6 0).1) (Cd.cs c_api_Prefix ({ f_A := ({ f_V := (0 : Int), f_B := (Vector.replicate 16 (0 : Int) : (Vector Int 16)) } : S_api_Addr), f_Bits := (0 : Int) } : S_api_Prefix)) 50, cellsE b2 (Cd.cs c_api_Prefix ({ f_A := ({ f_V := (0 : Int), f_B := (Vector.replicate 16 (0 : Int) : (Vector Int 16)) } : S_api_Addr), f_Bits := (0 : Int) } : S_api_Prefix)) 50, cellsE b1 (Cd.cs c_api_Addr x0) 24]) | _ => (Wd w [cellsE ((g6 0).1) (Cd.cs c_api_Prefix t4.1) 50, cellsE b2 (Cd.cs c_api_Prefix ({ f_A := ({ f_V := (0 : Int), f_B := (Vector.replicate 16 (0 : Int) : (Vector Int 16)) } : S_api_Addr), f_Bits := (0 : Int) } : S_api_Prefix)) 50, cellsE b1 (Cd.cs c_api_Addr x0) 24])) 2 (by kernel_rfl) (by kernel_rfl) (by kernel_rfl) (by kernel_rfl) (by kernel_rfl) ⟨fun _ _ _ => rfl, fun _ _ _ => rfl, fun _ _ _ => rfl, fun _ _ _ => rfl, fun _ _ _ => rfl, fun _ _ _ => rfl, fun _ _ _ => rfl, fun g6 g2 h => by show (.pointer (some ⟨((g6 0).1), 0, none⟩) : Value) = .pointer (some ⟨((g2 0).1), 0, none⟩); rw [h 0 (show 0 < 1 by decide)], fun _ _ _ => rfl, fun _ _ _ => rfl, trivial⟩ (by kernel_rfl) (fun _ h => ⟨fun _ => (0, none, 0), h.drew⟩) ⟨?_, ?_, ?_, ?_, ?_, ?_, ?_, ?_, ?_, ?_, trivial⟩ ?_
  · intro Lx g6 s K hl hh k
    show At 13 ((1, _) :: (2, _) :: Lx) _ _
    rcases (by omega : s = 0 ∨ s = 1) with rfl | rfl
    · skip
      refine at_val rfl rfl rfl (r_load_aggc (c := c_api_Addr) (z := x0) Tryd.isAgg24 Tryd.sizeOf24 rfl (lens_cell (.s .z) (Lens.whole _ _))) ?_
      exact at_nil k
    · skip
      refine at_val rfl rfl rfl (r_load_aggc (c := c_api_Addr) (z := x0) Tryd.isAgg24 Tryd.sizeOf24 rfl (lens_cell (.s (.s .z)) (Lens.whole _ _))) ?_
      exact at_nil k
  · intro Lx g6 s K hl hh k
    show At 13 ((1, _) :: (2, _) :: Lx) _ _
    rcases (by omega : s = 0 ∨ s = 1) with rfl | rfl
    · skip
      refine at_val rfl rfl rfl (r_load_aggc (c := c_api_Addr) (z := x0) Tryd.isAgg24 Tryd.sizeOf24 rfl (lens_cell (.s .z) (Lens.whole _ _))) ?_
      exact at_nil k
    · skip
      refine at_val rfl rfl rfl (r_load_aggc (c := c_api_Addr) (z := x0) Tryd.isAgg24 Tryd.sizeOf24 rfl (lens_cell (.s (.s .z)) (Lens.whole _ _))) ?_
      exact at_nil k
  · intro Lx g6 s K hl hh k
    show At 13 ((7, _) :: (1, _) :: (2, _) :: Lx) _ _
    rcases (by omega : s = 0 ∨ s = 1) with rfl | rfl
    · skip
      refine at_callB Tryd.func40 rfl (by kernel_rfl) rfl rfl (fun w hw => addr_Width_ok _ _ ht3 w) ?_
      exact at_nil k
    · skip
      refine at_callB Tryd.func40 rfl (by kernel_rfl) rfl rfl (fun w hw => addr_Width_ok _ _ ht3 w) ?_
      exact at_nil k
  · intro Lx g6 s K hl hh k
    show At 13 ((6, _) :: (8, _) :: (1, _) :: (2, _) :: Lx) _ _
    rcases (by omega : s = 0 ∨ s = 1) with rfl | rfl
    · skip
      refine at_callB Tryd.func43 rfl (by kernel_rfl) rfl rfl (fun w hw => cidr_Of_ok _ _ _ ht4 w) ?_
      exact at_nil k
    · skip
      refine at_callB Tryd.func43 rfl (by kernel_rfl) rfl rfl (fun w hw => cidr_Of_ok _ _ _ ht4 w) ?_
      exact at_nil k
  · intro Lx g6 s K hl hh k
    show At 13 ((9, _) :: (1, _) :: (2, _) :: Lx) _ _
    refine at_val rfl rfl rfl (r_move rfl) ?_
    exact at_nil k
  · intro Lx g6 s K hl hh k
    show At 13 ((5, _) :: (1, _) :: (2, _) :: Lx) _ _
    refine at_val rfl rfl rfl (r_extract rfl rfl) ?_
    exact at_nil k
  · intro Lx g6 s K hl hh k
    show At 13 ((5, _) :: (1, _) :: (2, _) :: Lx) _ _
    refine at_val rfl rfl rfl (r_extract rfl rfl) ?_
    exact at_nil k
  · intro Lx g6 K k
    show At 13 ((1, _) :: (2, _) :: Lx) _ _
    refine at_alloc (cs := Cd.cs c_api_Prefix ({ f_A := ({ f_V := (0 : Int), f_B := (Vector.replicate 16 (0 : Int) : (Vector Int 16)) } : S_api_Addr), f_Bits := (0 : Int) } : S_api_Prefix)) Tryd.zeroValue50 rfl rfl ?_
    intro b5
    exact at_nil (k (b5, none, 0))
  · intro Lx g6 K k
    show At 13 ((3, _) :: (10, _) :: (1, _) :: (2, _) :: Lx) _ _
    refine at_store (c := c_api_Prefix) (z := t4.1) .z (Lens.whole _ _) Tryd.sizeOf50 rfl rfl rfl ?_
    exact at_nil k
  · intro Lx g6 s K hl hh k
    show At 13 ((11, _) :: (1, _) :: (2, _) :: Lx) _ _
    refine at_val rfl rfl rfl (r_assign rfl) ?_
    exact at_nil k
  intro g6
  show At 13 [(6, _), (7, _), (8, _), (9, _), (5, _), (10, _), (11, _), (3, _), (4, _), (1, _), (2, _)] _ _
  refine at_drop (H := _) (.s (.s .z)) ?_
  refine at_weak [(2, _), (3, _)] ⟨rfl, rfl, trivial⟩ ?_
  refine at_then_normal ?_
  refine at_seq ?_
  refine at_region ?_
  refine at_val rfl rfl rfl (r_load_aggc (c := c_api_Prefix) (z := t4.1) Tryd.isAgg50 Tryd.sizeOf50 rfl (lens_cell .z (Lens.whole _ _))) ?_
  refine at_store (c := c_api_Prefix) (z := t4.1) (.s .z) (Lens.whole _ _) Tryd.sizeOf50 rfl rfl rfl ?_
  refine at_nil ?_
  refine at_drop (H := _) .z ?_
  refine at_weak [(2, _)] ⟨rfl, trivial⟩ ?_
  refine at_then_normal ?_
  refine at_ret ?_
  have K := of_some hF
  subst K
  exact at_res1 rfl (res_cell (c := c_api_Prefix) (y := t4.1) rfl .z (Lens.whole _ _) Tryd.isAgg50 Tryd.sizeOf50 (.inl rfl)) (fun w1 hw => ⟨rfl, hw.below⟩)

def cidr_Text (x0 : S_api_Prefix) : Option (ByteArray) :=
  cidr_Right x0 >>= fun t2 => if (!t2) = true then (some (⟨#[]⟩)) else (addr_Text x0.f_A >>= fun t4 => if t4.size + (⟨#[47]⟩ : ByteArray).size ≤ 140737488355328 then decimal_Text (wr .u64 x0.f_Bits) >>= fun t6 => if (t4 ++ (⟨#[47]⟩ : ByteArray)).size + t6.size ≤ 140737488355328 then some ((t4 ++ (⟨#[47]⟩ : ByteArray)) ++ t6) else none else none)
theorem cidr_Text_ok (x0 : S_api_Prefix) (r : ByteArray) (hF : cidr_Text x0 = some r) (w : World) (hg_strconv_uint64pow10 : GV_strconv_uint64pow10 w) :
    Calls Tryd.prog 48 #[.agg (Cd.cs c_api_Prefix x0).toArray] w (fun e w' => e = .returned (.string r) ∧ Below w.heap.size w w') := by
  unfold cidr_Text at hF
  refine calls_enter (l := [.agg (Cd.cs c_api_Prefix x0).toArray]) Tryd.func48 rfl rfl rfl ?_
  refine at_start ?_
  refine at_weak [(0, _)] ⟨rfl, trivial⟩ ?_
  refine at_seq ?_
  refine at_region ?_
  refine at_box (cs := Cd.cs c_api_Prefix x0) rfl rfl rfl ?_
  intro b1
  refine at_val rfl rfl rfl (r_assign rfl) ?_
  refine at_nil ?_
  refine at_weak [(1, _)] ⟨rfl, trivial⟩ ?_
  refine at_then_normal ?_
  refine at_seq ?_
  refine at_seq ?_
  refine at_region ?_
  refine at_val rfl rfl rfl (r_load_aggc (c := c_api_Prefix) (z := x0) Tryd.isAgg50 Tryd.sizeOf50 rfl (lens_cell .z (Lens.whole _ _))) ?_
  obtain ⟨t2, ht2, hF⟩ := of_bindM hF
  refine at_callB Tryd.func45 rfl (by kernel_rfl) rfl rfl (fun w hw => cidr_Right_ok _ _ ht2 w) ?_
  refine at_val rfl rfl rfl (r_not rfl) ?_
  refine at_nil ?_
  refine at_weak [(1, _), (5, _)] ⟨rfl, rfl, trivial⟩ ?_
  refine at_then_normal ?_
  rcases of_ite hF with ⟨h3, hF⟩ | ⟨h3, hF⟩
  · refine at_cond_true rfl h3 ?_
    refine at_seq ?_
    refine at_region ?_
    refine at_val rfl rfl rfl (r_assign rfl) ?_
    refine at_nil ?_
    refine at_drop (H := _) .z ?_
    refine at_weak [(2, _)] ⟨rfl, trivial⟩ ?_
    refine at_then_normal ?_
    refine at_ret ?_
    refine at_then_ret ?_
    have K := of_some hF
    subst K
    exact at_return1 rfl rfl (fun w1 hw => ⟨rfl, hw.below⟩)
  · refine at_cond_false rfl h3 ?_
    refine at_skip ?_
    refine at_then_normal ?_
    refine at_seq ?_
    refine at_draw (by kernel_rfl) (by kernel_rfl) (fun _ h => h.drew) ?_
    refine atq_val rfl rfl rfl (r_fieldAddr (fo := 0) Tryd.underlying50 rfl rfl (fun w => ⟨_, Tryd.sizeOf24 w⟩) rfl) ?_
    refine atq_val rfl rfl rfl (r_load_aggc (c := c_api_Addr) (z := x0.f_A) Tryd.isAgg24 Tryd.sizeOf24 rfl (lens_cell .z (Lens.comp (Lens.whole _ _) (fun z => { x0 with f_A := z }) (c_api_Prefix_f_A x0)))) ?_
    obtain ⟨t4, ht4, hF⟩ := of_bindM hF
    refine atq_call Tryd.func35 rfl (by kernel_rfl) rfl rfl (fun w hw => (addr_Text_ok _ _ ht4 w (hg_strconv_uint64pow10.on hw.below)).mono fun _ _ h => ⟨h.1, hw.call h.2⟩) ?_
    obtain ⟨h5, hF⟩ := of_guard hF
    refine atq_val rfl rfl rfl (r_concat rfl rfl h5) ?_
    refine atq_val rfl rfl rfl (r_fieldAddr (fo := 17) Tryd.underlying50 rfl rfl (fun w => ⟨_, Tryd.sizeOf3 w⟩) rfl) ?_
    refine atq_val rfl rfl rfl (r_load_cell Tryd.isAgg3 rfl (lens_cell0 (c := (cInt .i64)) (y := x0.f_Bits) .z (Lens.comp (Lens.whole _ _) (fun z => { x0 with f_Bits := z }) (c_api_Prefix_f_Bits x0)) rfl)) ?_
    refine atq_val rfl rfl rfl (r_conv Tryd.underlying3 Tryd.underlying83 rfl) ?_
    obtain ⟨t6, ht6, hF⟩ := of_bindM hF
    refine atq_call Tryd.func74 rfl (by kernel_rfl) rfl rfl (fun w hw => (decimal_Text_ok _ _ ht6 w (hg_strconv_uint64pow10.on hw.below)).mono fun _ _ h => ⟨h.1, hw.call h.2⟩) ?_
    obtain ⟨h7, hF⟩ := of_guard hF
    refine atq_val rfl rfl rfl (r_concat rfl rfl h7) ?_
    refine atq_val rfl rfl rfl (r_assign rfl) ?_
    refine atq_nil ?_
    refine at_drop (H := _) .z ?_
    refine at_weak [(2, _)] ⟨rfl, trivial⟩ ?_
    refine at_then_normal ?_
    refine at_ret ?_
    have K := of_some hF
    subst K
    exact at_return1 rfl rfl (fun w1 hw => ⟨rfl, hw.below⟩)

def cidr_Parse (x0 : ByteArray) : Option (S_api_Prefix × Int) :=
  lines_Cut x0 47 >>= fun t2 => addr_Parse t2.1 >>= fun t3 => if (t3.2 != 0) = true then (some (({ f_A := ({ f_V := (0 : Int), f_B := (Vector.replicate 16 (0 : Int) : (Vector Int 16)) } : S_api_Addr), f_Bits := (0 : Int) } : S_api_Prefix), t3.2)) else (if (!t2.2.2) = true then (cidr_Whole t3.1 >>= fun t7 => some (t7, 0)) else (addr_Width t3.1 >>= fun t8 => decimal_Read t2.2.1 (wr .u64 t8) >>= fun t9 => if (t9.2 != 0) = true then (some (({ f_A := ({ f_V := (0 : Int), f_B := (Vector.replicate 16 (0 : Int) : (Vector Int 16)) } : S_api_Addr), f_Bits := (0 : Int) } : S_api_Prefix), t9.2)) else (cidr_Of t3.1 (wr .i64 t9.1) >>= fun t11 => some (t11.1, t11.2))))
theorem cidr_Parse_ok (x0 : ByteArray) (r : S_api_Prefix × Int) (hF : cidr_Parse x0 = some r) (w : World) (hg_strconv_ErrRange : GV_strconv_ErrRange w) (hg_strconv_ErrSyntax : GV_strconv_ErrSyntax w) :
    Calls Tryd.prog 51 #[.string x0] w (fun e w' => e = .returned (.tuple #[.agg (Cd.cs c_api_Prefix r.1).toArray, .int .i64 r.2]) ∧ Below w.heap.size w w') := by
  unfold cidr_Parse at hF
  refine calls_enter (l := [.string x0]) Tryd.func51 rfl rfl rfl ?_
  refine at_start ?_
  refine at_weak [(0, _)] ⟨rfl, trivial⟩ ?_
  refine at_seq ?_
  refine at_region ?_
  refine at_alloc (cs := Cd.cs c_api_Prefix ({ f_A := ({ f_V := (0 : Int), f_B := (Vector.replicate 16 (0 : Int) : (Vector Int 16)) } : S_api_Addr), f_Bits := (0 : Int) } : S_api_Prefix)) Tryd.zeroValue50 rfl rfl ?_
  intro b1
  refine at_val rfl rfl rfl (r_assign rfl) ?_
  refine at_nil ?_
  refine at_weak [(0, _), (2, _)] ⟨rfl, rfl, trivial⟩ ?_
  refine at_then_normal ?_
  refine at_seq ?_
  refine at_region ?_
  refine at_val rfl rfl rfl (r_move rfl) ?_
  obtain ⟨t2, ht2, hF⟩ := of_bindM hF
  refine at_callB Tryd.func67 rfl (by kernel_rfl) rfl rfl (fun w hw => lines_Cut_ok _ _ _ ht2 w) ?_
  refine at_val rfl rfl rfl (r_move rfl) ?_
  refine at_val rfl rfl rfl (r_extract rfl rfl) ?_
  refine at_val rfl rfl rfl (r_extract rfl rfl) ?_
  refine at_val rfl rfl rfl (r_extract rfl rfl) ?_
  refine at_val rfl rfl rfl (r_assign rfl) ?_
  refine at_val rfl rfl rfl (r_assign rfl) ?_
  refine at_val rfl rfl rfl (r_assign rfl) ?_
  refine at_nil ?_
  refine at_weak [(2, _), (4, _), (5, _), (6, _)] ⟨rfl, rfl, rfl, rfl, trivial⟩ ?_
  refine at_then_normal ?_
  refine at_seq ?_
  refine at_region ?_
  refine at_val rfl rfl rfl (r_move rfl) ?_
  obtain ⟨t3, ht3, hF⟩ := of_bindM hF
  refine at_callB Tryd.func30 rfl (by kernel_rfl) rfl rfl (fun w hw => addr_Parse_ok _ _ ht3 w (hg_strconv_ErrRange.on hw.below) (hg_strconv_ErrSyntax.on hw.below)) ?_
  refine at_val rfl rfl rfl (r_move rfl) ?_
  refine at_val rfl rfl rfl (r_extract rfl rfl) ?_
  refine at_val rfl rfl rfl (r_extract rfl rfl) ?_
  refine at_alloc (cs := Cd.cs c_api_Addr ({ f_V := (0 : Int), f_B := (Vector.replicate 16 (0 : Int) : (Vector Int 16)) } : S_api_Addr)) Tryd.zeroValue24 rfl rfl ?_
  intro b4
  refine at_store (c := c_api_Addr) (z := t3.1) .z (Lens.whole _ _) Tryd.sizeOf24 rfl rfl rfl ?_
  refine at_val rfl rfl rfl (r_assign rfl) ?_
  refine at_nil ?_
  refine at_weak [(2, _), (5, _), (6, _), (7, _), (8, _)] ⟨rfl, rfl, rfl, rfl, rfl, trivial⟩ ?_
  refine at_then_normal ?_
  refine at_seq ?_
  refine at_block ?_
  refine at_seq ?_
  refine at_region ?_
  refine at_val rfl rfl rfl (r_move rfl) ?_
  refine at_val rfl rfl rfl (r_ineq rfl rfl) ?_
  refine at_val rfl rfl rfl (r_assign rfl) ?_
  refine at_nil ?_
  refine at_weak [(2, _), (5, _), (6, _), (7, _), (8, _), (21, _)] ⟨rfl, rfl, rfl, rfl, rfl, rfl, trivial⟩ ?_
  refine at_then_normal ?_
  rcases of_ite hF with ⟨h5, hF⟩ | ⟨h5, hF⟩
  · refine at_cond_true rfl h5 ?_
    refine at_seq ?_
    refine at_region ?_
    refine at_val rfl rfl rfl (r_build_struct (zs := Cd.cs c_api_Prefix ({ f_A := ({ f_V := (0 : Int), f_B := (Vector.replicate 16 (0 : Int) : (Vector Int 16)) } : S_api_Addr), f_Bits := (0 : Int) } : S_api_Prefix)) (cs := Cd.cs c_api_Prefix ({ f_A := ({ f_V := (0 : Int), f_B := (Vector.replicate 16 (0 : Int) : (Vector Int 16)) } : S_api_Addr), f_Bits := (0 : Int) } : S_api_Prefix)) Tryd.underlying50 Tryd.zeroValue50 rfl (places_api_Prefix_50) rfl rfl) ?_
    refine at_val rfl rfl rfl (r_move rfl) ?_
    refine at_store (c := c_api_Prefix) (z := ({ f_A := ({ f_V := (0 : Int), f_B := (Vector.replicate 16 (0 : Int) : (Vector Int 16)) } : S_api_Addr), f_Bits := (0 : Int) } : S_api_Prefix)) (.s .z) (Lens.whole _ _) Tryd.sizeOf50 rfl rfl rfl ?_
    refine at_val rfl rfl rfl (r_assign rfl) ?_
    refine at_nil ?_
    refine at_drop (H := _) .z ?_
    refine at_weak [(2, _), (3, _)] ⟨rfl, rfl, trivial⟩ ?_
    refine at_then_normal ?_
    refine at_ret ?_
    refine at_blk_ret (at_then_ret ?_)
    have K := of_some hF
    subst K
    exact at_res2 rfl (res_cell (c := c_api_Prefix) (y := ({ f_A := ({ f_V := (0 : Int), f_B := (Vector.replicate 16 (0 : Int) : (Vector Int 16)) } : S_api_Addr), f_Bits := (0 : Int) } : S_api_Prefix)) rfl .z (Lens.whole _ _) Tryd.isAgg50 Tryd.sizeOf50 (.inl rfl)) (res_tmp rfl) (fun w1 hw => ⟨rfl, hw.below⟩)
  · refine at_cond_false rfl h5 ?_
    refine at_seq ?_
    refine at_region ?_
    refine at_val rfl rfl rfl (r_move rfl) ?_
    refine at_val rfl rfl rfl (r_not rfl) ?_
    refine at_val rfl rfl rfl (r_assign rfl) ?_
    refine at_nil ?_
    refine at_weak [(2, _), (5, _), (7, _), (26, _)] ⟨rfl, rfl, rfl, rfl, trivial⟩ ?_
    refine at_then_normal ?_
    rcases of_ite hF with ⟨h6, hF⟩ | ⟨h6, hF⟩
    · refine at_cond_true rfl h6 ?_
      refine at_seq ?_
      refine at_region ?_
      refine at_val rfl rfl rfl (r_load_aggc (c := c_api_Addr) (z := t3.1) Tryd.isAgg24 Tryd.sizeOf24 rfl (lens_cell .z (Lens.whole _ _))) ?_
      obtain ⟨t7, ht7, hF⟩ := of_bindM hF
      refine at_callB Tryd.func46 rfl (by kernel_rfl) rfl rfl (fun w hw => cidr_Whole_ok _ _ ht7 w) ?_
      refine at_store (c := c_api_Prefix) (z := t7) (.s .z) (Lens.whole _ _) Tryd.sizeOf50 rfl rfl rfl ?_
      refine at_val rfl rfl rfl (r_assign rfl) ?_
      refine at_nil ?_
      refine at_drop (H := _) .z ?_
      refine at_weak [(2, _), (3, _)] ⟨rfl, rfl, trivial⟩ ?_
      refine at_then_normal ?_
      refine at_ret ?_
      refine at_blk_ret (at_then_ret ?_)
      have K := of_some hF
      subst K
      exact at_res2 rfl (res_cell (c := c_api_Prefix) (y := t7) rfl .z (Lens.whole _ _) Tryd.isAgg50 Tryd.sizeOf50 (.inl rfl)) (res_tmp rfl) (fun w1 hw => ⟨rfl, hw.below⟩)
    · refine at_cond_false rfl h6 ?_
      refine at_skip ?_
      refine at_blk_normal (at_then_normal ?_)
      refine at_seq ?_
      refine at_region ?_
      refine at_val rfl rfl rfl (r_move rfl) ?_
      refine at_val rfl rfl rfl (r_load_aggc (c := c_api_Addr) (z := t3.1) Tryd.isAgg24 Tryd.sizeOf24 rfl (lens_cell .z (Lens.whole _ _))) ?_
      obtain ⟨t8, ht8, hF⟩ := of_bindM hF
      refine at_callB Tryd.func40 rfl (by kernel_rfl) rfl rfl (fun w hw => addr_Width_ok _ _ ht8 w) ?_
      refine at_val rfl rfl rfl (r_conv Tryd.underlying3 Tryd.underlying83 rfl) ?_
      obtain ⟨t9, ht9, hF⟩ := of_bindM hF
      refine at_callB Tryd.func76 rfl (by kernel_rfl) rfl rfl (fun w hw => decimal_Read_ok _ _ _ ht9 w (hg_strconv_ErrRange.on hw.below) (hg_strconv_ErrSyntax.on hw.below)) ?_
      refine at_val rfl rfl rfl (r_move rfl) ?_
      refine at_val rfl rfl rfl (r_extract rfl rfl) ?_
      refine at_val rfl rfl rfl (r_extract rfl rfl) ?_
      refine at_val rfl rfl rfl (r_assign rfl) ?_
      refine at_val rfl rfl rfl (r_assign rfl) ?_
      refine at_nil ?_
      refine at_weak [(2, _), (7, _), (8, _), (9, _)] ⟨rfl, rfl, rfl, rfl, trivial⟩ ?_
      refine at_then_normal ?_
      refine at_seq ?_
      refine at_seq ?_
      refine at_region ?_
      refine at_val rfl rfl rfl (r_move rfl) ?_
      refine at_val rfl rfl rfl (r_ineq rfl rfl) ?_
      refine at_nil ?_
      refine at_weak [(2, _), (7, _), (8, _), (9, _), (40, _)] ⟨rfl, rfl, rfl, rfl, rfl, trivial⟩ ?_
      refine at_then_normal ?_
      rcases of_ite hF with ⟨h10, hF⟩ | ⟨h10, hF⟩
      · refine at_cond_true rfl h10 ?_
        refine at_seq ?_
        refine at_region ?_
        refine at_val rfl rfl rfl (r_build_struct (zs := Cd.cs c_api_Prefix ({ f_A := ({ f_V := (0 : Int), f_B := (Vector.replicate 16 (0 : Int) : (Vector Int 16)) } : S_api_Addr), f_Bits := (0 : Int) } : S_api_Prefix)) (cs := Cd.cs c_api_Prefix ({ f_A := ({ f_V := (0 : Int), f_B := (Vector.replicate 16 (0 : Int) : (Vector Int 16)) } : S_api_Addr), f_Bits := (0 : Int) } : S_api_Prefix)) Tryd.underlying50 Tryd.zeroValue50 rfl (places_api_Prefix_50) rfl rfl) ?_
        refine at_val rfl rfl rfl (r_move rfl) ?_
        refine at_store (c := c_api_Prefix) (z := ({ f_A := ({ f_V := (0 : Int), f_B := (Vector.replicate 16 (0 : Int) : (Vector Int 16)) } : S_api_Addr), f_Bits := (0 : Int) } : S_api_Prefix)) (.s .z) (Lens.whole _ _) Tryd.sizeOf50 rfl rfl rfl ?_
        refine at_val rfl rfl rfl (r_assign rfl) ?_
        refine at_nil ?_
        refine at_drop (H := _) .z ?_
        refine at_weak [(2, _), (3, _)] ⟨rfl, rfl, trivial⟩ ?_
        refine at_then_normal ?_
        refine at_ret ?_
        refine at_then_ret ?_
        have K := of_some hF
        subst K
        exact at_res2 rfl (res_cell (c := c_api_Prefix) (y := ({ f_A := ({ f_V := (0 : Int), f_B := (Vector.replicate 16 (0 : Int) : (Vector Int 16)) } : S_api_Addr), f_Bits := (0 : Int) } : S_api_Prefix)) rfl .z (Lens.whole _ _) Tryd.isAgg50 Tryd.sizeOf50 (.inl rfl)) (res_tmp rfl) (fun w1 hw => ⟨rfl, hw.below⟩)
      · refine at_cond_false rfl h10 ?_
        refine at_skip ?_
        refine at_then_normal ?_
        refine at_seq ?_
        refine at_region ?_
        refine at_val rfl rfl rfl (r_load_aggc (c := c_api_Addr) (z := t3.1) Tryd.isAgg24 Tryd.sizeOf24 rfl (lens_cell .z (Lens.whole _ _))) ?_
        refine at_val rfl rfl rfl (r_move rfl) ?_
        refine at_val rfl rfl rfl (r_conv Tryd.underlying83 Tryd.underlying3 rfl) ?_
        obtain ⟨t11, ht11, hF⟩ := of_bindM hF
        refine at_callB Tryd.func43 rfl (by kernel_rfl) rfl rfl (fun w hw => cidr_Of_ok _ _ _ ht11 w) ?_
        refine at_val rfl rfl rfl (r_extract rfl rfl) ?_
        refine at_val rfl rfl rfl (r_extract rfl rfl) ?_
        refine at_store (c := c_api_Prefix) (z := t11.1) (.s .z) (Lens.whole _ _) Tryd.sizeOf50 rfl rfl rfl ?_
        refine at_val rfl rfl rfl (r_assign rfl) ?_
        refine at_nil ?_
        refine at_drop (H := _) .z ?_
        refine at_weak [(2, _), (3, _)] ⟨rfl, rfl, trivial⟩ ?_
        refine at_then_normal ?_
        refine at_ret ?_
        have K := of_some hF
        subst K
        exact at_res2 rfl (res_cell (c := c_api_Prefix) (y := t11.1) rfl .z (Lens.whole _ _) Tryd.isAgg50 Tryd.sizeOf50 (.inl rfl)) (res_tmp rfl) (fun w1 hw => ⟨rfl, hw.below⟩)

def crawlwayref11_Right (x0 : S_api_Prefix) : Option (Bool) :=
  crawlwayref10_Right x0.f_A >>= fun t2 => if (!t2) = true then (some false) else (if (decide (x0.f_Bits < 0)) = true then (some false) else (crawlwayref10_Width x0.f_A >>= fun t5 => if (decide (x0.f_Bits > t5)) = true then (some false) else (crawlwayref10_Mask x0.f_A x0.f_Bits >>= fun t7 => some (decide (x0.f_A = t7)))))
theorem crawlwayref11_Right_ok (x0 : S_api_Prefix) (r : Bool) (hF : crawlwayref11_Right x0 = some r) (w : World) :
    Calls Tryd.prog 50 #[.agg (Cd.cs c_api_Prefix x0).toArray] w (fun e w' => e = .returned (.bool r) ∧ Below w.heap.size w w') := by
  unfold crawlwayref11_Right at hF
  refine calls_enter (l := [.agg (Cd.cs c_api_Prefix x0).toArray]) Tryd.func50 rfl rfl rfl ?_
  refine at_start ?_
  refine at_weak [(0, _)] ⟨rfl, trivial⟩ ?_
  refine at_seq ?_
  refine at_region ?_
  refine at_box (cs := Cd.cs c_api_Prefix x0) rfl rfl rfl ?_
  intro b1
  refine at_val rfl rfl rfl (r_assign rfl) ?_
  refine at_nil ?_
  refine at_weak [(1, _)] ⟨rfl, trivial⟩ ?_
  refine at_then_normal ?_
  refine at_seq ?_
  refine at_seq ?_
  refine at_draw (by kernel_rfl) (by kernel_rfl) (fun _ h => h.drew) ?_
  refine atq_val rfl rfl rfl (r_fieldAddr (fo := 0) Tryd.underlying50 rfl rfl (fun w => ⟨_, Tryd.sizeOf24 w⟩) rfl) ?_
  refine atq_val rfl rfl rfl (r_load_aggc (c := c_api_Addr) (z := x0.f_A) Tryd.isAgg24 Tryd.sizeOf24 rfl (lens_cell .z (Lens.comp (Lens.whole _ _) (fun z => { x0 with f_A := z }) (c_api_Prefix_f_A x0)))) ?_
  obtain ⟨t2, ht2, hF⟩ := of_bindM hF
  refine atq_call Tryd.func26 rfl (by kernel_rfl) rfl rfl (fun w hw => (crawlwayref10_Right_ok _ _ ht2 w).mono fun _ _ h => ⟨h.1, hw.call h.2⟩) ?_
  refine atq_val rfl rfl rfl (r_not rfl) ?_
  refine atq_val rfl rfl rfl (r_move rfl) ?_
  rcases of_ite hF with ⟨h3, hF⟩ | ⟨h3, hF⟩
  · refine atq_fix (g := 7) rfl h3 ?_
    refine atq_guard_no rfl rfl rfl rfl rfl ?_
    refine atq_guard_no rfl rfl rfl rfl rfl ?_
    refine atq_guard_no rfl rfl rfl rfl rfl ?_
    refine atq_val rfl rfl rfl (r_pick rfl rfl rfl) ?_
    refine atq_val rfl rfl rfl (r_move rfl) ?_
    refine atq_guard_no rfl rfl rfl rfl rfl ?_
    refine atq_guard_no rfl rfl rfl rfl rfl ?_
    refine atq_guard_no rfl rfl rfl rfl rfl ?_
    refine atq_guard_no rfl rfl rfl rfl rfl ?_
    refine atq_guard_no rfl rfl rfl rfl rfl ?_
    refine atq_guard_no rfl rfl rfl rfl rfl ?_
    refine atq_val rfl rfl rfl (r_pick rfl rfl rfl) ?_
    refine atq_nil ?_
    refine at_weak [(1, _), (19, _)] ⟨rfl, rfl, trivial⟩ ?_
    refine at_then_normal ?_
    refine at_cond_true rfl rfl ?_
    refine at_seq ?_
    refine at_region ?_
    refine at_val rfl rfl rfl (r_assign rfl) ?_
    refine at_nil ?_
    refine at_drop (H := _) .z ?_
    refine at_weak [(2, _)] ⟨rfl, trivial⟩ ?_
    refine at_then_normal ?_
    refine at_ret ?_
    refine at_then_ret ?_
    have K := of_some hF
    subst K
    exact at_return1 rfl rfl (fun w1 hw => ⟨rfl, hw.below⟩)
  · refine atq_fix (g := 7) rfl h3 ?_
    refine atq_guard_yes rfl rfl rfl ?_
    refine atq_val rfl rfl rfl (r_fieldAddr (fo := 17) Tryd.underlying50 rfl rfl (fun w => ⟨_, Tryd.sizeOf3 w⟩) rfl) ?_
    refine atq_guard_yes rfl rfl rfl ?_
    refine atq_val rfl rfl rfl (r_load_cell Tryd.isAgg3 rfl (lens_cell0 (c := (cInt .i64)) (y := x0.f_Bits) .z (Lens.comp (Lens.whole _ _) (fun z => { x0 with f_Bits := z }) (c_api_Prefix_f_Bits x0)) rfl)) ?_
    refine atq_guard_yes rfl rfl rfl ?_
    refine atq_val rfl rfl rfl (r_ilss rfl rfl) ?_
    refine atq_val rfl rfl rfl (r_pick rfl rfl rfl) ?_
    refine atq_val rfl rfl rfl (r_move rfl) ?_
    rcases of_ite hF with ⟨h4, hF⟩ | ⟨h4, hF⟩
    · refine atq_fix (g := 12) rfl h4 ?_
      refine atq_guard_no rfl rfl rfl rfl rfl ?_
      refine atq_guard_no rfl rfl rfl rfl rfl ?_
      refine atq_guard_no rfl rfl rfl rfl rfl ?_
      refine atq_guard_no rfl rfl rfl rfl rfl ?_
      refine atq_guard_no rfl rfl rfl rfl rfl ?_
      refine atq_guard_no rfl rfl rfl rfl rfl ?_
      refine atq_val rfl rfl rfl (r_pick rfl rfl rfl) ?_
      refine atq_nil ?_
      refine at_weak [(1, _), (19, _)] ⟨rfl, rfl, trivial⟩ ?_
      refine at_then_normal ?_
      refine at_cond_true rfl rfl ?_
      refine at_seq ?_
      refine at_region ?_
      refine at_val rfl rfl rfl (r_assign rfl) ?_
      refine at_nil ?_
      refine at_drop (H := _) .z ?_
      refine at_weak [(2, _)] ⟨rfl, trivial⟩ ?_
      refine at_then_normal ?_
      refine at_ret ?_
      refine at_then_ret ?_
      have K := of_some hF
      subst K
      exact at_return1 rfl rfl (fun w1 hw => ⟨rfl, hw.below⟩)
    · refine atq_fix (g := 12) rfl h4 ?_
      refine atq_guard_yes rfl rfl rfl ?_
      refine atq_val rfl rfl rfl (r_fieldAddr (fo := 17) Tryd.underlying50 rfl rfl (fun w => ⟨_, Tryd.sizeOf3 w⟩) rfl) ?_
      refine atq_guard_yes rfl rfl rfl ?_
      refine atq_val rfl rfl rfl (r_load_cell Tryd.isAgg3 rfl (lens_cell0 (c := (cInt .i64)) (y := x0.f_Bits) .z (Lens.comp (Lens.whole _ _) (fun z => { x0 with f_Bits := z }) (c_api_Prefix_f_Bits x0)) rfl)) ?_
      refine atq_guard_yes rfl rfl rfl ?_
      refine atq_val rfl rfl rfl (r_fieldAddr (fo := 0) Tryd.underlying50 rfl rfl (fun w => ⟨_, Tryd.sizeOf24 w⟩) rfl) ?_
      refine atq_guard_yes rfl rfl rfl ?_
      refine atq_val rfl rfl rfl (r_load_aggc (c := c_api_Addr) (z := x0.f_A) Tryd.isAgg24 Tryd.sizeOf24 rfl (lens_cell .z (Lens.comp (Lens.whole _ _) (fun z => { x0 with f_A := z }) (c_api_Prefix_f_A x0)))) ?_
      refine atq_guard_yes rfl rfl rfl ?_
      obtain ⟨t5, ht5, hF⟩ := of_bindM hF
      refine atq_call Tryd.func29 rfl (by kernel_rfl) rfl rfl (fun w hw => (crawlwayref10_Width_ok _ _ ht5 w).mono fun _ _ h => ⟨h.1, hw.call h.2⟩) ?_
      refine atq_guard_yes rfl rfl rfl ?_
      refine atq_val rfl rfl rfl (r_igtr rfl rfl) ?_
      refine atq_val rfl rfl rfl (r_pick rfl rfl rfl) ?_
      refine atq_nil ?_
      refine at_weak [(1, _), (19, _)] ⟨rfl, rfl, trivial⟩ ?_
      refine at_then_normal ?_
      rcases of_ite hF with ⟨h6, hF⟩ | ⟨h6, hF⟩
      · refine at_cond_true rfl h6 ?_
        refine at_seq ?_
        refine at_region ?_
        refine at_val rfl rfl rfl (r_assign rfl) ?_
        refine at_nil ?_
        refine at_drop (H := _) .z ?_
        refine at_weak [(2, _)] ⟨rfl, trivial⟩ ?_
        refine at_then_normal ?_
        refine at_ret ?_
        refine at_then_ret ?_
        have K := of_some hF
        subst K
        exact at_return1 rfl rfl (fun w1 hw => ⟨rfl, hw.below⟩)
      · refine at_cond_false rfl h6 ?_
        refine at_skip ?_
        refine at_then_normal ?_
        refine at_seq ?_
        refine at_draw (by kernel_rfl) (by kernel_rfl) (fun _ h => h.drew) ?_
        refine atq_val rfl rfl rfl (r_fieldAddr (fo := 0) Tryd.underlying50 rfl rfl (fun w => ⟨_, Tryd.sizeOf24 w⟩) rfl) ?_
        refine atq_val rfl rfl rfl (r_load_aggc (c := c_api_Addr) (z := x0.f_A) Tryd.isAgg24 Tryd.sizeOf24 rfl (lens_cell .z (Lens.comp (Lens.whole _ _) (fun z => { x0 with f_A := z }) (c_api_Prefix_f_A x0)))) ?_
        refine atq_val rfl rfl rfl (r_fieldAddr (fo := 0) Tryd.underlying50 rfl rfl (fun w => ⟨_, Tryd.sizeOf24 w⟩) rfl) ?_
        refine atq_val rfl rfl rfl (r_load_aggc (c := c_api_Addr) (z := x0.f_A) Tryd.isAgg24 Tryd.sizeOf24 rfl (lens_cell .z (Lens.comp (Lens.whole _ _) (fun z => { x0 with f_A := z }) (c_api_Prefix_f_A x0)))) ?_
        refine atq_val rfl rfl rfl (r_fieldAddr (fo := 17) Tryd.underlying50 rfl rfl (fun w => ⟨_, Tryd.sizeOf3 w⟩) rfl) ?_
        refine atq_val rfl rfl rfl (r_load_cell Tryd.isAgg3 rfl (lens_cell0 (c := (cInt .i64)) (y := x0.f_Bits) .z (Lens.comp (Lens.whole _ _) (fun z => { x0 with f_Bits := z }) (c_api_Prefix_f_Bits x0)) rfl)) ?_
        obtain ⟨t7, ht7, hF⟩ := of_bindM hF
        refine atq_call Tryd.func18 rfl (by kernel_rfl) rfl rfl (fun w hw => (crawlwayref10_Mask_ok _ _ _ ht7 w).mono fun _ _ h => ⟨h.1, hw.call h.2⟩) ?_
        refine atq_val rfl rfl rfl (r_eqagg (c := c_api_Addr) (a := x0.f_A) (b := t7) (eq_api_Addr_24) rfl Tryd.eqGuardType24 rfl rfl (.inl rfl) rfl) ?_
        refine atq_val rfl rfl rfl (r_assign rfl) ?_
        refine atq_nil ?_
        refine at_drop (H := _) .z ?_
        refine at_weak [(2, _)] ⟨rfl, trivial⟩ ?_
        refine at_then_normal ?_
        refine at_ret ?_
        have K := of_some hF
        subst K
        exact at_return1 rfl rfl (fun w1 hw => ⟨rfl, hw.below⟩)

def crawlwayref11_Text (x0 : S_api_Prefix) : Option (ByteArray) :=
  crawlwayref11_Right x0 >>= fun t2 => if (!t2) = true then (some (⟨#[]⟩)) else (crawlwayref10_Text x0.f_A >>= fun t4 => if t4.size + (⟨#[47]⟩ : ByteArray).size ≤ 140737488355328 then crawlwayref03_Text (wr .u64 x0.f_Bits) >>= fun t6 => if (t4 ++ (⟨#[47]⟩ : ByteArray)).size + t6.size ≤ 140737488355328 then some ((t4 ++ (⟨#[47]⟩ : ByteArray)) ++ t6) else none else none)
theorem crawlwayref11_Text_ok (x0 : S_api_Prefix) (r : ByteArray) (hF : crawlwayref11_Text x0 = some r) (w : World) :
    Calls Tryd.prog 49 #[.agg (Cd.cs c_api_Prefix x0).toArray] w (fun e w' => e = .returned (.string r) ∧ Below w.heap.size w w') := by
  unfold crawlwayref11_Text at hF
  refine calls_enter (l := [.agg (Cd.cs c_api_Prefix x0).toArray]) Tryd.func49 rfl rfl rfl ?_
  refine at_start ?_
  refine at_weak [(0, _)] ⟨rfl, trivial⟩ ?_
  refine at_seq ?_
  refine at_region ?_
  refine at_box (cs := Cd.cs c_api_Prefix x0) rfl rfl rfl ?_
  intro b1
  refine at_val rfl rfl rfl (r_assign rfl) ?_
  refine at_nil ?_
  refine at_weak [(1, _)] ⟨rfl, trivial⟩ ?_
  refine at_then_normal ?_
  refine at_seq ?_
  refine at_seq ?_
  refine at_region ?_
  refine at_val rfl rfl rfl (r_load_aggc (c := c_api_Prefix) (z := x0) Tryd.isAgg50 Tryd.sizeOf50 rfl (lens_cell .z (Lens.whole _ _))) ?_
  obtain ⟨t2, ht2, hF⟩ := of_bindM hF
  refine at_callB Tryd.func50 rfl (by kernel_rfl) rfl rfl (fun w hw => crawlwayref11_Right_ok _ _ ht2 w) ?_
  refine at_val rfl rfl rfl (r_not rfl) ?_
  refine at_nil ?_
  refine at_weak [(1, _), (5, _)] ⟨rfl, rfl, trivial⟩ ?_
  refine at_then_normal ?_
  rcases of_ite hF with ⟨h3, hF⟩ | ⟨h3, hF⟩
  · refine at_cond_true rfl h3 ?_
    refine at_seq ?_
    refine at_region ?_
    refine at_val rfl rfl rfl (r_assign rfl) ?_
    refine at_nil ?_
    refine at_drop (H := _) .z ?_
    refine at_weak [(2, _)] ⟨rfl, trivial⟩ ?_
    refine at_then_normal ?_
    refine at_ret ?_
    refine at_then_ret ?_
    have K := of_some hF
    subst K
    exact at_return1 rfl rfl (fun w1 hw => ⟨rfl, hw.below⟩)
  · refine at_cond_false rfl h3 ?_
    refine at_skip ?_
    refine at_then_normal ?_
    refine at_seq ?_
    refine at_draw (by kernel_rfl) (by kernel_rfl) (fun _ h => h.drew) ?_
    refine atq_val rfl rfl rfl (r_fieldAddr (fo := 0) Tryd.underlying50 rfl rfl (fun w => ⟨_, Tryd.sizeOf24 w⟩) rfl) ?_
    refine atq_val rfl rfl rfl (r_load_aggc (c := c_api_Addr) (z := x0.f_A) Tryd.isAgg24 Tryd.sizeOf24 rfl (lens_cell .z (Lens.comp (Lens.whole _ _) (fun z => { x0 with f_A := z }) (c_api_Prefix_f_A x0)))) ?_
    obtain ⟨t4, ht4, hF⟩ := of_bindM hF
    refine atq_call Tryd.func39 rfl (by kernel_rfl) rfl rfl (fun w hw => (crawlwayref10_Text_ok _ _ ht4 w).mono fun _ _ h => ⟨h.1, hw.call h.2⟩) ?_
    obtain ⟨h5, hF⟩ := of_guard hF
    refine atq_val rfl rfl rfl (r_concat rfl rfl h5) ?_
    refine atq_val rfl rfl rfl (r_fieldAddr (fo := 17) Tryd.underlying50 rfl rfl (fun w => ⟨_, Tryd.sizeOf3 w⟩) rfl) ?_
    refine atq_val rfl rfl rfl (r_load_cell Tryd.isAgg3 rfl (lens_cell0 (c := (cInt .i64)) (y := x0.f_Bits) .z (Lens.comp (Lens.whole _ _) (fun z => { x0 with f_Bits := z }) (c_api_Prefix_f_Bits x0)) rfl)) ?_
    refine atq_val rfl rfl rfl (r_conv Tryd.underlying3 Tryd.underlying83 rfl) ?_
    obtain ⟨t6, ht6, hF⟩ := of_bindM hF
    refine atq_call Tryd.func75 rfl (by kernel_rfl) rfl rfl (fun w hw => (crawlwayref03_Text_ok _ _ ht6 w).mono fun _ _ h => ⟨h.1, hw.call h.2⟩) ?_
    obtain ⟨h7, hF⟩ := of_guard hF
    refine atq_val rfl rfl rfl (r_concat rfl rfl h7) ?_
    refine atq_val rfl rfl rfl (r_assign rfl) ?_
    refine atq_nil ?_
    refine at_drop (H := _) .z ?_
    refine at_weak [(2, _)] ⟨rfl, trivial⟩ ?_
    refine at_then_normal ?_
    refine at_ret ?_
    have K := of_some hF
    subst K
    exact at_return1 rfl rfl (fun w1 hw => ⟨rfl, hw.below⟩)

def crawlwayref11_Parse (x0 : ByteArray) : Option (S_api_Prefix × Int) :=
  crawlwayref06_Parts x0 47 >>= fun t2 => if (0 : Int) ≤ 0 ∧ 0 < (t2.length : Int) then crawlwayref10_Parse (lget t2 0) >>= fun t9 => if (t9.2 != 0) = true then (some (({ f_A := ({ f_V := (0 : Int), f_B := (Vector.replicate 16 (0 : Int) : (Vector Int 16)) } : S_api_Addr), f_Bits := (0 : Int) } : S_api_Prefix), t9.2)) else (if ((t2.length : Int) == 1) = true then (crawlwayref10_Width t9.1 >>= fun t13 => crawlwayref11_Of t9.1 t13 >>= fun t14 => some (t14.1, t14.2)) else (if (0 : Int) ≤ 0 ∧ 0 < (t2.length : Int) then if (0 : Int) ≤ wr .i64 (((lget t2 0).size : Int) + 1) ∧ wr .i64 (((lget t2 0).size : Int) + 1) ≤ (x0.size : Int) ∧ (x0.size : Int) ≤ (x0.size : Int) then crawlwayref10_Width t9.1 >>= fun t21 => crawlwayref03_Read (x0.extract (Int.toNat (wr .i64 (((lget t2 0).size : Int) + 1))) (Int.toNat (x0.size : Int))) (wr .u64 t21) >>= fun t22 => if (t22.2 != 0) = true then (some (({ f_A := ({ f_V := (0 : Int), f_B := (Vector.replicate 16 (0 : Int) : (Vector Int 16)) } : S_api_Addr), f_Bits := (0 : Int) } : S_api_Prefix), t22.2)) else (crawlwayref11_Of t9.1 (wr .i64 t22.1) >>= fun t25 => some (t25.1, t25.2)) else none else none)) else none
theorem crawlwayref11_Parse_ok (x0 : ByteArray) (r : S_api_Prefix × Int) (hF : crawlwayref11_Parse x0 = some r) (w : World) :
    Calls Tryd.prog 52 #[.string x0] w (fun e w' => e = .returned (.tuple #[.agg (Cd.cs c_api_Prefix r.1).toArray, .int .i64 r.2]) ∧ Below w.heap.size w w') := by
  unfold crawlwayref11_Parse at hF
  refine calls_enter (l := [.string x0]) Tryd.func52 rfl rfl rfl ?_
  refine at_start ?_
  refine at_weak [(0, _)] ⟨rfl, trivial⟩ ?_
  refine at_seq ?_
  refine at_region ?_
  refine at_alloc (cs := Cd.cs c_api_Prefix ({ f_A := ({ f_V := (0 : Int), f_B := (Vector.replicate 16 (0 : Int) : (Vector Int 16)) } : S_api_Addr), f_Bits := (0 : Int) } : S_api_Prefix)) Tryd.zeroValue50 rfl rfl ?_
  intro b1
  refine at_val rfl rfl rfl (r_assign rfl) ?_
  refine at_nil ?_
  refine at_weak [(0, _), (2, _)] ⟨rfl, rfl, trivial⟩ ?_
  refine at_then_normal ?_
  refine at_seq ?_
  refine at_region ?_
  refine at_val rfl rfl rfl (r_move rfl) ?_
  obtain ⟨t2, ht2, hF⟩ := of_bindM hF
  refine at_callO (c := cStr) (e := 9) (ys := t2) (V := fun p cap => .slice p t2.length cap) Tryd.func69 rfl (by kernel_rfl) rfl rfl (fun w hw => crawlwayref06_Parts_ok _ _ _ ht2 w) ?_
  intro p3 c4
  refine at_val rfl rfl rfl (r_assign rfl) ?_
  refine at_nil ?_
  refine at_weak [(0, _), (2, _), (4, _)] ⟨rfl, rfl, rfl, trivial⟩ ?_
  refine at_then_normal ?_
  refine at_seq ?_
  refine at_region ?_
  refine at_val rfl rfl rfl (r_move rfl) ?_
  obtain ⟨h5, hF⟩ := of_guard hF
  refine at_pure (φ := ∃ b o, p3 = some ⟨b, o, none⟩) (fun _ hw => row_ptr (hw.own .z).row h5) ?_
  rintro ⟨b7, o8, hp6⟩
  refine at_val rfl rfl rfl (r_idx Tryd.underlying76 Tryd.sizeOf9 rfl rfl h5 hp6) ?_
  refine at_val rfl rfl rfl (r_load_cell Tryd.isAgg9 rfl (fun _ hw => row_cell0 (W := fun w1 => w1 = _) (fun w1 h => by subst h; exact Below.refl _ _) (hw.own .z).row h5 hp6 rfl _ rfl)) ?_
  obtain ⟨t9, ht9, hF⟩ := of_bindM hF
  refine at_callB Tryd.func31 rfl (by kernel_rfl) rfl rfl (fun w hw => crawlwayref10_Parse_ok _ _ ht9 w) ?_
  refine at_val rfl rfl rfl (r_move rfl) ?_
  refine at_val rfl rfl rfl (r_extract rfl rfl) ?_
  refine at_val rfl rfl rfl (r_extract rfl rfl) ?_
  refine at_alloc (cs := Cd.cs c_api_Addr ({ f_V := (0 : Int), f_B := (Vector.replicate 16 (0 : Int) : (Vector Int 16)) } : S_api_Addr)) Tryd.zeroValue24 rfl rfl ?_
  intro b10
  refine at_store (c := c_api_Addr) (z := t9.1) .z (Lens.whole _ _) Tryd.sizeOf24 rfl rfl rfl ?_
  refine at_val rfl rfl rfl (r_assign rfl) ?_
  refine at_nil ?_
  refine at_weak [(0, _), (2, _), (4, _), (5, _), (6, _)] ⟨rfl, rfl, rfl, rfl, rfl, trivial⟩ ?_
  refine at_then_normal ?_
  refine at_seq ?_
  refine at_seq ?_
  refine at_region ?_
  refine at_val rfl rfl rfl (r_move rfl) ?_
  refine at_val rfl rfl rfl (r_ineq rfl rfl) ?_
  refine at_nil ?_
  refine at_weak [(0, _), (2, _), (4, _), (5, _), (6, _), (19, _)] ⟨rfl, rfl, rfl, rfl, rfl, rfl, trivial⟩ ?_
  refine at_then_normal ?_
  rcases of_ite hF with ⟨h11, hF⟩ | ⟨h11, hF⟩
  · refine at_cond_true rfl h11 ?_
    refine at_seq ?_
    refine at_region ?_
    refine at_val rfl rfl rfl (r_build_struct (zs := Cd.cs c_api_Prefix ({ f_A := ({ f_V := (0 : Int), f_B := (Vector.replicate 16 (0 : Int) : (Vector Int 16)) } : S_api_Addr), f_Bits := (0 : Int) } : S_api_Prefix)) (cs := Cd.cs c_api_Prefix ({ f_A := ({ f_V := (0 : Int), f_B := (Vector.replicate 16 (0 : Int) : (Vector Int 16)) } : S_api_Addr), f_Bits := (0 : Int) } : S_api_Prefix)) Tryd.underlying50 Tryd.zeroValue50 rfl (places_api_Prefix_50) rfl rfl) ?_
    refine at_val rfl rfl rfl (r_move rfl) ?_
    refine at_store (c := c_api_Prefix) (z := ({ f_A := ({ f_V := (0 : Int), f_B := (Vector.replicate 16 (0 : Int) : (Vector Int 16)) } : S_api_Addr), f_Bits := (0 : Int) } : S_api_Prefix)) (.s (.s .z)) (Lens.whole _ _) Tryd.sizeOf50 rfl rfl rfl ?_
    refine at_val rfl rfl rfl (r_assign rfl) ?_
    refine at_nil ?_
    refine at_drop (H := _) .z ?_
    refine at_drop (H := _) .z ?_
    refine at_weak [(2, _), (3, _)] ⟨rfl, rfl, trivial⟩ ?_
    refine at_then_normal ?_
    refine at_ret ?_
    refine at_then_ret ?_
    have K := of_some hF
    subst K
    exact at_res2 rfl (res_cell (c := c_api_Prefix) (y := ({ f_A := ({ f_V := (0 : Int), f_B := (Vector.replicate 16 (0 : Int) : (Vector Int 16)) } : S_api_Addr), f_Bits := (0 : Int) } : S_api_Prefix)) rfl .z (Lens.whole _ _) Tryd.isAgg50 Tryd.sizeOf50 (.inl rfl)) (res_tmp rfl) (fun w1 hw => ⟨rfl, hw.below⟩)
  · refine at_cond_false rfl h11 ?_
    refine at_skip ?_
    refine at_then_normal ?_
    refine at_seq ?_
    refine at_seq ?_
    refine at_region ?_
    refine at_val rfl rfl rfl (r_move rfl) ?_
    refine at_val rfl rfl rfl (r_len_sl Tryd.underlying76 rfl) ?_
    refine at_val rfl rfl rfl (r_ieql rfl rfl) ?_
    refine at_nil ?_
    refine at_weak [(0, _), (2, _), (4, _), (5, _), (24, _)] ⟨rfl, rfl, rfl, rfl, rfl, trivial⟩ ?_
    refine at_then_normal ?_
    rcases of_ite hF with ⟨h12, hF⟩ | ⟨h12, hF⟩
    · refine at_cond_true rfl h12 ?_
      refine at_seq ?_
      refine at_weak [(2, _), (5, _)] ⟨rfl, rfl, trivial⟩ ?_
      obtain ⟨t13, ht13, hF⟩ := of_bindM hF
      obtain ⟨t14, ht14, hF⟩ := of_bindM hF
      refine at_inv [.q 25 (fun g15 => .agg (Cd.cs c_api_Addr t9.1).toArray) [] 0 0, .q 26 (fun g15 => .agg (Cd.cs c_api_Addr t9.1).toArray) [] 0 0, .q 27 (fun g15 => .int .i64 t13) [1] 0 0, .q 28 (fun g15 => .tuple #[.agg (Cd.cs c_api_Prefix t14.1).toArray, .int .i64 t14.2]) [0, 2] 0 0, .q 29 (fun g15 => .agg (Cd.cs c_api_Prefix t14.1).toArray) [3] 0 0, .q 30 (fun g15 => .int .i64 t14.2) [3] 0 0, .st 0 none [4], .q 3 (fun g15 => .int .i64 t14.2) [5] 1 1] (fun g15 s => match s with | 0 => (Wd w [cellsE b10 (Cd.cs c_api_Addr t9.1) 24, rowE cStr 9 p3 c4 t2, cellsE b1 (Cd.cs c_api_Prefix ({ f_A := ({ f_V := (0 : Int), f_B := (Vector.replicate 16 (0 : Int) : (Vector Int 16)) } : S_api_Addr), f_Bits := (0 : Int) } : S_api_Prefix)) 50]) | _ => (Wd w [cellsE b10 (Cd.cs c_api_Addr t9.1) 24, rowE cStr 9 p3 c4 t2, cellsE b1 (Cd.cs c_api_Prefix t14.1) 50])) 1 (by kernel_rfl) (by kernel_rfl) (by kernel_rfl) (by kernel_rfl) (by kernel_rfl) ⟨fun _ _ _ => rfl, fun _ _ _ => rfl, fun _ _ _ => rfl, fun _ _ _ => rfl, fun _ _ _ => rfl, fun _ _ _ => rfl, fun _ _ _ => rfl, fun _ _ _ => rfl, trivial⟩ (by kernel_rfl) (fun _ h => ⟨fun _ => (0, none, 0), h.drew⟩) ⟨?_, ?_, ?_, ?_, ?_, ?_, ?_, ?_, trivial⟩ ?_
      · intro Lx g15 s K hl hh k
        show At 55 ((2, _) :: (5, _) :: Lx) _ _
        obtain rfl : s = 0 := by omega
        refine at_val rfl rfl rfl (r_load_aggc (c := c_api_Addr) (z := t9.1) Tryd.isAgg24 Tryd.sizeOf24 rfl (lens_cell .z (Lens.whole _ _))) ?_
        exact at_nil k
      · intro Lx g15 s K hl hh k
        show At 55 ((2, _) :: (5, _) :: Lx) _ _
        obtain rfl : s = 0 := by omega
        refine at_val rfl rfl rfl (r_load_aggc (c := c_api_Addr) (z := t9.1) Tryd.isAgg24 Tryd.sizeOf24 rfl (lens_cell .z (Lens.whole _ _))) ?_
        exact at_nil k
      · intro Lx g15 s K hl hh k
        show At 55 ((26, _) :: (2, _) :: (5, _) :: Lx) _ _
        obtain rfl : s = 0 := by omega
        refine at_callB Tryd.func29 rfl (by kernel_rfl) rfl rfl (fun w hw => crawlwayref10_Width_ok _ _ ht13 w) ?_
        exact at_nil k
      · intro Lx g15 s K hl hh k
        show At 55 ((25, _) :: (27, _) :: (2, _) :: (5, _) :: Lx) _ _
        obtain rfl : s = 0 := by omega
        refine at_callB Tryd.func44 rfl (by kernel_rfl) rfl rfl (fun w hw => crawlwayref11_Of_ok _ _ _ ht14 w) ?_
        exact at_nil k
      · intro Lx g15 s K hl hh k
        show At 55 ((28, _) :: (2, _) :: (5, _) :: Lx) _ _
        refine at_val rfl rfl rfl (r_extract rfl rfl) ?_
        exact at_nil k
      · intro Lx g15 s K hl hh k
        show At 55 ((28, _) :: (2, _) :: (5, _) :: Lx) _ _
        refine at_val rfl rfl rfl (r_extract rfl rfl) ?_
        exact at_nil k
      · intro Lx g15 K k
        show At 55 ((29, _) :: (2, _) :: (5, _) :: Lx) _ _
        refine at_store (c := c_api_Prefix) (z := t14.1) (.s (.s .z)) (Lens.whole _ _) Tryd.sizeOf50 rfl rfl rfl ?_
        exact at_nil k
      · intro Lx g15 s K hl hh k
        show At 55 ((30, _) :: (2, _) :: (5, _) :: Lx) _ _
        refine at_val rfl rfl rfl (r_assign rfl) ?_
        exact at_nil k
      intro g15
      show At 55 [(25, _), (26, _), (27, _), (28, _), (29, _), (30, _), (3, _), (2, _), (5, _)] _ _
      refine at_drop (H := _) .z ?_
      refine at_drop (H := _) .z ?_
      refine at_weak [(2, _), (3, _)] ⟨rfl, rfl, trivial⟩ ?_
      refine at_then_normal ?_
      refine at_ret ?_
      refine at_then_ret ?_
      have K := of_some hF
      subst K
      exact at_res2 rfl (res_cell (c := c_api_Prefix) (y := t14.1) rfl .z (Lens.whole _ _) Tryd.isAgg50 Tryd.sizeOf50 (.inl rfl)) (res_tmp rfl) (fun w1 hw => ⟨rfl, hw.below⟩)
    · refine at_cond_false rfl h12 ?_
      refine at_skip ?_
      refine at_then_normal ?_
      refine at_seq ?_
      refine at_weak [(0, _), (2, _), (4, _), (5, _)] ⟨rfl, rfl, rfl, rfl, trivial⟩ ?_
      obtain ⟨h16, hF⟩ := of_guard hF
      refine at_pure (φ := ∃ b o, p3 = some ⟨b, o, none⟩) (fun _ hw => row_ptr (hw.own (.s .z)).row h16) ?_
      rintro ⟨b18, o19, hp17⟩
      obtain ⟨h20, hF⟩ := of_guard hF
      obtain ⟨t21, ht21, hF⟩ := of_bindM hF
      obtain ⟨t22, ht22, hF⟩ := of_bindM hF
      refine at_inv [.q 32 (fun g23 => .string x0) [] 0 0, .q 33 (fun g23 => .slice p3 t2.length c4) [] 0 0, .q 34 (fun g23 => .pointer (some ⟨b18, o19 + Int.toNat 0 * 1, none⟩)) [1] 0 0, .q 35 (fun g23 => .string (lget t2 0)) [2] 0 0, .q 36 (fun g23 => .int .i64 ((lget t2 0).size : Int)) [3] 0 0, .q 37 (fun g23 => .int .i64 (wr .i64 (((lget t2 0).size : Int) + 1))) [4] 0 0, .q 38 (fun g23 => .string (x0.extract (Int.toNat (wr .i64 (((lget t2 0).size : Int) + 1))) (Int.toNat (x0.size : Int)))) [0, 5] 0 0, .q 39 (fun g23 => .agg (Cd.cs c_api_Addr t9.1).toArray) [] 0 0, .q 40 (fun g23 => .int .i64 t21) [7] 0 0, .q 41 (fun g23 => .int .u64 (wr .u64 t21)) [8] 0 0, .q 42 (fun g23 => .tuple #[.int .u64 t22.1, .int .i64 t22.2]) [6, 9] 0 0, .q 31 (fun g23 => .tuple #[.int .u64 t22.1, .int .i64 t22.2]) [10] 0 0, .q 43 (fun g23 => .int .u64 t22.1) [11] 0 0, .q 44 (fun g23 => .int .i64 t22.2) [11] 0 0, .q 7 (fun g23 => .int .u64 t22.1) [12] 0 0, .q 8 (fun g23 => .int .i64 t22.2) [13] 0 0] (fun g23 s => match s with | _ => (Wd w [cellsE b10 (Cd.cs c_api_Addr t9.1) 24, rowE cStr 9 p3 c4 t2, cellsE b1 (Cd.cs c_api_Prefix ({ f_A := ({ f_V := (0 : Int), f_B := (Vector.replicate 16 (0 : Int) : (Vector Int 16)) } : S_api_Addr), f_Bits := (0 : Int) } : S_api_Prefix)) 50])) 0 (by kernel_rfl) (by kernel_rfl) (by kernel_rfl) (by kernel_rfl) (by kernel_rfl) ⟨fun _ _ _ => rfl, fun _ _ _ => rfl, fun _ _ _ => rfl, fun _ _ _ => rfl, fun _ _ _ => rfl, fun _ _ _ => rfl, fun _ _ _ => rfl, fun _ _ _ => rfl, fun _ _ _ => rfl, fun _ _ _ => rfl, fun _ _ _ => rfl, fun _ _ _ => rfl, fun _ _ _ => rfl, fun _ _ _ => rfl, fun _ _ _ => rfl, fun _ _ _ => rfl, trivial⟩ (by kernel_rfl) (fun _ h => ⟨fun _ => (0, none, 0), h.drew⟩) ⟨?_, ?_, ?_, ?_, ?_, ?_, ?_, ?_, ?_, ?_, ?_, ?_, ?_, ?_, ?_, ?_, trivial⟩ ?_
      · intro Lx g23 s K hl hh k
        show At 55 ((0, _) :: (2, _) :: (4, _) :: (5, _) :: Lx) _ _
        refine at_val rfl rfl rfl (r_move rfl) ?_
        exact at_nil k
      · intro Lx g23 s K hl hh k
        show At 55 ((0, _) :: (2, _) :: (4, _) :: (5, _) :: Lx) _ _
        refine at_val rfl rfl rfl (r_move rfl) ?_
        exact at_nil k
      · intro Lx g23 s K hl hh k
        show At 55 ((33, _) :: (0, _) :: (2, _) :: (4, _) :: (5, _) :: Lx) _ _
        refine at_val rfl rfl rfl (r_idx Tryd.underlying76 Tryd.sizeOf9 rfl rfl h16 hp17) ?_
        exact at_nil k
      · intro Lx g23 s K hl hh k
        show At 55 ((34, _) :: (0, _) :: (2, _) :: (4, _) :: (5, _) :: Lx) _ _
        obtain rfl : s = 0 := by omega
        refine at_val rfl rfl rfl (r_load_cell Tryd.isAgg9 rfl (fun _ hw => row_cell0 (W := fun w1 => w1 = _) (fun w1 h => by subst h; exact Below.refl _ _) (hw.own (.s .z)).row h16 hp17 rfl _ rfl)) ?_
        exact at_nil k
      · intro Lx g23 s K hl hh k
        show At 55 ((35, _) :: (0, _) :: (2, _) :: (4, _) :: (5, _) :: Lx) _ _
        obtain rfl : s = 0 := by omega
        refine at_val rfl rfl rfl (r_len_str Tryd.underlying9 rfl) ?_
        exact at_nil k
      · intro Lx g23 s K hl hh k
        show At 55 ((36, _) :: (0, _) :: (2, _) :: (4, _) :: (5, _) :: Lx) _ _
        refine at_val rfl rfl rfl (r_iadd rfl rfl) ?_
        exact at_nil k
      · intro Lx g23 s K hl hh k
        show At 55 ((32, _) :: (37, _) :: (0, _) :: (2, _) :: (4, _) :: (5, _) :: Lx) _ _
        obtain rfl : s = 0 := by omega
        refine at_val rfl rfl rfl (r_slice_str Tryd.underlying9 rfl ⟨_, rfl⟩ rfl h20) ?_
        exact at_nil k
      · intro Lx g23 s K hl hh k
        show At 55 ((0, _) :: (2, _) :: (4, _) :: (5, _) :: Lx) _ _
        obtain rfl : s = 0 := by omega
        refine at_val rfl rfl rfl (r_load_aggc (c := c_api_Addr) (z := t9.1) Tryd.isAgg24 Tryd.sizeOf24 rfl (lens_cell .z (Lens.whole _ _))) ?_
        exact at_nil k
      · intro Lx g23 s K hl hh k
        show At 55 ((39, _) :: (0, _) :: (2, _) :: (4, _) :: (5, _) :: Lx) _ _
        obtain rfl : s = 0 := by omega
        refine at_callB Tryd.func29 rfl (by kernel_rfl) rfl rfl (fun w hw => crawlwayref10_Width_ok _ _ ht21 w) ?_
        exact at_nil k
      · intro Lx g23 s K hl hh k
        show At 55 ((40, _) :: (0, _) :: (2, _) :: (4, _) :: (5, _) :: Lx) _ _
        refine at_val rfl rfl rfl (r_conv Tryd.underlying3 Tryd.underlying83 rfl) ?_
        exact at_nil k
      · intro Lx g23 s K hl hh k
        show At 55 ((38, _) :: (41, _) :: (0, _) :: (2, _) :: (4, _) :: (5, _) :: Lx) _ _
        obtain rfl : s = 0 := by omega
        refine at_call0 Tryd.func77 rfl (by kernel_rfl) rfl rfl (fun w => crawlwayref03_Read_ok _ _ _ ht22 w) ?_
        exact at_nil k
      · intro Lx g23 s K hl hh k
        show At 55 ((42, _) :: (0, _) :: (2, _) :: (4, _) :: (5, _) :: Lx) _ _
        refine at_val rfl rfl rfl (r_move rfl) ?_
        exact at_nil k
      · intro Lx g23 s K hl hh k
        show At 55 ((31, _) :: (0, _) :: (2, _) :: (4, _) :: (5, _) :: Lx) _ _
        refine at_val rfl rfl rfl (r_extract rfl rfl) ?_
        exact at_nil k
      · intro Lx g23 s K hl hh k
        show At 55 ((31, _) :: (0, _) :: (2, _) :: (4, _) :: (5, _) :: Lx) _ _
        refine at_val rfl rfl rfl (r_extract rfl rfl) ?_
        exact at_nil k
      · intro Lx g23 s K hl hh k
        show At 55 ((43, _) :: (0, _) :: (2, _) :: (4, _) :: (5, _) :: Lx) _ _
        refine at_val rfl rfl rfl (r_assign rfl) ?_
        exact at_nil k
      · intro Lx g23 s K hl hh k
        show At 55 ((44, _) :: (0, _) :: (2, _) :: (4, _) :: (5, _) :: Lx) _ _
        refine at_val rfl rfl rfl (r_assign rfl) ?_
        exact at_nil k
      intro g23
      show At 55 [(32, _), (33, _), (34, _), (35, _), (36, _), (37, _), (38, _), (39, _), (40, _), (41, _), (42, _), (31, _), (43, _), (44, _), (7, _), (8, _), (0, _), (2, _), (4, _), (5, _)] _ _
      refine at_drop (H := _) (.s .z) ?_
      refine at_weak [(2, _), (5, _), (7, _), (8, _)] ⟨rfl, rfl, rfl, rfl, trivial⟩ ?_
      refine at_then_normal ?_
      refine at_seq ?_
      refine at_seq ?_
      refine at_region ?_
      refine at_val rfl rfl rfl (r_move rfl) ?_
      refine at_val rfl rfl rfl (r_ineq rfl rfl) ?_
      refine at_nil ?_
      refine at_weak [(2, _), (5, _), (7, _), (8, _), (46, _)] ⟨rfl, rfl, rfl, rfl, rfl, trivial⟩ ?_
      refine at_then_normal ?_
      rcases of_ite hF with ⟨h24, hF⟩ | ⟨h24, hF⟩
      · refine at_cond_true rfl h24 ?_
        refine at_seq ?_
        refine at_region ?_
        refine at_val rfl rfl rfl (r_build_struct (zs := Cd.cs c_api_Prefix ({ f_A := ({ f_V := (0 : Int), f_B := (Vector.replicate 16 (0 : Int) : (Vector Int 16)) } : S_api_Addr), f_Bits := (0 : Int) } : S_api_Prefix)) (cs := Cd.cs c_api_Prefix ({ f_A := ({ f_V := (0 : Int), f_B := (Vector.replicate 16 (0 : Int) : (Vector Int 16)) } : S_api_Addr), f_Bits := (0 : Int) } : S_api_Prefix)) Tryd.underlying50 Tryd.zeroValue50 rfl (places_api_Prefix_50) rfl rfl) ?_
        refine at_val rfl rfl rfl (r_move rfl) ?_
        refine at_store (c := c_api_Prefix) (z := ({ f_A := ({ f_V := (0 : Int), f_B := (Vector.replicate 16 (0 : Int) : (Vector Int 16)) } : S_api_Addr), f_Bits := (0 : Int) } : S_api_Prefix)) (.s .z) (Lens.whole _ _) Tryd.sizeOf50 rfl rfl rfl ?_
        refine at_val rfl rfl rfl (r_assign rfl) ?_
        refine at_nil ?_
        refine at_drop (H := _) .z ?_
        refine at_weak [(2, _), (3, _)] ⟨rfl, rfl, trivial⟩ ?_
        refine at_then_normal ?_
        refine at_ret ?_
        refine at_then_ret ?_
        have K := of_some hF
        subst K
        exact at_res2 rfl (res_cell (c := c_api_Prefix) (y := ({ f_A := ({ f_V := (0 : Int), f_B := (Vector.replicate 16 (0 : Int) : (Vector Int 16)) } : S_api_Addr), f_Bits := (0 : Int) } : S_api_Prefix)) rfl .z (Lens.whole _ _) Tryd.isAgg50 Tryd.sizeOf50 (.inl rfl)) (res_tmp rfl) (fun w1 hw => ⟨rfl, hw.below⟩)
      · refine at_cond_false rfl h24 ?_
        refine at_skip ?_
        refine at_then_normal ?_
        refine at_seq ?_
        refine at_region ?_
        refine at_val rfl rfl rfl (r_load_aggc (c := c_api_Addr) (z := t9.1) Tryd.isAgg24 Tryd.sizeOf24 rfl (lens_cell .z (Lens.whole _ _))) ?_
        refine at_val rfl rfl rfl (r_move rfl) ?_
        refine at_val rfl rfl rfl (r_conv Tryd.underlying83 Tryd.underlying3 rfl) ?_
        obtain ⟨t25, ht25, hF⟩ := of_bindM hF
        refine at_callB Tryd.func44 rfl (by kernel_rfl) rfl rfl (fun w hw => crawlwayref11_Of_ok _ _ _ ht25 w) ?_
        refine at_val rfl rfl rfl (r_extract rfl rfl) ?_
        refine at_val rfl rfl rfl (r_extract rfl rfl) ?_
        refine at_store (c := c_api_Prefix) (z := t25.1) (.s .z) (Lens.whole _ _) Tryd.sizeOf50 rfl rfl rfl ?_
        refine at_val rfl rfl rfl (r_assign rfl) ?_
        refine at_nil ?_
        refine at_drop (H := _) .z ?_
        refine at_weak [(2, _), (3, _)] ⟨rfl, rfl, trivial⟩ ?_
        refine at_then_normal ?_
        refine at_ret ?_
        have K := of_some hF
        subst K
        exact at_res2 rfl (res_cell (c := c_api_Prefix) (y := t25.1) rfl .z (Lens.whole _ _) Tryd.isAgg50 Tryd.sizeOf50 (.inl rfl)) (res_tmp rfl) (fun w1 hw => ⟨rfl, hw.below⟩)

def cidr_Has (x0 : S_api_Prefix) (x1 : S_api_Addr) : Option (Bool) :=
  cidr_Right x0 >>= fun t3 => if t3 = true then (addr_Right x1 >>= fun t5 => if t5 = true then (if (x1.f_V == x0.f_A.f_V) = true then (addr_Mask x1 x0.f_Bits >>= fun t8 => some (decide (t8 = x0.f_A))) else (some false)) else (some false)) else (some false)
theorem cidr_Has_ok (x0 : S_api_Prefix) (x1 : S_api_Addr) (r : Bool) (hF : cidr_Has x0 x1 = some r) (w : World) :
    Calls Tryd.prog 53 #[.agg (Cd.cs c_api_Prefix x0).toArray, .agg (Cd.cs c_api_Addr x1).toArray] w (fun e w' => e = .returned (.bool r) ∧ Below w.heap.size w w') := by
  unfold cidr_Has at hF
  refine calls_enter (l := [.agg (Cd.cs c_api_Prefix x0).toArray, .agg (Cd.cs c_api_Addr x1).toArray]) Tryd.func53 rfl rfl rfl ?_
  refine at_start ?_
  refine at_weak [(0, _), (1, _)] ⟨rfl, rfl, trivial⟩ ?_
  refine at_seq ?_
  refine at_region ?_
  refine at_box (cs := Cd.cs c_api_Prefix x0) rfl rfl rfl ?_
  intro b1
  refine at_box (cs := Cd.cs c_api_Addr x1) rfl rfl rfl ?_
  intro b2
  refine at_val rfl rfl rfl (r_assign rfl) ?_
  refine at_nil ?_
  refine at_weak [(2, _), (3, _)] ⟨rfl, rfl, trivial⟩ ?_
  refine at_then_normal ?_
  refine at_seq ?_
  refine at_draw (by kernel_rfl) (by kernel_rfl) (fun _ h => h.drew) ?_
  refine atq_val rfl rfl rfl (r_load_aggc (c := c_api_Prefix) (z := x0) Tryd.isAgg50 Tryd.sizeOf50 rfl (lens_cell (.s .z) (Lens.whole _ _))) ?_
  obtain ⟨t3, ht3, hF⟩ := of_bindM hF
  refine atq_call Tryd.func45 rfl (by kernel_rfl) rfl rfl (fun w hw => (cidr_Right_ok _ _ ht3 w).mono fun _ _ h => ⟨h.1, hw.call h.2⟩) ?_
  refine atq_val rfl rfl rfl (r_move rfl) ?_
  rcases of_ite hF with ⟨h4, hF⟩ | ⟨h4, hF⟩
  · refine atq_fix (g := 7) rfl h4 ?_
    refine atq_guard_yes rfl rfl rfl ?_
    refine atq_val rfl rfl rfl (r_load_aggc (c := c_api_Addr) (z := x1) Tryd.isAgg24 Tryd.sizeOf24 rfl (lens_cell .z (Lens.whole _ _))) ?_
    refine atq_guard_yes rfl rfl rfl ?_
    obtain ⟨t5, ht5, hF⟩ := of_bindM hF
    refine atq_call Tryd.func36 rfl (by kernel_rfl) rfl rfl (fun w hw => (addr_Right_ok _ _ ht5 w).mono fun _ _ h => ⟨h.1, hw.call h.2⟩) ?_
    refine atq_val rfl rfl rfl (r_pick rfl rfl rfl) ?_
    refine atq_val rfl rfl rfl (r_move rfl) ?_
    rcases of_ite hF with ⟨h6, hF⟩ | ⟨h6, hF⟩
    · refine atq_fix (g := 11) rfl h6 ?_
      refine atq_guard_yes rfl rfl rfl ?_
      refine atq_val rfl rfl rfl (r_fieldAddr (fo := 0) Tryd.underlying24 rfl rfl (fun w => ⟨_, Tryd.sizeOf3 w⟩) rfl) ?_
      refine atq_guard_yes rfl rfl rfl ?_
      refine atq_val rfl rfl rfl (r_load_cell Tryd.isAgg3 rfl (lens_cell0 (c := (cInt .i64)) (y := x1.f_V) .z (Lens.comp (Lens.whole _ _) (fun z => { x1 with f_V := z }) (c_api_Addr_f_V x1)) rfl)) ?_
      refine atq_guard_yes rfl rfl rfl ?_
      refine atq_val rfl rfl rfl (r_fieldAddr (fo := 0) Tryd.underlying50 rfl rfl (fun w => ⟨_, Tryd.sizeOf24 w⟩) rfl) ?_
      refine atq_guard_yes rfl rfl rfl ?_
      refine atq_val rfl rfl rfl (r_fieldAddr (fo := 0) Tryd.underlying24 rfl rfl (fun w => ⟨_, Tryd.sizeOf3 w⟩) rfl) ?_
      refine atq_guard_yes rfl rfl rfl ?_
      refine atq_val rfl rfl rfl (r_load_cell Tryd.isAgg3 rfl (lens_cell0 (c := (cInt .i64)) (y := x0.f_A.f_V) (.s .z) (Lens.comp (Lens.comp (Lens.whole _ _) (fun z => { x0 with f_A := z }) (c_api_Prefix_f_A x0)) (fun z => { x0.f_A with f_V := z }) (c_api_Addr_f_V x0.f_A)) rfl)) ?_
      refine atq_guard_yes rfl rfl rfl ?_
      refine atq_val rfl rfl rfl (r_ieql rfl rfl) ?_
      refine atq_val rfl rfl rfl (r_pick rfl rfl rfl) ?_
      refine atq_val rfl rfl rfl (r_move rfl) ?_
      rcases of_ite hF with ⟨h7, hF⟩ | ⟨h7, hF⟩
      · refine atq_fix (g := 19) rfl h7 ?_
        refine atq_guard_yes rfl rfl rfl ?_
        refine atq_val rfl rfl rfl (r_load_aggc (c := c_api_Addr) (z := x1) Tryd.isAgg24 Tryd.sizeOf24 rfl (lens_cell .z (Lens.whole _ _))) ?_
        refine atq_guard_yes rfl rfl rfl ?_
        refine atq_val rfl rfl rfl (r_fieldAddr (fo := 17) Tryd.underlying50 rfl rfl (fun w => ⟨_, Tryd.sizeOf3 w⟩) rfl) ?_
        refine atq_guard_yes rfl rfl rfl ?_
        refine atq_val rfl rfl rfl (r_load_cell Tryd.isAgg3 rfl (lens_cell0 (c := (cInt .i64)) (y := x0.f_Bits) (.s .z) (Lens.comp (Lens.whole _ _) (fun z => { x0 with f_Bits := z }) (c_api_Prefix_f_Bits x0)) rfl)) ?_
        refine atq_guard_yes rfl rfl rfl ?_
        obtain ⟨t8, ht8, hF⟩ := of_bindM hF
        refine atq_call Tryd.func15 rfl (by kernel_rfl) rfl rfl (fun w hw => (addr_Mask_ok _ _ _ ht8 w).mono fun _ _ h => ⟨h.1, hw.call h.2⟩) ?_
        refine atq_guard_yes rfl rfl rfl ?_
        refine atq_val rfl rfl rfl (r_fieldAddr (fo := 0) Tryd.underlying50 rfl rfl (fun w => ⟨_, Tryd.sizeOf24 w⟩) rfl) ?_
        refine atq_guard_yes rfl rfl rfl ?_
        refine atq_val rfl rfl rfl (r_load_aggc (c := c_api_Addr) (z := x0.f_A) Tryd.isAgg24 Tryd.sizeOf24 rfl (lens_cell (.s .z) (Lens.comp (Lens.whole _ _) (fun z => { x0 with f_A := z }) (c_api_Prefix_f_A x0)))) ?_
        refine atq_guard_yes rfl rfl rfl ?_
        refine atq_val rfl rfl rfl (r_eqagg (c := c_api_Addr) (a := t8) (b := x0.f_A) (eq_api_Addr_24) rfl Tryd.eqGuardType24 rfl rfl (.inl rfl) rfl) ?_
        refine atq_val rfl rfl rfl (r_pick rfl rfl rfl) ?_
        refine atq_val rfl rfl rfl (r_assign rfl) ?_
        refine atq_nil ?_
        refine at_drop (H := _) .z ?_
        refine at_drop (H := _) .z ?_
        refine at_weak [(4, _)] ⟨rfl, trivial⟩ ?_
        refine at_then_normal ?_
        refine at_ret ?_
        have K := of_some hF
        subst K
        exact at_return1 rfl rfl (fun w1 hw => ⟨rfl, hw.below⟩)
      · refine atq_fix (g := 19) rfl h7 ?_
        refine atq_guard_no rfl rfl rfl rfl rfl ?_
        refine atq_guard_no rfl rfl rfl rfl rfl ?_
        refine atq_guard_no rfl rfl rfl rfl rfl ?_
        refine atq_guard_no rfl rfl rfl rfl rfl ?_
        refine atq_guard_no rfl rfl rfl rfl rfl ?_
        refine atq_guard_no rfl rfl rfl rfl rfl ?_
        refine atq_guard_no rfl rfl rfl rfl rfl ?_
        refine atq_val rfl rfl rfl (r_pick rfl rfl rfl) ?_
        refine atq_val rfl rfl rfl (r_assign rfl) ?_
        refine atq_nil ?_
        refine at_drop (H := _) .z ?_
        refine at_drop (H := _) .z ?_
        refine at_weak [(4, _)] ⟨rfl, trivial⟩ ?_
        refine at_then_normal ?_
        refine at_ret ?_
        have K := of_some hF
        subst K
        exact at_return1 rfl rfl (fun w1 hw => ⟨rfl, hw.below⟩)
    · refine atq_fix (g := 11) rfl h6 ?_
      refine atq_guard_no rfl rfl rfl rfl rfl ?_
      refine atq_guard_no rfl rfl rfl rfl rfl ?_
      refine atq_guard_no rfl rfl rfl rfl rfl ?_
      refine atq_guard_no rfl rfl rfl rfl rfl ?_
      refine atq_guard_no rfl rfl rfl rfl rfl ?_
      refine atq_guard_no rfl rfl rfl rfl rfl ?_
      refine atq_val rfl rfl rfl (r_pick rfl rfl rfl) ?_
      refine atq_val rfl rfl rfl (r_move rfl) ?_
      refine atq_guard_no rfl rfl rfl rfl rfl ?_
      refine atq_guard_no rfl rfl rfl rfl rfl ?_
      refine atq_guard_no rfl rfl rfl rfl rfl ?_
      refine atq_guard_no rfl rfl rfl rfl rfl ?_
      refine atq_guard_no rfl rfl rfl rfl rfl ?_
      refine atq_guard_no rfl rfl rfl rfl rfl ?_
      refine atq_guard_no rfl rfl rfl rfl rfl ?_
      refine atq_val rfl rfl rfl (r_pick rfl rfl rfl) ?_
      refine atq_val rfl rfl rfl (r_assign rfl) ?_
      refine atq_nil ?_
      refine at_drop (H := _) .z ?_
      refine at_drop (H := _) .z ?_
      refine at_weak [(4, _)] ⟨rfl, trivial⟩ ?_
      refine at_then_normal ?_
      refine at_ret ?_
      have K := of_some hF
      subst K
      exact at_return1 rfl rfl (fun w1 hw => ⟨rfl, hw.below⟩)
  · refine atq_fix (g := 7) rfl h4 ?_
    refine atq_guard_no rfl rfl rfl rfl rfl ?_
    refine atq_guard_no rfl rfl rfl rfl rfl ?_
    refine atq_val rfl rfl rfl (r_pick rfl rfl rfl) ?_
    refine atq_val rfl rfl rfl (r_move rfl) ?_
    refine atq_guard_no rfl rfl rfl rfl rfl ?_
    refine atq_guard_no rfl rfl rfl rfl rfl ?_
    refine atq_guard_no rfl rfl rfl rfl rfl ?_
    refine atq_guard_no rfl rfl rfl rfl rfl ?_
    refine atq_guard_no rfl rfl rfl rfl rfl ?_
    refine atq_guard_no rfl rfl rfl rfl rfl ?_
    refine atq_val rfl rfl rfl (r_pick rfl rfl rfl) ?_
    refine atq_val rfl rfl rfl (r_move rfl) ?_
    refine atq_guard_no rfl rfl rfl rfl rfl ?_
    refine atq_guard_no rfl rfl rfl rfl rfl ?_
    refine atq_guard_no rfl rfl rfl rfl rfl ?_
    refine atq_guard_no rfl rfl rfl rfl rfl ?_
    refine atq_guard_no rfl rfl rfl rfl rfl ?_
    refine atq_guard_no rfl rfl rfl rfl rfl ?_
    refine atq_guard_no rfl rfl rfl rfl rfl ?_
    refine atq_val rfl rfl rfl (r_pick rfl rfl rfl) ?_
    refine atq_val rfl rfl rfl (r_assign rfl) ?_
    refine atq_nil ?_
    refine at_drop (H := _) .z ?_
    refine at_drop (H := _) .z ?_
    refine at_weak [(4, _)] ⟨rfl, trivial⟩ ?_
    refine at_then_normal ?_
    refine at_ret ?_
    have K := of_some hF
    subst K
    exact at_return1 rfl rfl (fun w1 hw => ⟨rfl, hw.below⟩)

def crawlwayref11_Has (x0 : S_api_Prefix) (x1 : S_api_Addr) : Option (Bool) :=
  crawlwayref11_Right x0 >>= fun t3 => if t3 = true then (crawlwayref10_Common x0.f_A x1 >>= fun t5 => some (decide (t5 ≥ x0.f_Bits))) else (some false)
theorem crawlwayref11_Has_ok (x0 : S_api_Prefix) (x1 : S_api_Addr) (r : Bool) (hF : crawlwayref11_Has x0 x1 = some r) (w : World) :
    Calls Tryd.prog 54 #[.agg (Cd.cs c_api_Prefix x0).toArray, .agg (Cd.cs c_api_Addr x1).toArray] w (fun e w' => e = .returned (.bool r) ∧ Below w.heap.size w w') := by
  unfold crawlwayref11_Has at hF
  refine calls_enter (l := [.agg (Cd.cs c_api_Prefix x0).toArray, .agg (Cd.cs c_api_Addr x1).toArray]) Tryd.func54 rfl rfl rfl ?_
  refine at_start ?_
  refine at_weak [(0, _), (1, _)] ⟨rfl, rfl, trivial⟩ ?_
  refine at_seq ?_
  refine at_region ?_
  refine at_box (cs := Cd.cs c_api_Prefix x0) rfl rfl rfl ?_
  intro b1
  refine at_box (cs := Cd.cs c_api_Addr x1) rfl rfl rfl ?_
  intro b2
  refine at_val rfl rfl rfl (r_assign rfl) ?_
  refine at_nil ?_
  refine at_weak [(2, _), (3, _)] ⟨rfl, rfl, trivial⟩ ?_
  refine at_then_normal ?_
  refine at_seq ?_
  refine at_draw (by kernel_rfl) (by kernel_rfl) (fun _ h => h.drew) ?_
  refine atq_val rfl rfl rfl (r_load_aggc (c := c_api_Prefix) (z := x0) Tryd.isAgg50 Tryd.sizeOf50 rfl (lens_cell (.s .z) (Lens.whole _ _))) ?_
  obtain ⟨t3, ht3, hF⟩ := of_bindM hF
  refine atq_call Tryd.func50 rfl (by kernel_rfl) rfl rfl (fun w hw => (crawlwayref11_Right_ok _ _ ht3 w).mono fun _ _ h => ⟨h.1, hw.call h.2⟩) ?_
  refine atq_val rfl rfl rfl (r_move rfl) ?_
  rcases of_ite hF with ⟨h4, hF⟩ | ⟨h4, hF⟩
  · refine atq_fix (g := 7) rfl h4 ?_
    refine atq_guard_yes rfl rfl rfl ?_
    refine atq_val rfl rfl rfl (r_fieldAddr (fo := 0) Tryd.underlying50 rfl rfl (fun w => ⟨_, Tryd.sizeOf24 w⟩) rfl) ?_
    refine atq_guard_yes rfl rfl rfl ?_
    refine atq_val rfl rfl rfl (r_load_aggc (c := c_api_Addr) (z := x0.f_A) Tryd.isAgg24 Tryd.sizeOf24 rfl (lens_cell (.s .z) (Lens.comp (Lens.whole _ _) (fun z => { x0 with f_A := z }) (c_api_Prefix_f_A x0)))) ?_
    refine atq_guard_yes rfl rfl rfl ?_
    refine atq_val rfl rfl rfl (r_load_aggc (c := c_api_Addr) (z := x1) Tryd.isAgg24 Tryd.sizeOf24 rfl (lens_cell .z (Lens.whole _ _))) ?_
    refine atq_guard_yes rfl rfl rfl ?_
    obtain ⟨t5, ht5, hF⟩ := of_bindM hF
    refine atq_call Tryd.func25 rfl (by kernel_rfl) rfl rfl (fun w hw => (crawlwayref10_Common_ok _ _ _ ht5 w).mono fun _ _ h => ⟨h.1, hw.call h.2⟩) ?_
    refine atq_guard_yes rfl rfl rfl ?_
    refine atq_val rfl rfl rfl (r_fieldAddr (fo := 17) Tryd.underlying50 rfl rfl (fun w => ⟨_, Tryd.sizeOf3 w⟩) rfl) ?_
    refine atq_guard_yes rfl rfl rfl ?_
    refine atq_val rfl rfl rfl (r_load_cell Tryd.isAgg3 rfl (lens_cell0 (c := (cInt .i64)) (y := x0.f_Bits) (.s .z) (Lens.comp (Lens.whole _ _) (fun z => { x0 with f_Bits := z }) (c_api_Prefix_f_Bits x0)) rfl)) ?_
    refine atq_guard_yes rfl rfl rfl ?_
    refine atq_val rfl rfl rfl (r_igeq rfl rfl) ?_
    refine atq_val rfl rfl rfl (r_pick rfl rfl rfl) ?_
    refine atq_val rfl rfl rfl (r_assign rfl) ?_
    refine atq_nil ?_
    refine at_drop (H := _) .z ?_
    refine at_drop (H := _) .z ?_
    refine at_weak [(4, _)] ⟨rfl, trivial⟩ ?_
    refine at_then_normal ?_
    refine at_ret ?_
    have K := of_some hF
    subst K
    exact at_return1 rfl rfl (fun w1 hw => ⟨rfl, hw.below⟩)
  · refine atq_fix (g := 7) rfl h4 ?_
    refine atq_guard_no rfl rfl rfl rfl rfl ?_
    refine atq_guard_no rfl rfl rfl rfl rfl ?_
    refine atq_guard_no rfl rfl rfl rfl rfl ?_
    refine atq_guard_no rfl rfl rfl rfl rfl ?_
    refine atq_guard_no rfl rfl rfl rfl rfl ?_
    refine atq_guard_no rfl rfl rfl rfl rfl ?_
    refine atq_guard_no rfl rfl rfl rfl rfl ?_
    refine atq_val rfl rfl rfl (r_pick rfl rfl rfl) ?_
    refine atq_val rfl rfl rfl (r_assign rfl) ?_
    refine atq_nil ?_
    refine at_drop (H := _) .z ?_
    refine at_drop (H := _) .z ?_
    refine at_weak [(4, _)] ⟨rfl, trivial⟩ ?_
    refine at_then_normal ?_
    refine at_ret ?_
    have K := of_some hF
    subst K
    exact at_return1 rfl rfl (fun w1 hw => ⟨rfl, hw.below⟩)

def cidr_Covers (x0 : S_api_Prefix) (x1 : S_api_Prefix) : Option (Bool) :=
  cidr_Right x1 >>= fun t3 => if t3 = true then (if (decide (x0.f_Bits ≤ x1.f_Bits)) = true then (cidr_Has x0 x1.f_A >>= fun t6 => some t6) else (some false)) else (some false)
theorem cidr_Covers_ok (x0 : S_api_Prefix) (x1 : S_api_Prefix) (r : Bool) (hF : cidr_Covers x0 x1 = some r) (w : World) :
    Calls Tryd.prog 55 #[.agg (Cd.cs c_api_Prefix x0).toArray, .agg (Cd.cs c_api_Prefix x1).toArray] w (fun e w' => e = .returned (.bool r) ∧ Below w.heap.size w w') := by
  unfold cidr_Covers at hF
  refine calls_enter (l := [.agg (Cd.cs c_api_Prefix x0).toArray, .agg (Cd.cs c_api_Prefix x1).toArray]) Tryd.func55 rfl rfl rfl ?_
  refine at_start ?_
  refine at_weak [(0, _), (1, _)] ⟨rfl, rfl, trivial⟩ ?_
  refine at_seq ?_
  refine at_region ?_
  refine at_box (cs := Cd.cs c_api_Prefix x0) rfl rfl rfl ?_
  intro b1
  refine at_box (cs := Cd.cs c_api_Prefix x1) rfl rfl rfl ?_
  intro b2
  refine at_val rfl rfl rfl (r_assign rfl) ?_
  refine at_nil ?_
  refine at_weak [(2, _), (3, _)] ⟨rfl, rfl, trivial⟩ ?_
  refine at_then_normal ?_
  refine at_seq ?_
  refine at_region ?_
  refine at_val rfl rfl rfl (r_load_aggc (c := c_api_Prefix) (z := x1) Tryd.isAgg50 Tryd.sizeOf50 rfl (lens_cell .z (Lens.whole _ _))) ?_
  obtain ⟨t3, ht3, hF⟩ := of_bindM hF
  refine at_callB Tryd.func45 rfl (by kernel_rfl) rfl rfl (fun w hw => cidr_Right_ok _ _ ht3 w) ?_
  refine at_val rfl rfl rfl (r_move rfl) ?_
  rcases of_ite hF with ⟨h4, hF⟩ | ⟨h4, hF⟩
  · refine at_fix (g := 7) rfl h4 ?_
    refine at_guard_yes rfl rfl rfl ?_
    refine at_val rfl rfl rfl (r_fieldAddr (fo := 17) Tryd.underlying50 rfl rfl (fun w => ⟨_, Tryd.sizeOf3 w⟩) rfl) ?_
    refine at_guard_yes rfl rfl rfl ?_
    refine at_val rfl rfl rfl (r_load_cell Tryd.isAgg3 rfl (lens_cell0 (c := (cInt .i64)) (y := x0.f_Bits) (.s .z) (Lens.comp (Lens.whole _ _) (fun z => { x0 with f_Bits := z }) (c_api_Prefix_f_Bits x0)) rfl)) ?_
    refine at_guard_yes rfl rfl rfl ?_
    refine at_val rfl rfl rfl (r_fieldAddr (fo := 17) Tryd.underlying50 rfl rfl (fun w => ⟨_, Tryd.sizeOf3 w⟩) rfl) ?_
    refine at_guard_yes rfl rfl rfl ?_
    refine at_val rfl rfl rfl (r_load_cell Tryd.isAgg3 rfl (lens_cell0 (c := (cInt .i64)) (y := x1.f_Bits) .z (Lens.comp (Lens.whole _ _) (fun z => { x1 with f_Bits := z }) (c_api_Prefix_f_Bits x1)) rfl)) ?_
    refine at_guard_yes rfl rfl rfl ?_
    refine at_val rfl rfl rfl (r_ileq rfl rfl) ?_
    refine at_val rfl rfl rfl (r_pick rfl rfl rfl) ?_
    refine at_val rfl rfl rfl (r_move rfl) ?_
    rcases of_ite hF with ⟨h5, hF⟩ | ⟨h5, hF⟩
    · refine at_fix (g := 14) rfl h5 ?_
      refine at_guard_yes rfl rfl rfl ?_
      refine at_val rfl rfl rfl (r_load_aggc (c := c_api_Prefix) (z := x0) Tryd.isAgg50 Tryd.sizeOf50 rfl (lens_cell (.s .z) (Lens.whole _ _))) ?_
      refine at_guard_yes rfl rfl rfl ?_
      refine at_val rfl rfl rfl (r_fieldAddr (fo := 0) Tryd.underlying50 rfl rfl (fun w => ⟨_, Tryd.sizeOf24 w⟩) rfl) ?_
      refine at_guard_yes rfl rfl rfl ?_
      refine at_val rfl rfl rfl (r_load_aggc (c := c_api_Addr) (z := x1.f_A) Tryd.isAgg24 Tryd.sizeOf24 rfl (lens_cell .z (Lens.comp (Lens.whole _ _) (fun z => { x1 with f_A := z }) (c_api_Prefix_f_A x1)))) ?_
      refine at_guard_yes rfl rfl rfl ?_
      obtain ⟨t6, ht6, hF⟩ := of_bindM hF
      refine at_callB Tryd.func53 rfl (by kernel_rfl) rfl rfl (fun w hw => cidr_Has_ok _ _ _ ht6 w) ?_
      refine at_val rfl rfl rfl (r_pick rfl rfl rfl) ?_
      refine at_val rfl rfl rfl (r_assign rfl) ?_
      refine at_nil ?_
      refine at_drop (H := _) .z ?_
      refine at_drop (H := _) .z ?_
      refine at_weak [(4, _)] ⟨rfl, trivial⟩ ?_
      refine at_then_normal ?_
      refine at_ret ?_
      have K := of_some hF
      subst K
      exact at_return1 rfl rfl (fun w1 hw => ⟨rfl, hw.below⟩)
    · refine at_fix (g := 14) rfl h5 ?_
      refine at_guard_no rfl rfl rfl rfl rfl ?_
      refine at_guard_no rfl rfl rfl rfl rfl ?_
      refine at_guard_no rfl rfl rfl rfl rfl ?_
      refine at_guard_no rfl rfl rfl rfl rfl ?_
      refine at_val rfl rfl rfl (r_pick rfl rfl rfl) ?_
      refine at_val rfl rfl rfl (r_assign rfl) ?_
      refine at_nil ?_
      refine at_drop (H := _) .z ?_
      refine at_drop (H := _) .z ?_
      refine at_weak [(4, _)] ⟨rfl, trivial⟩ ?_
      refine at_then_normal ?_
      refine at_ret ?_
      have K := of_some hF
      subst K
      exact at_return1 rfl rfl (fun w1 hw => ⟨rfl, hw.below⟩)
  · refine at_fix (g := 7) rfl h4 ?_
    refine at_guard_no rfl rfl rfl rfl rfl ?_
    refine at_guard_no rfl rfl rfl rfl rfl ?_
    refine at_guard_no rfl rfl rfl rfl rfl ?_
    refine at_guard_no rfl rfl rfl rfl rfl ?_
    refine at_guard_no rfl rfl rfl rfl rfl ?_
    refine at_val rfl rfl rfl (r_pick rfl rfl rfl) ?_
    refine at_val rfl rfl rfl (r_move rfl) ?_
    refine at_guard_no rfl rfl rfl rfl rfl ?_
    refine at_guard_no rfl rfl rfl rfl rfl ?_
    refine at_guard_no rfl rfl rfl rfl rfl ?_
    refine at_guard_no rfl rfl rfl rfl rfl ?_
    refine at_val rfl rfl rfl (r_pick rfl rfl rfl) ?_
    refine at_val rfl rfl rfl (r_assign rfl) ?_
    refine at_nil ?_
    refine at_drop (H := _) .z ?_
    refine at_drop (H := _) .z ?_
    refine at_weak [(4, _)] ⟨rfl, trivial⟩ ?_
    refine at_then_normal ?_
    refine at_ret ?_
    have K := of_some hF
    subst K
    exact at_return1 rfl rfl (fun w1 hw => ⟨rfl, hw.below⟩)

def crawlwayref11_Covers (x0 : S_api_Prefix) (x1 : S_api_Prefix) : Option (Bool) :=
  crawlwayref11_Right x1 >>= fun t3 => if t3 = true then (crawlwayref11_Has x0 x1.f_A >>= fun t5 => if t5 = true then (some (decide (x0.f_Bits ≤ x1.f_Bits))) else (some false)) else (some false)
theorem crawlwayref11_Covers_ok (x0 : S_api_Prefix) (x1 : S_api_Prefix) (r : Bool) (hF : crawlwayref11_Covers x0 x1 = some r) (w : World) :
    Calls Tryd.prog 56 #[.agg (Cd.cs c_api_Prefix x0).toArray, .agg (Cd.cs c_api_Prefix x1).toArray] w (fun e w' => e = .returned (.bool r) ∧ Below w.heap.size w w') := by
  unfold crawlwayref11_Covers at hF
  refine calls_enter (l := [.agg (Cd.cs c_api_Prefix x0).toArray, .agg (Cd.cs c_api_Prefix x1).toArray]) Tryd.func56 rfl rfl rfl ?_
  refine at_start ?_
  refine at_weak [(0, _), (1, _)] ⟨rfl, rfl, trivial⟩ ?_
  refine at_seq ?_
  refine at_region ?_
  refine at_box (cs := Cd.cs c_api_Prefix x0) rfl rfl rfl ?_
  intro b1
  refine at_box (cs := Cd.cs c_api_Prefix x1) rfl rfl rfl ?_
  intro b2
  refine at_val rfl rfl rfl (r_assign rfl) ?_
  refine at_nil ?_
  refine at_weak [(2, _), (3, _)] ⟨rfl, rfl, trivial⟩ ?_
  refine at_then_normal ?_
  refine at_seq ?_
  refine at_region ?_
  refine at_val rfl rfl rfl (r_load_aggc (c := c_api_Prefix) (z := x1) Tryd.isAgg50 Tryd.sizeOf50 rfl (lens_cell .z (Lens.whole _ _))) ?_
  obtain ⟨t3, ht3, hF⟩ := of_bindM hF
  refine at_callB Tryd.func50 rfl (by kernel_rfl) rfl rfl (fun w hw => crawlwayref11_Right_ok _ _ ht3 w) ?_
  refine at_val rfl rfl rfl (r_move rfl) ?_
  rcases of_ite hF with ⟨h4, hF⟩ | ⟨h4, hF⟩
  · refine at_fix (g := 7) rfl h4 ?_
    refine at_guard_yes rfl rfl rfl ?_
    refine at_val rfl rfl rfl (r_load_aggc (c := c_api_Prefix) (z := x0) Tryd.isAgg50 Tryd.sizeOf50 rfl (lens_cell (.s .z) (Lens.whole _ _))) ?_
    refine at_guard_yes rfl rfl rfl ?_
    refine at_val rfl rfl rfl (r_fieldAddr (fo := 0) Tryd.underlying50 rfl rfl (fun w => ⟨_, Tryd.sizeOf24 w⟩) rfl) ?_
    refine at_guard_yes rfl rfl rfl ?_
    refine at_val rfl rfl rfl (r_load_aggc (c := c_api_Addr) (z := x1.f_A) Tryd.isAgg24 Tryd.sizeOf24 rfl (lens_cell .z (Lens.comp (Lens.whole _ _) (fun z => { x1 with f_A := z }) (c_api_Prefix_f_A x1)))) ?_
    refine at_guard_yes rfl rfl rfl ?_
    obtain ⟨t5, ht5, hF⟩ := of_bindM hF
    refine at_callB Tryd.func54 rfl (by kernel_rfl) rfl rfl (fun w hw => crawlwayref11_Has_ok _ _ _ ht5 w) ?_
    refine at_val rfl rfl rfl (r_pick rfl rfl rfl) ?_
    refine at_val rfl rfl rfl (r_move rfl) ?_
    rcases of_ite hF with ⟨h6, hF⟩ | ⟨h6, hF⟩
    · refine at_fix (g := 13) rfl h6 ?_
      refine at_guard_yes rfl rfl rfl ?_
      refine at_val rfl rfl rfl (r_fieldAddr (fo := 17) Tryd.underlying50 rfl rfl (fun w => ⟨_, Tryd.sizeOf3 w⟩) rfl) ?_
      refine at_guard_yes rfl rfl rfl ?_
      refine at_val rfl rfl rfl (r_load_cell Tryd.isAgg3 rfl (lens_cell0 (c := (cInt .i64)) (y := x0.f_Bits) (.s .z) (Lens.comp (Lens.whole _ _) (fun z => { x0 with f_Bits := z }) (c_api_Prefix_f_Bits x0)) rfl)) ?_
      refine at_guard_yes rfl rfl rfl ?_
      refine at_val rfl rfl rfl (r_fieldAddr (fo := 17) Tryd.underlying50 rfl rfl (fun w => ⟨_, Tryd.sizeOf3 w⟩) rfl) ?_
      refine at_guard_yes rfl rfl rfl ?_
      refine at_val rfl rfl rfl (r_load_cell Tryd.isAgg3 rfl (lens_cell0 (c := (cInt .i64)) (y := x1.f_Bits) .z (Lens.comp (Lens.whole _ _) (fun z => { x1 with f_Bits := z }) (c_api_Prefix_f_Bits x1)) rfl)) ?_
      refine at_guard_yes rfl rfl rfl ?_
      refine at_val rfl rfl rfl (r_ileq rfl rfl) ?_
      refine at_val rfl rfl rfl (r_pick rfl rfl rfl) ?_
      refine at_val rfl rfl rfl (r_assign rfl) ?_
      refine at_nil ?_
      refine at_drop (H := _) .z ?_
      refine at_drop (H := _) .z ?_
      refine at_weak [(4, _)] ⟨rfl, trivial⟩ ?_
      refine at_then_normal ?_
      refine at_ret ?_
      have K := of_some hF
      subst K
      exact at_return1 rfl rfl (fun w1 hw => ⟨rfl, hw.below⟩)
    · refine at_fix (g := 13) rfl h6 ?_
      refine at_guard_no rfl rfl rfl rfl rfl ?_
      refine at_guard_no rfl rfl rfl rfl rfl ?_
      refine at_guard_no rfl rfl rfl rfl rfl ?_
      refine at_guard_no rfl rfl rfl rfl rfl ?_
      refine at_guard_no rfl rfl rfl rfl rfl ?_
      refine at_val rfl rfl rfl (r_pick rfl rfl rfl) ?_
      refine at_val rfl rfl rfl (r_assign rfl) ?_
      refine at_nil ?_
      refine at_drop (H := _) .z ?_
      refine at_drop (H := _) .z ?_
      refine at_weak [(4, _)] ⟨rfl, trivial⟩ ?_
      refine at_then_normal ?_
      refine at_ret ?_
      have K := of_some hF
      subst K
      exact at_return1 rfl rfl (fun w1 hw => ⟨rfl, hw.below⟩)
  · refine at_fix (g := 7) rfl h4 ?_
    refine at_guard_no rfl rfl rfl rfl rfl ?_
    refine at_guard_no rfl rfl rfl rfl rfl ?_
    refine at_guard_no rfl rfl rfl rfl rfl ?_
    refine at_guard_no rfl rfl rfl rfl rfl ?_
    refine at_val rfl rfl rfl (r_pick rfl rfl rfl) ?_
    refine at_val rfl rfl rfl (r_move rfl) ?_
    refine at_guard_no rfl rfl rfl rfl rfl ?_
    refine at_guard_no rfl rfl rfl rfl rfl ?_
    refine at_guard_no rfl rfl rfl rfl rfl ?_
    refine at_guard_no rfl rfl rfl rfl rfl ?_
    refine at_guard_no rfl rfl rfl rfl rfl ?_
    refine at_val rfl rfl rfl (r_pick rfl rfl rfl) ?_
    refine at_val rfl rfl rfl (r_assign rfl) ?_
    refine at_nil ?_
    refine at_drop (H := _) .z ?_
    refine at_drop (H := _) .z ?_
    refine at_weak [(4, _)] ⟨rfl, trivial⟩ ?_
    refine at_then_normal ?_
    refine at_ret ?_
    have K := of_some hF
    subst K
    exact at_return1 rfl rfl (fun w1 hw => ⟨rfl, hw.below⟩)

def cidr_Less (x0 : S_api_Prefix) (x1 : S_api_Prefix) : Option (Bool) :=
  if (decide (x0.f_A = x1.f_A)) = true then (some (decide (x0.f_Bits < x1.f_Bits))) else (addr_Less x0.f_A x1.f_A >>= fun t4 => some t4)
theorem cidr_Less_ok (x0 : S_api_Prefix) (x1 : S_api_Prefix) (r : Bool) (hF : cidr_Less x0 x1 = some r) (w : World) :
    Calls Tryd.prog 57 #[.agg (Cd.cs c_api_Prefix x0).toArray, .agg (Cd.cs c_api_Prefix x1).toArray] w (fun e w' => e = .returned (.bool r) ∧ Below w.heap.size w w') := by
  unfold cidr_Less at hF
  refine calls_enter (l := [.agg (Cd.cs c_api_Prefix x0).toArray, .agg (Cd.cs c_api_Prefix x1).toArray]) Tryd.func57 rfl rfl rfl ?_
  refine at_start ?_
  refine at_weak [(0, _), (1, _)] ⟨rfl, rfl, trivial⟩ ?_
  refine at_seq ?_
  refine at_region ?_
  refine at_box (cs := Cd.cs c_api_Prefix x0) rfl rfl rfl ?_
  intro b1
  refine at_box (cs := Cd.cs c_api_Prefix x1) rfl rfl rfl ?_
  intro b2
  refine at_val rfl rfl rfl (r_assign rfl) ?_
  refine at_nil ?_
  refine at_weak [(2, _), (3, _)] ⟨rfl, rfl, trivial⟩ ?_
  refine at_then_normal ?_
  refine at_seq ?_
  refine at_seq ?_
  refine at_region ?_
  refine at_val rfl rfl rfl (r_fieldAddr (fo := 0) Tryd.underlying50 rfl rfl (fun w => ⟨_, Tryd.sizeOf24 w⟩) rfl) ?_
  refine at_val rfl rfl rfl (r_load_aggc (c := c_api_Addr) (z := x0.f_A) Tryd.isAgg24 Tryd.sizeOf24 rfl (lens_cell (.s .z) (Lens.comp (Lens.whole _ _) (fun z => { x0 with f_A := z }) (c_api_Prefix_f_A x0)))) ?_
  refine at_val rfl rfl rfl (r_fieldAddr (fo := 0) Tryd.underlying50 rfl rfl (fun w => ⟨_, Tryd.sizeOf24 w⟩) rfl) ?_
  refine at_val rfl rfl rfl (r_load_aggc (c := c_api_Addr) (z := x1.f_A) Tryd.isAgg24 Tryd.sizeOf24 rfl (lens_cell .z (Lens.comp (Lens.whole _ _) (fun z => { x1 with f_A := z }) (c_api_Prefix_f_A x1)))) ?_
  refine at_val rfl rfl rfl (r_eqagg (c := c_api_Addr) (a := x0.f_A) (b := x1.f_A) (eq_api_Addr_24) rfl Tryd.eqGuardType24 rfl rfl (.inl rfl) rfl) ?_
  refine at_nil ?_
  refine at_weak [(2, _), (3, _), (9, _)] ⟨rfl, rfl, rfl, trivial⟩ ?_
  refine at_then_normal ?_
  rcases of_ite hF with ⟨h3, hF⟩ | ⟨h3, hF⟩
  · refine at_cond_true rfl h3 ?_
    refine at_seq ?_
    refine at_region ?_
    refine at_val rfl rfl rfl (r_fieldAddr (fo := 17) Tryd.underlying50 rfl rfl (fun w => ⟨_, Tryd.sizeOf3 w⟩) rfl) ?_
    refine at_val rfl rfl rfl (r_load_cell Tryd.isAgg3 rfl (lens_cell0 (c := (cInt .i64)) (y := x0.f_Bits) (.s .z) (Lens.comp (Lens.whole _ _) (fun z => { x0 with f_Bits := z }) (c_api_Prefix_f_Bits x0)) rfl)) ?_
    refine at_val rfl rfl rfl (r_fieldAddr (fo := 17) Tryd.underlying50 rfl rfl (fun w => ⟨_, Tryd.sizeOf3 w⟩) rfl) ?_
    refine at_val rfl rfl rfl (r_load_cell Tryd.isAgg3 rfl (lens_cell0 (c := (cInt .i64)) (y := x1.f_Bits) .z (Lens.comp (Lens.whole _ _) (fun z => { x1 with f_Bits := z }) (c_api_Prefix_f_Bits x1)) rfl)) ?_
    refine at_val rfl rfl rfl (r_ilss rfl rfl) ?_
    refine at_val rfl rfl rfl (r_assign rfl) ?_
    refine at_nil ?_
    refine at_drop (H := _) .z ?_
    refine at_drop (H := _) .z ?_
    refine at_weak [(4, _)] ⟨rfl, trivial⟩ ?_
    refine at_then_normal ?_
    refine at_ret ?_
    refine at_then_ret ?_
    have K := of_some hF
    subst K
    exact at_return1 rfl rfl (fun w1 hw => ⟨rfl, hw.below⟩)
  · refine at_cond_false rfl h3 ?_
    refine at_skip ?_
    refine at_then_normal ?_
    refine at_seq ?_
    refine at_region ?_
    refine at_val rfl rfl rfl (r_fieldAddr (fo := 0) Tryd.underlying50 rfl rfl (fun w => ⟨_, Tryd.sizeOf24 w⟩) rfl) ?_
    refine at_val rfl rfl rfl (r_load_aggc (c := c_api_Addr) (z := x0.f_A) Tryd.isAgg24 Tryd.sizeOf24 rfl (lens_cell (.s .z) (Lens.comp (Lens.whole _ _) (fun z => { x0 with f_A := z }) (c_api_Prefix_f_A x0)))) ?_
    refine at_val rfl rfl rfl (r_fieldAddr (fo := 0) Tryd.underlying50 rfl rfl (fun w => ⟨_, Tryd.sizeOf24 w⟩) rfl) ?_
    refine at_val rfl rfl rfl (r_load_aggc (c := c_api_Addr) (z := x1.f_A) Tryd.isAgg24 Tryd.sizeOf24 rfl (lens_cell .z (Lens.comp (Lens.whole _ _) (fun z => { x1 with f_A := z }) (c_api_Prefix_f_A x1)))) ?_
    obtain ⟨t4, ht4, hF⟩ := of_bindM hF
    refine at_callB Tryd.func27 rfl (by kernel_rfl) rfl rfl (fun w hw => addr_Less_ok _ _ _ ht4 w) ?_
    refine at_val rfl rfl rfl (r_assign rfl) ?_
    refine at_nil ?_
    refine at_drop (H := _) .z ?_
    refine at_drop (H := _) .z ?_
    refine at_weak [(4, _)] ⟨rfl, trivial⟩ ?_
    refine at_then_normal ?_
    refine at_ret ?_
    have K := of_some hF
    subst K
    exact at_return1 rfl rfl (fun w1 hw => ⟨rfl, hw.below⟩)

def crawlwayref11_Less (x0 : S_api_Prefix) (x1 : S_api_Prefix) : Option (Bool) :=
  if (!decide (x0.f_A = x1.f_A)) = true then (crawlwayref10_Less x0.f_A x1.f_A >>= fun t4 => some t4) else (some (decide (x0.f_Bits < x1.f_Bits)))
theorem crawlwayref11_Less_ok (x0 : S_api_Prefix) (x1 : S_api_Prefix) (r : Bool) (hF : crawlwayref11_Less x0 x1 = some r) (w : World) :
    Calls Tryd.prog 58 #[.agg (Cd.cs c_api_Prefix x0).toArray, .agg (Cd.cs c_api_Prefix x1).toArray] w (fun e w' => e = .returned (.bool r) ∧ Below w.heap.size w w') := by
  unfold crawlwayref11_Less at hF
  refine calls_enter (l := [.agg (Cd.cs c_api_Prefix x0).toArray, .agg (Cd.cs c_api_Prefix x1).toArray]) Tryd.func58 rfl rfl rfl ?_
  refine at_start ?_
  refine at_weak [(0, _), (1, _)] ⟨rfl, rfl, trivial⟩ ?_
  refine at_seq ?_
  refine at_region ?_
  refine at_box (cs := Cd.cs c_api_Prefix x0) rfl rfl rfl ?_
  intro b1
  refine at_box (cs := Cd.cs c_api_Prefix x1) rfl rfl rfl ?_
  intro b2
  refine at_val rfl rfl rfl (r_assign rfl) ?_
  refine at_nil ?_
  refine at_weak [(2, _), (3, _)] ⟨rfl, rfl, trivial⟩ ?_
  refine at_then_normal ?_
  refine at_seq ?_
  refine at_seq ?_
  refine at_region ?_
  refine at_val rfl rfl rfl (r_fieldAddr (fo := 0) Tryd.underlying50 rfl rfl (fun w => ⟨_, Tryd.sizeOf24 w⟩) rfl) ?_
  refine at_val rfl rfl rfl (r_load_aggc (c := c_api_Addr) (z := x0.f_A) Tryd.isAgg24 Tryd.sizeOf24 rfl (lens_cell (.s .z) (Lens.comp (Lens.whole _ _) (fun z => { x0 with f_A := z }) (c_api_Prefix_f_A x0)))) ?_
  refine at_val rfl rfl rfl (r_fieldAddr (fo := 0) Tryd.underlying50 rfl rfl (fun w => ⟨_, Tryd.sizeOf24 w⟩) rfl) ?_
  refine at_val rfl rfl rfl (r_load_aggc (c := c_api_Addr) (z := x1.f_A) Tryd.isAgg24 Tryd.sizeOf24 rfl (lens_cell .z (Lens.comp (Lens.whole _ _) (fun z => { x1 with f_A := z }) (c_api_Prefix_f_A x1)))) ?_
  refine at_val rfl rfl rfl (r_eqagg (c := c_api_Addr) (a := x0.f_A) (b := x1.f_A) (eq_api_Addr_24) rfl Tryd.eqGuardType24 rfl rfl (.inr rfl) rfl) ?_
  refine at_nil ?_
  refine at_weak [(2, _), (3, _), (9, _)] ⟨rfl, rfl, rfl, trivial⟩ ?_
  refine at_then_normal ?_
  rcases of_ite hF with ⟨h3, hF⟩ | ⟨h3, hF⟩
  · refine at_cond_true rfl h3 ?_
    refine at_seq ?_
    refine at_region ?_
    refine at_val rfl rfl rfl (r_fieldAddr (fo := 0) Tryd.underlying50 rfl rfl (fun w => ⟨_, Tryd.sizeOf24 w⟩) rfl) ?_
    refine at_val rfl rfl rfl (r_load_aggc (c := c_api_Addr) (z := x0.f_A) Tryd.isAgg24 Tryd.sizeOf24 rfl (lens_cell (.s .z) (Lens.comp (Lens.whole _ _) (fun z => { x0 with f_A := z }) (c_api_Prefix_f_A x0)))) ?_
    refine at_val rfl rfl rfl (r_fieldAddr (fo := 0) Tryd.underlying50 rfl rfl (fun w => ⟨_, Tryd.sizeOf24 w⟩) rfl) ?_
    refine at_val rfl rfl rfl (r_load_aggc (c := c_api_Addr) (z := x1.f_A) Tryd.isAgg24 Tryd.sizeOf24 rfl (lens_cell .z (Lens.comp (Lens.whole _ _) (fun z => { x1 with f_A := z }) (c_api_Prefix_f_A x1)))) ?_
    obtain ⟨t4, ht4, hF⟩ := of_bindM hF
    refine at_callB Tryd.func28 rfl (by kernel_rfl) rfl rfl (fun w hw => crawlwayref10_Less_ok _ _ _ ht4 w) ?_
    refine at_val rfl rfl rfl (r_assign rfl) ?_
    refine at_nil ?_
    refine at_drop (H := _) .z ?_
    refine at_drop (H := _) .z ?_
    refine at_weak [(4, _)] ⟨rfl, trivial⟩ ?_
    refine at_then_normal ?_
    refine at_ret ?_
    refine at_then_ret ?_
    have K := of_some hF
    subst K
    exact at_return1 rfl rfl (fun w1 hw => ⟨rfl, hw.below⟩)
  · refine at_cond_false rfl h3 ?_
    refine at_skip ?_
    refine at_then_normal ?_
    refine at_seq ?_
    refine at_region ?_
    refine at_val rfl rfl rfl (r_fieldAddr (fo := 17) Tryd.underlying50 rfl rfl (fun w => ⟨_, Tryd.sizeOf3 w⟩) rfl) ?_
    refine at_val rfl rfl rfl (r_load_cell Tryd.isAgg3 rfl (lens_cell0 (c := (cInt .i64)) (y := x0.f_Bits) (.s .z) (Lens.comp (Lens.whole _ _) (fun z => { x0 with f_Bits := z }) (c_api_Prefix_f_Bits x0)) rfl)) ?_
    refine at_val rfl rfl rfl (r_fieldAddr (fo := 17) Tryd.underlying50 rfl rfl (fun w => ⟨_, Tryd.sizeOf3 w⟩) rfl) ?_
    refine at_val rfl rfl rfl (r_load_cell Tryd.isAgg3 rfl (lens_cell0 (c := (cInt .i64)) (y := x1.f_Bits) .z (Lens.comp (Lens.whole _ _) (fun z => { x1 with f_Bits := z }) (c_api_Prefix_f_Bits x1)) rfl)) ?_
    refine at_val rfl rfl rfl (r_ilss rfl rfl) ?_
    refine at_val rfl rfl rfl (r_assign rfl) ?_
    refine at_nil ?_
    refine at_drop (H := _) .z ?_
    refine at_drop (H := _) .z ?_
    refine at_weak [(4, _)] ⟨rfl, trivial⟩ ?_
    refine at_then_normal ?_
    refine at_ret ?_
    have K := of_some hF
    subst K
    exact at_return1 rfl rfl (fun w1 hw => ⟨rfl, hw.below⟩)

def crawlwaylaw11_alive : Option (Bool) :=
  cidr_Parse (⟨#[49, 48, 46, 49, 46, 50, 46, 51, 47, 56]⟩ : ByteArray) >>= fun t1 => cidr_Parse (⟨#[58, 58, 49]⟩ : ByteArray) >>= fun t3 => if (t1.2 == 0) = true then (if (t3.2 == 0) = true then (cidr_Text t1.1 >>= fun t7 => if (seq t7 (⟨#[49, 48, 46, 48, 46, 48, 46, 48, 47, 56]⟩ : ByteArray)) = true then (cidr_Text t3.1 >>= fun t9 => some (seq t9 (⟨#[58, 58, 49, 47, 49, 50, 56]⟩ : ByteArray))) else (some false)) else (some false)) else (some false)
theorem crawlwaylaw11_alive_ok (r : Bool) (hF : crawlwaylaw11_alive  = some r) (w : World) (hg_strconv_ErrRange : GV_strconv_ErrRange w) (hg_strconv_ErrSyntax : GV_strconv_ErrSyntax w) (hg_strconv_uint64pow10 : GV_strconv_uint64pow10 w) :
    Calls Tryd.prog 47 #[] w (fun e w' => e = .returned (.bool r) ∧ Below w.heap.size w w') := by
  unfold crawlwaylaw11_alive at hF
  refine calls_enter (l := []) Tryd.func47 rfl rfl rfl ?_
  refine at_start ?_
  refine at_weak [] trivial ?_
  refine at_seq ?_
  refine at_region ?_
  refine at_val rfl rfl rfl (r_assign rfl) ?_
  refine at_nil ?_
  refine at_weak [] trivial ?_
  refine at_then_normal ?_
  refine at_seq ?_
  refine at_region ?_
  obtain ⟨t1, ht1, hF⟩ := of_bindM hF
  refine at_callB Tryd.func51 rfl (by kernel_rfl) rfl rfl (fun w hw => cidr_Parse_ok _ _ ht1 w (hg_strconv_ErrRange.on hw.below) (hg_strconv_ErrSyntax.on hw.below)) ?_
  refine at_val rfl rfl rfl (r_move rfl) ?_
  refine at_val rfl rfl rfl (r_extract rfl rfl) ?_
  refine at_val rfl rfl rfl (r_extract rfl rfl) ?_
  refine at_alloc (cs := Cd.cs c_api_Prefix ({ f_A := ({ f_V := (0 : Int), f_B := (Vector.replicate 16 (0 : Int) : (Vector Int 16)) } : S_api_Addr), f_Bits := (0 : Int) } : S_api_Prefix)) Tryd.zeroValue50 rfl rfl ?_
  intro b2
  refine at_store (c := c_api_Prefix) (z := t1.1) .z (Lens.whole _ _) Tryd.sizeOf50 rfl rfl rfl ?_
  refine at_val rfl rfl rfl (r_assign rfl) ?_
  refine at_nil ?_
  refine at_weak [(1, _), (2, _)] ⟨rfl, rfl, trivial⟩ ?_
  refine at_then_normal ?_
  refine at_seq ?_
  refine at_region ?_
  obtain ⟨t3, ht3, hF⟩ := of_bindM hF
  refine at_callB Tryd.func51 rfl (by kernel_rfl) rfl rfl (fun w hw => cidr_Parse_ok _ _ ht3 w (hg_strconv_ErrRange.on hw.below) (hg_strconv_ErrSyntax.on hw.below)) ?_
  refine at_val rfl rfl rfl (r_move rfl) ?_
  refine at_val rfl rfl rfl (r_extract rfl rfl) ?_
  refine at_val rfl rfl rfl (r_extract rfl rfl) ?_
  refine at_alloc (cs := Cd.cs c_api_Prefix ({ f_A := ({ f_V := (0 : Int), f_B := (Vector.replicate 16 (0 : Int) : (Vector Int 16)) } : S_api_Addr), f_Bits := (0 : Int) } : S_api_Prefix)) Tryd.zeroValue50 rfl rfl ?_
  intro b4
  refine at_store (c := c_api_Prefix) (z := t3.1) .z (Lens.whole _ _) Tryd.sizeOf50 rfl rfl rfl ?_
  refine at_val rfl rfl rfl (r_assign rfl) ?_
  refine at_nil ?_
  refine at_weak [(1, _), (2, _), (3, _), (4, _)] ⟨rfl, rfl, rfl, rfl, trivial⟩ ?_
  refine at_then_normal ?_
  refine at_seq ?_
  refine at_region ?_
  refine at_val rfl rfl rfl (r_move rfl) ?_
  refine at_val rfl rfl rfl (r_ieql rfl rfl) ?_
  refine at_val rfl rfl rfl (r_move rfl) ?_
  rcases of_ite hF with ⟨h5, hF⟩ | ⟨h5, hF⟩
  · refine at_fix (g := 15) rfl h5 ?_
    refine at_guard_yes rfl rfl rfl ?_
    refine at_val rfl rfl rfl (r_move rfl) ?_
    refine at_guard_yes rfl rfl rfl ?_
    refine at_val rfl rfl rfl (r_ieql rfl rfl) ?_
    refine at_val rfl rfl rfl (r_pick rfl rfl rfl) ?_
    refine at_val rfl rfl rfl (r_move rfl) ?_
    rcases of_ite hF with ⟨h6, hF⟩ | ⟨h6, hF⟩
    · refine at_fix (g := 19) rfl h6 ?_
      refine at_guard_yes rfl rfl rfl ?_
      refine at_val rfl rfl rfl (r_load_aggc (c := c_api_Prefix) (z := t1.1) Tryd.isAgg50 Tryd.sizeOf50 rfl (lens_cell (.s .z) (Lens.whole _ _))) ?_
      refine at_guard_yes rfl rfl rfl ?_
      obtain ⟨t7, ht7, hF⟩ := of_bindM hF
      refine at_callB Tryd.func48 rfl (by kernel_rfl) rfl rfl (fun w hw => cidr_Text_ok _ _ ht7 w (hg_strconv_uint64pow10.on hw.below)) ?_
      refine at_guard_yes rfl rfl rfl ?_
      refine at_val rfl rfl rfl (r_seql rfl rfl) ?_
      refine at_val rfl rfl rfl (r_pick rfl rfl rfl) ?_
      refine at_val rfl rfl rfl (r_move rfl) ?_
      rcases of_ite hF with ⟨h8, hF⟩ | ⟨h8, hF⟩
      · refine at_fix (g := 24) rfl h8 ?_
        refine at_guard_yes rfl rfl rfl ?_
        refine at_val rfl rfl rfl (r_load_aggc (c := c_api_Prefix) (z := t3.1) Tryd.isAgg50 Tryd.sizeOf50 rfl (lens_cell .z (Lens.whole _ _))) ?_
        refine at_guard_yes rfl rfl rfl ?_
        obtain ⟨t9, ht9, hF⟩ := of_bindM hF
        refine at_callB Tryd.func48 rfl (by kernel_rfl) rfl rfl (fun w hw => cidr_Text_ok _ _ ht9 w (hg_strconv_uint64pow10.on hw.below)) ?_
        refine at_guard_yes rfl rfl rfl ?_
        refine at_val rfl rfl rfl (r_seql rfl rfl) ?_
        refine at_val rfl rfl rfl (r_pick rfl rfl rfl) ?_
        refine at_val rfl rfl rfl (r_assign rfl) ?_
        refine at_nil ?_
        refine at_drop (H := _) .z ?_
        refine at_drop (H := _) .z ?_
        refine at_weak [(0, _)] ⟨rfl, trivial⟩ ?_
        refine at_then_normal ?_
        refine at_ret ?_
        have K := of_some hF
        subst K
        exact at_return1 rfl rfl (fun w1 hw => ⟨rfl, hw.below⟩)
      · refine at_fix (g := 24) rfl h8 ?_
        refine at_guard_no rfl rfl rfl rfl rfl ?_
        refine at_guard_no rfl rfl rfl rfl rfl ?_
        refine at_guard_no rfl rfl rfl rfl rfl ?_
        refine at_val rfl rfl rfl (r_pick rfl rfl rfl) ?_
        refine at_val rfl rfl rfl (r_assign rfl) ?_
        refine at_nil ?_
        refine at_drop (H := _) .z ?_
        refine at_drop (H := _) .z ?_
        refine at_weak [(0, _)] ⟨rfl, trivial⟩ ?_
        refine at_then_normal ?_
        refine at_ret ?_
        have K := of_some hF
        subst K
        exact at_return1 rfl rfl (fun w1 hw => ⟨rfl, hw.below⟩)
    · refine at_fix (g := 19) rfl h6 ?_
      refine at_guard_no rfl rfl rfl rfl rfl ?_
      refine at_guard_no rfl rfl rfl rfl rfl ?_
      refine at_guard_no rfl rfl rfl rfl rfl ?_
      refine at_val rfl rfl rfl (r_pick rfl rfl rfl) ?_
      refine at_val rfl rfl rfl (r_move rfl) ?_
      refine at_guard_no rfl rfl rfl rfl rfl ?_
      refine at_guard_no rfl rfl rfl rfl rfl ?_
      refine at_guard_no rfl rfl rfl rfl rfl ?_
      refine at_val rfl rfl rfl (r_pick rfl rfl rfl) ?_
      refine at_val rfl rfl rfl (r_assign rfl) ?_
      refine at_nil ?_
      refine at_drop (H := _) .z ?_
      refine at_drop (H := _) .z ?_
      refine at_weak [(0, _)] ⟨rfl, trivial⟩ ?_
      refine at_then_normal ?_
      refine at_ret ?_
      have K := of_some hF
      subst K
      exact at_return1 rfl rfl (fun w1 hw => ⟨rfl, hw.below⟩)
  · refine at_fix (g := 15) rfl h5 ?_
    refine at_guard_no rfl rfl rfl rfl rfl ?_
    refine at_guard_no rfl rfl rfl rfl rfl ?_
    refine at_val rfl rfl rfl (r_pick rfl rfl rfl) ?_
    refine at_val rfl rfl rfl (r_move rfl) ?_
    refine at_guard_no rfl rfl rfl rfl rfl ?_
    refine at_guard_no rfl rfl rfl rfl rfl ?_
    refine at_guard_no rfl rfl rfl rfl rfl ?_
    refine at_val rfl rfl rfl (r_pick rfl rfl rfl) ?_
    refine at_val rfl rfl rfl (r_move rfl) ?_
    refine at_guard_no rfl rfl rfl rfl rfl ?_
    refine at_guard_no rfl rfl rfl rfl rfl ?_
    refine at_guard_no rfl rfl rfl rfl rfl ?_
    refine at_val rfl rfl rfl (r_pick rfl rfl rfl) ?_
    refine at_val rfl rfl rfl (r_assign rfl) ?_
    refine at_nil ?_
    refine at_drop (H := _) .z ?_
    refine at_drop (H := _) .z ?_
    refine at_weak [(0, _)] ⟨rfl, trivial⟩ ?_
    refine at_then_normal ?_
    refine at_ret ?_
    have K := of_some hF
    subst K
    exact at_return1 rfl rfl (fun w1 hw => ⟨rfl, hw.below⟩)
end Go.Proofs.YtecolkjlpklaaaaDoor
