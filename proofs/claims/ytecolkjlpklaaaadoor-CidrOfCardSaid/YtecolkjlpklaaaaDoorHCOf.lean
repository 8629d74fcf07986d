/- Functions with the same answers as the Go functions that they are named for, and the proofs of it, by a program of this project (gen.py). -/
import Derived.Test.YtecolkjlpklaaaaDoorT
import Derived.Test.YtecolkjlpklaaaaDoorShelf
import Derived.Test.YtecolkjlpklaaaaDoorW
import Derived.Test.YtecolkjlpklaaaaDoorL
import Derived.Test.YtecolkjlpklaaaaDoorS
import Derived.Test.YtecolkjlpklaaaaDoorJ
import Derived.Test.YtecolkjlpklaaaaDoorK
import Derived.Test.YtecolkjlpklaaaaDoorR
import Derived.Test.YtecolkjlpklaaaaDoorProg
import Derived.Test.YtecolkjlpklaaaaDoorG1
import Derived.Test.YtecolkjlpklaaaaDoorG2
import Derived.Test.YtecolkjlpklaaaaDoorG3
import Derived.Test.YtecolkjlpklaaaaDoorH4
import Derived.Test.YtecolkjlpklaaaaDoorH5
import Derived.Test.YtecolkjlpklaaaaDoorH6
import Derived.Test.YtecolkjlpklaaaaDoorH7
set_option linter.unusedVariables false
set_option linter.unusedSimpArgs false
namespace Go.Proofs.YtecolkjlpklaaaaDoor
open E Go.RowKit


def crawlwaylaw11_CidrOf (x0 : S_api_Addr) (x1 : Int) : Option (Bool) :=
  cidr_Of x0 x1 >>= fun t2 => crawlwayref11_Of x0 x1 >>= fun t4 => crawlwayref10_Width x0 >>= fun t6 => crawlwayref11_Of x0 t6 >>= fun t7 => if (decide (t2.1 = t4.1)) = true then (if (t2.2 == t4.2) = true then (if (t4.2 != 0) = true then (cidr_Whole x0 >>= fun t13 => if (decide (t13 = t7.1)) = true then (crawlwaylaw11_alive >>= fun t15 => some t15) else (some false)) else (cidr_Right t2.1 >>= fun t16 => if t16 = true then (cidr_Whole x0 >>= fun t18 => if (decide (t18 = t7.1)) = true then (crawlwaylaw11_alive >>= fun t20 => some t20) else (some false)) else (some false))) else (some false)) else (some false)
theorem crawlwaylaw11_CidrOf_ok (x0 : S_api_Addr) (x1 : Int) (r : Bool) (hF : crawlwaylaw11_CidrOf x0 x1 = some r) (w : World) (hg_strconv_ErrRange : GV_strconv_ErrRange w) (hg_strconv_ErrSyntax : GV_strconv_ErrSyntax w) (hg_strconv_uint64pow10 : GV_strconv_uint64pow10 w) :
    Calls Tryd.prog 8 #[.agg (Cd.cs c_api_Addr x0).toArray, .int .i64 x1] w (fun e w' => e = .returned (.bool r) ∧ Below w.heap.size w w') := by
  unfold crawlwaylaw11_CidrOf at hF
  refine calls_enter (l := [.agg (Cd.cs c_api_Addr x0).toArray, .int .i64 x1]) Tryd.func8 rfl rfl rfl ?_
  refine at_start ?_
  refine at_weak [(0, _), (1, _)] ⟨rfl, rfl, trivial⟩ ?_
  refine at_seq ?_
  refine at_region ?_
  refine at_box (cs := Cd.cs c_api_Addr x0) rfl rfl rfl ?_
  intro b1
  refine at_val rfl rfl rfl (r_assign rfl) ?_
  refine at_nil ?_
  refine at_weak [(1, _), (2, _)] ⟨rfl, rfl, trivial⟩ ?_
  refine at_then_normal ?_
  refine at_seq ?_
  refine at_region ?_
  refine at_val rfl rfl rfl (r_load_aggc (c := c_api_Addr) (z := x0) Tryd.isAgg24 Tryd.sizeOf24 rfl (lens_cell .z (Lens.whole _ _))) ?_
  refine at_val rfl rfl rfl (r_move rfl) ?_
  obtain ⟨t2, ht2, hF⟩ := of_bindM hF
  refine at_callB Tryd.func43 rfl (by kernel_rfl) rfl rfl (fun w hw => cidr_Of_ok _ _ _ ht2 w) ?_
  refine at_val rfl rfl rfl (r_move rfl) ?_
  refine at_val rfl rfl rfl (r_extract rfl rfl) ?_
  refine at_val rfl rfl rfl (r_extract rfl rfl) ?_
  refine at_alloc (cs := Cd.cs c_api_Prefix ({ f_A := ({ f_V := (0 : Int), f_B := (Vector.replicate 16 (0 : Int) : (Vector Int 16)) } : S_api_Addr), f_Bits := (0 : Int) } : S_api_Prefix)) Tryd.zeroValue50 rfl rfl ?_
  intro b3
  refine at_store (c := c_api_Prefix) (z := t2.1) .z (Lens.whole _ _) Tryd.sizeOf50 rfl rfl rfl ?_
  refine at_val rfl rfl rfl (r_assign rfl) ?_
  refine at_nil ?_
  refine at_weak [(1, _), (2, _), (5, _), (6, _)] ⟨rfl, rfl, rfl, rfl, trivial⟩ ?_
  refine at_then_normal ?_
  refine at_seq ?_
  refine at_region ?_
  refine at_val rfl rfl rfl (r_load_aggc (c := c_api_Addr) (z := x0) Tryd.isAgg24 Tryd.sizeOf24 rfl (lens_cell (.s .z) (Lens.whole _ _))) ?_
  refine at_val rfl rfl rfl (r_move rfl) ?_
  obtain ⟨t4, ht4, hF⟩ := of_bindM hF
  refine at_callB Tryd.func44 rfl (by kernel_rfl) rfl rfl (fun w hw => crawlwayref11_Of_ok _ _ _ ht4 w) ?_
  refine at_val rfl rfl rfl (r_move rfl) ?_
  refine at_val rfl rfl rfl (r_extract rfl rfl) ?_
  refine at_val rfl rfl rfl (r_extract rfl rfl) ?_
  refine at_alloc (cs := Cd.cs c_api_Prefix ({ f_A := ({ f_V := (0 : Int), f_B := (Vector.replicate 16 (0 : Int) : (Vector Int 16)) } : S_api_Addr), f_Bits := (0 : Int) } : S_api_Prefix)) Tryd.zeroValue50 rfl rfl ?_
  intro b5
  refine at_store (c := c_api_Prefix) (z := t4.1) .z (Lens.whole _ _) Tryd.sizeOf50 rfl rfl rfl ?_
  refine at_val rfl rfl rfl (r_assign rfl) ?_
  refine at_nil ?_
  refine at_weak [(2, _), (5, _), (6, _), (7, _), (8, _)] ⟨rfl, rfl, rfl, rfl, rfl, trivial⟩ ?_
  refine at_then_normal ?_
  refine at_seq ?_
  refine at_weak [(2, _), (5, _), (6, _), (7, _), (8, _)] ⟨rfl, rfl, rfl, rfl, rfl, trivial⟩ ?_
  obtain ⟨t6, ht6, hF⟩ := of_bindM hF
  obtain ⟨t7, ht7, hF⟩ := of_bindM hF
  refine at_inv [.q 24 (fun g9 => .agg (Cd.cs c_api_Addr x0).toArray) [] 0 1, .q 25 (fun g9 => .agg (Cd.cs c_api_Addr x0).toArray) [] 0 1, .q 26 (fun g9 => .int .i64 t6) [1] 0 1, .q 27 (fun g9 => .tuple #[.agg (Cd.cs c_api_Prefix t7.1).toArray, .int .i64 t7.2]) [0, 2] 0 1, .q 23 (fun g9 => .tuple #[.agg (Cd.cs c_api_Prefix t7.1).toArray, .int .i64 t7.2]) [3] 0 1, .q 28 (fun g9 => .agg (Cd.cs c_api_Prefix t7.1).toArray) [4] 0 1, .q 29 (fun g9 => .int .i64 t7.2) [4] 0 2, .al 0 9 (fun g9 => .pointer (some ⟨((g9 0).1), 0, none⟩)) [], .st 1 none [7, 5], .q 10 (fun g9 => .int .i64 t7.2) [6] 2 2] (fun g9 s => match s with | 0 => (Wd w [cellsE b5 (Cd.cs c_api_Prefix t4.1) 50, cellsE b3 (Cd.cs c_api_Prefix t2.1) 50, cellsE b1 (Cd.cs c_api_Addr x0) 24]) | 1 => (Wd w [cellsE ((g9 0).1) (Cd.cs c_api_Prefix ({ f_A := ({ f_V := (0 : Int), f_B := (Vector.replicate 16 (0 : Int) : (Vector Int 16)) } : S_api_Addr), f_Bits := (0 : Int) } : S_api_Prefix)) 50, cellsE b5 (Cd.cs c_api_Prefix t4.1) 50, cellsE b3 (Cd.cs c_api_Prefix t2.1) 50, cellsE b1 (Cd.cs c_api_Addr x0) 24]) | _ => (Wd w [cellsE ((g9 0).1) (Cd.cs c_api_Prefix t7.1) 50, cellsE b5 (Cd.cs c_api_Prefix t4.1) 50, cellsE b3 (Cd.cs c_api_Prefix t2.1) 50, cellsE b1 (Cd.cs c_api_Addr x0) 24])) 2 (by kernel_rfl) (by kernel_rfl) (by kernel_rfl) (by kernel_rfl) (by kernel_rfl) ⟨fun _ _ _ => rfl, fun _ _ _ => rfl, fun _ _ _ => rfl, fun _ _ _ => rfl, fun _ _ _ => rfl, fun _ _ _ => rfl, fun _ _ _ => rfl, fun g9 g2 h => by show (.pointer (some ⟨((g9 0).1), 0, none⟩) : Value) = .pointer (some ⟨((g2 0).1), 0, none⟩); rw [h 0 (show 0 < 1 by decide)], fun _ _ _ => rfl, fun _ _ _ => rfl, trivial⟩ (by kernel_rfl) (fun _ h => ⟨fun _ => (0, none, 0), h.drew⟩) ⟨?_, ?_, ?_, ?_, ?_, ?_, ?_, ?_, ?_, ?_, trivial⟩ ?_
  · intro Lx g9 s K hl hh k
    show At 55 ((2, _) :: (5, _) :: (6, _) :: (7, _) :: (8, _) :: Lx) _ _
    rcases (by omega : s = 0 ∨ s = 1) with rfl | rfl
    · skip
      refine at_val rfl rfl rfl (r_load_aggc (c := c_api_Addr) (z := x0) Tryd.isAgg24 Tryd.sizeOf24 rfl (lens_cell (.s (.s .z)) (Lens.whole _ _))) ?_
      exact at_nil k
    · skip
      refine at_val rfl rfl rfl (r_load_aggc (c := c_api_Addr) (z := x0) Tryd.isAgg24 Tryd.sizeOf24 rfl (lens_cell (.s (.s (.s .z))) (Lens.whole _ _))) ?_
      exact at_nil k
  · intro Lx g9 s K hl hh k
    show At 55 ((2, _) :: (5, _) :: (6, _) :: (7, _) :: (8, _) :: Lx) _ _
    rcases (by omega : s = 0 ∨ s = 1) with rfl | rfl
    · skip
      refine at_val rfl rfl rfl (r_load_aggc (c := c_api_Addr) (z := x0) Tryd.isAgg24 Tryd.sizeOf24 rfl (lens_cell (.s (.s .z)) (Lens.whole _ _))) ?_
      exact at_nil k
    · skip
      refine at_val rfl rfl rfl (r_load_aggc (c := c_api_Addr) (z := x0) Tryd.isAgg24 Tryd.sizeOf24 rfl (lens_cell (.s (.s (.s .z))) (Lens.whole _ _))) ?_
      exact at_nil k
  · intro Lx g9 s K hl hh k
    show At 55 ((25, _) :: (2, _) :: (5, _) :: (6, _) :: (7, _) :: (8, _) :: Lx) _ _
    rcases (by omega : s = 0 ∨ s = 1) with rfl | rfl
    · skip
      refine at_callB Tryd.func29 rfl (by kernel_rfl) rfl rfl (fun w hw => crawlwayref10_Width_ok _ _ ht6 w) ?_
      exact at_nil k
    · skip
      refine at_callB Tryd.func29 rfl (by kernel_rfl) rfl rfl (fun w hw => crawlwayref10_Width_ok _ _ ht6 w) ?_
      exact at_nil k
  · intro Lx g9 s K hl hh k
    show At 55 ((24, _) :: (26, _) :: (2, _) :: (5, _) :: (6, _) :: (7, _) :: (8, _) :: Lx) _ _
    rcases (by omega : s = 0 ∨ s = 1) with rfl | rfl
    · skip
      refine at_callB Tryd.func44 rfl (by kernel_rfl) rfl rfl (fun w hw => crawlwayref11_Of_ok _ _ _ ht7 w) ?_
      exact at_nil k
    · skip
      refine at_callB Tryd.func44 rfl (by kernel_rfl) rfl rfl (fun w hw => crawlwayref11_Of_ok _ _ _ ht7 w) ?_
      exact at_nil k
  · intro Lx g9 s K hl hh k
    show At 55 ((27, _) :: (2, _) :: (5, _) :: (6, _) :: (7, _) :: (8, _) :: Lx) _ _
    refine at_val rfl rfl rfl (r_move rfl) ?_
    exact at_nil k
  · intro Lx g9 s K hl hh k
    show At 55 ((23, _) :: (2, _) :: (5, _) :: (6, _) :: (7, _) :: (8, _) :: Lx) _ _
    refine at_val rfl rfl rfl (r_extract rfl rfl) ?_
    exact at_nil k
  · intro Lx g9 s K hl hh k
    show At 55 ((23, _) :: (2, _) :: (5, _) :: (6, _) :: (7, _) :: (8, _) :: Lx) _ _
    refine at_val rfl rfl rfl (r_extract rfl rfl) ?_
    exact at_nil k
  · intro Lx g9 K k
    show At 55 ((2, _) :: (5, _) :: (6, _) :: (7, _) :: (8, _) :: Lx) _ _
    refine at_alloc (cs := Cd.cs c_api_Prefix ({ f_A := ({ f_V := (0 : Int), f_B := (Vector.replicate 16 (0 : Int) : (Vector Int 16)) } : S_api_Addr), f_Bits := (0 : Int) } : S_api_Prefix)) Tryd.zeroValue50 rfl rfl ?_
    intro b8
    exact at_nil (k (b8, none, 0))
  · intro Lx g9 K k
    show At 55 ((9, _) :: (28, _) :: (2, _) :: (5, _) :: (6, _) :: (7, _) :: (8, _) :: Lx) _ _
    refine at_store (c := c_api_Prefix) (z := t7.1) .z (Lens.whole _ _) Tryd.sizeOf50 rfl rfl rfl ?_
    exact at_nil k
  · intro Lx g9 s K hl hh k
    show At 55 ((29, _) :: (2, _) :: (5, _) :: (6, _) :: (7, _) :: (8, _) :: Lx) _ _
    refine at_val rfl rfl rfl (r_assign rfl) ?_
    exact at_nil k
  intro g9
  show At 55 [(24, _), (25, _), (26, _), (27, _), (23, _), (28, _), (29, _), (9, _), (10, _), (2, _), (5, _), (6, _), (7, _), (8, _)] _ _
  refine at_weak [(2, _), (5, _), (6, _), (7, _), (8, _), (9, _)] ⟨rfl, rfl, rfl, rfl, rfl, rfl, trivial⟩ ?_
  refine at_then_normal ?_
  refine at_seq ?_
  refine at_draw (by kernel_rfl) (by kernel_rfl) (fun _ h => h.drew) ?_
  refine atq_val rfl rfl rfl (r_load_aggc (c := c_api_Prefix) (z := t2.1) Tryd.isAgg50 Tryd.sizeOf50 rfl (lens_cell (.s (.s .z)) (Lens.whole _ _))) ?_
  refine atq_val rfl rfl rfl (r_load_aggc (c := c_api_Prefix) (z := t4.1) Tryd.isAgg50 Tryd.sizeOf50 rfl (lens_cell (.s .z) (Lens.whole _ _))) ?_
  refine atq_val rfl rfl rfl (r_eqagg (c := c_api_Prefix) (a := t2.1) (b := t4.1) (eq_api_Prefix_50) rfl Tryd.eqGuardType50 rfl rfl (.inl rfl) rfl) ?_
  refine atq_val rfl rfl rfl (r_move rfl) ?_
  rcases of_ite hF with ⟨h10, hF⟩ | ⟨h10, hF⟩
  · refine atq_fix (g := 33) rfl h10 ?_
    refine atq_guard_yes rfl rfl rfl ?_
    refine atq_val rfl rfl rfl (r_move rfl) ?_
    refine atq_guard_yes rfl rfl rfl ?_
    refine atq_val rfl rfl rfl (r_move rfl) ?_
    refine atq_guard_yes rfl rfl rfl ?_
    refine atq_val rfl rfl rfl (r_ieql rfl rfl) ?_
    refine atq_val rfl rfl rfl (r_pick rfl rfl rfl) ?_
    refine atq_val rfl rfl rfl (r_move rfl) ?_
    rcases of_ite hF with ⟨h11, hF⟩ | ⟨h11, hF⟩
    · refine atq_fix (g := 38) rfl h11 ?_
      refine atq_guard_yes rfl rfl rfl ?_
      refine atq_val rfl rfl rfl (r_move rfl) ?_
      refine atq_guard_yes rfl rfl rfl ?_
      refine atq_val rfl rfl rfl (r_ineq rfl rfl) ?_
      refine atq_guard_yes rfl rfl rfl ?_
      refine atq_val rfl rfl rfl (r_move rfl) ?_
      rcases of_ite hF with ⟨h12, hF⟩ | ⟨h12, hF⟩
      · refine atq_fix (g := 41) rfl h12 ?_
        refine atq_guard_no rfl rfl rfl rfl rfl ?_
        refine atq_guard_no rfl rfl rfl rfl rfl ?_
        refine atq_guard_yes rfl rfl rfl ?_
        refine atq_val rfl rfl rfl (r_pick rfl rfl rfl) ?_
        refine atq_val rfl rfl rfl (r_pick rfl rfl rfl) ?_
        refine atq_val rfl rfl rfl (r_move rfl) ?_
        refine atq_guard_yes rfl rfl rfl ?_
        refine atq_val rfl rfl rfl (r_load_aggc (c := c_api_Addr) (z := x0) Tryd.isAgg24 Tryd.sizeOf24 rfl (lens_cell (.s (.s (.s .z))) (Lens.whole _ _))) ?_
        refine atq_guard_yes rfl rfl rfl ?_
        obtain ⟨t13, ht13, hF⟩ := of_bindM hF
        refine atq_call Tryd.func46 rfl (by kernel_rfl) rfl rfl (fun w hw => (cidr_Whole_ok _ _ ht13 w).mono fun _ _ h => ⟨h.1, hw.call h.2⟩) ?_
        refine atq_guard_yes rfl rfl rfl ?_
        refine atq_val rfl rfl rfl (r_load_aggc (c := c_api_Prefix) (z := t7.1) Tryd.isAgg50 Tryd.sizeOf50 rfl (lens_cell .z (Lens.whole _ _))) ?_
        refine atq_guard_yes rfl rfl rfl ?_
        refine atq_val rfl rfl rfl (r_eqagg (c := c_api_Prefix) (a := t13) (b := t7.1) (eq_api_Prefix_50) rfl Tryd.eqGuardType50 rfl rfl (.inl rfl) rfl) ?_
        refine atq_val rfl rfl rfl (r_pick rfl rfl rfl) ?_
        refine atq_val rfl rfl rfl (r_move rfl) ?_
        rcases of_ite hF with ⟨h14, hF⟩ | ⟨h14, hF⟩
        · refine atq_fix (g := 52) rfl h14 ?_
          refine atq_guard_yes rfl rfl rfl ?_
          obtain ⟨t15, ht15, hF⟩ := of_bindM hF
          refine atq_call Tryd.func47 rfl (by kernel_rfl) rfl rfl (fun w hw => (crawlwaylaw11_alive_ok  _ ht15 w (hg_strconv_ErrRange.on hw.below) (hg_strconv_ErrSyntax.on hw.below) (hg_strconv_uint64pow10.on hw.below)).mono fun _ _ h => ⟨h.1, hw.call h.2⟩) ?_
          refine atq_val rfl rfl rfl (r_pick rfl rfl rfl) ?_
          refine atq_val rfl rfl rfl (r_assign rfl) ?_
          refine atq_nil ?_
          refine at_drop (H := _) .z ?_
          refine at_drop (H := _) .z ?_
          refine at_drop (H := _) .z ?_
          refine at_drop (H := _) .z ?_
          refine at_weak [(4, _)] ⟨rfl, trivial⟩ ?_
          refine at_then_normal ?_
          refine at_ret ?_
          have K := of_some hF
          subst K
          exact at_return1 rfl rfl (fun w1 hw => ⟨rfl, hw.below⟩)
        · refine atq_fix (g := 52) rfl h14 ?_
          refine atq_guard_no rfl rfl rfl rfl rfl ?_
          refine atq_val rfl rfl rfl (r_pick rfl rfl rfl) ?_
          refine atq_val rfl rfl rfl (r_assign rfl) ?_
          refine atq_nil ?_
          refine at_drop (H := _) .z ?_
          refine at_drop (H := _) .z ?_
          refine at_drop (H := _) .z ?_
          refine at_drop (H := _) .z ?_
          refine at_weak [(4, _)] ⟨rfl, trivial⟩ ?_
          refine at_then_normal ?_
          refine at_ret ?_
          have K := of_some hF
          subst K
          exact at_return1 rfl rfl (fun w1 hw => ⟨rfl, hw.below⟩)
      · refine atq_fix (g := 41) rfl h12 ?_
        refine atq_guard_yes rfl rfl rfl ?_
        refine atq_val rfl rfl rfl (r_load_aggc (c := c_api_Prefix) (z := t2.1) Tryd.isAgg50 Tryd.sizeOf50 rfl (lens_cell (.s (.s .z)) (Lens.whole _ _))) ?_
        refine atq_guard_yes rfl rfl rfl ?_
        obtain ⟨t16, ht16, hF⟩ := of_bindM hF
        refine atq_call Tryd.func45 rfl (by kernel_rfl) rfl rfl (fun w hw => (cidr_Right_ok _ _ ht16 w).mono fun _ _ h => ⟨h.1, hw.call h.2⟩) ?_
        refine atq_guard_yes rfl rfl rfl ?_
        refine atq_val rfl rfl rfl (r_pick rfl rfl rfl) ?_
        refine atq_val rfl rfl rfl (r_pick rfl rfl rfl) ?_
        refine atq_val rfl rfl rfl (r_move rfl) ?_
        rcases of_ite hF with ⟨h17, hF⟩ | ⟨h17, hF⟩
        · refine atq_fix (g := 46) rfl h17 ?_
          refine atq_guard_yes rfl rfl rfl ?_
          refine atq_val rfl rfl rfl (r_load_aggc (c := c_api_Addr) (z := x0) Tryd.isAgg24 Tryd.sizeOf24 rfl (lens_cell (.s (.s (.s .z))) (Lens.whole _ _))) ?_
          refine atq_guard_yes rfl rfl rfl ?_
          obtain ⟨t18, ht18, hF⟩ := of_bindM hF
          refine atq_call Tryd.func46 rfl (by kernel_rfl) rfl rfl (fun w hw => (cidr_Whole_ok _ _ ht18 w).mono fun _ _ h => ⟨h.1, hw.call h.2⟩) ?_
          refine atq_guard_yes rfl rfl rfl ?_
          refine atq_val rfl rfl rfl (r_load_aggc (c := c_api_Prefix) (z := t7.1) Tryd.isAgg50 Tryd.sizeOf50 rfl (lens_cell .z (Lens.whole _ _))) ?_
          refine atq_guard_yes rfl rfl rfl ?_
          refine atq_val rfl rfl rfl (r_eqagg (c := c_api_Prefix) (a := t18) (b := t7.1) (eq_api_Prefix_50) rfl Tryd.eqGuardType50 rfl rfl (.inl rfl) rfl) ?_
          refine atq_val rfl rfl rfl (r_pick rfl rfl rfl) ?_
          refine atq_val rfl rfl rfl (r_move rfl) ?_
          rcases of_ite hF with ⟨h19, hF⟩ | ⟨h19, hF⟩
          · refine atq_fix (g := 52) rfl h19 ?_
            refine atq_guard_yes rfl rfl rfl ?_
            obtain ⟨t20, ht20, hF⟩ := of_bindM hF
            refine atq_call Tryd.func47 rfl (by kernel_rfl) rfl rfl (fun w hw => (crawlwaylaw11_alive_ok  _ ht20 w (hg_strconv_ErrRange.on hw.below) (hg_strconv_ErrSyntax.on hw.below) (hg_strconv_uint64pow10.on hw.below)).mono fun _ _ h => ⟨h.1, hw.call h.2⟩) ?_
            refine atq_val rfl rfl rfl (r_pick rfl rfl rfl) ?_
            refine atq_val rfl rfl rfl (r_assign rfl) ?_
            refine atq_nil ?_
            refine at_drop (H := _) .z ?_
            refine at_drop (H := _) .z ?_
            refine at_drop (H := _) .z ?_
            refine at_drop (H := _) .z ?_
            refine at_weak [(4, _)] ⟨rfl, trivial⟩ ?_
            refine at_then_normal ?_
            refine at_ret ?_
            have K := of_some hF
            subst K
            exact at_return1 rfl rfl (fun w1 hw => ⟨rfl, hw.below⟩)
          · refine atq_fix (g := 52) rfl h19 ?_
            refine atq_guard_no rfl rfl rfl rfl rfl ?_
            refine atq_val rfl rfl rfl (r_pick rfl rfl rfl) ?_
            refine atq_val rfl rfl rfl (r_assign rfl) ?_
            refine atq_nil ?_
            refine at_drop (H := _) .z ?_
            refine at_drop (H := _) .z ?_
            refine at_drop (H := _) .z ?_
            refine at_drop (H := _) .z ?_
            refine at_weak [(4, _)] ⟨rfl, trivial⟩ ?_
            refine at_then_normal ?_
            refine at_ret ?_
            have K := of_some hF
            subst K
            exact at_return1 rfl rfl (fun w1 hw => ⟨rfl, hw.below⟩)
        · refine atq_fix (g := 46) rfl h17 ?_
          refine atq_guard_no rfl rfl rfl rfl rfl ?_
          refine atq_guard_no rfl rfl rfl rfl rfl ?_
          refine atq_guard_no rfl rfl rfl rfl rfl ?_
          refine atq_guard_no rfl rfl rfl rfl rfl ?_
          refine atq_val rfl rfl rfl (r_pick rfl rfl rfl) ?_
          refine atq_val rfl rfl rfl (r_move rfl) ?_
          refine atq_guard_no rfl rfl rfl rfl rfl ?_
          refine atq_val rfl rfl rfl (r_pick rfl rfl rfl) ?_
          refine atq_val rfl rfl rfl (r_assign rfl) ?_
          refine atq_nil ?_
          refine at_drop (H := _) .z ?_
          refine at_drop (H := _) .z ?_
          refine at_drop (H := _) .z ?_
          refine at_drop (H := _) .z ?_
          refine at_weak [(4, _)] ⟨rfl, trivial⟩ ?_
          refine at_then_normal ?_
          refine at_ret ?_
          have K := of_some hF
          subst K
          exact at_return1 rfl rfl (fun w1 hw => ⟨rfl, hw.below⟩)
    · refine atq_fix (g := 38) rfl h11 ?_
      refine atq_guard_no rfl rfl rfl rfl rfl ?_
      refine atq_guard_no rfl rfl rfl rfl rfl ?_
      refine atq_guard_no rfl rfl rfl rfl rfl ?_
      refine atq_guard_undef rfl rfl rfl rfl ?_
      refine atq_guard_undef rfl rfl rfl rfl ?_
      refine atq_guard_no rfl rfl rfl rfl rfl ?_
      refine atq_val rfl rfl rfl (r_pick rfl rfl rfl) ?_
      refine atq_val rfl rfl rfl (r_move rfl) ?_
      refine atq_guard_no rfl rfl rfl rfl rfl ?_
      refine atq_guard_no rfl rfl rfl rfl rfl ?_
      refine atq_guard_no rfl rfl rfl rfl rfl ?_
      refine atq_guard_no rfl rfl rfl rfl rfl ?_
      refine atq_val rfl rfl rfl (r_pick rfl rfl rfl) ?_
      refine atq_val rfl rfl rfl (r_move rfl) ?_
      refine atq_guard_no rfl rfl rfl rfl rfl ?_
      refine atq_val rfl rfl rfl (r_pick rfl rfl rfl) ?_
      refine atq_val rfl rfl rfl (r_assign rfl) ?_
      refine atq_nil ?_
      refine at_drop (H := _) .z ?_
      refine at_drop (H := _) .z ?_
      refine at_drop (H := _) .z ?_
      refine at_drop (H := _) .z ?_
      refine at_weak [(4, _)] ⟨rfl, trivial⟩ ?_
      refine at_then_normal ?_
      refine at_ret ?_
      have K := of_some hF
      subst K
      exact at_return1 rfl rfl (fun w1 hw => ⟨rfl, hw.below⟩)
  · refine atq_fix (g := 33) rfl h10 ?_
    refine atq_guard_no rfl rfl rfl rfl rfl ?_
    refine atq_guard_no rfl rfl rfl rfl rfl ?_
    refine atq_guard_no rfl rfl rfl rfl rfl ?_
    refine atq_val rfl rfl rfl (r_pick rfl rfl rfl) ?_
    refine atq_val rfl rfl rfl (r_move rfl) ?_
    refine atq_guard_no rfl rfl rfl rfl rfl ?_
    refine atq_guard_no rfl rfl rfl rfl rfl ?_
    refine atq_guard_no rfl rfl rfl rfl rfl ?_
    refine atq_guard_undef rfl rfl rfl rfl ?_
    refine atq_guard_undef rfl rfl rfl rfl ?_
    refine atq_guard_no rfl rfl rfl rfl rfl ?_
    refine atq_val rfl rfl rfl (r_pick rfl rfl rfl) ?_
    refine atq_val rfl rfl rfl (r_move rfl) ?_
    refine atq_guard_no rfl rfl rfl rfl rfl ?_
    refine atq_guard_no rfl rfl rfl rfl rfl ?_
    refine atq_guard_no rfl rfl rfl rfl rfl ?_
    refine atq_guard_no rfl rfl rfl rfl rfl ?_
    refine atq_val rfl rfl rfl (r_pick rfl rfl rfl) ?_
    refine atq_val rfl rfl rfl (r_move rfl) ?_
    refine atq_guard_no rfl rfl rfl rfl rfl ?_
    refine atq_val rfl rfl rfl (r_pick rfl rfl rfl) ?_
    refine atq_val rfl rfl rfl (r_assign rfl) ?_
    refine atq_nil ?_
    refine at_drop (H := _) .z ?_
    refine at_drop (H := _) .z ?_
    refine at_drop (H := _) .z ?_
    refine at_drop (H := _) .z ?_
    refine at_weak [(4, _)] ⟨rfl, trivial⟩ ?_
    refine at_then_normal ?_
    refine at_ret ?_
    have K := of_some hF
    subst K
    exact at_return1 rfl rfl (fun w1 hw => ⟨rfl, hw.below⟩)
end Go.Proofs.YtecolkjlpklaaaaDoor
