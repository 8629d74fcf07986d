/- Functions with the same answers as the Go functions that they are named for, and the proofs of it, by a program of this project (gen.py). -/
import Derived.Test.YtnojjenpggdadaaDoorT
import Derived.Test.YtnojjenpggdadaaDoorShelf
import Derived.Test.YtnojjenpggdadaaDoorW
import Derived.Test.YtnojjenpggdadaaDoorL
import Derived.Test.YtnojjenpggdadaaDoorS
import Derived.Test.YtnojjenpggdadaaDoorI
import Derived.Test.YtnojjenpggdadaaDoorR
import Derived.Test.YtnojjenpggdadaaDoorProg
import Derived.Test.YtnojjenpggdadaaDoorC1
set_option linter.unusedVariables false
set_option linter.unusedSimpArgs false
namespace Go.Proofs.YtnojjenpggdadaaDoor
open E Go.RowKit

theorem infoC258_is : (Tryd.prog.info? 58).isSome = true := by kernel_rfl
noncomputable def infoC258_v : TypeInfo := (Tryd.prog.info? 58).get infoC258_is
theorem infoC258 : Tryd.prog.info? 58 = some infoC258_v := (Option.some_get _).symm

def crawlwaylaw52_long (x0 : List S_api_Event) : Option (Bool) :=
  some (decide ((x0.length : Int) > 60))
theorem crawlwaylaw52_long_ok (x0 : List S_api_Event) (p0_ : Option Addr) (c0_ : Nat) (r : Bool) (hF : crawlwaylaw52_long x0 = some r) (w : World) (hr0 : Row c_api_Event w p0_ c0_ x0) :
    Calls Tryd.prog 22 #[.slice p0_ x0.length c0_] w (fun e w' => e = .returned (.bool r) ∧ w' = w) := by
  unfold crawlwaylaw52_long at hF
  refine calls_enter (l := [.slice p0_ x0.length c0_]) Tryd.func22 rfl rfl rfl ?_
  refine at_weak [(0, _)] ⟨rfl, trivial⟩ ?_
  refine at_seq ?_
  refine at_region ?_
  refine at_val rfl rfl rfl (r_assign rfl) ?_
  refine at_nil ?_
  refine at_weak [(0, _)] ⟨rfl, trivial⟩ ?_
  refine at_then_normal ?_
  refine at_seq ?_
  refine at_region ?_
  refine at_val rfl rfl rfl (r_move rfl) ?_
  refine at_val rfl rfl rfl (r_len_sl Tryd.underlying41 rfl) ?_
  refine at_val rfl rfl rfl (r_igtr rfl rfl) ?_
  refine at_val rfl rfl rfl (r_assign rfl) ?_
  refine at_nil ?_
  refine at_weak [(2, _)] ⟨rfl, trivial⟩ ?_
  refine at_then_normal ?_
  refine at_ret ?_
  have K := of_some hF
  subst K
  exact at_return1 rfl rfl (fun w1 hw => ⟨rfl, hw⟩)

def crawlwayref52_Kind (x0 : S_api_Event) : Option (Int) :=
  if (decide (x0.f_Kind < 1)) = true then (some 0) else (if (decide (x0.f_Kind > 6)) = true then (some 0) else (some x0.f_Kind))
theorem crawlwayref52_Kind_ok (x0 : S_api_Event) (r : Int) (hF : crawlwayref52_Kind x0 = some r) (w : World) :
    Calls Tryd.prog 43 #[.agg (Cd.cs c_api_Event x0).toArray] w (fun e w' => e = .returned (.int .i64 r) ∧ Below w.heap.size w w') := by
  unfold crawlwayref52_Kind at hF
  refine calls_enter (l := [.agg (Cd.cs c_api_Event x0).toArray]) Tryd.func43 rfl rfl rfl ?_
  refine at_start ?_
  refine at_weak [(0, _)] ⟨rfl, trivial⟩ ?_
  refine at_seq ?_
  refine at_region ?_
  refine at_box (cs := Cd.cs c_api_Event x0) rfl rfl rfl ?_
  intro b1
  refine at_val rfl rfl rfl (r_assign rfl) ?_
  refine at_nil ?_
  refine at_weak [(1, _)] ⟨rfl, trivial⟩ ?_
  refine at_then_normal ?_
  refine at_seq ?_
  refine at_seq ?_
  refine at_region ?_
  refine at_val rfl rfl rfl (r_fieldAddr (fo := 0) Tryd.underlying58 rfl rfl (fun w => ⟨_, Tryd.sizeOf3 w⟩) rfl) ?_
  refine at_val rfl rfl rfl (r_load_cell Tryd.isAgg3 rfl (lens_cell0 (c := (cInt .i64)) (y := x0.f_Kind) .z (Lens.comp (Lens.whole _ _) (fun z => { x0 with f_Kind := z }) (c_api_Event_f_Kind x0)) rfl)) ?_
  refine at_val rfl rfl rfl (r_ilss rfl rfl) ?_
  refine at_val rfl rfl rfl (r_move rfl) ?_
  rcases of_ite hF with ⟨h2, hF⟩ | ⟨h2, hF⟩
  · refine at_fix (g := 6) rfl h2 ?_
    refine at_guard_no rfl rfl rfl rfl rfl ?_
    refine at_guard_no rfl rfl rfl rfl rfl ?_
    refine at_guard_no rfl rfl rfl rfl rfl ?_
    refine at_val rfl rfl rfl (r_pick rfl rfl rfl) ?_
    refine at_nil ?_
    refine at_weak [(1, _), (10, _)] ⟨rfl, rfl, trivial⟩ ?_
    refine at_then_normal ?_
    refine at_cond_true rfl rfl ?_
    refine at_seq ?_
    refine at_region ?_
    refine at_val rfl rfl rfl (r_assign rfl) ?_
    refine at_nil ?_
    refine at_drop (H := _) .z ?_
    refine at_weak [(2, _)] ⟨rfl, trivial⟩ ?_
    refine at_then_normal ?_
    refine at_ret ?_
    refine at_then_ret ?_
    have K := of_some hF
    subst K
    exact at_return1 rfl rfl (fun w1 hw => ⟨rfl, hw.below⟩)
  · refine at_fix (g := 6) rfl h2 ?_
    refine at_guard_yes rfl rfl rfl ?_
    refine at_val rfl rfl rfl (r_fieldAddr (fo := 0) Tryd.underlying58 rfl rfl (fun w => ⟨_, Tryd.sizeOf3 w⟩) rfl) ?_
    refine at_guard_yes rfl rfl rfl ?_
    refine at_val rfl rfl rfl (r_load_cell Tryd.isAgg3 rfl (lens_cell0 (c := (cInt .i64)) (y := x0.f_Kind) .z (Lens.comp (Lens.whole _ _) (fun z => { x0 with f_Kind := z }) (c_api_Event_f_Kind x0)) rfl)) ?_
    refine at_guard_yes rfl rfl rfl ?_
    refine at_val rfl rfl rfl (r_igtr rfl rfl) ?_
    refine at_val rfl rfl rfl (r_pick rfl rfl rfl) ?_
    refine at_nil ?_
    refine at_weak [(1, _), (10, _)] ⟨rfl, rfl, trivial⟩ ?_
    refine at_then_normal ?_
    rcases of_ite hF with ⟨h3, hF⟩ | ⟨h3, hF⟩
    · refine at_cond_true rfl h3 ?_
      refine at_seq ?_
      refine at_region ?_
      refine at_val rfl rfl rfl (r_assign rfl) ?_
      refine at_nil ?_
      refine at_drop (H := _) .z ?_
      refine at_weak [(2, _)] ⟨rfl, trivial⟩ ?_
      refine at_then_normal ?_
      refine at_ret ?_
      refine at_then_ret ?_
      have K := of_some hF
      subst K
      exact at_return1 rfl rfl (fun w1 hw => ⟨rfl, hw.below⟩)
    · refine at_cond_false rfl h3 ?_
      refine at_skip ?_
      refine at_then_normal ?_
      refine at_seq ?_
      refine at_region ?_
      refine at_val rfl rfl rfl (r_fieldAddr (fo := 0) Tryd.underlying58 rfl rfl (fun w => ⟨_, Tryd.sizeOf3 w⟩) rfl) ?_
      refine at_val rfl rfl rfl (r_load_cell Tryd.isAgg3 rfl (lens_cell0 (c := (cInt .i64)) (y := x0.f_Kind) .z (Lens.comp (Lens.whole _ _) (fun z => { x0 with f_Kind := z }) (c_api_Event_f_Kind x0)) rfl)) ?_
      refine at_val rfl rfl rfl (r_assign rfl) ?_
      refine at_nil ?_
      refine at_drop (H := _) .z ?_
      refine at_weak [(2, _)] ⟨rfl, trivial⟩ ?_
      refine at_then_normal ?_
      refine at_ret ?_
      have K := of_some hF
      subst K
      exact at_return1 rfl rfl (fun w1 hw => ⟨rfl, hw.below⟩)

def crawlwayref52_Many.l0 (x0 : List S_api_Event) (x1 : Int) (i2 : Int) (i3 : Int) (i4 : Int) : Option (Int × Int) :=
  if (decide (i4 < (x0.length : Int))) = true then (if (0 : Int) ≤ i4 ∧ i4 < (x0.length : Int) then crawlwayref52_Kind (lget x0 i4) >>= fun t10 => if (t10 == x1) = true then (if (0 : Int) ≤ i4 ∧ i4 < (x0.length : Int) then crawlwayref52_Many.l0 x0 x1 (wr .i64 (i2 + 1)) (wr .i64 (i3 + (((lget x0 i4).f_Bytes).n : Int))) (wr .i64 (i4 + 1)) else none) else (crawlwayref52_Many.l0 x0 x1 i2 i3 (wr .i64 (i4 + 1))) else none) else (some (i2, i3))
  partial_fixpoint
def crawlwayref52_Many (x0 : List S_api_Event) (x1 : Int) : Option (Int × Int) :=
  crawlwayref52_Many.l0 x0 x1 0 0 0 >>= fun q1 => some (q1.1, q1.2)
theorem crawlwayref52_Many_ok (x0 : List S_api_Event) (p0_ : Option Addr) (c0_ : Nat) (x1 : Int) (r : Int × Int) (hF : crawlwayref52_Many x0 x1 = some r) (w : World) (hr0 : Row c_api_Event w p0_ c0_ x0) :
    Calls Tryd.prog 35 #[.slice p0_ x0.length c0_, .int .i64 x1] w (fun e w' => e = .returned (.tuple #[.int .i64 r.1, .int .i64 r.2]) ∧ Below w.heap.size w w') := by
  unfold crawlwayref52_Many at hF
  refine calls_enter (l := [.slice p0_ x0.length c0_, .int .i64 x1]) Tryd.func35 rfl rfl rfl ?_
  refine at_start ?_
  refine at_weak [(0, _), (1, _)] ⟨rfl, rfl, trivial⟩ ?_
  refine at_seq ?_
  refine at_region ?_
  refine at_val rfl rfl rfl (r_assign rfl) ?_
  refine at_val rfl rfl rfl (r_assign rfl) ?_
  refine at_nil ?_
  refine at_weak [(0, _), (1, _)] ⟨rfl, rfl, trivial⟩ ?_
  refine at_then_normal ?_
  refine at_seq ?_
  refine at_region ?_
  refine at_val rfl rfl rfl (r_assign rfl) ?_
  refine at_nil ?_
  refine at_weak [(0, _), (1, _), (6, _)] ⟨rfl, rfl, rfl, trivial⟩ ?_
  refine at_then_normal ?_
  refine at_seq ?_
  refine at_region ?_
  refine at_val rfl rfl rfl (r_assign rfl) ?_
  refine at_nil ?_
  refine at_weak [(0, _), (1, _), (6, _), (7, _)] ⟨rfl, rfl, rfl, rfl, trivial⟩ ?_
  refine at_then_normal ?_
  refine at_seq ?_
  refine at_seq ?_
  refine at_region ?_
  refine at_val rfl rfl rfl (r_assign rfl) ?_
  refine at_nil ?_
  refine at_weak [(0, _), (1, _), (6, _), (7, _), (8, _)] ⟨rfl, rfl, rfl, rfl, rfl, trivial⟩ ?_
  refine at_then_normal ?_
  refine at_block ?_
  obtain ⟨q1, hq1, hF⟩ := of_bindM hF
  refine at_weak [(0, _), (1, _), (6, _), (7, _), (8, _)] ⟨rfl, rfl, rfl, rfl, rfl, trivial⟩ ?_
  refine at_loop_n (B := 0) (A := fun Y => At 34 [(6, .int .i64 q1.1), (7, .int .i64 q1.2)] (Wd w []) Y) ?_ ?_
  · intro K
    refine crawlwayref52_Many.l0.partial_correctness x0 x1 (motive := fun i2 i3 i4 x => KN (fun Y => At 34 [(6, .int .i64 x.1), (7, .int .i64 x.2)] (Wd w []) Y) _ 0 → Round (fun Y => At 34 [(0, .slice p0_ x0.length c0_), (1, .int .i64 x1), (6, .int .i64 i2), (7, .int .i64 i3), (8, .int .i64 i4)] (Wd w []) Y) _ _ _) ?_ _ _ _ _ hq1 K
    · clear K hF
      intro g ih i2 i3 i4 x hF K
      refine at_round ?_
      refine at_seq ?_
      refine at_seq ?_
      refine at_region ?_
      refine at_val rfl rfl rfl (r_move rfl) ?_
      refine at_val rfl rfl rfl (r_move rfl) ?_
      refine at_val rfl rfl rfl (r_len_sl Tryd.underlying41 rfl) ?_
      refine at_val rfl rfl rfl (r_ilss rfl rfl) ?_
      refine at_nil ?_
      refine at_weak [(0, _), (1, _), (6, _), (7, _), (8, _), (12, _)] ⟨rfl, rfl, rfl, rfl, rfl, rfl, trivial⟩ ?_
      refine at_then_normal ?_
      rcases of_ite hF with ⟨h5, hF⟩ | ⟨h5, hF⟩
      · refine at_cond_true rfl h5 ?_
        refine at_skip ?_
        refine at_then_normal ?_
        refine at_seq ?_
        refine at_block ?_
        refine at_seq ?_
        refine at_region ?_
        refine at_val rfl rfl rfl (r_move rfl) ?_
        refine at_val rfl rfl rfl (r_move rfl) ?_
        obtain ⟨h6, hF⟩ := of_guard hF
        obtain ⟨b8, o9, hp7⟩ := row_ptr hr0 h6
        refine at_val rfl rfl rfl (r_idx Tryd.underlying41 Tryd.sizeOf58 rfl rfl h6 hp7) ?_
        refine at_val rfl rfl rfl (r_load_aggc (c := c_api_Event) (z := lget x0 i4) Tryd.isAgg58 Tryd.sizeOf58 rfl (row_cell (fun _ h => h.below) hr0 h6 hp7)) ?_
        obtain ⟨t10, ht10, hF⟩ := of_bindM hF
        refine at_callB Tryd.func43 rfl (by kernel_rfl) rfl rfl (fun w hw => crawlwayref52_Kind_ok _ _ ht10 w) ?_
        refine at_val rfl rfl rfl (r_move rfl) ?_
        refine at_val rfl rfl rfl (r_ieql rfl rfl) ?_
        refine at_nil ?_
        refine at_weak [(0, _), (1, _), (6, _), (7, _), (8, _), (21, _)] ⟨rfl, rfl, rfl, rfl, rfl, rfl, trivial⟩ ?_
        refine at_then_normal ?_
        rcases of_ite hF with ⟨h11, hF⟩ | ⟨h11, hF⟩
        · refine at_cond_true rfl h11 ?_
          refine at_seq ?_
          refine at_region ?_
          refine at_val rfl rfl rfl (r_move rfl) ?_
          refine at_val rfl rfl rfl (r_iadd rfl rfl) ?_
          refine at_val rfl rfl rfl (r_assign rfl) ?_
          refine at_nil ?_
          refine at_weak [(0, _), (1, _), (6, _), (7, _), (8, _)] ⟨rfl, rfl, rfl, rfl, rfl, trivial⟩ ?_
          refine at_then_normal ?_
          refine at_region ?_
          refine at_val rfl rfl rfl (r_move rfl) ?_
          refine at_val rfl rfl rfl (r_move rfl) ?_
          refine at_val rfl rfl rfl (r_move rfl) ?_
          obtain ⟨h12, hF⟩ := of_guard hF
          obtain ⟨b14, o15, hp13⟩ := row_ptr hr0 h12
          refine at_val rfl rfl rfl (r_idx Tryd.underlying41 Tryd.sizeOf58 rfl rfl h12 hp13) ?_
          refine at_val rfl rfl rfl (r_fieldAddr (fo := 1) Tryd.underlying58 rfl rfl (fun w => ⟨_, Tryd.sizeOf51 w⟩) rfl) ?_
          refine at_val rfl rfl rfl (r_load_cell Tryd.isAgg51 rfl (row_lens0 (y := (lget x0 i4).f_Bytes) (fun _ h => h.below) hr0 h12 hp13 (Lens.comp (Lens.whole _ _) (fun z => { (lget x0 i4) with f_Bytes := z }) (c_api_Event_f_Bytes (lget x0 i4))) rfl)) ?_
          refine at_val rfl rfl rfl (r_len_sl Tryd.underlying51 rfl) ?_
          refine at_val rfl rfl rfl (r_iadd rfl rfl) ?_
          refine at_val rfl rfl rfl (r_assign rfl) ?_
          refine at_nil ?_
          refine at_weak [(0, _), (1, _), (6, _), (7, _), (8, _)] ⟨rfl, rfl, rfl, rfl, rfl, trivial⟩ ?_
          refine at_blk_normal (at_then_normal ?_)
          refine at_region ?_
          refine at_val rfl rfl rfl (r_move rfl) ?_
          refine at_val rfl rfl rfl (r_iadd rfl rfl) ?_
          refine at_val rfl rfl rfl (r_assign rfl) ?_
          refine at_nil ?_
          refine at_weak [(0, _), (1, _), (6, _), (7, _), (8, _)] ⟨rfl, rfl, rfl, rfl, rfl, trivial⟩ ?_
          refine at_then_normal ?_
          exact at_weak_k (ih _ _ _ _ hF K) ⟨rfl, rfl, rfl, rfl, rfl, trivial⟩
        · refine at_cond_false rfl h11 ?_
          refine at_skip ?_
          refine at_blk_normal (at_then_normal ?_)
          refine at_region ?_
          refine at_val rfl rfl rfl (r_move rfl) ?_
          refine at_val rfl rfl rfl (r_iadd rfl rfl) ?_
          refine at_val rfl rfl rfl (r_assign rfl) ?_
          refine at_nil ?_
          refine at_weak [(0, _), (1, _), (6, _), (7, _), (8, _)] ⟨rfl, rfl, rfl, rfl, rfl, trivial⟩ ?_
          refine at_then_normal ?_
          exact at_weak_k (ih _ _ _ _ hF K) ⟨rfl, rfl, rfl, rfl, rfl, trivial⟩
      · refine at_cond_false rfl h5 ?_
        refine at_exit ?_
        refine at_then_exit (at_then_exit ?_)
        obtain rfl := of_some hF
        exact at_weak_k K ⟨rfl, rfl, trivial⟩
  · skip
    skip
    refine at_blk_same ?_
    refine at_then_normal ?_
    refine at_seq ?_
    refine at_region ?_
    refine at_val rfl rfl rfl (r_move rfl) ?_
    refine at_val rfl rfl rfl (r_move rfl) ?_
    refine at_val rfl rfl rfl (r_assign rfl) ?_
    refine at_val rfl rfl rfl (r_assign rfl) ?_
    refine at_nil ?_
    refine at_weak [(4, _), (5, _)] ⟨rfl, rfl, trivial⟩ ?_
    refine at_then_normal ?_
    refine at_ret ?_
    have K := of_some hF
    subst K
    exact at_return2 rfl rfl rfl (fun w1 hw => ⟨rfl, hw.below⟩)

def crawlwayref52_Why (x0 : S_api_Event) : Option (Int) :=
  if (decide (x0.f_Why < 1)) = true then (some 0) else (if (decide (x0.f_Why > 20)) = true then (some 0) else (some x0.f_Why))
theorem crawlwayref52_Why_ok (x0 : S_api_Event) (r : Int) (hF : crawlwayref52_Why x0 = some r) (w : World) :
    Calls Tryd.prog 44 #[.agg (Cd.cs c_api_Event x0).toArray] w (fun e w' => e = .returned (.int .i64 r) ∧ Below w.heap.size w w') := by
  unfold crawlwayref52_Why at hF
  refine calls_enter (l := [.agg (Cd.cs c_api_Event x0).toArray]) Tryd.func44 rfl rfl rfl ?_
  refine at_start ?_
  refine at_weak [(0, _)] ⟨rfl, trivial⟩ ?_
  refine at_seq ?_
  refine at_region ?_
  refine at_box (cs := Cd.cs c_api_Event x0) rfl rfl rfl ?_
  intro b1
  refine at_val rfl rfl rfl (r_assign rfl) ?_
  refine at_nil ?_
  refine at_weak [(1, _)] ⟨rfl, trivial⟩ ?_
  refine at_then_normal ?_
  refine at_seq ?_
  refine at_seq ?_
  refine at_region ?_
  refine at_val rfl rfl rfl (r_fieldAddr (fo := 52) Tryd.underlying58 rfl rfl (fun w => ⟨_, Tryd.sizeOf24 w⟩) rfl) ?_
  refine at_val rfl rfl rfl (r_load_cell Tryd.isAgg24 rfl (lens_cell0 (c := (cInt .i64)) (y := x0.f_Why) .z (Lens.comp (Lens.whole _ _) (fun z => { x0 with f_Why := z }) (c_api_Event_f_Why x0)) rfl)) ?_
  refine at_val rfl rfl rfl (r_ilss rfl rfl) ?_
  refine at_val rfl rfl rfl (r_move rfl) ?_
  rcases of_ite hF with ⟨h2, hF⟩ | ⟨h2, hF⟩
  · refine at_fix (g := 6) rfl h2 ?_
    refine at_guard_no rfl rfl rfl rfl rfl ?_
    refine at_guard_no rfl rfl rfl rfl rfl ?_
    refine at_guard_no rfl rfl rfl rfl rfl ?_
    refine at_val rfl rfl rfl (r_pick rfl rfl rfl) ?_
    refine at_nil ?_
    refine at_weak [(1, _), (10, _)] ⟨rfl, rfl, trivial⟩ ?_
    refine at_then_normal ?_
    refine at_cond_true rfl rfl ?_
    refine at_seq ?_
    refine at_region ?_
    refine at_val rfl rfl rfl (r_assign rfl) ?_
    refine at_nil ?_
    refine at_drop (H := _) .z ?_
    refine at_weak [(2, _)] ⟨rfl, trivial⟩ ?_
    refine at_then_normal ?_
    refine at_ret ?_
    refine at_then_ret ?_
    have K := of_some hF
    subst K
    exact at_return1 rfl rfl (fun w1 hw => ⟨rfl, hw.below⟩)
  · refine at_fix (g := 6) rfl h2 ?_
    refine at_guard_yes rfl rfl rfl ?_
    refine at_val rfl rfl rfl (r_fieldAddr (fo := 52) Tryd.underlying58 rfl rfl (fun w => ⟨_, Tryd.sizeOf24 w⟩) rfl) ?_
    refine at_guard_yes rfl rfl rfl ?_
    refine at_val rfl rfl rfl (r_load_cell Tryd.isAgg24 rfl (lens_cell0 (c := (cInt .i64)) (y := x0.f_Why) .z (Lens.comp (Lens.whole _ _) (fun z => { x0 with f_Why := z }) (c_api_Event_f_Why x0)) rfl)) ?_
    refine at_guard_yes rfl rfl rfl ?_
    refine at_val rfl rfl rfl (r_igtr rfl rfl) ?_
    refine at_val rfl rfl rfl (r_pick rfl rfl rfl) ?_
    refine at_nil ?_
    refine at_weak [(1, _), (10, _)] ⟨rfl, rfl, trivial⟩ ?_
    refine at_then_normal ?_
    rcases of_ite hF with ⟨h3, hF⟩ | ⟨h3, hF⟩
    · refine at_cond_true rfl h3 ?_
      refine at_seq ?_
      refine at_region ?_
      refine at_val rfl rfl rfl (r_assign rfl) ?_
      refine at_nil ?_
      refine at_drop (H := _) .z ?_
      refine at_weak [(2, _)] ⟨rfl, trivial⟩ ?_
      refine at_then_normal ?_
      refine at_ret ?_
      refine at_then_ret ?_
      have K := of_some hF
      subst K
      exact at_return1 rfl rfl (fun w1 hw => ⟨rfl, hw.below⟩)
    · refine at_cond_false rfl h3 ?_
      refine at_skip ?_
      refine at_then_normal ?_
      refine at_seq ?_
      refine at_region ?_
      refine at_val rfl rfl rfl (r_fieldAddr (fo := 52) Tryd.underlying58 rfl rfl (fun w => ⟨_, Tryd.sizeOf24 w⟩) rfl) ?_
      refine at_val rfl rfl rfl (r_load_cell Tryd.isAgg24 rfl (lens_cell0 (c := (cInt .i64)) (y := x0.f_Why) .z (Lens.comp (Lens.whole _ _) (fun z => { x0 with f_Why := z }) (c_api_Event_f_Why x0)) rfl)) ?_
      refine at_val rfl rfl rfl (r_assign rfl) ?_
      refine at_nil ?_
      refine at_drop (H := _) .z ?_
      refine at_weak [(2, _)] ⟨rfl, trivial⟩ ?_
      refine at_then_normal ?_
      refine at_ret ?_
      have K := of_some hF
      subst K
      exact at_return1 rfl rfl (fun w1 hw => ⟨rfl, hw.below⟩)

def crawlwayref52_Drops.l0 (x0 : List S_api_Event) (x1 : Int) (i2 : Int) (i3 : Int) : Option (Int) :=
  if (decide (i3 < (x0.length : Int))) = true then (if (0 : Int) ≤ i3 ∧ i3 < (x0.length : Int) then if ((lget x0 i3).f_Kind == 5) = true then (if (0 : Int) ≤ i3 ∧ i3 < (x0.length : Int) then crawlwayref52_Why (lget x0 i3) >>= fun t14 => if (t14 == x1) = true then (crawlwayref52_Drops.l0 x0 x1 (wr .i64 (i2 + 1)) (wr .i64 (i3 + 1))) else (crawlwayref52_Drops.l0 x0 x1 i2 (wr .i64 (i3 + 1))) else none) else (crawlwayref52_Drops.l0 x0 x1 i2 (wr .i64 (i3 + 1))) else none) else (some i2)
  partial_fixpoint
def crawlwayref52_Drops (x0 : List S_api_Event) (x1 : Int) : Option (Int) :=
  crawlwayref52_Drops.l0 x0 x1 0 0 >>= fun q1 => some q1
theorem crawlwayref52_Drops_ok (x0 : List S_api_Event) (p0_ : Option Addr) (c0_ : Nat) (x1 : Int) (r : Int) (hF : crawlwayref52_Drops x0 x1 = some r) (w : World) (hr0 : Row c_api_Event w p0_ c0_ x0) :
    Calls Tryd.prog 36 #[.slice p0_ x0.length c0_, .int .i64 x1] w (fun e w' => e = .returned (.int .i64 r) ∧ Below w.heap.size w w') := by
  unfold crawlwayref52_Drops at hF
  refine calls_enter (l := [.slice p0_ x0.length c0_, .int .i64 x1]) Tryd.func36 rfl rfl rfl ?_
  refine at_start ?_
  refine at_weak [(0, _), (1, _)] ⟨rfl, rfl, trivial⟩ ?_
  refine at_seq ?_
  refine at_region ?_
  refine at_val rfl rfl rfl (r_assign rfl) ?_
  refine at_nil ?_
  refine at_weak [(0, _), (1, _)] ⟨rfl, rfl, trivial⟩ ?_
  refine at_then_normal ?_
  refine at_seq ?_
  refine at_region ?_
  refine at_val rfl rfl rfl (r_assign rfl) ?_
  refine at_nil ?_
  refine at_weak [(0, _), (1, _), (5, _)] ⟨rfl, rfl, rfl, trivial⟩ ?_
  refine at_then_normal ?_
  refine at_seq ?_
  refine at_seq ?_
  refine at_region ?_
  refine at_val rfl rfl rfl (r_assign rfl) ?_
  refine at_nil ?_
  refine at_weak [(0, _), (1, _), (5, _), (6, _)] ⟨rfl, rfl, rfl, rfl, trivial⟩ ?_
  refine at_then_normal ?_
  refine at_block ?_
  obtain ⟨q1, hq1, hF⟩ := of_bindM hF
  refine at_weak [(0, _), (1, _), (5, _), (6, _)] ⟨rfl, rfl, rfl, rfl, trivial⟩ ?_
  refine at_loop_n (B := 0) (A := fun Y => At 31 [(5, .int .i64 q1)] (Wd w []) Y) ?_ ?_
  · intro K
    refine crawlwayref52_Drops.l0.partial_correctness x0 x1 (motive := fun i2 i3 x => KN (fun Y => At 31 [(5, .int .i64 x)] (Wd w []) Y) _ 0 → Round (fun Y => At 31 [(0, .slice p0_ x0.length c0_), (1, .int .i64 x1), (5, .int .i64 i2), (6, .int .i64 i3)] (Wd w []) Y) _ _ _) ?_ _ _ _ hq1 K
    · clear K hF
      intro g ih i2 i3 x hF K
      refine at_round ?_
      refine at_seq ?_
      refine at_seq ?_
      refine at_region ?_
      refine at_val rfl rfl rfl (r_move rfl) ?_
      refine at_val rfl rfl rfl (r_move rfl) ?_
      refine at_val rfl rfl rfl (r_len_sl Tryd.underlying41 rfl) ?_
      refine at_val rfl rfl rfl (r_ilss rfl rfl) ?_
      refine at_nil ?_
      refine at_weak [(0, _), (1, _), (5, _), (6, _), (10, _)] ⟨rfl, rfl, rfl, rfl, rfl, trivial⟩ ?_
      refine at_then_normal ?_
      rcases of_ite hF with ⟨h4, hF⟩ | ⟨h4, hF⟩
      · refine at_cond_true rfl h4 ?_
        refine at_skip ?_
        refine at_then_normal ?_
        refine at_seq ?_
        refine at_block ?_
        refine at_seq ?_
        refine at_region ?_
        refine at_val rfl rfl rfl (r_move rfl) ?_
        refine at_val rfl rfl rfl (r_move rfl) ?_
        obtain ⟨h5, hF⟩ := of_guard hF
        obtain ⟨b7, o8, hp6⟩ := row_ptr hr0 h5
        refine at_val rfl rfl rfl (r_idx Tryd.underlying41 Tryd.sizeOf58 rfl rfl h5 hp6) ?_
        refine at_val rfl rfl rfl (r_fieldAddr (fo := 0) Tryd.underlying58 rfl rfl (fun w => ⟨_, Tryd.sizeOf3 w⟩) rfl) ?_
        refine at_val rfl rfl rfl (r_load_cell Tryd.isAgg3 rfl (row_lens0 (y := (lget x0 i3).f_Kind) (fun _ h => h.below) hr0 h5 hp6 (Lens.comp (Lens.whole _ _) (fun z => { (lget x0 i3) with f_Kind := z }) (c_api_Event_f_Kind (lget x0 i3))) rfl)) ?_
        refine at_val rfl rfl rfl (r_ieql rfl rfl) ?_
        refine at_val rfl rfl rfl (r_move rfl) ?_
        rcases of_ite hF with ⟨h9, hF⟩ | ⟨h9, hF⟩
        · refine at_fix (g := 19) rfl h9 ?_
          refine at_guard_yes rfl rfl rfl ?_
          refine at_val rfl rfl rfl (r_move rfl) ?_
          refine at_guard_yes rfl rfl rfl ?_
          refine at_val rfl rfl rfl (r_move rfl) ?_
          refine at_guard_yes rfl rfl rfl ?_
          obtain ⟨h10, hF⟩ := of_guard hF
          obtain ⟨b12, o13, hp11⟩ := row_ptr hr0 h10
          refine at_val rfl rfl rfl (r_idx Tryd.underlying41 Tryd.sizeOf58 rfl rfl h10 hp11) ?_
          refine at_guard_yes rfl rfl rfl ?_
          refine at_val rfl rfl rfl (r_load_aggc (c := c_api_Event) (z := lget x0 i3) Tryd.isAgg58 Tryd.sizeOf58 rfl (row_cell (fun _ h => h.below) hr0 h10 hp11)) ?_
          refine at_guard_yes rfl rfl rfl ?_
          obtain ⟨t14, ht14, hF⟩ := of_bindM hF
          refine at_callB Tryd.func44 rfl (by kernel_rfl) rfl rfl (fun w hw => crawlwayref52_Why_ok _ _ ht14 w) ?_
          refine at_guard_yes rfl rfl rfl ?_
          refine at_val rfl rfl rfl (r_move rfl) ?_
          refine at_guard_yes rfl rfl rfl ?_
          refine at_val rfl rfl rfl (r_ieql rfl rfl) ?_
          refine at_val rfl rfl rfl (r_pick rfl rfl rfl) ?_
          refine at_nil ?_
          refine at_weak [(0, _), (1, _), (5, _), (6, _), (27, _)] ⟨rfl, rfl, rfl, rfl, rfl, trivial⟩ ?_
          refine at_then_normal ?_
          rcases of_ite hF with ⟨h15, hF⟩ | ⟨h15, hF⟩
          · refine at_cond_true rfl h15 ?_
            refine at_region ?_
            refine at_val rfl rfl rfl (r_move rfl) ?_
            refine at_val rfl rfl rfl (r_iadd rfl rfl) ?_
            refine at_val rfl rfl rfl (r_assign rfl) ?_
            refine at_nil ?_
            refine at_weak [(0, _), (1, _), (5, _), (6, _)] ⟨rfl, rfl, rfl, rfl, trivial⟩ ?_
            refine at_blk_normal (at_then_normal ?_)
            refine at_region ?_
            refine at_val rfl rfl rfl (r_move rfl) ?_
            refine at_val rfl rfl rfl (r_iadd rfl rfl) ?_
            refine at_val rfl rfl rfl (r_assign rfl) ?_
            refine at_nil ?_
            refine at_weak [(0, _), (1, _), (5, _), (6, _)] ⟨rfl, rfl, rfl, rfl, trivial⟩ ?_
            refine at_then_normal ?_
            exact at_weak_k (ih _ _ _ hF K) ⟨rfl, rfl, rfl, rfl, trivial⟩
          · refine at_cond_false rfl h15 ?_
            refine at_skip ?_
            refine at_blk_normal (at_then_normal ?_)
            refine at_region ?_
            refine at_val rfl rfl rfl (r_move rfl) ?_
            refine at_val rfl rfl rfl (r_iadd rfl rfl) ?_
            refine at_val rfl rfl rfl (r_assign rfl) ?_
            refine at_nil ?_
            refine at_weak [(0, _), (1, _), (5, _), (6, _)] ⟨rfl, rfl, rfl, rfl, trivial⟩ ?_
            refine at_then_normal ?_
            exact at_weak_k (ih _ _ _ hF K) ⟨rfl, rfl, rfl, rfl, trivial⟩
        · refine at_fix (g := 19) rfl h9 ?_
          refine at_guard_no rfl rfl rfl rfl rfl ?_
          refine at_guard_no rfl rfl rfl rfl rfl ?_
          refine at_guard_no rfl rfl rfl rfl rfl ?_
          refine at_guard_no rfl rfl rfl rfl rfl ?_
          refine at_guard_no rfl rfl rfl rfl rfl ?_
          refine at_guard_no rfl rfl rfl rfl rfl ?_
          refine at_guard_no rfl rfl rfl rfl rfl ?_
          refine at_val rfl rfl rfl (r_pick rfl rfl rfl) ?_
          refine at_nil ?_
          refine at_weak [(0, _), (1, _), (5, _), (6, _), (27, _)] ⟨rfl, rfl, rfl, rfl, rfl, trivial⟩ ?_
          refine at_then_normal ?_
          refine at_cond_false rfl rfl ?_
          refine at_skip ?_
          refine at_blk_normal (at_then_normal ?_)
          refine at_region ?_
          refine at_val rfl rfl rfl (r_move rfl) ?_
          refine at_val rfl rfl rfl (r_iadd rfl rfl) ?_
          refine at_val rfl rfl rfl (r_assign rfl) ?_
          refine at_nil ?_
          refine at_weak [(0, _), (1, _), (5, _), (6, _)] ⟨rfl, rfl, rfl, rfl, trivial⟩ ?_
          refine at_then_normal ?_
          exact at_weak_k (ih _ _ _ hF K) ⟨rfl, rfl, rfl, rfl, trivial⟩
      · refine at_cond_false rfl h4 ?_
        refine at_exit ?_
        refine at_then_exit (at_then_exit ?_)
        obtain rfl := of_some hF
        exact at_weak_k K ⟨rfl, trivial⟩
  · skip
    skip
    refine at_blk_same ?_
    refine at_then_normal ?_
    refine at_seq ?_
    refine at_region ?_
    refine at_val rfl rfl rfl (r_move rfl) ?_
    refine at_val rfl rfl rfl (r_assign rfl) ?_
    refine at_nil ?_
    refine at_weak [(4, _)] ⟨rfl, trivial⟩ ?_
    refine at_then_normal ?_
    refine at_ret ?_
    have K := of_some hF
    subst K
    exact at_return1 rfl rfl (fun w1 hw => ⟨rfl, hw.below⟩)

def crawlwaylaw52_is.l0 (x0 : S_census_Count) (x1 : List S_api_Event) (i3 : Int) : Option (Ctl (Bool) (Unit)) :=
  if (decide (i3 < 7)) = true then (crawlwayref52_Many x1 i3 >>= fun t5 => if (0 : Int) ≤ i3 ∧ i3 < 7 then if (vget x0.f_Kinds i3 != t5.1) = true then (some (.ret false)) else (if (0 : Int) ≤ i3 ∧ i3 < 7 then if (vget x0.f_Bytes i3 != t5.2) = true then (some (.ret false)) else (crawlwaylaw52_is.l0 x0 x1 (wr .i64 (i3 + 1))) else none) else none) else (some (.nx ()))
  partial_fixpoint
def crawlwaylaw52_is.l1 (x0 : S_census_Count) (x1 : List S_api_Event) (i11 : Int) : Option (Ctl (Bool) (Unit)) :=
  if (decide (i11 < 21)) = true then (if (0 : Int) ≤ i11 ∧ i11 < 21 then crawlwayref52_Drops x1 i11 >>= fun t14 => if (vget x0.f_Whys i11 != t14) = true then (some (.ret false)) else (crawlwaylaw52_is.l1 x0 x1 (wr .i64 (i11 + 1))) else none) else (some (.nx ()))
  partial_fixpoint
def crawlwaylaw52_is (x0 : S_census_Count) (x1 : List S_api_Event) : Option (Bool) :=
  crawlwaylaw52_is.l0 x0 x1 0 >>= fun q2 => match q2 with | .ret r' => some r' | .nx sq2 => (crawlwaylaw52_is.l1 x0 x1 0 >>= fun q10 => match q10 with | .ret r' => some r' | .nx sq10 => (some true))
theorem crawlwaylaw52_is_ok (x0 : S_census_Count) (x1 : List S_api_Event) (p1_ : Option Addr) (c1_ : Nat) (r : Bool) (hF : crawlwaylaw52_is x0 x1 = some r) (w : World) (hr1 : Row c_api_Event w p1_ c1_ x1) :
    Calls Tryd.prog 24 #[.agg (Cd.cs c_census_Count x0).toArray, .slice p1_ x1.length c1_] w (fun e w' => e = .returned (.bool r) ∧ Below w.heap.size w w') := by
  unfold crawlwaylaw52_is at hF
  refine calls_enter (l := [.agg (Cd.cs c_census_Count x0).toArray, .slice p1_ x1.length c1_]) Tryd.func24 rfl rfl rfl ?_
  refine at_start ?_
  refine at_weak [(0, _), (1, _)] ⟨rfl, rfl, trivial⟩ ?_
  refine at_seq ?_
  refine at_region ?_
  refine at_box (cs := Cd.cs c_census_Count x0) rfl rfl rfl ?_
  intro b1
  refine at_val rfl rfl rfl (r_assign rfl) ?_
  refine at_nil ?_
  refine at_weak [(1, _), (2, _)] ⟨rfl, rfl, trivial⟩ ?_
  refine at_then_normal ?_
  refine at_seq ?_
  refine at_seq ?_
  refine at_region ?_
  refine at_val rfl rfl rfl (r_assign rfl) ?_
  refine at_nil ?_
  refine at_weak [(1, _), (2, _), (5, _)] ⟨rfl, rfl, rfl, trivial⟩ ?_
  refine at_then_normal ?_
  refine at_block ?_
  obtain ⟨q2, hq2, hF⟩ := of_bindM hF
  refine at_weak [(1, _), (2, _), (5, _)] ⟨rfl, rfl, rfl, trivial⟩ ?_
  refine at_loop_r (B := 0) (r := r) (q := q2) (A := fun (_ : Unit) Y => At 45 [(1, .slice p1_ x1.length c1_), (2, .pointer (some ⟨b1, 0, none⟩))] (Wd w [cellsE b1 (Cd.cs c_census_Count x0) 37]) Y) ?_ ?_
  · intro K
    refine crawlwaylaw52_is.l0.partial_correctness x0 x1 (motive := fun i3 x => KR (fun (_ : Unit) Y => At 45 [(1, .slice p1_ x1.length c1_), (2, .pointer (some ⟨b1, 0, none⟩))] (Wd w [cellsE b1 (Cd.cs c_census_Count x0) 37]) Y) _ 0 r x → Round (fun Y => At 45 [(1, .slice p1_ x1.length c1_), (2, .pointer (some ⟨b1, 0, none⟩)), (5, .int .i64 i3)] (Wd w [cellsE b1 (Cd.cs c_census_Count x0) 37]) Y) _ _ _) ?_ _ _ hq2 K
    · clear K hF
      intro g ih i3 x hF K
      refine at_round ?_
      refine at_seq ?_
      refine at_seq ?_
      refine at_region ?_
      refine at_val rfl rfl rfl (r_move rfl) ?_
      refine at_val rfl rfl rfl (r_ilss rfl rfl) ?_
      refine at_nil ?_
      refine at_weak [(1, _), (2, _), (5, _), (10, _)] ⟨rfl, rfl, rfl, rfl, trivial⟩ ?_
      refine at_then_normal ?_
      rcases of_ite hF with ⟨h4, hF⟩ | ⟨h4, hF⟩
      · refine at_cond_true rfl h4 ?_
        refine at_skip ?_
        refine at_then_normal ?_
        refine at_seq ?_
        refine at_block ?_
        refine at_seq ?_
        refine at_region ?_
        refine at_val rfl rfl rfl (r_move rfl) ?_
        refine at_val rfl rfl rfl (r_move rfl) ?_
        obtain ⟨t5, ht5, hF⟩ := of_bindM hF
        refine at_callB Tryd.func35 rfl (by kernel_rfl) rfl rfl (fun w hw => crawlwayref52_Many_ok _ _ _ _ _ ht5 w (hr1.below hw.below)) ?_
        refine at_val rfl rfl rfl (r_move rfl) ?_
        refine at_val rfl rfl rfl (r_extract rfl rfl) ?_
        refine at_val rfl rfl rfl (r_extract rfl rfl) ?_
        refine at_val rfl rfl rfl (r_assign rfl) ?_
        refine at_val rfl rfl rfl (r_assign rfl) ?_
        refine at_nil ?_
        refine at_weak [(1, _), (2, _), (5, _), (6, _), (7, _)] ⟨rfl, rfl, rfl, rfl, rfl, trivial⟩ ?_
        refine at_then_normal ?_
        refine at_seq ?_
        refine at_region ?_
        refine at_val rfl rfl rfl (r_move rfl) ?_
        refine at_val rfl rfl rfl (r_fieldAddr (fo := 0) Tryd.underlying37 rfl rfl (fun w => ⟨_, Tryd.sizeOf34 w⟩) rfl) ?_
        obtain ⟨h6, hF⟩ := of_guard hF
        refine at_val rfl rfl rfl (r_idxArr Tryd.underlying34 Tryd.sizeOf3 rfl rfl h6) ?_
        refine at_val rfl rfl rfl (r_load_cell Tryd.isAgg3 rfl (lens_cell0 (c := (cInt .i64)) (y := vget x0.f_Kinds i3) .z (Lens.comp (Lens.comp (Lens.whole _ _) (fun z => { x0 with f_Kinds := z }) (c_census_Count_f_Kinds x0)) (fun z => vset x0.f_Kinds i3 z) (Lens.vec (cInt .i64) (by decide) x0.f_Kinds i3 h6)) rfl)) ?_
        refine at_val rfl rfl rfl (r_move rfl) ?_
        refine at_val rfl rfl rfl (r_ineq rfl rfl) ?_
        refine at_val rfl rfl rfl (r_move rfl) ?_
        rcases of_ite hF with ⟨h7, hF⟩ | ⟨h7, hF⟩
        · refine at_fix (g := 25) rfl h7 ?_
          refine at_guard_no rfl rfl rfl rfl rfl ?_
          refine at_guard_no rfl rfl rfl rfl rfl ?_
          refine at_guard_no rfl rfl rfl rfl rfl ?_
          refine at_guard_no rfl rfl rfl rfl rfl ?_
          refine at_guard_no rfl rfl rfl rfl rfl ?_
          refine at_guard_no rfl rfl rfl rfl rfl ?_
          refine at_val rfl rfl rfl (r_pick rfl rfl rfl) ?_
          refine at_nil ?_
          refine at_weak [(1, _), (2, _), (5, _), (32, _)] ⟨rfl, rfl, rfl, rfl, trivial⟩ ?_
          refine at_then_normal ?_
          refine at_cond_true rfl rfl ?_
          refine at_seq ?_
          refine at_region ?_
          refine at_val rfl rfl rfl (r_assign rfl) ?_
          refine at_nil ?_
          refine at_drop (H := _) .z ?_
          refine at_weak [(4, _)] ⟨rfl, trivial⟩ ?_
          refine at_then_normal ?_
          refine at_ret ?_
          refine at_blk_ret (at_then_ret (at_then_ret (at_blk_ret (at_then_ret ?_))))
          obtain rfl := of_some hF
          subst K
          exact at_return1 rfl rfl (fun w1 hw => ⟨rfl, hw.below⟩)
        · refine at_fix (g := 25) rfl h7 ?_
          refine at_guard_yes rfl rfl rfl ?_
          refine at_val rfl rfl rfl (r_move rfl) ?_
          refine at_guard_yes rfl rfl rfl ?_
          refine at_val rfl rfl rfl (r_fieldAddr (fo := 7) Tryd.underlying37 rfl rfl (fun w => ⟨_, Tryd.sizeOf34 w⟩) rfl) ?_
          refine at_guard_yes rfl rfl rfl ?_
          obtain ⟨h8, hF⟩ := of_guard hF
          refine at_val rfl rfl rfl (r_idxArr Tryd.underlying34 Tryd.sizeOf3 rfl rfl h8) ?_
          refine at_guard_yes rfl rfl rfl ?_
          refine at_val rfl rfl rfl (r_load_cell Tryd.isAgg3 rfl (lens_cell0 (c := (cInt .i64)) (y := vget x0.f_Bytes i3) .z (Lens.comp (Lens.comp (Lens.whole _ _) (fun z => { x0 with f_Bytes := z }) (c_census_Count_f_Bytes x0)) (fun z => vset x0.f_Bytes i3 z) (Lens.vec (cInt .i64) (by decide) x0.f_Bytes i3 h8)) rfl)) ?_
          refine at_guard_yes rfl rfl rfl ?_
          refine at_val rfl rfl rfl (r_move rfl) ?_
          refine at_guard_yes rfl rfl rfl ?_
          refine at_val rfl rfl rfl (r_ineq rfl rfl) ?_
          refine at_val rfl rfl rfl (r_pick rfl rfl rfl) ?_
          refine at_nil ?_
          refine at_weak [(1, _), (2, _), (5, _), (32, _)] ⟨rfl, rfl, rfl, rfl, trivial⟩ ?_
          refine at_then_normal ?_
          rcases of_ite hF with ⟨h9, hF⟩ | ⟨h9, hF⟩
          · refine at_cond_true rfl h9 ?_
            refine at_seq ?_
            refine at_region ?_
            refine at_val rfl rfl rfl (r_assign rfl) ?_
            refine at_nil ?_
            refine at_drop (H := _) .z ?_
            refine at_weak [(4, _)] ⟨rfl, trivial⟩ ?_
            refine at_then_normal ?_
            refine at_ret ?_
            refine at_blk_ret (at_then_ret (at_then_ret (at_blk_ret (at_then_ret ?_))))
            obtain rfl := of_some hF
            subst K
            exact at_return1 rfl rfl (fun w1 hw => ⟨rfl, hw.below⟩)
          · refine at_cond_false rfl h9 ?_
            refine at_skip ?_
            refine at_blk_normal (at_then_normal ?_)
            refine at_region ?_
            refine at_val rfl rfl rfl (r_move rfl) ?_
            refine at_val rfl rfl rfl (r_iadd rfl rfl) ?_
            refine at_val rfl rfl rfl (r_assign rfl) ?_
            refine at_nil ?_
            refine at_weak [(1, _), (2, _), (5, _)] ⟨rfl, rfl, rfl, trivial⟩ ?_
            refine at_then_normal ?_
            exact at_weak_k (ih _ _ hF K) ⟨rfl, rfl, rfl, trivial⟩
      · refine at_cond_false rfl h4 ?_
        refine at_exit ?_
        refine at_then_exit (at_then_exit ?_)
        obtain rfl := of_some hF
        exact at_weak_k K ⟨rfl, rfl, trivial⟩
  · cases q2 with
    | ret r' => exact of_some hF
    | nx sq2 =>
      skip
      refine at_blk_same ?_
      refine at_then_normal ?_
      refine at_seq ?_
      refine at_seq ?_
      refine at_region ?_
      refine at_val rfl rfl rfl (r_assign rfl) ?_
      refine at_nil ?_
      refine at_weak [(1, _), (2, _), (8, _)] ⟨rfl, rfl, rfl, trivial⟩ ?_
      refine at_then_normal ?_
      refine at_block ?_
      obtain ⟨q10, hq10, hF⟩ := of_bindM hF
      refine at_weak [(1, _), (2, _), (8, _)] ⟨rfl, rfl, rfl, trivial⟩ ?_
      refine at_loop_r (B := 2) (r := r) (q := q10) (A := fun (_ : Unit) Y => At 45 [] (Wd w []) Y) ?_ ?_
      · intro K
        refine crawlwaylaw52_is.l1.partial_correctness x0 x1 (motive := fun i11 x => KR (fun (_ : Unit) Y => At 45 [] (Wd w []) Y) _ 2 r x → Round (fun Y => At 45 [(1, .slice p1_ x1.length c1_), (2, .pointer (some ⟨b1, 0, none⟩)), (8, .int .i64 i11)] (Wd w [cellsE b1 (Cd.cs c_census_Count x0) 37]) Y) _ _ _) ?_ _ _ hq10 K
        · clear K hF
          intro g ih i11 x hF K
          refine at_round ?_
          refine at_seq ?_
          refine at_seq ?_
          refine at_region ?_
          refine at_val rfl rfl rfl (r_move rfl) ?_
          refine at_val rfl rfl rfl (r_ilss rfl rfl) ?_
          refine at_nil ?_
          refine at_weak [(1, _), (2, _), (8, _), (34, _)] ⟨rfl, rfl, rfl, rfl, trivial⟩ ?_
          refine at_then_normal ?_
          rcases of_ite hF with ⟨h12, hF⟩ | ⟨h12, hF⟩
          · refine at_cond_true rfl h12 ?_
            refine at_skip ?_
            refine at_then_normal ?_
            refine at_seq ?_
            refine at_block ?_
            refine at_seq ?_
            refine at_draw (by kernel_rfl) (by kernel_rfl) (fun _ h => h.drew) ?_
            refine atq_val rfl rfl rfl (r_move rfl) ?_
            refine atq_val rfl rfl rfl (r_fieldAddr (fo := 14) Tryd.underlying37 rfl rfl (fun w => ⟨_, Tryd.sizeOf35 w⟩) rfl) ?_
            obtain ⟨h13, hF⟩ := of_guard hF
            refine atq_val rfl rfl rfl (r_idxArr Tryd.underlying35 Tryd.sizeOf3 rfl rfl h13) ?_
            refine atq_val rfl rfl rfl (r_load_cell Tryd.isAgg3 rfl (lens_cell0 (c := (cInt .i64)) (y := vget x0.f_Whys i11) .z (Lens.comp (Lens.comp (Lens.whole _ _) (fun z => { x0 with f_Whys := z }) (c_census_Count_f_Whys x0)) (fun z => vset x0.f_Whys i11 z) (Lens.vec (cInt .i64) (by decide) x0.f_Whys i11 h13)) rfl)) ?_
            refine atq_val rfl rfl rfl (r_move rfl) ?_
            refine atq_val rfl rfl rfl (r_move rfl) ?_
            obtain ⟨t14, ht14, hF⟩ := of_bindM hF
            refine atq_call Tryd.func36 rfl (by kernel_rfl) rfl rfl (fun w hw => (crawlwayref52_Drops_ok _ _ _ _ _ ht14 w (hr1.below hw.below)).mono fun _ _ h => ⟨h.1, hw.call h.2⟩) ?_
            refine atq_val rfl rfl rfl (r_ineq rfl rfl) ?_
            refine atq_nil ?_
            refine at_weak [(1, _), (2, _), (8, _), (44, _)] ⟨rfl, rfl, rfl, rfl, trivial⟩ ?_
            refine at_then_normal ?_
            rcases of_ite hF with ⟨h15, hF⟩ | ⟨h15, hF⟩
            · refine at_cond_true rfl h15 ?_
              refine at_seq ?_
              refine at_region ?_
              refine at_val rfl rfl rfl (r_assign rfl) ?_
              refine at_nil ?_
              refine at_drop (H := _) .z ?_
              refine at_weak [(4, _)] ⟨rfl, trivial⟩ ?_
              refine at_then_normal ?_
              refine at_ret ?_
              refine at_blk_ret (at_then_ret (at_then_ret (at_blk_ret (at_then_ret ?_))))
              obtain rfl := of_some hF
              subst K
              exact at_return1 rfl rfl (fun w1 hw => ⟨rfl, hw.below⟩)
            · refine at_cond_false rfl h15 ?_
              refine at_skip ?_
              refine at_blk_normal (at_then_normal ?_)
              refine at_region ?_
              refine at_val rfl rfl rfl (r_move rfl) ?_
              refine at_val rfl rfl rfl (r_iadd rfl rfl) ?_
              refine at_val rfl rfl rfl (r_assign rfl) ?_
              refine at_nil ?_
              refine at_weak [(1, _), (2, _), (8, _)] ⟨rfl, rfl, rfl, trivial⟩ ?_
              refine at_then_normal ?_
              exact at_weak_k (ih _ _ hF K) ⟨rfl, rfl, rfl, trivial⟩
          · refine at_cond_false rfl h12 ?_
            refine at_exit ?_
            refine at_then_exit (at_then_exit ?_)
            refine at_drop (H := _) .z ?_
            obtain rfl := of_some hF
            exact at_weak_k K trivial
      · cases q10 with
        | ret r' => exact of_some hF
        | nx sq10 =>
          skip
          refine at_blk_same ?_
          refine at_then_normal ?_
          refine at_seq ?_
          refine at_region ?_
          refine at_val rfl rfl rfl (r_assign rfl) ?_
          refine at_nil ?_
          refine at_weak [(4, _)] ⟨rfl, trivial⟩ ?_
          refine at_then_normal ?_
          refine at_ret ?_
          have K := of_some hF
          subst K
          exact at_return1 rfl rfl (fun w1 hw => ⟨rfl, hw.below⟩)

def census_Add.l0 (x1 : S_census_Count) (i5 : Int) (i6 : S_census_Count) : Option (S_census_Count) :=
  if (decide (i5 < 7)) = true then (if (0 : Int) ≤ i5 ∧ i5 < 7 then if (0 : Int) ≤ i5 ∧ i5 < 7 then if (0 : Int) ≤ i5 ∧ i5 < 7 then if (0 : Int) ≤ i5 ∧ i5 < 7 then if (0 : Int) ≤ i5 ∧ i5 < 7 then if (0 : Int) ≤ i5 ∧ i5 < 7 then census_Add.l0 x1 (wr .i64 (i5 + 1)) ({ { i6 with f_Kinds := vset i6.f_Kinds i5 (wr .i64 ((vget i6.f_Kinds i5) + (vget x1.f_Kinds i5))) } with f_Bytes := vset (({ i6 with f_Kinds := vset i6.f_Kinds i5 (wr .i64 ((vget i6.f_Kinds i5) + (vget x1.f_Kinds i5))) }).f_Bytes) i5 (wr .i64 ((vget (({ i6 with f_Kinds := vset i6.f_Kinds i5 (wr .i64 ((vget i6.f_Kinds i5) + (vget x1.f_Kinds i5))) }).f_Bytes) i5) + (vget x1.f_Bytes i5))) }) else none else none else none else none else none else none) else (some i6)
  partial_fixpoint
def census_Add.l1 (x1 : S_census_Count) (i17 : Int) (i18 : S_census_Count) : Option (S_census_Count) :=
  if (decide (i17 < 21)) = true then (if (0 : Int) ≤ i17 ∧ i17 < 21 then if (0 : Int) ≤ i17 ∧ i17 < 21 then if (0 : Int) ≤ i17 ∧ i17 < 21 then census_Add.l1 x1 (wr .i64 (i17 + 1)) ({ i18 with f_Whys := vset i18.f_Whys i17 (wr .i64 ((vget i18.f_Whys i17) + (vget x1.f_Whys i17))) }) else none else none else none) else (some i18)
  partial_fixpoint
def census_Add (x0 : S_census_Count) (x1 : S_census_Count) : Option (S_census_Count) :=
  census_Add.l0 x1 0 x0 >>= fun q4 => census_Add.l1 x1 0 q4 >>= fun q16 => some q16
set_option maxHeartbeats 3200000 in
theorem census_Add_ok (x0 : S_census_Count) (x1 : S_census_Count) (r : S_census_Count) (hF : census_Add x0 x1 = some r) (w : World) :
    Calls Tryd.prog 25 #[.agg (Cd.cs c_census_Count x0).toArray, .agg (Cd.cs c_census_Count x1).toArray] w (fun e w' => e = .returned (.agg (Cd.cs c_census_Count r).toArray) ∧ Below w.heap.size w w') := by
  unfold census_Add at hF
  refine calls_enter (l := [.agg (Cd.cs c_census_Count x0).toArray, .agg (Cd.cs c_census_Count x1).toArray]) Tryd.func25 rfl rfl rfl ?_
  refine at_start ?_
  refine at_weak [(0, _), (1, _)] ⟨rfl, rfl, trivial⟩ ?_
  refine at_seq ?_
  refine at_region ?_
  refine at_box (cs := Cd.cs c_census_Count x0) rfl rfl rfl ?_
  intro b1
  refine at_box (cs := Cd.cs c_census_Count x1) rfl rfl rfl ?_
  intro b2
  refine at_alloc (cs := Cd.cs c_census_Count ({ f_Kinds := (Vector.replicate 7 (0 : Int) : (Vector Int 7)), f_Bytes := (Vector.replicate 7 (0 : Int) : (Vector Int 7)), f_Whys := (Vector.replicate 21 (0 : Int) : (Vector Int 21)) } : S_census_Count)) Tryd.zeroValue37 rfl rfl ?_
  intro b3
  refine at_nil ?_
  refine at_weak [(2, _), (3, _), (4, _)] ⟨rfl, rfl, rfl, trivial⟩ ?_
  refine at_then_normal ?_
  refine at_seq ?_
  refine at_seq ?_
  refine at_region ?_
  refine at_val rfl rfl rfl (r_move rfl) ?_
  refine at_nil ?_
  refine at_weak [(2, _), (3, _), (4, _), (7, _)] ⟨rfl, rfl, rfl, rfl, trivial⟩ ?_
  refine at_then_normal ?_
  refine at_block ?_
  obtain ⟨q4, hq4, hF⟩ := of_bindM hF
  refine at_weak [(2, _), (3, _), (4, _), (7, _)] ⟨rfl, rfl, rfl, rfl, trivial⟩ ?_
  refine at_loop_n (B := 0) (A := fun Y => At 49 [(2, .pointer (some ⟨b1, 0, none⟩)), (3, .pointer (some ⟨b2, 0, none⟩)), (4, .pointer (some ⟨b3, 0, none⟩))] (Wd w [cellsE b3 (Cd.cs c_census_Count ({ f_Kinds := (Vector.replicate 7 (0 : Int) : (Vector Int 7)), f_Bytes := (Vector.replicate 7 (0 : Int) : (Vector Int 7)), f_Whys := (Vector.replicate 21 (0 : Int) : (Vector Int 21)) } : S_census_Count)) 37, cellsE b2 (Cd.cs c_census_Count x1) 37, cellsE b1 (Cd.cs c_census_Count q4) 37]) Y) ?_ ?_
  · intro K
    refine census_Add.l0.partial_correctness x1 (motive := fun i5 i6 x => KN (fun Y => At 49 [(2, .pointer (some ⟨b1, 0, none⟩)), (3, .pointer (some ⟨b2, 0, none⟩)), (4, .pointer (some ⟨b3, 0, none⟩))] (Wd w [cellsE b3 (Cd.cs c_census_Count ({ f_Kinds := (Vector.replicate 7 (0 : Int) : (Vector Int 7)), f_Bytes := (Vector.replicate 7 (0 : Int) : (Vector Int 7)), f_Whys := (Vector.replicate 21 (0 : Int) : (Vector Int 21)) } : S_census_Count)) 37, cellsE b2 (Cd.cs c_census_Count x1) 37, cellsE b1 (Cd.cs c_census_Count x) 37]) Y) _ 0 → Round (fun Y => At 49 [(2, .pointer (some ⟨b1, 0, none⟩)), (3, .pointer (some ⟨b2, 0, none⟩)), (4, .pointer (some ⟨b3, 0, none⟩)), (7, .int .i64 i5)] (Wd w [cellsE b3 (Cd.cs c_census_Count ({ f_Kinds := (Vector.replicate 7 (0 : Int) : (Vector Int 7)), f_Bytes := (Vector.replicate 7 (0 : Int) : (Vector Int 7)), f_Whys := (Vector.replicate 21 (0 : Int) : (Vector Int 21)) } : S_census_Count)) 37, cellsE b2 (Cd.cs c_census_Count x1) 37, cellsE b1 (Cd.cs c_census_Count i6) 37]) Y) _ _ _) ?_ _ _ _ hq4 K
    · clear K hF
      intro g ih i5 i6 x hF K
      refine at_round ?_
      refine at_seq ?_
      refine at_region ?_
      refine at_val rfl rfl rfl (r_ilss rfl rfl) ?_
      refine at_nil ?_
      refine at_weak [(2, _), (3, _), (4, _), (7, _), (8, _)] ⟨rfl, rfl, rfl, rfl, rfl, trivial⟩ ?_
      refine at_then_normal ?_
      refine at_seq ?_
      rcases of_ite hF with ⟨h7, hF⟩ | ⟨h7, hF⟩
      · refine at_cond_true rfl h7 ?_
        refine at_skip ?_
        refine at_then_normal ?_
        refine at_seq ?_
        refine at_block ?_
        refine at_seq ?_
        refine at_region ?_
        refine at_val rfl rfl rfl (r_move rfl) ?_
        refine at_val rfl rfl rfl (r_assign rfl) ?_
        refine at_nil ?_
        refine at_weak [(2, _), (3, _), (4, _), (5, _), (7, _)] ⟨rfl, rfl, rfl, rfl, rfl, trivial⟩ ?_
        refine at_then_normal ?_
        refine at_seq ?_
        refine at_weak [(2, _), (3, _), (4, _), (5, _), (7, _)] ⟨rfl, rfl, rfl, rfl, rfl, trivial⟩ ?_
        obtain ⟨h8, hF⟩ := of_guard hF
        obtain ⟨h9, hF⟩ := of_guard hF
        obtain ⟨h10, hF⟩ := of_guard hF
        refine at_inv [.q 10 (fun g11 => .int .i64 i5) [] 0 0, .q 11 (fun g11 => .pointer (some ⟨b1, 0 + 0, none⟩)) [] 0 0, .q 12 (fun g11 => .pointer (some ⟨b1, 0 + 0 + Int.toNat i5 * 1, none⟩)) [0, 1] 0 0, .q 13 (fun g11 => .int .i64 (vget i6.f_Kinds i5)) [2] 0 0, .q 14 (fun g11 => .int .i64 i5) [] 0 0, .q 15 (fun g11 => .pointer (some ⟨b2, 0 + 0, none⟩)) [] 0 0, .q 16 (fun g11 => .pointer (some ⟨b2, 0 + 0 + Int.toNat i5 * 1, none⟩)) [4, 5] 0 0, .q 17 (fun g11 => .int .i64 (vget x1.f_Kinds i5)) [6] 0 0, .q 18 (fun g11 => .int .i64 (wr .i64 ((vget i6.f_Kinds i5) + (vget x1.f_Kinds i5)))) [3, 7] 0 0, .q 19 (fun g11 => .pointer (some ⟨b1, 0 + 0, none⟩)) [] 0 1, .q 20 (fun g11 => .pointer (some ⟨b1, 0 + 0 + Int.toNat i5 * 1, none⟩)) [0, 9] 0 0, .st 0 none [8, 10]] (fun g11 s => match s with | 0 => (Wd w [cellsE b3 (Cd.cs c_census_Count ({ f_Kinds := (Vector.replicate 7 (0 : Int) : (Vector Int 7)), f_Bytes := (Vector.replicate 7 (0 : Int) : (Vector Int 7)), f_Whys := (Vector.replicate 21 (0 : Int) : (Vector Int 21)) } : S_census_Count)) 37, cellsE b2 (Cd.cs c_census_Count x1) 37, cellsE b1 (Cd.cs c_census_Count i6) 37]) | _ => (Wd w [cellsE b3 (Cd.cs c_census_Count ({ f_Kinds := (Vector.replicate 7 (0 : Int) : (Vector Int 7)), f_Bytes := (Vector.replicate 7 (0 : Int) : (Vector Int 7)), f_Whys := (Vector.replicate 21 (0 : Int) : (Vector Int 21)) } : S_census_Count)) 37, cellsE b2 (Cd.cs c_census_Count x1) 37, cellsE b1 (Cd.cs c_census_Count ({ i6 with f_Kinds := vset i6.f_Kinds i5 (wr .i64 ((vget i6.f_Kinds i5) + (vget x1.f_Kinds i5))) })) 37])) 1 (by kernel_rfl) (by kernel_rfl) (by kernel_rfl) (by kernel_rfl) (by kernel_rfl) ⟨fun _ _ _ => rfl, fun _ _ _ => rfl, fun _ _ _ => rfl, fun _ _ _ => rfl, fun _ _ _ => rfl, fun _ _ _ => rfl, fun _ _ _ => rfl, fun _ _ _ => rfl, fun _ _ _ => rfl, fun _ _ _ => rfl, fun _ _ _ => rfl, fun _ _ _ => rfl, trivial⟩ (by kernel_rfl) (fun _ h => ⟨fun _ => (0, none, 0, none), h.drew⟩) ⟨?_, ?_, ?_, ?_, ?_, ?_, ?_, ?_, ?_, ?_, ?_, ?_, trivial⟩ ?_
        · intro Lx g11 s K hl hh k
          show At 49 ((2, _) :: (3, _) :: (4, _) :: (5, _) :: (7, _) :: Lx) _ _
          refine at_val rfl rfl rfl (r_move rfl) ?_
          exact at_nil k
        · intro Lx g11 s K hl hh k
          show At 49 ((2, _) :: (3, _) :: (4, _) :: (5, _) :: (7, _) :: Lx) _ _
          refine at_val rfl rfl rfl (r_fieldAddr (fo := 0) Tryd.underlying37 rfl rfl (fun w => ⟨_, Tryd.sizeOf34 w⟩) rfl) ?_
          exact at_nil k
        · intro Lx g11 s K hl hh k
          show At 49 ((10, _) :: (11, _) :: (2, _) :: (3, _) :: (4, _) :: (5, _) :: (7, _) :: Lx) _ _
          refine at_val rfl rfl rfl (r_idxArr Tryd.underlying34 Tryd.sizeOf3 rfl rfl h8) ?_
          exact at_nil k
        · intro Lx g11 s K hl hh k
          show At 49 ((12, _) :: (2, _) :: (3, _) :: (4, _) :: (5, _) :: (7, _) :: Lx) _ _
          obtain rfl : s = 0 := by omega
          refine at_val rfl rfl rfl (r_load_cell Tryd.isAgg3 rfl (lens_cell0 (c := (cInt .i64)) (y := vget i6.f_Kinds i5) (.s (.s .z)) (Lens.comp (Lens.comp (Lens.whole _ _) (fun z => { i6 with f_Kinds := z }) (c_census_Count_f_Kinds i6)) (fun z => vset i6.f_Kinds i5 z) (Lens.vec (cInt .i64) (by decide) i6.f_Kinds i5 h8)) rfl)) ?_
          exact at_nil k
        · intro Lx g11 s K hl hh k
          show At 49 ((2, _) :: (3, _) :: (4, _) :: (5, _) :: (7, _) :: Lx) _ _
          refine at_val rfl rfl rfl (r_move rfl) ?_
          exact at_nil k
        · intro Lx g11 s K hl hh k
          show At 49 ((2, _) :: (3, _) :: (4, _) :: (5, _) :: (7, _) :: Lx) _ _
          refine at_val rfl rfl rfl (r_fieldAddr (fo := 0) Tryd.underlying37 rfl rfl (fun w => ⟨_, Tryd.sizeOf34 w⟩) rfl) ?_
          exact at_nil k
        · intro Lx g11 s K hl hh k
          show At 49 ((14, _) :: (15, _) :: (2, _) :: (3, _) :: (4, _) :: (5, _) :: (7, _) :: Lx) _ _
          refine at_val rfl rfl rfl (r_idxArr Tryd.underlying34 Tryd.sizeOf3 rfl rfl h9) ?_
          exact at_nil k
        · intro Lx g11 s K hl hh k
          show At 49 ((16, _) :: (2, _) :: (3, _) :: (4, _) :: (5, _) :: (7, _) :: Lx) _ _
          obtain rfl : s = 0 := by omega
          refine at_val rfl rfl rfl (r_load_cell Tryd.isAgg3 rfl (lens_cell0 (c := (cInt .i64)) (y := vget x1.f_Kinds i5) (.s .z) (Lens.comp (Lens.comp (Lens.whole _ _) (fun z => { x1 with f_Kinds := z }) (c_census_Count_f_Kinds x1)) (fun z => vset x1.f_Kinds i5 z) (Lens.vec (cInt .i64) (by decide) x1.f_Kinds i5 h9)) rfl)) ?_
          exact at_nil k
        · intro Lx g11 s K hl hh k
          show At 49 ((13, _) :: (17, _) :: (2, _) :: (3, _) :: (4, _) :: (5, _) :: (7, _) :: Lx) _ _
          refine at_val rfl rfl rfl (r_iadd rfl rfl) ?_
          exact at_nil k
        · intro Lx g11 s K hl hh k
          show At 49 ((2, _) :: (3, _) :: (4, _) :: (5, _) :: (7, _) :: Lx) _ _
          refine at_val rfl rfl rfl (r_fieldAddr (fo := 0) Tryd.underlying37 rfl rfl (fun w => ⟨_, Tryd.sizeOf34 w⟩) rfl) ?_
          exact at_nil k
        · intro Lx g11 s K hl hh k
          show At 49 ((10, _) :: (19, _) :: (2, _) :: (3, _) :: (4, _) :: (5, _) :: (7, _) :: Lx) _ _
          refine at_val rfl rfl rfl (r_idxArr Tryd.underlying34 Tryd.sizeOf3 rfl rfl h10) ?_
          exact at_nil k
        · intro Lx g11 K k
          show At 49 ((18, _) :: (20, _) :: (2, _) :: (3, _) :: (4, _) :: (5, _) :: (7, _) :: Lx) _ _
          refine at_store (c := (cInt .i64)) (z := wr .i64 ((vget i6.f_Kinds i5) + (vget x1.f_Kinds i5))) (.s (.s .z)) (Lens.comp (Lens.comp (Lens.whole _ _) (fun z => { i6 with f_Kinds := z }) (c_census_Count_f_Kinds i6)) (fun z => vset i6.f_Kinds i5 z) (Lens.vec (cInt .i64) (by decide) i6.f_Kinds i5 h10)) Tryd.sizeOf3 rfl rfl rfl ?_
          exact at_nil k
        intro g11
        show At 49 [(10, _), (11, _), (12, _), (13, _), (14, _), (15, _), (16, _), (17, _), (18, _), (19, _), (20, _), (2, _), (3, _), (4, _), (5, _), (7, _)] _ _
        refine at_weak [(2, _), (3, _), (4, _), (5, _), (7, _)] ⟨rfl, rfl, rfl, rfl, rfl, trivial⟩ ?_
        refine at_then_normal ?_
        refine at_weak [(2, _), (3, _), (4, _), (5, _), (7, _)] ⟨rfl, rfl, rfl, rfl, rfl, trivial⟩ ?_
        obtain ⟨h12, hF⟩ := of_guard hF
        obtain ⟨h13, hF⟩ := of_guard hF
        obtain ⟨h14, hF⟩ := of_guard hF
        refine at_inv [.q 21 (fun g15 => .int .i64 i5) [] 0 0, .q 22 (fun g15 => .pointer (some ⟨b1, 0 + 7, none⟩)) [] 0 0, .q 23 (fun g15 => .pointer (some ⟨b1, 0 + 7 + Int.toNat i5 * 1, none⟩)) [0, 1] 0 0, .q 24 (fun g15 => .int .i64 (vget (({ i6 with f_Kinds := vset i6.f_Kinds i5 (wr .i64 ((vget i6.f_Kinds i5) + (vget x1.f_Kinds i5))) }).f_Bytes) i5)) [2] 0 0, .q 25 (fun g15 => .int .i64 i5) [] 0 0, .q 26 (fun g15 => .pointer (some ⟨b2, 0 + 7, none⟩)) [] 0 0, .q 27 (fun g15 => .pointer (some ⟨b2, 0 + 7 + Int.toNat i5 * 1, none⟩)) [4, 5] 0 0, .q 28 (fun g15 => .int .i64 (vget x1.f_Bytes i5)) [6] 0 0, .q 29 (fun g15 => .int .i64 (wr .i64 ((vget (({ i6 with f_Kinds := vset i6.f_Kinds i5 (wr .i64 ((vget i6.f_Kinds i5) + (vget x1.f_Kinds i5))) }).f_Bytes) i5) + (vget x1.f_Bytes i5)))) [3, 7] 0 0, .q 30 (fun g15 => .pointer (some ⟨b1, 0 + 7, none⟩)) [] 0 1, .q 31 (fun g15 => .pointer (some ⟨b1, 0 + 7 + Int.toNat i5 * 1, none⟩)) [0, 9] 0 0, .st 0 none [8, 10]] (fun g15 s => match s with | 0 => (Wd w [cellsE b3 (Cd.cs c_census_Count ({ f_Kinds := (Vector.replicate 7 (0 : Int) : (Vector Int 7)), f_Bytes := (Vector.replicate 7 (0 : Int) : (Vector Int 7)), f_Whys := (Vector.replicate 21 (0 : Int) : (Vector Int 21)) } : S_census_Count)) 37, cellsE b2 (Cd.cs c_census_Count x1) 37, cellsE b1 (Cd.cs c_census_Count ({ i6 with f_Kinds := vset i6.f_Kinds i5 (wr .i64 ((vget i6.f_Kinds i5) + (vget x1.f_Kinds i5))) })) 37]) | _ => (Wd w [cellsE b3 (Cd.cs c_census_Count ({ f_Kinds := (Vector.replicate 7 (0 : Int) : (Vector Int 7)), f_Bytes := (Vector.replicate 7 (0 : Int) : (Vector Int 7)), f_Whys := (Vector.replicate 21 (0 : Int) : (Vector Int 21)) } : S_census_Count)) 37, cellsE b2 (Cd.cs c_census_Count x1) 37, cellsE b1 (Cd.cs c_census_Count ({ { i6 with f_Kinds := vset i6.f_Kinds i5 (wr .i64 ((vget i6.f_Kinds i5) + (vget x1.f_Kinds i5))) } with f_Bytes := vset (({ i6 with f_Kinds := vset i6.f_Kinds i5 (wr .i64 ((vget i6.f_Kinds i5) + (vget x1.f_Kinds i5))) }).f_Bytes) i5 (wr .i64 ((vget (({ i6 with f_Kinds := vset i6.f_Kinds i5 (wr .i64 ((vget i6.f_Kinds i5) + (vget x1.f_Kinds i5))) }).f_Bytes) i5) + (vget x1.f_Bytes i5))) })) 37])) 1 (by kernel_rfl) (by kernel_rfl) (by kernel_rfl) (by kernel_rfl) (by kernel_rfl) ⟨fun _ _ _ => rfl, fun _ _ _ => rfl, fun _ _ _ => rfl, fun _ _ _ => rfl, fun _ _ _ => rfl, fun _ _ _ => rfl, fun _ _ _ => rfl, fun _ _ _ => rfl, fun _ _ _ => rfl, fun _ _ _ => rfl, fun _ _ _ => rfl, fun _ _ _ => rfl, trivial⟩ (by kernel_rfl) (fun _ h => ⟨fun _ => (0, none, 0, none), h.drew⟩) ⟨?_, ?_, ?_, ?_, ?_, ?_, ?_, ?_, ?_, ?_, ?_, ?_, trivial⟩ ?_
        · intro Lx g15 s K hl hh k
          show At 49 ((2, _) :: (3, _) :: (4, _) :: (5, _) :: (7, _) :: Lx) _ _
          refine at_val rfl rfl rfl (r_move rfl) ?_
          exact at_nil k
        · intro Lx g15 s K hl hh k
          show At 49 ((2, _) :: (3, _) :: (4, _) :: (5, _) :: (7, _) :: Lx) _ _
          refine at_val rfl rfl rfl (r_fieldAddr (fo := 7) Tryd.underlying37 rfl rfl (fun w => ⟨_, Tryd.sizeOf34 w⟩) rfl) ?_
          exact at_nil k
        · intro Lx g15 s K hl hh k
          show At 49 ((21, _) :: (22, _) :: (2, _) :: (3, _) :: (4, _) :: (5, _) :: (7, _) :: Lx) _ _
          refine at_val rfl rfl rfl (r_idxArr Tryd.underlying34 Tryd.sizeOf3 rfl rfl h12) ?_
          exact at_nil k
        · intro Lx g15 s K hl hh k
          show At 49 ((23, _) :: (2, _) :: (3, _) :: (4, _) :: (5, _) :: (7, _) :: Lx) _ _
          obtain rfl : s = 0 := by omega
          refine at_val rfl rfl rfl (r_load_cell Tryd.isAgg3 rfl (lens_cell0 (c := (cInt .i64)) (y := vget (({ i6 with f_Kinds := vset i6.f_Kinds i5 (wr .i64 ((vget i6.f_Kinds i5) + (vget x1.f_Kinds i5))) }).f_Bytes) i5) (.s (.s .z)) (Lens.comp (Lens.comp (Lens.whole _ _) (fun z => { { i6 with f_Kinds := vset i6.f_Kinds i5 (wr .i64 ((vget i6.f_Kinds i5) + (vget x1.f_Kinds i5))) } with f_Bytes := z }) (c_census_Count_f_Bytes ({ i6 with f_Kinds := vset i6.f_Kinds i5 (wr .i64 ((vget i6.f_Kinds i5) + (vget x1.f_Kinds i5))) }))) (fun z => vset (({ i6 with f_Kinds := vset i6.f_Kinds i5 (wr .i64 ((vget i6.f_Kinds i5) + (vget x1.f_Kinds i5))) }).f_Bytes) i5 z) (Lens.vec (cInt .i64) (by decide) (({ i6 with f_Kinds := vset i6.f_Kinds i5 (wr .i64 ((vget i6.f_Kinds i5) + (vget x1.f_Kinds i5))) }).f_Bytes) i5 h12)) rfl)) ?_
          exact at_nil k
        · intro Lx g15 s K hl hh k
          show At 49 ((2, _) :: (3, _) :: (4, _) :: (5, _) :: (7, _) :: Lx) _ _
          refine at_val rfl rfl rfl (r_move rfl) ?_
          exact at_nil k
        · intro Lx g15 s K hl hh k
          show At 49 ((2, _) :: (3, _) :: (4, _) :: (5, _) :: (7, _) :: Lx) _ _
          refine at_val rfl rfl rfl (r_fieldAddr (fo := 7) Tryd.underlying37 rfl rfl (fun w => ⟨_, Tryd.sizeOf34 w⟩) rfl) ?_
          exact at_nil k
        · intro Lx g15 s K hl hh k
          show At 49 ((25, _) :: (26, _) :: (2, _) :: (3, _) :: (4, _) :: (5, _) :: (7, _) :: Lx) _ _
          refine at_val rfl rfl rfl (r_idxArr Tryd.underlying34 Tryd.sizeOf3 rfl rfl h13) ?_
          exact at_nil k
        · intro Lx g15 s K hl hh k
          show At 49 ((27, _) :: (2, _) :: (3, _) :: (4, _) :: (5, _) :: (7, _) :: Lx) _ _
          obtain rfl : s = 0 := by omega
          refine at_val rfl rfl rfl (r_load_cell Tryd.isAgg3 rfl (lens_cell0 (c := (cInt .i64)) (y := vget x1.f_Bytes i5) (.s .z) (Lens.comp (Lens.comp (Lens.whole _ _) (fun z => { x1 with f_Bytes := z }) (c_census_Count_f_Bytes x1)) (fun z => vset x1.f_Bytes i5 z) (Lens.vec (cInt .i64) (by decide) x1.f_Bytes i5 h13)) rfl)) ?_
          exact at_nil k
        · intro Lx g15 s K hl hh k
          show At 49 ((24, _) :: (28, _) :: (2, _) :: (3, _) :: (4, _) :: (5, _) :: (7, _) :: Lx) _ _
          refine at_val rfl rfl rfl (r_iadd rfl rfl) ?_
          exact at_nil k
        · intro Lx g15 s K hl hh k
          show At 49 ((2, _) :: (3, _) :: (4, _) :: (5, _) :: (7, _) :: Lx) _ _
          refine at_val rfl rfl rfl (r_fieldAddr (fo := 7) Tryd.underlying37 rfl rfl (fun w => ⟨_, Tryd.sizeOf34 w⟩) rfl) ?_
          exact at_nil k
        · intro Lx g15 s K hl hh k
          show At 49 ((21, _) :: (30, _) :: (2, _) :: (3, _) :: (4, _) :: (5, _) :: (7, _) :: Lx) _ _
          refine at_val rfl rfl rfl (r_idxArr Tryd.underlying34 Tryd.sizeOf3 rfl rfl h14) ?_
          exact at_nil k
        · intro Lx g15 K k
          show At 49 ((29, _) :: (31, _) :: (2, _) :: (3, _) :: (4, _) :: (5, _) :: (7, _) :: Lx) _ _
          refine at_store (c := (cInt .i64)) (z := wr .i64 ((vget (({ i6 with f_Kinds := vset i6.f_Kinds i5 (wr .i64 ((vget i6.f_Kinds i5) + (vget x1.f_Kinds i5))) }).f_Bytes) i5) + (vget x1.f_Bytes i5))) (.s (.s .z)) (Lens.comp (Lens.comp (Lens.whole _ _) (fun z => { { i6 with f_Kinds := vset i6.f_Kinds i5 (wr .i64 ((vget i6.f_Kinds i5) + (vget x1.f_Kinds i5))) } with f_Bytes := z }) (c_census_Count_f_Bytes ({ i6 with f_Kinds := vset i6.f_Kinds i5 (wr .i64 ((vget i6.f_Kinds i5) + (vget x1.f_Kinds i5))) }))) (fun z => vset (({ i6 with f_Kinds := vset i6.f_Kinds i5 (wr .i64 ((vget i6.f_Kinds i5) + (vget x1.f_Kinds i5))) }).f_Bytes) i5 z) (Lens.vec (cInt .i64) (by decide) (({ i6 with f_Kinds := vset i6.f_Kinds i5 (wr .i64 ((vget i6.f_Kinds i5) + (vget x1.f_Kinds i5))) }).f_Bytes) i5 h14)) Tryd.sizeOf3 rfl rfl rfl ?_
          exact at_nil k
        intro g15
        show At 49 [(21, _), (22, _), (23, _), (24, _), (25, _), (26, _), (27, _), (28, _), (29, _), (30, _), (31, _), (2, _), (3, _), (4, _), (5, _), (7, _)] _ _
        refine at_weak [(2, _), (3, _), (4, _), (7, _)] ⟨rfl, rfl, rfl, rfl, trivial⟩ ?_
        refine at_blk_normal (at_then_normal ?_)
        refine at_region ?_
        refine at_val rfl rfl rfl (r_iadd rfl rfl) ?_
        refine at_val rfl rfl rfl (r_move rfl) ?_
        refine at_nil ?_
        refine at_weak [(2, _), (3, _), (4, _), (7, _)] ⟨rfl, rfl, rfl, rfl, trivial⟩ ?_
        refine at_then_normal ?_
        exact at_weak_k (ih _ _ _ hF K) ⟨rfl, rfl, rfl, rfl, trivial⟩
      · refine at_cond_false rfl h7 ?_
        refine at_exit ?_
        refine at_then_exit (at_then_exit ?_)
        obtain rfl := of_some hF
        exact at_weak_k K ⟨rfl, rfl, rfl, trivial⟩
  · skip
    skip
    refine at_blk_same ?_
    refine at_then_normal ?_
    refine at_seq ?_
    refine at_seq ?_
    refine at_region ?_
    refine at_val rfl rfl rfl (r_move rfl) ?_
    refine at_nil ?_
    refine at_weak [(2, _), (3, _), (4, _), (33, _)] ⟨rfl, rfl, rfl, rfl, trivial⟩ ?_
    refine at_then_normal ?_
    refine at_block ?_
    obtain ⟨q16, hq16, hF⟩ := of_bindM hF
    refine at_weak [(2, _), (3, _), (4, _), (33, _)] ⟨rfl, rfl, rfl, rfl, trivial⟩ ?_
    refine at_loop_n (B := 2) (A := fun Y => At 49 [(2, .pointer (some ⟨b1, 0, none⟩)), (4, .pointer (some ⟨b3, 0, none⟩))] (Wd w [cellsE b3 (Cd.cs c_census_Count ({ f_Kinds := (Vector.replicate 7 (0 : Int) : (Vector Int 7)), f_Bytes := (Vector.replicate 7 (0 : Int) : (Vector Int 7)), f_Whys := (Vector.replicate 21 (0 : Int) : (Vector Int 21)) } : S_census_Count)) 37, cellsE b1 (Cd.cs c_census_Count q16) 37]) Y) ?_ ?_
    · intro K
      refine census_Add.l1.partial_correctness x1 (motive := fun i17 i18 x => KN (fun Y => At 49 [(2, .pointer (some ⟨b1, 0, none⟩)), (4, .pointer (some ⟨b3, 0, none⟩))] (Wd w [cellsE b3 (Cd.cs c_census_Count ({ f_Kinds := (Vector.replicate 7 (0 : Int) : (Vector Int 7)), f_Bytes := (Vector.replicate 7 (0 : Int) : (Vector Int 7)), f_Whys := (Vector.replicate 21 (0 : Int) : (Vector Int 21)) } : S_census_Count)) 37, cellsE b1 (Cd.cs c_census_Count x) 37]) Y) _ 2 → Round (fun Y => At 49 [(2, .pointer (some ⟨b1, 0, none⟩)), (3, .pointer (some ⟨b2, 0, none⟩)), (4, .pointer (some ⟨b3, 0, none⟩)), (33, .int .i64 i17)] (Wd w [cellsE b3 (Cd.cs c_census_Count ({ f_Kinds := (Vector.replicate 7 (0 : Int) : (Vector Int 7)), f_Bytes := (Vector.replicate 7 (0 : Int) : (Vector Int 7)), f_Whys := (Vector.replicate 21 (0 : Int) : (Vector Int 21)) } : S_census_Count)) 37, cellsE b2 (Cd.cs c_census_Count x1) 37, cellsE b1 (Cd.cs c_census_Count i18) 37]) Y) _ _ _) ?_ _ _ _ hq16 K
      · clear K hF
        intro g ih i17 i18 x hF K
        refine at_round ?_
        refine at_seq ?_
        refine at_region ?_
        refine at_val rfl rfl rfl (r_ilss rfl rfl) ?_
        refine at_nil ?_
        refine at_weak [(2, _), (3, _), (4, _), (33, _), (34, _)] ⟨rfl, rfl, rfl, rfl, rfl, trivial⟩ ?_
        refine at_then_normal ?_
        refine at_seq ?_
        rcases of_ite hF with ⟨h19, hF⟩ | ⟨h19, hF⟩
        · refine at_cond_true rfl h19 ?_
          refine at_skip ?_
          refine at_then_normal ?_
          refine at_seq ?_
          refine at_block ?_
          refine at_seq ?_
          refine at_region ?_
          refine at_val rfl rfl rfl (r_move rfl) ?_
          refine at_val rfl rfl rfl (r_assign rfl) ?_
          refine at_nil ?_
          refine at_weak [(2, _), (3, _), (4, _), (6, _), (33, _)] ⟨rfl, rfl, rfl, rfl, rfl, trivial⟩ ?_
          refine at_then_normal ?_
          refine at_weak [(2, _), (3, _), (4, _), (6, _), (33, _)] ⟨rfl, rfl, rfl, rfl, rfl, trivial⟩ ?_
          obtain ⟨h20, hF⟩ := of_guard hF
          obtain ⟨h21, hF⟩ := of_guard hF
          obtain ⟨h22, hF⟩ := of_guard hF
          refine at_inv [.q 36 (fun g23 => .int .i64 i17) [] 0 0, .q 37 (fun g23 => .pointer (some ⟨b1, 0 + 14, none⟩)) [] 0 0, .q 38 (fun g23 => .pointer (some ⟨b1, 0 + 14 + Int.toNat i17 * 1, none⟩)) [0, 1] 0 0, .q 39 (fun g23 => .int .i64 (vget i18.f_Whys i17)) [2] 0 0, .q 40 (fun g23 => .int .i64 i17) [] 0 0, .q 41 (fun g23 => .pointer (some ⟨b2, 0 + 14, none⟩)) [] 0 0, .q 42 (fun g23 => .pointer (some ⟨b2, 0 + 14 + Int.toNat i17 * 1, none⟩)) [4, 5] 0 0, .q 43 (fun g23 => .int .i64 (vget x1.f_Whys i17)) [6] 0 0, .q 44 (fun g23 => .int .i64 (wr .i64 ((vget i18.f_Whys i17) + (vget x1.f_Whys i17)))) [3, 7] 0 0, .q 45 (fun g23 => .pointer (some ⟨b1, 0 + 14, none⟩)) [] 0 1, .q 46 (fun g23 => .pointer (some ⟨b1, 0 + 14 + Int.toNat i17 * 1, none⟩)) [0, 9] 0 0, .st 0 none [8, 10]] (fun g23 s => match s with | 0 => (Wd w [cellsE b3 (Cd.cs c_census_Count ({ f_Kinds := (Vector.replicate 7 (0 : Int) : (Vector Int 7)), f_Bytes := (Vector.replicate 7 (0 : Int) : (Vector Int 7)), f_Whys := (Vector.replicate 21 (0 : Int) : (Vector Int 21)) } : S_census_Count)) 37, cellsE b2 (Cd.cs c_census_Count x1) 37, cellsE b1 (Cd.cs c_census_Count i18) 37]) | _ => (Wd w [cellsE b3 (Cd.cs c_census_Count ({ f_Kinds := (Vector.replicate 7 (0 : Int) : (Vector Int 7)), f_Bytes := (Vector.replicate 7 (0 : Int) : (Vector Int 7)), f_Whys := (Vector.replicate 21 (0 : Int) : (Vector Int 21)) } : S_census_Count)) 37, cellsE b2 (Cd.cs c_census_Count x1) 37, cellsE b1 (Cd.cs c_census_Count ({ i18 with f_Whys := vset i18.f_Whys i17 (wr .i64 ((vget i18.f_Whys i17) + (vget x1.f_Whys i17))) })) 37])) 1 (by kernel_rfl) (by kernel_rfl) (by kernel_rfl) (by kernel_rfl) (by kernel_rfl) ⟨fun _ _ _ => rfl, fun _ _ _ => rfl, fun _ _ _ => rfl, fun _ _ _ => rfl, fun _ _ _ => rfl, fun _ _ _ => rfl, fun _ _ _ => rfl, fun _ _ _ => rfl, fun _ _ _ => rfl, fun _ _ _ => rfl, fun _ _ _ => rfl, fun _ _ _ => rfl, trivial⟩ (by kernel_rfl) (fun _ h => ⟨fun _ => (0, none, 0, none), h.drew⟩) ⟨?_, ?_, ?_, ?_, ?_, ?_, ?_, ?_, ?_, ?_, ?_, ?_, trivial⟩ ?_
          · intro Lx g23 s K hl hh k
            show At 49 ((2, _) :: (3, _) :: (4, _) :: (6, _) :: (33, _) :: Lx) _ _
            refine at_val rfl rfl rfl (r_move rfl) ?_
            exact at_nil k
          · intro Lx g23 s K hl hh k
            show At 49 ((2, _) :: (3, _) :: (4, _) :: (6, _) :: (33, _) :: Lx) _ _
            refine at_val rfl rfl rfl (r_fieldAddr (fo := 14) Tryd.underlying37 rfl rfl (fun w => ⟨_, Tryd.sizeOf35 w⟩) rfl) ?_
            exact at_nil k
          · intro Lx g23 s K hl hh k
            show At 49 ((36, _) :: (37, _) :: (2, _) :: (3, _) :: (4, _) :: (6, _) :: (33, _) :: Lx) _ _
            refine at_val rfl rfl rfl (r_idxArr Tryd.underlying35 Tryd.sizeOf3 rfl rfl h20) ?_
            exact at_nil k
          · intro Lx g23 s K hl hh k
            show At 49 ((38, _) :: (2, _) :: (3, _) :: (4, _) :: (6, _) :: (33, _) :: Lx) _ _
            obtain rfl : s = 0 := by omega
            refine at_val rfl rfl rfl (r_load_cell Tryd.isAgg3 rfl (lens_cell0 (c := (cInt .i64)) (y := vget i18.f_Whys i17) (.s (.s .z)) (Lens.comp (Lens.comp (Lens.whole _ _) (fun z => { i18 with f_Whys := z }) (c_census_Count_f_Whys i18)) (fun z => vset i18.f_Whys i17 z) (Lens.vec (cInt .i64) (by decide) i18.f_Whys i17 h20)) rfl)) ?_
            exact at_nil k
          · intro Lx g23 s K hl hh k
            show At 49 ((2, _) :: (3, _) :: (4, _) :: (6, _) :: (33, _) :: Lx) _ _
            refine at_val rfl rfl rfl (r_move rfl) ?_
            exact at_nil k
          · intro Lx g23 s K hl hh k
            show At 49 ((2, _) :: (3, _) :: (4, _) :: (6, _) :: (33, _) :: Lx) _ _
            refine at_val rfl rfl rfl (r_fieldAddr (fo := 14) Tryd.underlying37 rfl rfl (fun w => ⟨_, Tryd.sizeOf35 w⟩) rfl) ?_
            exact at_nil k
          · intro Lx g23 s K hl hh k
            show At 49 ((40, _) :: (41, _) :: (2, _) :: (3, _) :: (4, _) :: (6, _) :: (33, _) :: Lx) _ _
            refine at_val rfl rfl rfl (r_idxArr Tryd.underlying35 Tryd.sizeOf3 rfl rfl h21) ?_
            exact at_nil k
          · intro Lx g23 s K hl hh k
            show At 49 ((42, _) :: (2, _) :: (3, _) :: (4, _) :: (6, _) :: (33, _) :: Lx) _ _
            obtain rfl : s = 0 := by omega
            refine at_val rfl rfl rfl (r_load_cell Tryd.isAgg3 rfl (lens_cell0 (c := (cInt .i64)) (y := vget x1.f_Whys i17) (.s .z) (Lens.comp (Lens.comp (Lens.whole _ _) (fun z => { x1 with f_Whys := z }) (c_census_Count_f_Whys x1)) (fun z => vset x1.f_Whys i17 z) (Lens.vec (cInt .i64) (by decide) x1.f_Whys i17 h21)) rfl)) ?_
            exact at_nil k
          · intro Lx g23 s K hl hh k
            show At 49 ((39, _) :: (43, _) :: (2, _) :: (3, _) :: (4, _) :: (6, _) :: (33, _) :: Lx) _ _
            refine at_val rfl rfl rfl (r_iadd rfl rfl) ?_
            exact at_nil k
          · intro Lx g23 s K hl hh k
            show At 49 ((2, _) :: (3, _) :: (4, _) :: (6, _) :: (33, _) :: Lx) _ _
            refine at_val rfl rfl rfl (r_fieldAddr (fo := 14) Tryd.underlying37 rfl rfl (fun w => ⟨_, Tryd.sizeOf35 w⟩) rfl) ?_
            exact at_nil k
          · intro Lx g23 s K hl hh k
            show At 49 ((36, _) :: (45, _) :: (2, _) :: (3, _) :: (4, _) :: (6, _) :: (33, _) :: Lx) _ _
            refine at_val rfl rfl rfl (r_idxArr Tryd.underlying35 Tryd.sizeOf3 rfl rfl h22) ?_
            exact at_nil k
          · intro Lx g23 K k
            show At 49 ((44, _) :: (46, _) :: (2, _) :: (3, _) :: (4, _) :: (6, _) :: (33, _) :: Lx) _ _
            refine at_store (c := (cInt .i64)) (z := wr .i64 ((vget i18.f_Whys i17) + (vget x1.f_Whys i17))) (.s (.s .z)) (Lens.comp (Lens.comp (Lens.whole _ _) (fun z => { i18 with f_Whys := z }) (c_census_Count_f_Whys i18)) (fun z => vset i18.f_Whys i17 z) (Lens.vec (cInt .i64) (by decide) i18.f_Whys i17 h22)) Tryd.sizeOf3 rfl rfl rfl ?_
            exact at_nil k
          intro g23
          show At 49 [(36, _), (37, _), (38, _), (39, _), (40, _), (41, _), (42, _), (43, _), (44, _), (45, _), (46, _), (2, _), (3, _), (4, _), (6, _), (33, _)] _ _
          refine at_weak [(2, _), (3, _), (4, _), (33, _)] ⟨rfl, rfl, rfl, rfl, trivial⟩ ?_
          refine at_blk_normal (at_then_normal ?_)
          refine at_region ?_
          refine at_val rfl rfl rfl (r_iadd rfl rfl) ?_
          refine at_val rfl rfl rfl (r_move rfl) ?_
          refine at_nil ?_
          refine at_weak [(2, _), (3, _), (4, _), (33, _)] ⟨rfl, rfl, rfl, rfl, trivial⟩ ?_
          refine at_then_normal ?_
          exact at_weak_k (ih _ _ _ hF K) ⟨rfl, rfl, rfl, rfl, trivial⟩
        · refine at_cond_false rfl h19 ?_
          refine at_exit ?_
          refine at_then_exit (at_then_exit ?_)
          refine at_drop (H := _) (.s .z) ?_
          obtain rfl := of_some hF
          exact at_weak_k K ⟨rfl, rfl, trivial⟩
    · skip
      skip
      refine at_blk_same ?_
      refine at_then_normal ?_
      refine at_seq ?_
      refine at_region ?_
      refine at_val rfl rfl rfl (r_load_aggc (c := c_census_Count) (z := q16) Tryd.isAgg37 Tryd.sizeOf37 rfl (lens_cell (.s .z) (Lens.whole _ _))) ?_
      refine at_store (c := c_census_Count) (z := q16) .z (Lens.whole _ _) Tryd.sizeOf37 rfl rfl rfl ?_
      refine at_nil ?_
      refine at_drop (H := _) (.s .z) ?_
      refine at_weak [(4, _)] ⟨rfl, trivial⟩ ?_
      refine at_then_normal ?_
      refine at_ret ?_
      have K := of_some hF
      subst K
      exact at_res1 rfl (res_cell (c := c_census_Count) (y := q16) rfl .z (Lens.whole _ _) Tryd.isAgg37 Tryd.sizeOf37 (.inl rfl)) (fun w1 hw => ⟨rfl, hw.below⟩)

def crawlwaylaw52_CensusCounts (x0 : List S_api_Event) (x1 : List S_api_Event) : Option (Bool) :=
  crawlwaylaw52_long x0 >>= fun t1 => if t1 = true then (crawlwaylaw52_alive >>= fun t3 => some t3) else (crawlwaylaw52_long x1 >>= fun t4 => if t4 = true then (crawlwaylaw52_alive >>= fun t6 => some t6) else (census_Of x0 >>= fun t7 => census_Of x1 >>= fun t9 => if (([] : List S_api_Event).length + x0.length) * 104 ≤ 140737488355328 then if ((([] : List S_api_Event) ++ x0).length + x1.length) * 104 ≤ 140737488355328 then crawlwaylaw52_is t7 x0 >>= fun t18 => if t18 = true then (crawlwaylaw52_is t9 x1 >>= fun t20 => if t20 = true then (census_Add t7 t9 >>= fun t22 => crawlwaylaw52_is t22 ((([] : List S_api_Event) ++ x0) ++ x1) >>= fun t23 => if t23 = true then (census_Of ((([] : List S_api_Event) ++ x0) ++ x1) >>= fun t25 => census_Add t7 t9 >>= fun t26 => if (decide (t25 = t26)) = true then (crawlwaylaw52_alive >>= fun t28 => some t28) else (some false)) else (some false)) else (some false)) else (some false) else none else none))
theorem crawlwaylaw52_CensusCounts_ok (x0 : List S_api_Event) (p0_ : Option Addr) (c0_ : Nat) (x1 : List S_api_Event) (p1_ : Option Addr) (c1_ : Nat) (r : Bool) (hF : crawlwaylaw52_CensusCounts x0 x1 = some r) (w : World) (hr0 : Row c_api_Event w p0_ c0_ x0) (hr1 : Row c_api_Event w p1_ c1_ x1) (hg_census_names : GV_census_names w) (hg_strconv_uint64pow10 : GV_strconv_uint64pow10 w) :
    Calls Tryd.prog 7 #[.slice p0_ x0.length c0_, .slice p1_ x1.length c1_] w (fun e w' => e = .returned (.bool r) ∧ Below w.heap.size w w') := by
  unfold crawlwaylaw52_CensusCounts at hF
  refine calls_enter (l := [.slice p0_ x0.length c0_, .slice p1_ x1.length c1_]) Tryd.func7 rfl rfl rfl ?_
  refine at_start ?_
  refine at_weak [(0, _), (1, _)] ⟨rfl, rfl, trivial⟩ ?_
  refine at_seq ?_
  refine at_region ?_
  refine at_val rfl rfl rfl (r_assign rfl) ?_
  refine at_nil ?_
  refine at_weak [(0, _), (1, _)] ⟨rfl, rfl, trivial⟩ ?_
  refine at_then_normal ?_
  refine at_seq ?_
  refine at_seq ?_
  refine at_region ?_
  refine at_val rfl rfl rfl (r_move rfl) ?_
  obtain ⟨t1, ht1, hF⟩ := of_bindM hF
  refine at_callB Tryd.func22 rfl (by kernel_rfl) rfl rfl (fun w hw => callB_of_call0 (crawlwaylaw52_long_ok _ _ _ _ ht1 w (hr0.below hw.below))) ?_
  refine at_val rfl rfl rfl (r_move rfl) ?_
  rcases of_ite hF with ⟨h2, hF⟩ | ⟨h2, hF⟩
  · refine at_fix (g := 10) rfl h2 ?_
    refine at_guard_no rfl rfl rfl rfl rfl ?_
    refine at_guard_no rfl rfl rfl rfl rfl ?_
    refine at_val rfl rfl rfl (r_pick rfl rfl rfl) ?_
    refine at_nil ?_
    refine at_weak [(0, _), (1, _), (13, _)] ⟨rfl, rfl, rfl, trivial⟩ ?_
    refine at_then_normal ?_
    refine at_cond_true rfl rfl ?_
    refine at_seq ?_
    refine at_region ?_
    obtain ⟨t3, ht3, hF⟩ := of_bindM hF
    refine at_callB Tryd.func21 rfl (by kernel_rfl) rfl rfl (fun w hw => crawlwaylaw52_alive_ok  _ ht3 w (hg_census_names.on hw.below) (hg_strconv_uint64pow10.on hw.below)) ?_
    refine at_val rfl rfl rfl (r_assign rfl) ?_
    refine at_nil ?_
    refine at_weak [(4, _)] ⟨rfl, trivial⟩ ?_
    refine at_then_normal ?_
    refine at_ret ?_
    refine at_then_ret ?_
    have K := of_some hF
    subst K
    exact at_return1 rfl rfl (fun w1 hw => ⟨rfl, hw.below⟩)
  · refine at_fix (g := 10) rfl h2 ?_
    refine at_guard_yes rfl rfl rfl ?_
    refine at_val rfl rfl rfl (r_move rfl) ?_
    refine at_guard_yes rfl rfl rfl ?_
    obtain ⟨t4, ht4, hF⟩ := of_bindM hF
    refine at_callB Tryd.func22 rfl (by kernel_rfl) rfl rfl (fun w hw => callB_of_call0 (crawlwaylaw52_long_ok _ _ _ _ ht4 w (hr1.below hw.below))) ?_
    refine at_val rfl rfl rfl (r_pick rfl rfl rfl) ?_
    refine at_nil ?_
    refine at_weak [(0, _), (1, _), (13, _)] ⟨rfl, rfl, rfl, trivial⟩ ?_
    refine at_then_normal ?_
    rcases of_ite hF with ⟨h5, hF⟩ | ⟨h5, hF⟩
    · refine at_cond_true rfl h5 ?_
      refine at_seq ?_
      refine at_region ?_
      obtain ⟨t6, ht6, hF⟩ := of_bindM hF
      refine at_callB Tryd.func21 rfl (by kernel_rfl) rfl rfl (fun w hw => crawlwaylaw52_alive_ok  _ ht6 w (hg_census_names.on hw.below) (hg_strconv_uint64pow10.on hw.below)) ?_
      refine at_val rfl rfl rfl (r_assign rfl) ?_
      refine at_nil ?_
      refine at_weak [(4, _)] ⟨rfl, trivial⟩ ?_
      refine at_then_normal ?_
      refine at_ret ?_
      refine at_then_ret ?_
      have K := of_some hF
      subst K
      exact at_return1 rfl rfl (fun w1 hw => ⟨rfl, hw.below⟩)
    · refine at_cond_false rfl h5 ?_
      refine at_skip ?_
      refine at_then_normal ?_
      refine at_seq ?_
      refine at_region ?_
      refine at_val rfl rfl rfl (r_move rfl) ?_
      obtain ⟨t7, ht7, hF⟩ := of_bindM hF
      refine at_callB Tryd.func23 rfl (by kernel_rfl) rfl rfl (fun w hw => census_Of_ok _ _ _ _ ht7 w (hr0.below hw.below)) ?_
      refine at_alloc (cs := Cd.cs c_census_Count ({ f_Kinds := (Vector.replicate 7 (0 : Int) : (Vector Int 7)), f_Bytes := (Vector.replicate 7 (0 : Int) : (Vector Int 7)), f_Whys := (Vector.replicate 21 (0 : Int) : (Vector Int 21)) } : S_census_Count)) Tryd.zeroValue37 rfl rfl ?_
      intro b8
      refine at_store (c := c_census_Count) (z := t7) .z (Lens.whole _ _) Tryd.sizeOf37 rfl rfl rfl ?_
      refine at_nil ?_
      refine at_weak [(0, _), (1, _), (5, _)] ⟨rfl, rfl, rfl, trivial⟩ ?_
      refine at_then_normal ?_
      refine at_seq ?_
      refine at_region ?_
      refine at_val rfl rfl rfl (r_move rfl) ?_
      obtain ⟨t9, ht9, hF⟩ := of_bindM hF
      refine at_callB Tryd.func23 rfl (by kernel_rfl) rfl rfl (fun w hw => census_Of_ok _ _ _ _ ht9 w (hr1.below hw.below)) ?_
      refine at_alloc (cs := Cd.cs c_census_Count ({ f_Kinds := (Vector.replicate 7 (0 : Int) : (Vector Int 7)), f_Bytes := (Vector.replicate 7 (0 : Int) : (Vector Int 7)), f_Whys := (Vector.replicate 21 (0 : Int) : (Vector Int 21)) } : S_census_Count)) Tryd.zeroValue37 rfl rfl ?_
      intro b10
      refine at_store (c := c_census_Count) (z := t9) .z (Lens.whole _ _) Tryd.sizeOf37 rfl rfl rfl ?_
      refine at_nil ?_
      refine at_weak [(0, _), (1, _), (5, _), (6, _)] ⟨rfl, rfl, rfl, rfl, trivial⟩ ?_
      refine at_then_normal ?_
      refine at_seq ?_
      refine at_region ?_
      refine at_lit0 c_api_Event Tryd.underlying41 Tryd.sizeOf58 rfl ?_
      intro b11
      refine at_val rfl rfl rfl (r_move rfl) ?_
      obtain ⟨h12, hF⟩ := of_guard hF
      refine at_append_row (z := .agg (Cd.cs c_api_Event ({ f_Kind := (0 : Int), f_Bytes := (⟨none, 0, 0⟩ : Hd), f_To := ({ f_A := ({ f_V := (0 : Int), f_B := (Vector.replicate 16 (0 : Int) : (Vector Int 16)) } : S_api_Addr), f_Port := (0 : Int) } : S_api_Endpoint), f_Key := (Vector.replicate 32 (0 : Int) : (Vector Int 32)), f_Why := (0 : Int) } : S_api_Event)).toArray) (c := c_api_Event) (ys := x0) .z Tryd.underlying41 infoC258 (by kernel_rfl) (by kernel_rfl) rfl rfl rfl (fun w1 hw => (hr0.below hw.below)) (by kernel_rfl) h12 (app_small h12) rfl ?_
      intro p13 c14
      refine at_val rfl rfl rfl (r_move rfl) ?_
      obtain ⟨h15, hF⟩ := of_guard hF
      refine at_append_row (z := .agg (Cd.cs c_api_Event ({ f_Kind := (0 : Int), f_Bytes := (⟨none, 0, 0⟩ : Hd), f_To := ({ f_A := ({ f_V := (0 : Int), f_B := (Vector.replicate 16 (0 : Int) : (Vector Int 16)) } : S_api_Addr), f_Port := (0 : Int) } : S_api_Endpoint), f_Key := (Vector.replicate 32 (0 : Int) : (Vector Int 32)), f_Why := (0 : Int) } : S_api_Event)).toArray) (c := c_api_Event) (ys := x1) .z Tryd.underlying41 infoC258 (by kernel_rfl) (by kernel_rfl) rfl rfl rfl (fun w1 hw => (hr1.below hw.below)) (by kernel_rfl) h15 (app_small h15) rfl ?_
      intro p16 c17
      refine at_val rfl rfl rfl (r_assign rfl) ?_
      refine at_nil ?_
      refine at_weak [(0, _), (1, _), (5, _), (6, _), (7, _)] ⟨rfl, rfl, rfl, rfl, rfl, trivial⟩ ?_
      refine at_then_normal ?_
      refine at_seq ?_
      refine at_draw (by kernel_rfl) (by kernel_rfl) (fun _ h => h.drew) ?_
      refine atq_val rfl rfl rfl (r_load_aggc (c := c_census_Count) (z := t7) Tryd.isAgg37 Tryd.sizeOf37 rfl (lens_cell (.s (.s .z)) (Lens.whole _ _))) ?_
      refine atq_val rfl rfl rfl (r_move rfl) ?_
      obtain ⟨t18, ht18, hF⟩ := of_bindM hF
      refine atq_call Tryd.func24 rfl (by kernel_rfl) rfl rfl (fun w hw => (crawlwaylaw52_is_ok _ _ _ _ _ ht18 w (hr0.below hw.below)).mono fun _ _ h => ⟨h.1, hw.call h.2⟩) ?_
      refine atq_val rfl rfl rfl (r_move rfl) ?_
      rcases of_ite hF with ⟨h19, hF⟩ | ⟨h19, hF⟩
      · refine atq_fix (g := 27) rfl h19 ?_
        refine atq_guard_yes rfl rfl rfl ?_
        refine atq_val rfl rfl rfl (r_load_aggc (c := c_census_Count) (z := t9) Tryd.isAgg37 Tryd.sizeOf37 rfl (lens_cell (.s .z) (Lens.whole _ _))) ?_
        refine atq_guard_yes rfl rfl rfl ?_
        refine atq_val rfl rfl rfl (r_move rfl) ?_
        refine atq_guard_yes rfl rfl rfl ?_
        obtain ⟨t20, ht20, hF⟩ := of_bindM hF
        refine atq_call Tryd.func24 rfl (by kernel_rfl) rfl rfl (fun w hw => (crawlwaylaw52_is_ok _ _ _ _ _ ht20 w (hr1.below hw.below)).mono fun _ _ h => ⟨h.1, hw.call h.2⟩) ?_
        refine atq_val rfl rfl rfl (r_pick rfl rfl rfl) ?_
        refine atq_val rfl rfl rfl (r_move rfl) ?_
        rcases of_ite hF with ⟨h21, hF⟩ | ⟨h21, hF⟩
        · refine atq_fix (g := 32) rfl h21 ?_
          refine atq_guard_yes rfl rfl rfl ?_
          refine atq_val rfl rfl rfl (r_load_aggc (c := c_census_Count) (z := t7) Tryd.isAgg37 Tryd.sizeOf37 rfl (lens_cell (.s (.s .z)) (Lens.whole _ _))) ?_
          refine atq_guard_yes rfl rfl rfl ?_
          refine atq_val rfl rfl rfl (r_load_aggc (c := c_census_Count) (z := t9) Tryd.isAgg37 Tryd.sizeOf37 rfl (lens_cell (.s .z) (Lens.whole _ _))) ?_
          refine atq_guard_yes rfl rfl rfl ?_
          obtain ⟨t22, ht22, hF⟩ := of_bindM hF
          refine atq_call Tryd.func25 rfl (by kernel_rfl) rfl rfl (fun w hw => (census_Add_ok _ _ _ ht22 w).mono fun _ _ h => ⟨h.1, hw.call h.2⟩) ?_
          refine atq_guard_yes rfl rfl rfl ?_
          refine atq_val rfl rfl rfl (r_move rfl) ?_
          refine atq_guard_yes rfl rfl rfl ?_
          obtain ⟨t23, ht23, hF⟩ := of_bindM hF
          refine atq_call Tryd.func24 rfl (by kernel_rfl) rfl rfl (fun w hw => (crawlwaylaw52_is_ok _ _ _ _ _ ht23 w (hw.own .z).row).mono fun _ _ h => ⟨h.1, hw.call h.2⟩) ?_
          refine atq_val rfl rfl rfl (r_pick rfl rfl rfl) ?_
          refine atq_val rfl rfl rfl (r_move rfl) ?_
          rcases of_ite hF with ⟨h24, hF⟩ | ⟨h24, hF⟩
          · refine atq_fix (g := 39) rfl h24 ?_
            refine atq_guard_yes rfl rfl rfl ?_
            refine atq_val rfl rfl rfl (r_move rfl) ?_
            refine atq_guard_yes rfl rfl rfl ?_
            obtain ⟨t25, ht25, hF⟩ := of_bindM hF
            refine atq_call Tryd.func23 rfl (by kernel_rfl) rfl rfl (fun w hw => (census_Of_ok _ _ _ _ ht25 w (hw.own .z).row).mono fun _ _ h => ⟨h.1, hw.call h.2⟩) ?_
            refine atq_guard_yes rfl rfl rfl ?_
            refine atq_val rfl rfl rfl (r_load_aggc (c := c_census_Count) (z := t7) Tryd.isAgg37 Tryd.sizeOf37 rfl (lens_cell (.s (.s .z)) (Lens.whole _ _))) ?_
            refine atq_guard_yes rfl rfl rfl ?_
            refine atq_val rfl rfl rfl (r_load_aggc (c := c_census_Count) (z := t9) Tryd.isAgg37 Tryd.sizeOf37 rfl (lens_cell (.s .z) (Lens.whole _ _))) ?_
            refine atq_guard_yes rfl rfl rfl ?_
            obtain ⟨t26, ht26, hF⟩ := of_bindM hF
            refine atq_call Tryd.func25 rfl (by kernel_rfl) rfl rfl (fun w hw => (census_Add_ok _ _ _ ht26 w).mono fun _ _ h => ⟨h.1, hw.call h.2⟩) ?_
            refine atq_guard_yes rfl rfl rfl ?_
            refine atq_val rfl rfl rfl (r_eqagg (c := c_census_Count) (a := t25) (b := t26) (eq_census_Count_37) rfl Tryd.eqGuardType37 rfl rfl (.inl rfl) rfl) ?_
            refine atq_val rfl rfl rfl (r_pick rfl rfl rfl) ?_
            refine atq_val rfl rfl rfl (r_move rfl) ?_
            rcases of_ite hF with ⟨h27, hF⟩ | ⟨h27, hF⟩
            · refine atq_fix (g := 47) rfl h27 ?_
              refine atq_guard_yes rfl rfl rfl ?_
              obtain ⟨t28, ht28, hF⟩ := of_bindM hF
              refine atq_call Tryd.func21 rfl (by kernel_rfl) rfl rfl (fun w hw => (crawlwaylaw52_alive_ok  _ ht28 w (hg_census_names.on hw.below) (hg_strconv_uint64pow10.on hw.below)).mono fun _ _ h => ⟨h.1, hw.call h.2⟩) ?_
              refine atq_val rfl rfl rfl (r_pick rfl rfl rfl) ?_
              refine atq_val rfl rfl rfl (r_assign rfl) ?_
              refine atq_nil ?_
              refine at_drop (H := _) .z ?_
              refine at_drop (H := _) .z ?_
              refine at_drop (H := _) .z ?_
              refine at_weak [(4, _)] ⟨rfl, trivial⟩ ?_
              refine at_then_normal ?_
              refine at_ret ?_
              have K := of_some hF
              subst K
              exact at_return1 rfl rfl (fun w1 hw => ⟨rfl, hw.below⟩)
            · refine atq_fix (g := 47) rfl h27 ?_
              refine atq_guard_no rfl rfl rfl rfl rfl ?_
              refine atq_val rfl rfl rfl (r_pick rfl rfl rfl) ?_
              refine atq_val rfl rfl rfl (r_assign rfl) ?_
              refine atq_nil ?_
              refine at_drop (H := _) .z ?_
              refine at_drop (H := _) .z ?_
              refine at_drop (H := _) .z ?_
              refine at_weak [(4, _)] ⟨rfl, trivial⟩ ?_
              refine at_then_normal ?_
              refine at_ret ?_
              have K := of_some hF
              subst K
              exact at_return1 rfl rfl (fun w1 hw => ⟨rfl, hw.below⟩)
          · refine atq_fix (g := 39) rfl h24 ?_
            refine atq_guard_no rfl rfl rfl rfl rfl ?_
            refine atq_guard_no rfl rfl rfl rfl rfl ?_
            refine atq_guard_no rfl rfl rfl rfl rfl ?_
            refine atq_guard_no rfl rfl rfl rfl rfl ?_
            refine atq_guard_no rfl rfl rfl rfl rfl ?_
            refine atq_guard_no rfl rfl rfl rfl rfl ?_
            refine atq_val rfl rfl rfl (r_pick rfl rfl rfl) ?_
            refine atq_val rfl rfl rfl (r_move rfl) ?_
            refine atq_guard_no rfl rfl rfl rfl rfl ?_
            refine atq_val rfl rfl rfl (r_pick rfl rfl rfl) ?_
            refine atq_val rfl rfl rfl (r_assign rfl) ?_
            refine atq_nil ?_
            refine at_drop (H := _) .z ?_
            refine at_drop (H := _) .z ?_
            refine at_drop (H := _) .z ?_
            refine at_weak [(4, _)] ⟨rfl, trivial⟩ ?_
            refine at_then_normal ?_
            refine at_ret ?_
            have K := of_some hF
            subst K
            exact at_return1 rfl rfl (fun w1 hw => ⟨rfl, hw.below⟩)
        · refine atq_fix (g := 32) rfl h21 ?_
          refine atq_guard_no rfl rfl rfl rfl rfl ?_
          refine atq_guard_no rfl rfl rfl rfl rfl ?_
          refine atq_guard_no rfl rfl rfl rfl rfl ?_
          refine atq_guard_no rfl rfl rfl rfl rfl ?_
          refine atq_guard_no rfl rfl rfl rfl rfl ?_
          refine atq_val rfl rfl rfl (r_pick rfl rfl rfl) ?_
          refine atq_val rfl rfl rfl (r_move rfl) ?_
          refine atq_guard_no rfl rfl rfl rfl rfl ?_
          refine atq_guard_no rfl rfl rfl rfl rfl ?_
          refine atq_guard_no rfl rfl rfl rfl rfl ?_
          refine atq_guard_no rfl rfl rfl rfl rfl ?_
          refine atq_guard_no rfl rfl rfl rfl rfl ?_
          refine atq_guard_no rfl rfl rfl rfl rfl ?_
          refine atq_val rfl rfl rfl (r_pick rfl rfl rfl) ?_
          refine atq_val rfl rfl rfl (r_move rfl) ?_
          refine atq_guard_no rfl rfl rfl rfl rfl ?_
          refine atq_val rfl rfl rfl (r_pick rfl rfl rfl) ?_
          refine atq_val rfl rfl rfl (r_assign rfl) ?_
          refine atq_nil ?_
          refine at_drop (H := _) .z ?_
          refine at_drop (H := _) .z ?_
          refine at_drop (H := _) .z ?_
          refine at_weak [(4, _)] ⟨rfl, trivial⟩ ?_
          refine at_then_normal ?_
          refine at_ret ?_
          have K := of_some hF
          subst K
          exact at_return1 rfl rfl (fun w1 hw => ⟨rfl, hw.below⟩)
      · refine atq_fix (g := 27) rfl h19 ?_
        refine atq_guard_no rfl rfl rfl rfl rfl ?_
        refine atq_guard_no rfl rfl rfl rfl rfl ?_
        refine atq_guard_no rfl rfl rfl rfl rfl ?_
        refine atq_val rfl rfl rfl (r_pick rfl rfl rfl) ?_
        refine atq_val rfl rfl rfl (r_move rfl) ?_
        refine atq_guard_no rfl rfl rfl rfl rfl ?_
        refine atq_guard_no rfl rfl rfl rfl rfl ?_
        refine atq_guard_no rfl rfl rfl rfl rfl ?_
        refine atq_guard_no rfl rfl rfl rfl rfl ?_
        refine atq_guard_no rfl rfl rfl rfl rfl ?_
        refine atq_val rfl rfl rfl (r_pick rfl rfl rfl) ?_
        refine atq_val rfl rfl rfl (r_move rfl) ?_
        refine atq_guard_no rfl rfl rfl rfl rfl ?_
        refine atq_guard_no rfl rfl rfl rfl rfl ?_
        refine atq_guard_no rfl rfl rfl rfl rfl ?_
        refine atq_guard_no rfl rfl rfl rfl rfl ?_
        refine atq_guard_no rfl rfl rfl rfl rfl ?_
        refine atq_guard_no rfl rfl rfl rfl rfl ?_
        refine atq_val rfl rfl rfl (r_pick rfl rfl rfl) ?_
        refine atq_val rfl rfl rfl (r_move rfl) ?_
        refine atq_guard_no rfl rfl rfl rfl rfl ?_
        refine atq_val rfl rfl rfl (r_pick rfl rfl rfl) ?_
        refine atq_val rfl rfl rfl (r_assign rfl) ?_
        refine atq_nil ?_
        refine at_drop (H := _) .z ?_
        refine at_drop (H := _) .z ?_
        refine at_drop (H := _) .z ?_
        refine at_weak [(4, _)] ⟨rfl, trivial⟩ ?_
        refine at_then_normal ?_
        refine at_ret ?_
        have K := of_some hF
        subst K
        exact at_return1 rfl rfl (fun w1 hw => ⟨rfl, hw.below⟩)
end Go.Proofs.YtnojjenpggdadaaDoor
