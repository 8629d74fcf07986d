/- Functions with the same answers as the Go functions that they are named for, and the proofs of it, by a program of this project (gen.py). -/
import Derived.Test.YtnojjenpggdadaaDoorT
import Derived.Test.YtnojjenpggdadaaDoorShelf
import Derived.Test.YtnojjenpggdadaaDoorW
import Derived.Test.YtnojjenpggdadaaDoorL
import Derived.Test.YtnojjenpggdadaaDoorS
import Derived.Test.YtnojjenpggdadaaDoorI
import Derived.Test.YtnojjenpggdadaaDoorR
import Derived.Test.YtnojjenpggdadaaDoorMap
import Derived.Test.YtnojjenpggdadaaDoorLit
import Derived.Test.YtnojjenpggdadaaDoorProg
import Derived.Test.YtnojjenpggdadaaDoorC1
import Derived.Test.YtnojjenpggdadaaDoorC2
set_option linter.unusedVariables false
set_option linter.unusedSimpArgs false
namespace Go.Proofs.YtnojjenpggdadaaDoor
open E Go.RowKit

theorem infoC358_is : (Tryd.prog.info? 58).isSome = true := by kernel_rfl
noncomputable def infoC358_v : TypeInfo := (Tryd.prog.info? 58).get infoC358_is
theorem infoC358 : Tryd.prog.info? 58 = some infoC358_v := (Option.some_get _).symm

def census_By.l0 (x0 : List S_api_Event) (i3 : Int) (i4 : List ((Vector Int 32) × S_census_Count)) : Option (List ((Vector Int 32) × S_census_Count)) :=
  if (decide (i3 < (x0.length : Int))) = true then (if (0 : Int) ≤ i3 ∧ i3 < (x0.length : Int) then if ((lget x0 i3).f_Kind == 2) = true then (census_Count_one (mget i4 ((lget x0 i3).f_Key) ({ f_Kinds := (Vector.replicate 7 (0 : Int) : (Vector Int 7)), f_Bytes := (Vector.replicate 7 (0 : Int) : (Vector Int 7)), f_Whys := (Vector.replicate 21 (0 : Int) : (Vector Int 21)) } : S_census_Count)) (lget x0 i3) >>= fun t13 => census_By.l0 x0 (wr .i64 (i3 + 1)) (mput i4 ((lget x0 i3).f_Key) t13)) else (if ((lget x0 i3).f_Kind == 3) = true then (census_Count_one (mget i4 ((lget x0 i3).f_Key) ({ f_Kinds := (Vector.replicate 7 (0 : Int) : (Vector Int 7)), f_Bytes := (Vector.replicate 7 (0 : Int) : (Vector Int 7)), f_Whys := (Vector.replicate 21 (0 : Int) : (Vector Int 21)) } : S_census_Count)) (lget x0 i3) >>= fun t16 => census_By.l0 x0 (wr .i64 (i3 + 1)) (mput i4 ((lget x0 i3).f_Key) t16)) else (census_By.l0 x0 (wr .i64 (i3 + 1)) i4)) else none) else (some i4)
  partial_fixpoint
def census_By (x0 : List S_api_Event) : Option (List ((Vector Int 32) × S_census_Count)) :=
  census_By.l0 x0 0 ([] : List ((Vector Int 32) × S_census_Count)) >>= fun q2 => some q2
theorem census_By_ok (x0 : List S_api_Event) (p0_ : Option Addr) (c0_ : Nat) (r : List ((Vector Int 32) × S_census_Count)) (hF : census_By x0 = some r) (w : World) (hr0 : Row c_api_Event w p0_ c0_ x0) :
    Calls Tryd.prog 26 #[.slice p0_ x0.length c0_] w (fun e w' => ∃ b, e = .returned (.map (some b)) ∧ (mapE b (cVec (cInt .u8) 32 (by decide)) c_census_Count true r).ok w' ∧ (w.heap.size ≤ b ∧ b < w'.heap.size) ∧ Below w.heap.size w w') := by
  unfold census_By at hF
  refine calls_enter (l := [.slice p0_ x0.length c0_]) Tryd.func26 rfl rfl rfl ?_
  refine at_start ?_
  refine at_weak [(0, _)] ⟨rfl, trivial⟩ ?_
  refine at_seq ?_
  refine at_region ?_
  refine at_val rfl rfl rfl (r_assign rfl) ?_
  refine at_nil ?_
  refine at_weak [(0, _)] ⟨rfl, trivial⟩ ?_
  refine at_then_normal ?_
  refine at_seq ?_
  refine at_region ?_
  refine at_makeMap (cVec (cInt .u8) 32 (by decide)) c_census_Count true rfl ?_
  intro b1
  refine at_val rfl rfl rfl (r_assign rfl) ?_
  refine at_nil ?_
  refine at_weak [(0, _), (3, _)] ⟨rfl, rfl, trivial⟩ ?_
  refine at_then_normal ?_
  refine at_seq ?_
  refine at_seq ?_
  refine at_region ?_
  refine at_val rfl rfl rfl (r_move rfl) ?_
  refine at_val rfl rfl rfl (r_len_sl Tryd.underlying41 rfl) ?_
  refine at_val rfl rfl rfl (r_move rfl) ?_
  refine at_nil ?_
  refine at_weak [(3, _), (8, _), (9, _), (10, _)] ⟨rfl, rfl, rfl, rfl, trivial⟩ ?_
  refine at_then_normal ?_
  refine at_block ?_
  obtain ⟨q2, hq2, hF⟩ := of_bindM hF
  refine at_weak [(3, _), (8, _), (9, _), (10, _)] ⟨rfl, rfl, rfl, rfl, trivial⟩ ?_
  refine at_loop_n (B := 0) (A := fun Y => At 34 [(3, .map (some b1))] (Wd w [mapE b1 (cVec (cInt .u8) 32 (by decide)) c_census_Count true q2]) Y) ?_ ?_
  · intro K
    refine census_By.l0.partial_correctness x0 (motive := fun i3 i4 x => KN (fun Y => At 34 [(3, .map (some b1))] (Wd w [mapE b1 (cVec (cInt .u8) 32 (by decide)) c_census_Count true x]) Y) _ 0 → Round (fun Y => At 34 [(3, .map (some b1)), (8, .slice p0_ x0.length c0_), (9, .int .i64 (x0.length : Int)), (10, .int .i64 i3)] (Wd w [mapE b1 (cVec (cInt .u8) 32 (by decide)) c_census_Count true i4]) Y) _ _ _) ?_ _ _ _ hq2 K
    · clear K hF
      intro g ih i3 i4 x hF K
      refine at_round ?_
      refine at_seq ?_
      refine at_region ?_
      refine at_val rfl rfl rfl (r_ilss rfl rfl) ?_
      refine at_nil ?_
      refine at_weak [(3, _), (8, _), (9, _), (10, _), (11, _)] ⟨rfl, rfl, rfl, rfl, rfl, trivial⟩ ?_
      refine at_then_normal ?_
      refine at_seq ?_
      rcases of_ite hF with ⟨h5, hF⟩ | ⟨h5, hF⟩
      · refine at_cond_true rfl h5 ?_
        refine at_skip ?_
        refine at_then_normal ?_
        refine at_seq ?_
        refine at_block ?_
        refine at_seq ?_
        refine at_region ?_
        obtain ⟨h6, hF⟩ := of_guard hF
        obtain ⟨b8, o9, hp7⟩ := row_ptr hr0 h6
        refine at_val rfl rfl rfl (r_idx Tryd.underlying41 Tryd.sizeOf58 rfl rfl h6 hp7) ?_
        refine at_val rfl rfl rfl (r_load_aggc (c := c_api_Event) (z := lget x0 i3) Tryd.isAgg58 Tryd.sizeOf58 rfl (row_cell (fun _ h => h.below) hr0 h6 hp7)) ?_
        refine at_alloc (cs := Cd.cs c_api_Event ({ f_Kind := (0 : Int), f_Bytes := (⟨none, 0, 0⟩ : Hd), f_To := ({ f_A := ({ f_V := (0 : Int), f_B := (Vector.replicate 16 (0 : Int) : (Vector Int 16)) } : S_api_Addr), f_Port := (0 : Int) } : S_api_Endpoint), f_Key := (Vector.replicate 32 (0 : Int) : (Vector Int 32)), f_Why := (0 : Int) } : S_api_Event)) Tryd.zeroValue58 rfl rfl ?_
        intro b10
        refine at_store (c := c_api_Event) (z := lget x0 i3) .z (Lens.whole _ _) Tryd.sizeOf58 rfl rfl rfl ?_
        refine at_nil ?_
        refine at_weak [(3, _), (5, _), (8, _), (9, _), (10, _)] ⟨rfl, rfl, rfl, rfl, rfl, trivial⟩ ?_
        refine at_then_normal ?_
        refine at_seq ?_
        refine at_region ?_
        refine at_val rfl rfl rfl (r_fieldAddr (fo := 0) Tryd.underlying58 rfl rfl (fun w => ⟨_, Tryd.sizeOf3 w⟩) rfl) ?_
        refine at_val rfl rfl rfl (r_load_cell Tryd.isAgg3 rfl (lens_cell0 (c := (cInt .i64)) (y := (lget x0 i3).f_Kind) .z (Lens.comp (Lens.whole _ _) (fun z => { lget x0 i3 with f_Kind := z }) (c_api_Event_f_Kind (lget x0 i3))) rfl)) ?_
        refine at_val rfl rfl rfl (r_ieql rfl rfl) ?_
        refine at_val rfl rfl rfl (r_move rfl) ?_
        rcases of_ite hF with ⟨h11, hF⟩ | ⟨h11, hF⟩
        · refine at_fix (g := 17) rfl h11 ?_
          refine at_guard_no rfl rfl rfl rfl rfl ?_
          refine at_guard_no rfl rfl rfl rfl rfl ?_
          refine at_guard_no rfl rfl rfl rfl rfl ?_
          refine at_val rfl rfl rfl (r_pick rfl rfl rfl) ?_
          refine at_nil ?_
          refine at_weak [(3, _), (5, _), (8, _), (9, _), (10, _), (21, _)] ⟨rfl, rfl, rfl, rfl, rfl, rfl, trivial⟩ ?_
          refine at_then_normal ?_
          refine at_cond_true rfl rfl ?_
          refine at_seq ?_
          refine at_region ?_
          refine at_val rfl rfl rfl (r_move rfl) ?_
          refine at_val rfl rfl rfl (r_fieldAddr (fo := 20) Tryd.underlying58 rfl rfl (fun w => ⟨_, Tryd.sizeOf48 w⟩) rfl) ?_
          refine at_val rfl rfl rfl (r_load_aggc (c := (cVec (cInt .u8) 32 (by decide))) (z := (lget x0 i3).f_Key) Tryd.isAgg48 Tryd.sizeOf48 rfl (lens_cell .z (Lens.comp (Lens.whole _ _) (fun z => { lget x0 i3 with f_Key := z }) (c_api_Event_f_Key (lget x0 i3))))) ?_
          refine at_val rfl rfl rfl (r_lookup (d := c_census_Count) (va := true) (k := (lget x0 i3).f_Key) (zv := ({ f_Kinds := (Vector.replicate 7 (0 : Int) : (Vector Int 7)), f_Bytes := (Vector.replicate 7 (0 : Int) : (Vector Int 7)), f_Whys := (Vector.replicate 21 (0 : Int) : (Vector Int 21)) } : S_census_Count)) Tryd.underlying49 (keylaw_vec Tryd.underlying48 Tryd.underlying5 Tryd.sizeOf5 Tryd.isAgg5 (eqs_vec Tryd.underlying48 infoT5 Tryd.sizeOf5 Tryd.isAgg5 (.inr rfl) (eqs_int Tryd.underlying5)) (by decide)) Tryd.zeroValue37 rfl rfl (fun w1 hw => hw.ok (Upd.mem (.s .z)))) ?_
          refine at_alloc (cs := Cd.cs c_census_Count ({ f_Kinds := (Vector.replicate 7 (0 : Int) : (Vector Int 7)), f_Bytes := (Vector.replicate 7 (0 : Int) : (Vector Int 7)), f_Whys := (Vector.replicate 21 (0 : Int) : (Vector Int 21)) } : S_census_Count)) Tryd.zeroValue37 rfl rfl ?_
          intro b12
          refine at_store (c := c_census_Count) (z := mget i4 ((lget x0 i3).f_Key) ({ f_Kinds := (Vector.replicate 7 (0 : Int) : (Vector Int 7)), f_Bytes := (Vector.replicate 7 (0 : Int) : (Vector Int 7)), f_Whys := (Vector.replicate 21 (0 : Int) : (Vector Int 21)) } : S_census_Count)) .z (Lens.whole _ _) Tryd.sizeOf37 rfl rfl rfl ?_
          refine at_nil ?_
          refine at_weak [(3, _), (5, _), (6, _), (8, _), (9, _), (10, _)] ⟨rfl, rfl, rfl, rfl, rfl, rfl, trivial⟩ ?_
          refine at_then_normal ?_
          refine at_seq ?_
          refine at_region ?_
          refine at_val rfl rfl rfl (r_load_aggc (c := c_api_Event) (z := lget x0 i3) Tryd.isAgg58 Tryd.sizeOf58 rfl (lens_cell (.s .z) (Lens.whole _ _))) ?_
          obtain ⟨t13, ht13, hF⟩ := of_bindM hF
          refine at_callP (E' := cellsE b12 (Cd.cs c_census_Count t13) 37) Tryd.func34 rfl (by kernel_rfl) rfl rfl (fun w hw => census_Count_one_ok _ _ _ _ ht13 w .z hw) ?_
          refine at_nil ?_
          refine at_weak [(3, _), (5, _), (6, _), (8, _), (9, _), (10, _)] ⟨rfl, rfl, rfl, rfl, rfl, rfl, trivial⟩ ?_
          refine at_then_normal ?_
          refine at_region ?_
          refine at_val rfl rfl rfl (r_move rfl) ?_
          refine at_val rfl rfl rfl (r_fieldAddr (fo := 20) Tryd.underlying58 rfl rfl (fun w => ⟨_, Tryd.sizeOf48 w⟩) rfl) ?_
          refine at_val rfl rfl rfl (r_load_aggc (c := (cVec (cInt .u8) 32 (by decide))) (z := (lget x0 i3).f_Key) Tryd.isAgg48 Tryd.sizeOf48 rfl (lens_cell (.s .z) (Lens.comp (Lens.whole _ _) (fun z => { lget x0 i3 with f_Key := z }) (c_api_Event_f_Key (lget x0 i3))))) ?_
          refine at_val rfl rfl rfl (r_load_aggc (c := c_census_Count) (z := t13) Tryd.isAgg37 Tryd.sizeOf37 rfl (lens_cell .z (Lens.whole _ _))) ?_
          refine at_mapUpdate (k := (lget x0 i3).f_Key) (v := t13) (.s (.s .z)) Tryd.underlying49 (keylaw_vec Tryd.underlying48 Tryd.underlying5 Tryd.sizeOf5 Tryd.isAgg5 (eqs_vec Tryd.underlying48 infoT5 Tryd.sizeOf5 Tryd.isAgg5 (.inr rfl) (eqs_int Tryd.underlying5)) (by decide)) rfl rfl rfl rfl ?_
          refine at_nil ?_
          refine at_drop (H := _) .z ?_
          refine at_drop (H := _) .z ?_
          refine at_weak [(3, _), (8, _), (9, _), (10, _)] ⟨rfl, rfl, rfl, rfl, trivial⟩ ?_
          refine at_blk_normal (at_then_normal ?_)
          refine at_region ?_
          refine at_val rfl rfl rfl (r_iadd rfl rfl) ?_
          refine at_val rfl rfl rfl (r_move rfl) ?_
          refine at_nil ?_
          refine at_weak [(3, _), (8, _), (9, _), (10, _)] ⟨rfl, rfl, rfl, rfl, trivial⟩ ?_
          refine at_then_normal ?_
          exact at_weak_k (ih _ _ _ hF K) ⟨rfl, rfl, rfl, rfl, trivial⟩
        · refine at_fix (g := 17) rfl h11 ?_
          refine at_guard_yes rfl rfl rfl ?_
          refine at_val rfl rfl rfl (r_fieldAddr (fo := 0) Tryd.underlying58 rfl rfl (fun w => ⟨_, Tryd.sizeOf3 w⟩) rfl) ?_
          refine at_guard_yes rfl rfl rfl ?_
          refine at_val rfl rfl rfl (r_load_cell Tryd.isAgg3 rfl (lens_cell0 (c := (cInt .i64)) (y := (lget x0 i3).f_Kind) .z (Lens.comp (Lens.whole _ _) (fun z => { lget x0 i3 with f_Kind := z }) (c_api_Event_f_Kind (lget x0 i3))) rfl)) ?_
          refine at_guard_yes rfl rfl rfl ?_
          refine at_val rfl rfl rfl (r_ieql rfl rfl) ?_
          refine at_val rfl rfl rfl (r_pick rfl rfl rfl) ?_
          refine at_nil ?_
          refine at_weak [(3, _), (5, _), (8, _), (9, _), (10, _), (21, _)] ⟨rfl, rfl, rfl, rfl, rfl, rfl, trivial⟩ ?_
          refine at_then_normal ?_
          rcases of_ite hF with ⟨h14, hF⟩ | ⟨h14, hF⟩
          · refine at_cond_true rfl h14 ?_
            refine at_seq ?_
            refine at_region ?_
            refine at_val rfl rfl rfl (r_move rfl) ?_
            refine at_val rfl rfl rfl (r_fieldAddr (fo := 20) Tryd.underlying58 rfl rfl (fun w => ⟨_, Tryd.sizeOf48 w⟩) rfl) ?_
            refine at_val rfl rfl rfl (r_load_aggc (c := (cVec (cInt .u8) 32 (by decide))) (z := (lget x0 i3).f_Key) Tryd.isAgg48 Tryd.sizeOf48 rfl (lens_cell .z (Lens.comp (Lens.whole _ _) (fun z => { lget x0 i3 with f_Key := z }) (c_api_Event_f_Key (lget x0 i3))))) ?_
            refine at_val rfl rfl rfl (r_lookup (d := c_census_Count) (va := true) (k := (lget x0 i3).f_Key) (zv := ({ f_Kinds := (Vector.replicate 7 (0 : Int) : (Vector Int 7)), f_Bytes := (Vector.replicate 7 (0 : Int) : (Vector Int 7)), f_Whys := (Vector.replicate 21 (0 : Int) : (Vector Int 21)) } : S_census_Count)) Tryd.underlying49 (keylaw_vec Tryd.underlying48 Tryd.underlying5 Tryd.sizeOf5 Tryd.isAgg5 (eqs_vec Tryd.underlying48 infoT5 Tryd.sizeOf5 Tryd.isAgg5 (.inr rfl) (eqs_int Tryd.underlying5)) (by decide)) Tryd.zeroValue37 rfl rfl (fun w1 hw => hw.ok (Upd.mem (.s .z)))) ?_
            refine at_alloc (cs := Cd.cs c_census_Count ({ f_Kinds := (Vector.replicate 7 (0 : Int) : (Vector Int 7)), f_Bytes := (Vector.replicate 7 (0 : Int) : (Vector Int 7)), f_Whys := (Vector.replicate 21 (0 : Int) : (Vector Int 21)) } : S_census_Count)) Tryd.zeroValue37 rfl rfl ?_
            intro b15
            refine at_store (c := c_census_Count) (z := mget i4 ((lget x0 i3).f_Key) ({ f_Kinds := (Vector.replicate 7 (0 : Int) : (Vector Int 7)), f_Bytes := (Vector.replicate 7 (0 : Int) : (Vector Int 7)), f_Whys := (Vector.replicate 21 (0 : Int) : (Vector Int 21)) } : S_census_Count)) .z (Lens.whole _ _) Tryd.sizeOf37 rfl rfl rfl ?_
            refine at_nil ?_
            refine at_weak [(3, _), (5, _), (6, _), (8, _), (9, _), (10, _)] ⟨rfl, rfl, rfl, rfl, rfl, rfl, trivial⟩ ?_
            refine at_then_normal ?_
            refine at_seq ?_
            refine at_region ?_
            refine at_val rfl rfl rfl (r_load_aggc (c := c_api_Event) (z := lget x0 i3) Tryd.isAgg58 Tryd.sizeOf58 rfl (lens_cell (.s .z) (Lens.whole _ _))) ?_
            obtain ⟨t16, ht16, hF⟩ := of_bindM hF
            refine at_callP (E' := cellsE b15 (Cd.cs c_census_Count t16) 37) Tryd.func34 rfl (by kernel_rfl) rfl rfl (fun w hw => census_Count_one_ok _ _ _ _ ht16 w .z hw) ?_
            refine at_nil ?_
            refine at_weak [(3, _), (5, _), (6, _), (8, _), (9, _), (10, _)] ⟨rfl, rfl, rfl, rfl, rfl, rfl, trivial⟩ ?_
            refine at_then_normal ?_
            refine at_region ?_
            refine at_val rfl rfl rfl (r_move rfl) ?_
            refine at_val rfl rfl rfl (r_fieldAddr (fo := 20) Tryd.underlying58 rfl rfl (fun w => ⟨_, Tryd.sizeOf48 w⟩) rfl) ?_
            refine at_val rfl rfl rfl (r_load_aggc (c := (cVec (cInt .u8) 32 (by decide))) (z := (lget x0 i3).f_Key) Tryd.isAgg48 Tryd.sizeOf48 rfl (lens_cell (.s .z) (Lens.comp (Lens.whole _ _) (fun z => { lget x0 i3 with f_Key := z }) (c_api_Event_f_Key (lget x0 i3))))) ?_
            refine at_val rfl rfl rfl (r_load_aggc (c := c_census_Count) (z := t16) Tryd.isAgg37 Tryd.sizeOf37 rfl (lens_cell .z (Lens.whole _ _))) ?_
            refine at_mapUpdate (k := (lget x0 i3).f_Key) (v := t16) (.s (.s .z)) Tryd.underlying49 (keylaw_vec Tryd.underlying48 Tryd.underlying5 Tryd.sizeOf5 Tryd.isAgg5 (eqs_vec Tryd.underlying48 infoT5 Tryd.sizeOf5 Tryd.isAgg5 (.inr rfl) (eqs_int Tryd.underlying5)) (by decide)) rfl rfl rfl rfl ?_
            refine at_nil ?_
            refine at_drop (H := _) .z ?_
            refine at_drop (H := _) .z ?_
            refine at_weak [(3, _), (8, _), (9, _), (10, _)] ⟨rfl, rfl, rfl, rfl, trivial⟩ ?_
            refine at_blk_normal (at_then_normal ?_)
            refine at_region ?_
            refine at_val rfl rfl rfl (r_iadd rfl rfl) ?_
            refine at_val rfl rfl rfl (r_move rfl) ?_
            refine at_nil ?_
            refine at_weak [(3, _), (8, _), (9, _), (10, _)] ⟨rfl, rfl, rfl, rfl, trivial⟩ ?_
            refine at_then_normal ?_
            exact at_weak_k (ih _ _ _ hF K) ⟨rfl, rfl, rfl, rfl, trivial⟩
          · refine at_cond_false rfl h14 ?_
            refine at_skip ?_
            refine at_blk_normal (at_then_normal ?_)
            refine at_region ?_
            refine at_val rfl rfl rfl (r_iadd rfl rfl) ?_
            refine at_val rfl rfl rfl (r_move rfl) ?_
            refine at_nil ?_
            refine at_drop (H := _) .z ?_
            refine at_weak [(3, _), (8, _), (9, _), (10, _)] ⟨rfl, rfl, rfl, rfl, trivial⟩ ?_
            refine at_then_normal ?_
            exact at_weak_k (ih _ _ _ hF K) ⟨rfl, rfl, rfl, rfl, trivial⟩
      · refine at_cond_false rfl h5 ?_
        refine at_exit ?_
        refine at_then_exit (at_then_exit ?_)
        obtain rfl := of_some hF
        exact at_weak_k K ⟨rfl, trivial⟩
  · skip
    skip
    refine at_blk_same ?_
    refine at_then_normal ?_
    refine at_seq ?_
    refine at_region ?_
    refine at_val rfl rfl rfl (r_move rfl) ?_
    refine at_val rfl rfl rfl (r_assign rfl) ?_
    refine at_nil ?_
    refine at_weak [(2, _)] ⟨rfl, trivial⟩ ?_
    refine at_then_normal ?_
    refine at_ret ?_
    have K := of_some hF
    subst K
    exact at_return1 rfl rfl (fun w1 hw => ⟨b1, rfl, hw.ok (Upd.mem .z), hw.fp (Upd.mem .z) _ (by simp [mapE]), hw.below⟩)

def crawlwayref52_Of.l0 (x0 : List S_api_Event) (x1 : (Vector Int 32)) (i5 : List S_api_Event) (i6 : Int) : Option (List S_api_Event) :=
  if (decide (i6 < (x0.length : Int))) = true then (if (0 : Int) ≤ i6 ∧ i6 < (x0.length : Int) then if (decide ((lget x0 i6).f_Key = x1)) = true then (if (0 : Int) ≤ i6 ∧ i6 < (x0.length : Int) then if ((lget x0 i6).f_Kind == 2) = true then (if (0 : Int) ≤ i6 ∧ i6 < (x0.length : Int) then if (i5.length + 1) * 104 ≤ 140737488355328 then crawlwayref52_Of.l0 x0 x1 (i5 ++ [lget x0 i6]) (wr .i64 (i6 + 1)) else none else none) else (if (0 : Int) ≤ i6 ∧ i6 < (x0.length : Int) then if ((lget x0 i6).f_Kind == 3) = true then (if (0 : Int) ≤ i6 ∧ i6 < (x0.length : Int) then if (i5.length + 1) * 104 ≤ 140737488355328 then crawlwayref52_Of.l0 x0 x1 (i5 ++ [lget x0 i6]) (wr .i64 (i6 + 1)) else none else none) else (crawlwayref52_Of.l0 x0 x1 i5 (wr .i64 (i6 + 1))) else none) else none) else (crawlwayref52_Of.l0 x0 x1 i5 (wr .i64 (i6 + 1))) else none) else (some i5)
  partial_fixpoint
def crawlwayref52_Of (x0 : List S_api_Event) (x1 : (Vector Int 32)) : Option (List S_api_Event) :=
  crawlwayref52_Of.l0 x0 x1 ([] : List S_api_Event) 0 >>= fun q4 => some q4
theorem crawlwayref52_Of_ok (x0 : List S_api_Event) (p0_ : Option Addr) (c0_ : Nat) (x1 : (Vector Int 32)) (r : List S_api_Event) (hF : crawlwayref52_Of x0 x1 = some r) (w : World) (hr0 : Row c_api_Event w p0_ c0_ x0) :
    Calls Tryd.prog 27 #[.slice p0_ x0.length c0_, .agg (Cd.cs (cVec (cInt .u8) 32 (by decide)) x1).toArray] w (fun e w' => ∃ p cap, e = .returned (.slice p r.length cap) ∧ Own c_api_Event 58 w.heap.size w' p cap r ∧ Below w.heap.size w w') := by
  unfold crawlwayref52_Of at hF
  refine calls_enter (l := [.slice p0_ x0.length c0_, .agg (Cd.cs (cVec (cInt .u8) 32 (by decide)) x1).toArray]) Tryd.func27 rfl rfl rfl ?_
  refine at_start ?_
  refine at_weak [(0, _), (1, _)] ⟨rfl, rfl, trivial⟩ ?_
  refine at_seq ?_
  refine at_region ?_
  refine at_box (cs := Cd.cs (cVec (cInt .u8) 32 (by decide)) x1) rfl rfl rfl ?_
  intro b1
  refine at_val rfl rfl rfl (r_assign rfl) ?_
  refine at_nil ?_
  refine at_weak [(0, _), (3, _)] ⟨rfl, rfl, trivial⟩ ?_
  refine at_then_normal ?_
  refine at_seq ?_
  refine at_region ?_
  refine at_val rfl rfl rfl (r_assign rfl) ?_
  refine at_nil ?_
  refine at_weak [(0, _), (3, _), (5, _)] ⟨rfl, rfl, rfl, trivial⟩ ?_
  refine at_then_normal ?_
  refine at_seq ?_
  refine at_seq ?_
  refine at_region ?_
  refine at_val rfl rfl rfl (r_assign rfl) ?_
  refine at_nil ?_
  refine at_weak [(0, _), (3, _), (5, _), (6, _)] ⟨rfl, rfl, rfl, rfl, trivial⟩ ?_
  refine at_then_normal ?_
  refine at_block ?_
  refine at_own_nil c_api_Event 58 ?_
  refine at_weak [(0, _), (3, _), (5, .slice none ([] : List S_api_Event).length 0), (6, _)] ⟨rfl, rfl, rfl, rfl, trivial⟩ ?_
  obtain ⟨q4, hq4, hF⟩ := of_bindM hF
  refine at_weak [(0, _), (3, _), (5, _), (6, _)] ⟨rfl, rfl, rfl, rfl, trivial⟩ ?_
  refine at_loop_n (B := 0) (A := fun Y => ∀ (p9 : Option Addr) (c10 : Nat), At 44 [(5, .slice p9 q4.length c10)] (Wd w [rowE c_api_Event 58 p9 c10 q4]) Y) ?_ ?_
  · intro K
    refine crawlwayref52_Of.l0.partial_correctness x0 x1 (motive := fun i5 i6 x => KN (fun Y => ∀ (p9 : Option Addr) (c10 : Nat), At 44 [(5, .slice p9 x.length c10)] (Wd w [rowE c_api_Event 58 p9 c10 x]) Y) _ 0 → Round (fun Y => ∀ (p7 : Option Addr) (c8 : Nat), At 44 [(0, .slice p0_ x0.length c0_), (3, .pointer (some ⟨b1, 0, none⟩)), (5, .slice p7 i5.length c8), (6, .int .i64 i6)] (Wd w [rowE c_api_Event 58 p7 c8 i5, cellsE b1 (Cd.cs (cVec (cInt .u8) 32 (by decide)) x1) 48]) Y) _ _ _) ?_ _ _ _ hq4 K none 0
    · clear K hF
      intro g ih i5 i6 x hF K p7 c8
      refine at_round ?_
      refine at_seq ?_
      refine at_seq ?_
      refine at_region ?_
      refine at_val rfl rfl rfl (r_move rfl) ?_
      refine at_val rfl rfl rfl (r_move rfl) ?_
      refine at_val rfl rfl rfl (r_len_sl Tryd.underlying41 rfl) ?_
      refine at_val rfl rfl rfl (r_ilss rfl rfl) ?_
      refine at_nil ?_
      refine at_weak [(0, _), (3, _), (5, _), (6, _), (10, _)] ⟨rfl, rfl, rfl, rfl, rfl, trivial⟩ ?_
      refine at_then_normal ?_
      rcases of_ite hF with ⟨h11, hF⟩ | ⟨h11, hF⟩
      · refine at_cond_true rfl h11 ?_
        refine at_skip ?_
        refine at_then_normal ?_
        refine at_seq ?_
        refine at_block ?_
        refine at_seq ?_
        refine at_draw (by kernel_rfl) (by kernel_rfl) (fun _ h => h.drew) ?_
        refine atq_val rfl rfl rfl (r_move rfl) ?_
        refine atq_val rfl rfl rfl (r_move rfl) ?_
        obtain ⟨h12, hF⟩ := of_guard hF
        obtain ⟨b14, o15, hp13⟩ := row_ptr hr0 h12
        refine atq_val rfl rfl rfl (r_idx Tryd.underlying41 Tryd.sizeOf58 rfl rfl h12 hp13) ?_
        refine atq_val rfl rfl rfl (r_fieldAddr (fo := 20) Tryd.underlying58 rfl rfl (fun w => ⟨_, Tryd.sizeOf48 w⟩) rfl) ?_
        refine atq_val rfl rfl rfl (r_load_aggc (c := (cVec (cInt .u8) 32 (by decide))) (z := (lget x0 i6).f_Key) Tryd.isAgg48 Tryd.sizeOf48 rfl (row_lens (y := (lget x0 i6).f_Key) (fun _ h => h.below) hr0 h12 hp13 (Lens.comp (Lens.whole _ _) (fun z => { (lget x0 i6) with f_Key := z }) (c_api_Event_f_Key (lget x0 i6))))) ?_
        refine atq_val rfl rfl rfl (r_load_aggc (c := (cVec (cInt .u8) 32 (by decide))) (z := x1) Tryd.isAgg48 Tryd.sizeOf48 rfl (lens_cell (.s .z) (Lens.whole _ _))) ?_
        refine atq_val rfl rfl rfl (r_eqagg (c := (cVec (cInt .u8) 32 (by decide))) (a := (lget x0 i6).f_Key) (b := x1) (eqs_vec Tryd.underlying48 infoT5 Tryd.sizeOf5 Tryd.isAgg5 (.inr rfl) (eqs_int Tryd.underlying5)) rfl Tryd.eqGuardType48 rfl rfl (.inl rfl) rfl) ?_
        refine atq_val rfl rfl rfl (r_move rfl) ?_
        rcases of_ite hF with ⟨h16, hF⟩ | ⟨h16, hF⟩
        · refine atq_fix (g := 20) rfl h16 ?_
          refine atq_guard_yes rfl rfl rfl ?_
          refine atq_val rfl rfl rfl (r_move rfl) ?_
          refine atq_guard_yes rfl rfl rfl ?_
          refine atq_val rfl rfl rfl (r_move rfl) ?_
          refine atq_guard_yes rfl rfl rfl ?_
          obtain ⟨h17, hF⟩ := of_guard hF
          obtain ⟨b19, o20, hp18⟩ := row_ptr hr0 h17
          refine atq_val rfl rfl rfl (r_idx Tryd.underlying41 Tryd.sizeOf58 rfl rfl h17 hp18) ?_
          refine atq_guard_yes rfl rfl rfl ?_
          refine atq_val rfl rfl rfl (r_fieldAddr (fo := 0) Tryd.underlying58 rfl rfl (fun w => ⟨_, Tryd.sizeOf3 w⟩) rfl) ?_
          refine atq_guard_yes rfl rfl rfl ?_
          refine atq_val rfl rfl rfl (r_load_cell Tryd.isAgg3 rfl (row_lens0 (y := (lget x0 i6).f_Kind) (fun _ h => h.below) hr0 h17 hp18 (Lens.comp (Lens.whole _ _) (fun z => { (lget x0 i6) with f_Kind := z }) (c_api_Event_f_Kind (lget x0 i6))) rfl)) ?_
          refine atq_guard_yes rfl rfl rfl ?_
          refine atq_val rfl rfl rfl (r_ieql rfl rfl) ?_
          refine atq_guard_yes rfl rfl rfl ?_
          refine atq_val rfl rfl rfl (r_move rfl) ?_
          rcases of_ite hF with ⟨h21, hF⟩ | ⟨h21, hF⟩
          · refine atq_fix (g := 27) rfl h21 ?_
            refine atq_guard_no rfl rfl rfl rfl rfl ?_
            refine atq_guard_no rfl rfl rfl rfl rfl ?_
            refine atq_guard_no rfl rfl rfl rfl rfl ?_
            refine atq_guard_no rfl rfl rfl rfl rfl ?_
            refine atq_guard_no rfl rfl rfl rfl rfl ?_
            refine atq_guard_no rfl rfl rfl rfl rfl ?_
            refine atq_guard_yes rfl rfl rfl ?_
            refine atq_val rfl rfl rfl (r_pick rfl rfl rfl) ?_
            refine atq_val rfl rfl rfl (r_pick rfl rfl rfl) ?_
            refine atq_nil ?_
            refine at_weak [(0, _), (3, _), (5, _), (6, _), (35, _)] ⟨rfl, rfl, rfl, rfl, rfl, trivial⟩ ?_
            refine at_then_normal ?_
            refine at_cond_true rfl rfl ?_
            refine at_region ?_
            refine at_val rfl rfl rfl (r_move rfl) ?_
            refine at_val rfl rfl rfl (r_move rfl) ?_
            refine at_val rfl rfl rfl (r_move rfl) ?_
            obtain ⟨h22, hF⟩ := of_guard hF
            obtain ⟨b24, o25, hp23⟩ := row_ptr hr0 h22
            refine at_val rfl rfl rfl (r_idx Tryd.underlying41 Tryd.sizeOf58 rfl rfl h22 hp23) ?_
            refine at_val rfl rfl rfl (r_load_aggc (c := c_api_Event) (z := lget x0 i6) Tryd.isAgg58 Tryd.sizeOf58 rfl (row_cell (fun _ h => h.below) hr0 h22 hp23)) ?_
            refine at_litL (c := c_api_Event) ([({ f_Kind := (0 : Int), f_Bytes := (⟨none, 0, 0⟩ : Hd), f_To := ({ f_A := ({ f_V := (0 : Int), f_B := (Vector.replicate 16 (0 : Int) : (Vector Int 16)) } : S_api_Addr), f_Port := (0 : Int) } : S_api_Endpoint), f_Key := (Vector.replicate 32 (0 : Int) : (Vector Int 32)), f_Why := (0 : Int) } : S_api_Event)] : List S_api_Event) ([lget x0 i6] : List S_api_Event) Tryd.underlying41 Tryd.sizeOf58 Tryd.zeroValue58 rfl rfl rfl (by kernel_rfl) (fill_step (c := c_api_Event) (z := lget x0 i6) rfl (Lens.all c_api_Event ([({ f_Kind := (0 : Int), f_Bytes := (⟨none, 0, 0⟩ : Hd), f_To := ({ f_A := ({ f_V := (0 : Int), f_B := (Vector.replicate 16 (0 : Int) : (Vector Int 16)) } : S_api_Addr), f_Port := (0 : Int) } : S_api_Endpoint), f_Key := (Vector.replicate 32 (0 : Int) : (Vector Int 32)), f_Why := (0 : Int) } : S_api_Event)] : List S_api_Event) 0 (by decide)) rfl rfl) rfl ?_
            intro b26
            obtain ⟨h27, hF⟩ := of_guard hF
            refine at_append (z := .agg (Cd.cs c_api_Event ({ f_Kind := (0 : Int), f_Bytes := (⟨none, 0, 0⟩ : Hd), f_To := ({ f_A := ({ f_V := (0 : Int), f_B := (Vector.replicate 16 (0 : Int) : (Vector Int 16)) } : S_api_Addr), f_Port := (0 : Int) } : S_api_Endpoint), f_Key := (Vector.replicate 32 (0 : Int) : (Vector Int 32)), f_Why := (0 : Int) } : S_api_Event)).toArray) (c := c_api_Event) (ys := ([lget x0 i6] : List S_api_Event)) (.s .z) Tryd.underlying41 infoC358 (by kernel_rfl) (by kernel_rfl) rfl rfl rfl rfl (fun _ hw => cells_src (hw.ok (Upd.mem .z))) (by kernel_rfl) h27 (app_small h27) rfl ?_
            intro p28 c29
            refine at_val rfl rfl rfl (r_assign rfl) ?_
            refine at_nil ?_
            refine at_drop (H := _) .z ?_
            refine at_weak [(0, _), (3, _), (5, _), (6, _)] ⟨rfl, rfl, rfl, rfl, trivial⟩ ?_
            refine at_blk_normal (at_then_normal ?_)
            refine at_region ?_
            refine at_val rfl rfl rfl (r_move rfl) ?_
            refine at_val rfl rfl rfl (r_iadd rfl rfl) ?_
            refine at_val rfl rfl rfl (r_assign rfl) ?_
            refine at_nil ?_
            refine at_weak [(0, _), (3, _), (5, _), (6, _)] ⟨rfl, rfl, rfl, rfl, trivial⟩ ?_
            refine at_then_normal ?_
            exact at_weak_k (ih _ _ _ hF K p28 c29) ⟨rfl, rfl, rfl, rfl, trivial⟩
          · refine atq_fix (g := 27) rfl h21 ?_
            refine atq_guard_yes rfl rfl rfl ?_
            refine atq_val rfl rfl rfl (r_move rfl) ?_
            refine atq_guard_yes rfl rfl rfl ?_
            refine atq_val rfl rfl rfl (r_move rfl) ?_
            refine atq_guard_yes rfl rfl rfl ?_
            obtain ⟨h30, hF⟩ := of_guard hF
            obtain ⟨b32, o33, hp31⟩ := row_ptr hr0 h30
            refine atq_val rfl rfl rfl (r_idx Tryd.underlying41 Tryd.sizeOf58 rfl rfl h30 hp31) ?_
            refine atq_guard_yes rfl rfl rfl ?_
            refine atq_val rfl rfl rfl (r_fieldAddr (fo := 0) Tryd.underlying58 rfl rfl (fun w => ⟨_, Tryd.sizeOf3 w⟩) rfl) ?_
            refine atq_guard_yes rfl rfl rfl ?_
            refine atq_val rfl rfl rfl (r_load_cell Tryd.isAgg3 rfl (row_lens0 (y := (lget x0 i6).f_Kind) (fun _ h => h.below) hr0 h30 hp31 (Lens.comp (Lens.whole _ _) (fun z => { (lget x0 i6) with f_Kind := z }) (c_api_Event_f_Kind (lget x0 i6))) rfl)) ?_
            refine atq_guard_yes rfl rfl rfl ?_
            refine atq_val rfl rfl rfl (r_ieql rfl rfl) ?_
            refine atq_guard_yes rfl rfl rfl ?_
            refine atq_val rfl rfl rfl (r_pick rfl rfl rfl) ?_
            refine atq_val rfl rfl rfl (r_pick rfl rfl rfl) ?_
            refine atq_nil ?_
            refine at_weak [(0, _), (3, _), (5, _), (6, _), (35, _)] ⟨rfl, rfl, rfl, rfl, rfl, trivial⟩ ?_
            refine at_then_normal ?_
            rcases of_ite hF with ⟨h34, hF⟩ | ⟨h34, hF⟩
            · refine at_cond_true rfl h34 ?_
              refine at_region ?_
              refine at_val rfl rfl rfl (r_move rfl) ?_
              refine at_val rfl rfl rfl (r_move rfl) ?_
              refine at_val rfl rfl rfl (r_move rfl) ?_
              obtain ⟨h35, hF⟩ := of_guard hF
              obtain ⟨b37, o38, hp36⟩ := row_ptr hr0 h35
              refine at_val rfl rfl rfl (r_idx Tryd.underlying41 Tryd.sizeOf58 rfl rfl h35 hp36) ?_
              refine at_val rfl rfl rfl (r_load_aggc (c := c_api_Event) (z := lget x0 i6) Tryd.isAgg58 Tryd.sizeOf58 rfl (row_cell (fun _ h => h.below) hr0 h35 hp36)) ?_
              refine at_litL (c := c_api_Event) ([({ f_Kind := (0 : Int), f_Bytes := (⟨none, 0, 0⟩ : Hd), f_To := ({ f_A := ({ f_V := (0 : Int), f_B := (Vector.replicate 16 (0 : Int) : (Vector Int 16)) } : S_api_Addr), f_Port := (0 : Int) } : S_api_Endpoint), f_Key := (Vector.replicate 32 (0 : Int) : (Vector Int 32)), f_Why := (0 : Int) } : S_api_Event)] : List S_api_Event) ([lget x0 i6] : List S_api_Event) Tryd.underlying41 Tryd.sizeOf58 Tryd.zeroValue58 rfl rfl rfl (by kernel_rfl) (fill_step (c := c_api_Event) (z := lget x0 i6) rfl (Lens.all c_api_Event ([({ f_Kind := (0 : Int), f_Bytes := (⟨none, 0, 0⟩ : Hd), f_To := ({ f_A := ({ f_V := (0 : Int), f_B := (Vector.replicate 16 (0 : Int) : (Vector Int 16)) } : S_api_Addr), f_Port := (0 : Int) } : S_api_Endpoint), f_Key := (Vector.replicate 32 (0 : Int) : (Vector Int 32)), f_Why := (0 : Int) } : S_api_Event)] : List S_api_Event) 0 (by decide)) rfl rfl) rfl ?_
              intro b39
              obtain ⟨h40, hF⟩ := of_guard hF
              refine at_append (z := .agg (Cd.cs c_api_Event ({ f_Kind := (0 : Int), f_Bytes := (⟨none, 0, 0⟩ : Hd), f_To := ({ f_A := ({ f_V := (0 : Int), f_B := (Vector.replicate 16 (0 : Int) : (Vector Int 16)) } : S_api_Addr), f_Port := (0 : Int) } : S_api_Endpoint), f_Key := (Vector.replicate 32 (0 : Int) : (Vector Int 32)), f_Why := (0 : Int) } : S_api_Event)).toArray) (c := c_api_Event) (ys := ([lget x0 i6] : List S_api_Event)) (.s .z) Tryd.underlying41 infoC358 (by kernel_rfl) (by kernel_rfl) rfl rfl rfl rfl (fun _ hw => cells_src (hw.ok (Upd.mem .z))) (by kernel_rfl) h40 (app_small h40) rfl ?_
              intro p41 c42
              refine at_val rfl rfl rfl (r_assign rfl) ?_
              refine at_nil ?_
              refine at_drop (H := _) .z ?_
              refine at_weak [(0, _), (3, _), (5, _), (6, _)] ⟨rfl, rfl, rfl, rfl, trivial⟩ ?_
              refine at_blk_normal (at_then_normal ?_)
              refine at_region ?_
              refine at_val rfl rfl rfl (r_move rfl) ?_
              refine at_val rfl rfl rfl (r_iadd rfl rfl) ?_
              refine at_val rfl rfl rfl (r_assign rfl) ?_
              refine at_nil ?_
              refine at_weak [(0, _), (3, _), (5, _), (6, _)] ⟨rfl, rfl, rfl, rfl, trivial⟩ ?_
              refine at_then_normal ?_
              exact at_weak_k (ih _ _ _ hF K p41 c42) ⟨rfl, rfl, rfl, rfl, trivial⟩
            · refine at_cond_false rfl h34 ?_
              refine at_skip ?_
              refine at_blk_normal (at_then_normal ?_)
              refine at_region ?_
              refine at_val rfl rfl rfl (r_move rfl) ?_
              refine at_val rfl rfl rfl (r_iadd rfl rfl) ?_
              refine at_val rfl rfl rfl (r_assign rfl) ?_
              refine at_nil ?_
              refine at_weak [(0, _), (3, _), (5, _), (6, _)] ⟨rfl, rfl, rfl, rfl, trivial⟩ ?_
              refine at_then_normal ?_
              exact at_weak_k (ih _ _ _ hF K p7 c8) ⟨rfl, rfl, rfl, rfl, trivial⟩
        · refine atq_fix (g := 20) rfl h16 ?_
          refine atq_guard_no rfl rfl rfl rfl rfl ?_
          refine atq_guard_no rfl rfl rfl rfl rfl ?_
          refine atq_guard_no rfl rfl rfl rfl rfl ?_
          refine atq_guard_no rfl rfl rfl rfl rfl ?_
          refine atq_guard_no rfl rfl rfl rfl rfl ?_
          refine atq_guard_no rfl rfl rfl rfl rfl ?_
          refine atq_guard_no rfl rfl rfl rfl rfl ?_
          refine atq_guard_undef rfl rfl rfl rfl ?_
          refine atq_guard_undef rfl rfl rfl rfl ?_
          refine atq_guard_undef rfl rfl rfl rfl ?_
          refine atq_guard_undef rfl rfl rfl rfl ?_
          refine atq_guard_undef rfl rfl rfl rfl ?_
          refine atq_guard_undef rfl rfl rfl rfl ?_
          refine atq_guard_no rfl rfl rfl rfl rfl ?_
          refine atq_val rfl rfl rfl (r_pick rfl rfl rfl) ?_
          refine atq_nil ?_
          refine at_weak [(0, _), (3, _), (5, _), (6, _), (35, _)] ⟨rfl, rfl, rfl, rfl, rfl, trivial⟩ ?_
          refine at_then_normal ?_
          refine at_cond_false rfl rfl ?_
          refine at_skip ?_
          refine at_blk_normal (at_then_normal ?_)
          refine at_region ?_
          refine at_val rfl rfl rfl (r_move rfl) ?_
          refine at_val rfl rfl rfl (r_iadd rfl rfl) ?_
          refine at_val rfl rfl rfl (r_assign rfl) ?_
          refine at_nil ?_
          refine at_weak [(0, _), (3, _), (5, _), (6, _)] ⟨rfl, rfl, rfl, rfl, trivial⟩ ?_
          refine at_then_normal ?_
          exact at_weak_k (ih _ _ _ hF K p7 c8) ⟨rfl, rfl, rfl, rfl, trivial⟩
      · refine at_cond_false rfl h11 ?_
        refine at_exit ?_
        refine at_then_exit (at_then_exit ?_)
        refine at_drop (H := _) (.s .z) ?_
        obtain rfl := of_some hF
        exact at_weak_k (K p7 c8) ⟨rfl, trivial⟩
  · skip
    intro p9 c10
    refine at_blk_same ?_
    refine at_then_normal ?_
    refine at_seq ?_
    refine at_region ?_
    refine at_val rfl rfl rfl (r_move rfl) ?_
    refine at_val rfl rfl rfl (r_assign rfl) ?_
    refine at_nil ?_
    refine at_weak [(4, _)] ⟨rfl, trivial⟩ ?_
    refine at_then_normal ?_
    refine at_ret ?_
    have K := of_some hF
    subst K
    exact at_return1 rfl rfl (fun w1 hw => ⟨p9, c10, rfl, hw.own .z, hw.below⟩)

def crawlwaylaw52_CensusKeys.l0 (x0 : List S_api_Event) (t5 : List ((Vector Int 32) × S_census_Count)) (i8 : Int) (i9 : Int) : Option (Ctl (Bool) (Int)) :=
  if (decide (i9 < (x0.length : Int))) = true then (if (0 : Int) ≤ i9 ∧ i9 < (x0.length : Int) then if ((lget x0 i9).f_Kind != 2) = true then (if (0 : Int) ≤ i9 ∧ i9 < (x0.length : Int) then if ((lget x0 i9).f_Kind != 3) = true then (crawlwaylaw52_CensusKeys.l0 x0 t5 i8 (wr .i64 (i9 + 1))) else (if (0 : Int) ≤ i9 ∧ i9 < (x0.length : Int) then if (0 : Int) ≤ i9 ∧ i9 < (x0.length : Int) then crawlwayref52_Of x0 ((lget x0 i9).f_Key) >>= fun t29 => crawlwaylaw52_is (mget t5 ((lget x0 i9).f_Key) ({ f_Kinds := (Vector.replicate 7 (0 : Int) : (Vector Int 7)), f_Bytes := (Vector.replicate 7 (0 : Int) : (Vector Int 7)), f_Whys := (Vector.replicate 21 (0 : Int) : (Vector Int 21)) } : S_census_Count)) t29 >>= fun t32 => if (!t32) = true then (some (.ret false)) else (if (0 : Int) ≤ 0 ∧ 0 ≤ i9 ∧ i9 ≤ (x0.length : Int) then if (0 : Int) ≤ i9 ∧ i9 < (x0.length : Int) then crawlwayref52_Of (lsub x0 0 i9) ((lget x0 i9).f_Key) >>= fun t40 => if ((t40.length : Int) == 0) = true then (crawlwaylaw52_CensusKeys.l0 x0 t5 (wr .i64 (i8 + 1)) (wr .i64 (i9 + 1))) else (crawlwaylaw52_CensusKeys.l0 x0 t5 i8 (wr .i64 (i9 + 1))) else none else none) else none else none) else none) else (if (0 : Int) ≤ i9 ∧ i9 < (x0.length : Int) then if (0 : Int) ≤ i9 ∧ i9 < (x0.length : Int) then crawlwayref52_Of x0 ((lget x0 i9).f_Key) >>= fun t53 => crawlwaylaw52_is (mget t5 ((lget x0 i9).f_Key) ({ f_Kinds := (Vector.replicate 7 (0 : Int) : (Vector Int 7)), f_Bytes := (Vector.replicate 7 (0 : Int) : (Vector Int 7)), f_Whys := (Vector.replicate 21 (0 : Int) : (Vector Int 21)) } : S_census_Count)) t53 >>= fun t56 => if (!t56) = true then (some (.ret false)) else (if (0 : Int) ≤ 0 ∧ 0 ≤ i9 ∧ i9 ≤ (x0.length : Int) then if (0 : Int) ≤ i9 ∧ i9 < (x0.length : Int) then crawlwayref52_Of (lsub x0 0 i9) ((lget x0 i9).f_Key) >>= fun t64 => if ((t64.length : Int) == 0) = true then (crawlwaylaw52_CensusKeys.l0 x0 t5 (wr .i64 (i8 + 1)) (wr .i64 (i9 + 1))) else (crawlwaylaw52_CensusKeys.l0 x0 t5 i8 (wr .i64 (i9 + 1))) else none else none) else none else none) else none) else (some (.nx i8))
  partial_fixpoint
def crawlwaylaw52_CensusKeys (x0 : List S_api_Event) (x1 : (Vector Int 32)) : Option (Bool) :=
  crawlwaylaw52_long x0 >>= fun t2 => if t2 = true then (crawlwaylaw52_alive >>= fun t4 => some t4) else (census_By x0 >>= fun t5 => crawlwaylaw52_CensusKeys.l0 x0 t5 0 0 >>= fun q7 => match q7 with | .ret r' => some r' | .nx sq7 => (if ((List.length t5 : Int) == sq7) = true then (crawlwayref52_Of x0 x1 >>= fun t70 => crawlwaylaw52_is (mget t5 x1 ({ f_Kinds := (Vector.replicate 7 (0 : Int) : (Vector Int 7)), f_Bytes := (Vector.replicate 7 (0 : Int) : (Vector Int 7)), f_Whys := (Vector.replicate 21 (0 : Int) : (Vector Int 21)) } : S_census_Count)) t70 >>= fun t73 => if t73 = true then (crawlwaylaw52_alive >>= fun t75 => some t75) else (some false)) else (some false)))
set_option maxHeartbeats 3200000 in
theorem crawlwaylaw52_CensusKeys_ok (x0 : List S_api_Event) (p0_ : Option Addr) (c0_ : Nat) (x1 : (Vector Int 32)) (r : Bool) (hF : crawlwaylaw52_CensusKeys x0 x1 = some r) (w : World) (hr0 : Row c_api_Event w p0_ c0_ x0) (hg_census_names : GV_census_names w) (hg_strconv_uint64pow10 : GV_strconv_uint64pow10 w) :
    Calls Tryd.prog 8 #[.slice p0_ x0.length c0_, .agg (Cd.cs (cVec (cInt .u8) 32 (by decide)) x1).toArray] w (fun e w' => e = .returned (.bool r) ∧ Below w.heap.size w w') := by
  unfold crawlwaylaw52_CensusKeys at hF
  refine calls_enter (l := [.slice p0_ x0.length c0_, .agg (Cd.cs (cVec (cInt .u8) 32 (by decide)) x1).toArray]) Tryd.func8 rfl rfl rfl ?_
  refine at_start ?_
  refine at_weak [(0, _), (1, _)] ⟨rfl, rfl, trivial⟩ ?_
  refine at_seq ?_
  refine at_region ?_
  refine at_box (cs := Cd.cs (cVec (cInt .u8) 32 (by decide)) x1) rfl rfl rfl ?_
  intro b1
  refine at_val rfl rfl rfl (r_assign rfl) ?_
  refine at_nil ?_
  refine at_weak [(0, _), (3, _)] ⟨rfl, rfl, trivial⟩ ?_
  refine at_then_normal ?_
  refine at_seq ?_
  refine at_seq ?_
  refine at_region ?_
  refine at_val rfl rfl rfl (r_move rfl) ?_
  obtain ⟨t2, ht2, hF⟩ := of_bindM hF
  refine at_callB Tryd.func22 rfl (by kernel_rfl) rfl rfl (fun w hw => callB_of_call0 (crawlwaylaw52_long_ok _ _ _ _ ht2 w (hr0.below hw.below))) ?_
  refine at_nil ?_
  refine at_weak [(0, _), (3, _), (9, _)] ⟨rfl, rfl, rfl, trivial⟩ ?_
  refine at_then_normal ?_
  rcases of_ite hF with ⟨h3, hF⟩ | ⟨h3, hF⟩
  · refine at_cond_true rfl h3 ?_
    refine at_seq ?_
    refine at_region ?_
    obtain ⟨t4, ht4, hF⟩ := of_bindM hF
    refine at_callB Tryd.func21 rfl (by kernel_rfl) rfl rfl (fun w hw => crawlwaylaw52_alive_ok  _ ht4 w (hg_census_names.on hw.below) (hg_strconv_uint64pow10.on hw.below)) ?_
    refine at_val rfl rfl rfl (r_assign rfl) ?_
    refine at_nil ?_
    refine at_drop (H := _) .z ?_
    refine at_weak [(4, _)] ⟨rfl, trivial⟩ ?_
    refine at_then_normal ?_
    refine at_ret ?_
    refine at_then_ret ?_
    have K := of_some hF
    subst K
    exact at_return1 rfl rfl (fun w1 hw => ⟨rfl, hw.below⟩)
  · refine at_cond_false rfl h3 ?_
    refine at_skip ?_
    refine at_then_normal ?_
    refine at_seq ?_
    refine at_region ?_
    refine at_val rfl rfl rfl (r_move rfl) ?_
    obtain ⟨t5, ht5, hF⟩ := of_bindM hF
    refine at_callM Tryd.func26 rfl (by kernel_rfl) rfl rfl (fun w hw => census_By_ok _ _ _ _ ht5 w (hr0.below hw.below)) ?_
    intro b6
    refine at_val rfl rfl rfl (r_assign rfl) ?_
    refine at_nil ?_
    refine at_weak [(0, _), (3, _), (5, _)] ⟨rfl, rfl, rfl, trivial⟩ ?_
    refine at_then_normal ?_
    refine at_seq ?_
    refine at_region ?_
    refine at_val rfl rfl rfl (r_assign rfl) ?_
    refine at_nil ?_
    refine at_weak [(0, _), (3, _), (5, _), (6, _)] ⟨rfl, rfl, rfl, rfl, trivial⟩ ?_
    refine at_then_normal ?_
    refine at_seq ?_
    refine at_seq ?_
    refine at_region ?_
    refine at_val rfl rfl rfl (r_assign rfl) ?_
    refine at_nil ?_
    refine at_weak [(0, _), (3, _), (5, _), (6, _), (7, _)] ⟨rfl, rfl, rfl, rfl, rfl, trivial⟩ ?_
    refine at_then_normal ?_
    refine at_block ?_
    obtain ⟨q7, hq7, hF⟩ := of_bindM hF
    refine at_weak [(0, _), (3, _), (5, _), (6, _), (7, _)] ⟨rfl, rfl, rfl, rfl, rfl, trivial⟩ ?_
    refine at_loop_r (B := 0) (r := r) (q := q7) (A := fun sq7 Y => At 78 [(0, .slice p0_ x0.length c0_), (3, .pointer (some ⟨b1, 0, none⟩)), (5, .map (some b6)), (6, .int .i64 sq7)] (Wd w [mapE b6 (cVec (cInt .u8) 32 (by decide)) c_census_Count true t5, cellsE b1 (Cd.cs (cVec (cInt .u8) 32 (by decide)) x1) 48]) Y) ?_ ?_
    · intro K
      refine crawlwaylaw52_CensusKeys.l0.partial_correctness x0 t5 (motive := fun i8 i9 x => KR (fun sq7 Y => At 78 [(0, .slice p0_ x0.length c0_), (3, .pointer (some ⟨b1, 0, none⟩)), (5, .map (some b6)), (6, .int .i64 sq7)] (Wd w [mapE b6 (cVec (cInt .u8) 32 (by decide)) c_census_Count true t5, cellsE b1 (Cd.cs (cVec (cInt .u8) 32 (by decide)) x1) 48]) Y) _ 0 r x → Round (fun Y => At 78 [(0, .slice p0_ x0.length c0_), (3, .pointer (some ⟨b1, 0, none⟩)), (5, .map (some b6)), (6, .int .i64 i8), (7, .int .i64 i9)] (Wd w [mapE b6 (cVec (cInt .u8) 32 (by decide)) c_census_Count true t5, cellsE b1 (Cd.cs (cVec (cInt .u8) 32 (by decide)) x1) 48]) Y) _ _ _) ?_ _ _ _ hq7 K
      · clear K hF
        intro g ih i8 i9 x hF K
        refine at_round ?_
        refine at_seq ?_
        refine at_seq ?_
        refine at_region ?_
        refine at_val rfl rfl rfl (r_move rfl) ?_
        refine at_val rfl rfl rfl (r_move rfl) ?_
        refine at_val rfl rfl rfl (r_len_sl Tryd.underlying41 rfl) ?_
        refine at_val rfl rfl rfl (r_ilss rfl rfl) ?_
        refine at_nil ?_
        refine at_weak [(0, _), (3, _), (5, _), (6, _), (7, _), (16, _)] ⟨rfl, rfl, rfl, rfl, rfl, rfl, trivial⟩ ?_
        refine at_then_normal ?_
        rcases of_ite hF with ⟨h10, hF⟩ | ⟨h10, hF⟩
        · refine at_cond_true rfl h10 ?_
          refine at_skip ?_
          refine at_then_normal ?_
          refine at_seq ?_
          refine at_block ?_
          refine at_seq ?_
          refine at_seq ?_
          refine at_region ?_
          refine at_val rfl rfl rfl (r_move rfl) ?_
          refine at_val rfl rfl rfl (r_move rfl) ?_
          obtain ⟨h11, hF⟩ := of_guard hF
          obtain ⟨b13, o14, hp12⟩ := row_ptr hr0 h11
          refine at_val rfl rfl rfl (r_idx Tryd.underlying41 Tryd.sizeOf58 rfl rfl h11 hp12) ?_
          refine at_val rfl rfl rfl (r_fieldAddr (fo := 0) Tryd.underlying58 rfl rfl (fun w => ⟨_, Tryd.sizeOf3 w⟩) rfl) ?_
          refine at_val rfl rfl rfl (r_load_cell Tryd.isAgg3 rfl (row_lens0 (y := (lget x0 i9).f_Kind) (fun _ h => h.below) hr0 h11 hp12 (Lens.comp (Lens.whole _ _) (fun z => { (lget x0 i9) with f_Kind := z }) (c_api_Event_f_Kind (lget x0 i9))) rfl)) ?_
          refine at_val rfl rfl rfl (r_ineq rfl rfl) ?_
          refine at_val rfl rfl rfl (r_move rfl) ?_
          rcases of_ite hF with ⟨h15, hF⟩ | ⟨h15, hF⟩
          · refine at_fix (g := 25) rfl h15 ?_
            refine at_guard_yes rfl rfl rfl ?_
            refine at_val rfl rfl rfl (r_move rfl) ?_
            refine at_guard_yes rfl rfl rfl ?_
            refine at_val rfl rfl rfl (r_move rfl) ?_
            refine at_guard_yes rfl rfl rfl ?_
            obtain ⟨h16, hF⟩ := of_guard hF
            obtain ⟨b18, o19, hp17⟩ := row_ptr hr0 h16
            refine at_val rfl rfl rfl (r_idx Tryd.underlying41 Tryd.sizeOf58 rfl rfl h16 hp17) ?_
            refine at_guard_yes rfl rfl rfl ?_
            refine at_val rfl rfl rfl (r_fieldAddr (fo := 0) Tryd.underlying58 rfl rfl (fun w => ⟨_, Tryd.sizeOf3 w⟩) rfl) ?_
            refine at_guard_yes rfl rfl rfl ?_
            refine at_val rfl rfl rfl (r_load_cell Tryd.isAgg3 rfl (row_lens0 (y := (lget x0 i9).f_Kind) (fun _ h => h.below) hr0 h16 hp17 (Lens.comp (Lens.whole _ _) (fun z => { (lget x0 i9) with f_Kind := z }) (c_api_Event_f_Kind (lget x0 i9))) rfl)) ?_
            refine at_guard_yes rfl rfl rfl ?_
            refine at_val rfl rfl rfl (r_ineq rfl rfl) ?_
            refine at_val rfl rfl rfl (r_pick rfl rfl rfl) ?_
            refine at_nil ?_
            refine at_weak [(0, _), (3, _), (5, _), (6, _), (7, _), (32, _)] ⟨rfl, rfl, rfl, rfl, rfl, rfl, trivial⟩ ?_
            refine at_then_normal ?_
            rcases of_ite hF with ⟨h20, hF⟩ | ⟨h20, hF⟩
            · refine at_cond_true rfl h20 ?_
              refine at_exit ?_
              refine at_then_exit (at_blk_same (at_then_normal ?_))
              refine at_region ?_
              refine at_val rfl rfl rfl (r_move rfl) ?_
              refine at_val rfl rfl rfl (r_iadd rfl rfl) ?_
              refine at_val rfl rfl rfl (r_assign rfl) ?_
              refine at_nil ?_
              refine at_weak [(0, _), (3, _), (5, _), (6, _), (7, _)] ⟨rfl, rfl, rfl, rfl, rfl, trivial⟩ ?_
              refine at_then_normal ?_
              exact at_weak_k (ih _ _ _ hF K) ⟨rfl, rfl, rfl, rfl, rfl, trivial⟩
            · refine at_cond_false rfl h20 ?_
              refine at_skip ?_
              refine at_then_normal ?_
              refine at_seq ?_
              refine at_seq ?_
              refine at_weak [(0, _), (3, _), (5, _), (6, _), (7, _)] ⟨rfl, rfl, rfl, rfl, rfl, trivial⟩ ?_
              obtain ⟨h21, hF⟩ := of_guard hF
              obtain ⟨b23, o24, hp22⟩ := row_ptr hr0 h21
              obtain ⟨h25, hF⟩ := of_guard hF
              obtain ⟨b27, o28, hp26⟩ := row_ptr hr0 h25
              obtain ⟨t29, ht29, hF⟩ := of_bindM hF
              obtain ⟨t32, ht32, hF⟩ := of_bindM hF
              refine at_inv [.q 33 (fun g33 => .map (some b6)) [] 0 1, .q 34 (fun g33 => .slice p0_ x0.length c0_) [] 0 1, .q 35 (fun g33 => .int .i64 i9) [] 0 1, .q 36 (fun g33 => .pointer (some ⟨b23, o24 + Int.toNat i9 * 53, none⟩)) [1, 2] 0 1, .q 37 (fun g33 => .pointer (some ⟨b23, o24 + Int.toNat i9 * 53 + 20, none⟩)) [3] 0 1, .q 38 (fun g33 => .agg (Cd.cs (cVec (cInt .u8) 32 (by decide)) ((lget x0 i9).f_Key)).toArray) [4] 0 1, .q 39 (fun g33 => .agg (Cd.cs c_census_Count (mget t5 ((lget x0 i9).f_Key) ({ f_Kinds := (Vector.replicate 7 (0 : Int) : (Vector Int 7)), f_Bytes := (Vector.replicate 7 (0 : Int) : (Vector Int 7)), f_Whys := (Vector.replicate 21 (0 : Int) : (Vector Int 21)) } : S_census_Count))).toArray) [0, 5] 0 1, .q 40 (fun g33 => .slice p0_ x0.length c0_) [] 0 0, .q 41 (fun g33 => .slice p0_ x0.length c0_) [] 0 1, .q 42 (fun g33 => .int .i64 i9) [] 0 1, .q 43 (fun g33 => .pointer (some ⟨b27, o28 + Int.toNat i9 * 53, none⟩)) [8, 9] 0 1, .q 44 (fun g33 => .pointer (some ⟨b27, o28 + Int.toNat i9 * 53 + 20, none⟩)) [10] 0 1, .q 45 (fun g33 => .agg (Cd.cs (cVec (cInt .u8) 32 (by decide)) ((lget x0 i9).f_Key)).toArray) [11] 0 0, .al 0 46 (fun g33 => .slice ((g33 0).2.1) t29.length ((g33 0).2.2.1)) [7, 12], .q 47 (fun g33 => .bool t32) [6, 13] 1 1, .q 48 (fun g33 => .bool (!t32)) [14] 0 1] (fun g33 s => match s with | 0 => (Wd w [mapE b6 (cVec (cInt .u8) 32 (by decide)) c_census_Count true t5, cellsE b1 (Cd.cs (cVec (cInt .u8) 32 (by decide)) x1) 48]) | _ => (Wd w [rowE c_api_Event 58 ((g33 0).2.1) ((g33 0).2.2.1) t29, mapE b6 (cVec (cInt .u8) 32 (by decide)) c_census_Count true t5, cellsE b1 (Cd.cs (cVec (cInt .u8) 32 (by decide)) x1) 48])) 1 (by kernel_rfl) (by kernel_rfl) (by kernel_rfl) (by kernel_rfl) (by kernel_rfl) ⟨fun _ _ _ => rfl, fun _ _ _ => rfl, fun _ _ _ => rfl, fun _ _ _ => rfl, fun _ _ _ => rfl, fun _ _ _ => rfl, fun _ _ _ => rfl, fun _ _ _ => rfl, fun _ _ _ => rfl, fun _ _ _ => rfl, fun _ _ _ => rfl, fun _ _ _ => rfl, fun _ _ _ => rfl, fun g33 g2 h => by show (.slice ((g33 0).2.1) t29.length ((g33 0).2.2.1) : Value) = .slice ((g2 0).2.1) t29.length ((g2 0).2.2.1); rw [h 0 (show 0 < 1 by decide)], fun _ _ _ => rfl, fun _ _ _ => rfl, trivial⟩ (by kernel_rfl) (fun _ h => ⟨fun _ => (0, none, 0, none), h.drew⟩) ⟨?_, ?_, ?_, ?_, ?_, ?_, ?_, ?_, ?_, ?_, ?_, ?_, ?_, ?_, ?_, ?_, trivial⟩ ?_
              · intro Lx g33 s K hl hh k
                show At 78 ((0, _) :: (3, _) :: (5, _) :: (6, _) :: (7, _) :: Lx) _ _
                refine at_val rfl rfl rfl (r_move rfl) ?_
                exact at_nil k
              · intro Lx g33 s K hl hh k
                show At 78 ((0, _) :: (3, _) :: (5, _) :: (6, _) :: (7, _) :: Lx) _ _
                refine at_val rfl rfl rfl (r_move rfl) ?_
                exact at_nil k
              · intro Lx g33 s K hl hh k
                show At 78 ((0, _) :: (3, _) :: (5, _) :: (6, _) :: (7, _) :: Lx) _ _
                refine at_val rfl rfl rfl (r_move rfl) ?_
                exact at_nil k
              · intro Lx g33 s K hl hh k
                show At 78 ((34, _) :: (35, _) :: (0, _) :: (3, _) :: (5, _) :: (6, _) :: (7, _) :: Lx) _ _
                refine at_val rfl rfl rfl (r_idx Tryd.underlying41 Tryd.sizeOf58 rfl rfl h21 hp22) ?_
                exact at_nil k
              · intro Lx g33 s K hl hh k
                show At 78 ((36, _) :: (0, _) :: (3, _) :: (5, _) :: (6, _) :: (7, _) :: Lx) _ _
                refine at_val rfl rfl rfl (r_fieldAddr (fo := 20) Tryd.underlying58 rfl rfl (fun w => ⟨_, Tryd.sizeOf48 w⟩) rfl) ?_
                exact at_nil k
              · intro Lx g33 s K hl hh k
                show At 78 ((37, _) :: (0, _) :: (3, _) :: (5, _) :: (6, _) :: (7, _) :: Lx) _ _
                rcases (by omega : s = 0 ∨ s = 1) with rfl | rfl
                · skip
                  refine at_val rfl rfl rfl (r_load_aggc (c := (cVec (cInt .u8) 32 (by decide))) (z := (lget x0 i9).f_Key) Tryd.isAgg48 Tryd.sizeOf48 rfl (row_lens (y := (lget x0 i9).f_Key) (fun _ h => h.below) hr0 h21 hp22 (Lens.comp (Lens.whole _ _) (fun z => { (lget x0 i9) with f_Key := z }) (c_api_Event_f_Key (lget x0 i9))))) ?_
                  exact at_nil k
                · skip
                  refine at_val rfl rfl rfl (r_load_aggc (c := (cVec (cInt .u8) 32 (by decide))) (z := (lget x0 i9).f_Key) Tryd.isAgg48 Tryd.sizeOf48 rfl (row_lens (y := (lget x0 i9).f_Key) (fun _ h => h.below) hr0 h21 hp22 (Lens.comp (Lens.whole _ _) (fun z => { (lget x0 i9) with f_Key := z }) (c_api_Event_f_Key (lget x0 i9))))) ?_
                  exact at_nil k
              · intro Lx g33 s K hl hh k
                show At 78 ((33, _) :: (38, _) :: (0, _) :: (3, _) :: (5, _) :: (6, _) :: (7, _) :: Lx) _ _
                rcases (by omega : s = 0 ∨ s = 1) with rfl | rfl
                · skip
                  refine at_val rfl rfl rfl (r_lookup (d := c_census_Count) (va := true) (k := (lget x0 i9).f_Key) (zv := ({ f_Kinds := (Vector.replicate 7 (0 : Int) : (Vector Int 7)), f_Bytes := (Vector.replicate 7 (0 : Int) : (Vector Int 7)), f_Whys := (Vector.replicate 21 (0 : Int) : (Vector Int 21)) } : S_census_Count)) Tryd.underlying49 (keylaw_vec Tryd.underlying48 Tryd.underlying5 Tryd.sizeOf5 Tryd.isAgg5 (eqs_vec Tryd.underlying48 infoT5 Tryd.sizeOf5 Tryd.isAgg5 (.inr rfl) (eqs_int Tryd.underlying5)) (by decide)) Tryd.zeroValue37 rfl rfl (fun w1 hw => hw.ok (Upd.mem .z))) ?_
                  exact at_nil k
                · skip
                  refine at_val rfl rfl rfl (r_lookup (d := c_census_Count) (va := true) (k := (lget x0 i9).f_Key) (zv := ({ f_Kinds := (Vector.replicate 7 (0 : Int) : (Vector Int 7)), f_Bytes := (Vector.replicate 7 (0 : Int) : (Vector Int 7)), f_Whys := (Vector.replicate 21 (0 : Int) : (Vector Int 21)) } : S_census_Count)) Tryd.underlying49 (keylaw_vec Tryd.underlying48 Tryd.underlying5 Tryd.sizeOf5 Tryd.isAgg5 (eqs_vec Tryd.underlying48 infoT5 Tryd.sizeOf5 Tryd.isAgg5 (.inr rfl) (eqs_int Tryd.underlying5)) (by decide)) Tryd.zeroValue37 rfl rfl (fun w1 hw => hw.ok (Upd.mem (.s .z)))) ?_
                  exact at_nil k
              · intro Lx g33 s K hl hh k
                show At 78 ((0, _) :: (3, _) :: (5, _) :: (6, _) :: (7, _) :: Lx) _ _
                refine at_val rfl rfl rfl (r_move rfl) ?_
                exact at_nil k
              · intro Lx g33 s K hl hh k
                show At 78 ((0, _) :: (3, _) :: (5, _) :: (6, _) :: (7, _) :: Lx) _ _
                refine at_val rfl rfl rfl (r_move rfl) ?_
                exact at_nil k
              · intro Lx g33 s K hl hh k
                show At 78 ((0, _) :: (3, _) :: (5, _) :: (6, _) :: (7, _) :: Lx) _ _
                refine at_val rfl rfl rfl (r_move rfl) ?_
                exact at_nil k
              · intro Lx g33 s K hl hh k
                show At 78 ((41, _) :: (42, _) :: (0, _) :: (3, _) :: (5, _) :: (6, _) :: (7, _) :: Lx) _ _
                refine at_val rfl rfl rfl (r_idx Tryd.underlying41 Tryd.sizeOf58 rfl rfl h25 hp26) ?_
                exact at_nil k
              · intro Lx g33 s K hl hh k
                show At 78 ((43, _) :: (0, _) :: (3, _) :: (5, _) :: (6, _) :: (7, _) :: Lx) _ _
                refine at_val rfl rfl rfl (r_fieldAddr (fo := 20) Tryd.underlying58 rfl rfl (fun w => ⟨_, Tryd.sizeOf48 w⟩) rfl) ?_
                exact at_nil k
              · intro Lx g33 s K hl hh k
                show At 78 ((44, _) :: (0, _) :: (3, _) :: (5, _) :: (6, _) :: (7, _) :: Lx) _ _
                obtain rfl : s = 0 := by omega
                refine at_val rfl rfl rfl (r_load_aggc (c := (cVec (cInt .u8) 32 (by decide))) (z := (lget x0 i9).f_Key) Tryd.isAgg48 Tryd.sizeOf48 rfl (row_lens (y := (lget x0 i9).f_Key) (fun _ h => h.below) hr0 h25 hp26 (Lens.comp (Lens.whole _ _) (fun z => { (lget x0 i9) with f_Key := z }) (c_api_Event_f_Key (lget x0 i9))))) ?_
                exact at_nil k
              · intro Lx g33 K k
                show At 78 ((40, _) :: (45, _) :: (0, _) :: (3, _) :: (5, _) :: (6, _) :: (7, _) :: Lx) _ _
                refine at_callO (c := c_api_Event) (e := 58) (ys := t29) (V := fun p cap => .slice p t29.length cap) Tryd.func27 rfl (by kernel_rfl) rfl rfl (fun w hw => crawlwayref52_Of_ok _ _ _ _ _ ht29 w (hr0.below hw.below)) ?_
                intro p30 c31
                exact at_nil (k (0, p30, c31, none))
              · intro Lx g33 s K hl hh k
                show At 78 ((39, _) :: (46, _) :: (0, _) :: (3, _) :: (5, _) :: (6, _) :: (7, _) :: Lx) _ _
                obtain rfl : s = 1 := by omega
                refine at_callB Tryd.func24 rfl (by kernel_rfl) rfl rfl (fun w hw => crawlwaylaw52_is_ok _ _ _ _ _ ht32 w (hw.own .z).row) ?_
                exact at_nil k
              · intro Lx g33 s K hl hh k
                show At 78 ((47, _) :: (0, _) :: (3, _) :: (5, _) :: (6, _) :: (7, _) :: Lx) _ _
                refine at_val rfl rfl rfl (r_not rfl) ?_
                exact at_nil k
              intro g33
              show At 78 [(33, _), (34, _), (35, _), (36, _), (37, _), (38, _), (39, _), (40, _), (41, _), (42, _), (43, _), (44, _), (45, _), (46, _), (47, _), (48, _), (0, _), (3, _), (5, _), (6, _), (7, _)] _ _
              refine at_drop (H := _) .z ?_
              refine at_weak [(0, _), (3, _), (5, _), (6, _), (7, _), (48, _)] ⟨rfl, rfl, rfl, rfl, rfl, rfl, trivial⟩ ?_
              refine at_then_normal ?_
              rcases of_ite hF with ⟨h34, hF⟩ | ⟨h34, hF⟩
              · refine at_cond_true rfl h34 ?_
                refine at_seq ?_
                refine at_region ?_
                refine at_val rfl rfl rfl (r_assign rfl) ?_
                refine at_nil ?_
                refine at_drop (H := _) .z ?_
                refine at_drop (H := _) .z ?_
                refine at_weak [(4, _)] ⟨rfl, trivial⟩ ?_
                refine at_then_normal ?_
                refine at_ret ?_
                refine at_then_ret (at_blk_ret (at_then_ret (at_then_ret (at_blk_ret (at_then_ret ?_)))))
                obtain rfl := of_some hF
                subst K
                exact at_return1 rfl rfl (fun w1 hw => ⟨rfl, hw.below⟩)
              · refine at_cond_false rfl h34 ?_
                refine at_skip ?_
                refine at_then_normal ?_
                refine at_seq ?_
                refine at_weak [(0, _), (3, _), (5, _), (6, _), (7, _)] ⟨rfl, rfl, rfl, rfl, rfl, trivial⟩ ?_
                obtain ⟨h35, hF⟩ := of_guard hF
                obtain ⟨h36, hF⟩ := of_guard hF
                obtain ⟨b38, o39, hp37⟩ := row_ptr hr0 h36
                obtain ⟨t40, ht40, hF⟩ := of_bindM hF
                refine at_inv [.q 49 (fun g43 => .slice p0_ x0.length c0_) [] 0 1, .q 50 (fun g43 => .int .i64 i9) [] 0 1, .q 51 (fun g43 => .slice (rsp p0_ c0_ 0 (Cd.sz c_api_Event)) (lsub x0 0 i9).length (c0_ - Int.toNat 0)) [0, 1] 0 0, .q 52 (fun g43 => .slice p0_ x0.length c0_) [] 0 1, .q 53 (fun g43 => .int .i64 i9) [] 0 1, .q 54 (fun g43 => .pointer (some ⟨b38, o39 + Int.toNat i9 * 53, none⟩)) [3, 4] 0 1, .q 55 (fun g43 => .pointer (some ⟨b38, o39 + Int.toNat i9 * 53 + 20, none⟩)) [5] 0 1, .q 56 (fun g43 => .agg (Cd.cs (cVec (cInt .u8) 32 (by decide)) ((lget x0 i9).f_Key)).toArray) [6] 0 0, .al 0 57 (fun g43 => .slice ((g43 0).2.1) t40.length ((g43 0).2.2.1)) [2, 7], .q 58 (fun g43 => .int .i64 (t40.length : Int)) [8] 1 1, .q 59 (fun g43 => .bool ((t40.length : Int) == 0)) [9] 0 1] (fun g43 s => match s with | 0 => (Wd w [mapE b6 (cVec (cInt .u8) 32 (by decide)) c_census_Count true t5, cellsE b1 (Cd.cs (cVec (cInt .u8) 32 (by decide)) x1) 48]) | _ => (Wd w [rowE c_api_Event 58 ((g43 0).2.1) ((g43 0).2.2.1) t40, mapE b6 (cVec (cInt .u8) 32 (by decide)) c_census_Count true t5, cellsE b1 (Cd.cs (cVec (cInt .u8) 32 (by decide)) x1) 48])) 1 (by kernel_rfl) (by kernel_rfl) (by kernel_rfl) (by kernel_rfl) (by kernel_rfl) ⟨fun _ _ _ => rfl, fun _ _ _ => rfl, fun _ _ _ => rfl, fun _ _ _ => rfl, fun _ _ _ => rfl, fun _ _ _ => rfl, fun _ _ _ => rfl, fun _ _ _ => rfl, fun g43 g2 h => by show (.slice ((g43 0).2.1) t40.length ((g43 0).2.2.1) : Value) = .slice ((g2 0).2.1) t40.length ((g2 0).2.2.1); rw [h 0 (show 0 < 1 by decide)], fun _ _ _ => rfl, fun _ _ _ => rfl, trivial⟩ (by kernel_rfl) (fun _ h => ⟨fun _ => (0, none, 0, none), h.drew⟩) ⟨?_, ?_, ?_, ?_, ?_, ?_, ?_, ?_, ?_, ?_, ?_, trivial⟩ ?_
                · intro Lx g43 s K hl hh k
                  show At 78 ((0, _) :: (3, _) :: (5, _) :: (6, _) :: (7, _) :: Lx) _ _
                  refine at_val rfl rfl rfl (r_move rfl) ?_
                  exact at_nil k
                · intro Lx g43 s K hl hh k
                  show At 78 ((0, _) :: (3, _) :: (5, _) :: (6, _) :: (7, _) :: Lx) _ _
                  refine at_val rfl rfl rfl (r_move rfl) ?_
                  exact at_nil k
                · intro Lx g43 s K hl hh k
                  show At 78 ((49, _) :: (50, _) :: (0, _) :: (3, _) :: (5, _) :: (6, _) :: (7, _) :: Lx) _ _
                  obtain rfl : s = 0 := by omega
                  refine at_val rfl rfl rfl (r_reslice (c := c_api_Event) Tryd.underlying41 Tryd.sizeOf58 rfl (Row.len hr0) rfl ⟨_, rfl⟩ h35) ?_
                  exact at_nil k
                · intro Lx g43 s K hl hh k
                  show At 78 ((0, _) :: (3, _) :: (5, _) :: (6, _) :: (7, _) :: Lx) _ _
                  refine at_val rfl rfl rfl (r_move rfl) ?_
                  exact at_nil k
                · intro Lx g43 s K hl hh k
                  show At 78 ((0, _) :: (3, _) :: (5, _) :: (6, _) :: (7, _) :: Lx) _ _
                  refine at_val rfl rfl rfl (r_move rfl) ?_
                  exact at_nil k
                · intro Lx g43 s K hl hh k
                  show At 78 ((52, _) :: (53, _) :: (0, _) :: (3, _) :: (5, _) :: (6, _) :: (7, _) :: Lx) _ _
                  refine at_val rfl rfl rfl (r_idx Tryd.underlying41 Tryd.sizeOf58 rfl rfl h36 hp37) ?_
                  exact at_nil k
                · intro Lx g43 s K hl hh k
                  show At 78 ((54, _) :: (0, _) :: (3, _) :: (5, _) :: (6, _) :: (7, _) :: Lx) _ _
                  refine at_val rfl rfl rfl (r_fieldAddr (fo := 20) Tryd.underlying58 rfl rfl (fun w => ⟨_, Tryd.sizeOf48 w⟩) rfl) ?_
                  exact at_nil k
                · intro Lx g43 s K hl hh k
                  show At 78 ((55, _) :: (0, _) :: (3, _) :: (5, _) :: (6, _) :: (7, _) :: Lx) _ _
                  obtain rfl : s = 0 := by omega
                  refine at_val rfl rfl rfl (r_load_aggc (c := (cVec (cInt .u8) 32 (by decide))) (z := (lget x0 i9).f_Key) Tryd.isAgg48 Tryd.sizeOf48 rfl (row_lens (y := (lget x0 i9).f_Key) (fun _ h => h.below) hr0 h36 hp37 (Lens.comp (Lens.whole _ _) (fun z => { (lget x0 i9) with f_Key := z }) (c_api_Event_f_Key (lget x0 i9))))) ?_
                  exact at_nil k
                · intro Lx g43 K k
                  show At 78 ((51, _) :: (56, _) :: (0, _) :: (3, _) :: (5, _) :: (6, _) :: (7, _) :: Lx) _ _
                  refine at_callO (c := c_api_Event) (e := 58) (ys := t40) (V := fun p cap => .slice p t40.length cap) Tryd.func27 rfl (by kernel_rfl) rfl rfl (fun w hw => crawlwayref52_Of_ok _ _ _ _ _ ht40 w ((Row.sub hr0 h35).below hw.below)) ?_
                  intro p41 c42
                  exact at_nil (k (0, p41, c42, none))
                · intro Lx g43 s K hl hh k
                  show At 78 ((57, _) :: (0, _) :: (3, _) :: (5, _) :: (6, _) :: (7, _) :: Lx) _ _
                  obtain rfl : s = 1 := by omega
                  refine at_val rfl rfl rfl (r_len_sl Tryd.underlying41 rfl) ?_
                  exact at_nil k
                · intro Lx g43 s K hl hh k
                  show At 78 ((58, _) :: (0, _) :: (3, _) :: (5, _) :: (6, _) :: (7, _) :: Lx) _ _
                  refine at_val rfl rfl rfl (r_ieql rfl rfl) ?_
                  exact at_nil k
                intro g43
                show At 78 [(49, _), (50, _), (51, _), (52, _), (53, _), (54, _), (55, _), (56, _), (57, _), (58, _), (59, _), (0, _), (3, _), (5, _), (6, _), (7, _)] _ _
                refine at_drop (H := _) .z ?_
                refine at_weak [(0, _), (3, _), (5, _), (6, _), (7, _), (59, _)] ⟨rfl, rfl, rfl, rfl, rfl, rfl, trivial⟩ ?_
                refine at_then_normal ?_
                rcases of_ite hF with ⟨h44, hF⟩ | ⟨h44, hF⟩
                · refine at_cond_true rfl h44 ?_
                  refine at_region ?_
                  refine at_val rfl rfl rfl (r_move rfl) ?_
                  refine at_val rfl rfl rfl (r_iadd rfl rfl) ?_
                  refine at_val rfl rfl rfl (r_assign rfl) ?_
                  refine at_nil ?_
                  refine at_weak [(0, _), (3, _), (5, _), (6, _), (7, _)] ⟨rfl, rfl, rfl, rfl, rfl, trivial⟩ ?_
                  refine at_blk_normal (at_then_normal ?_)
                  refine at_region ?_
                  refine at_val rfl rfl rfl (r_move rfl) ?_
                  refine at_val rfl rfl rfl (r_iadd rfl rfl) ?_
                  refine at_val rfl rfl rfl (r_assign rfl) ?_
                  refine at_nil ?_
                  refine at_weak [(0, _), (3, _), (5, _), (6, _), (7, _)] ⟨rfl, rfl, rfl, rfl, rfl, trivial⟩ ?_
                  refine at_then_normal ?_
                  exact at_weak_k (ih _ _ _ hF K) ⟨rfl, rfl, rfl, rfl, rfl, trivial⟩
                · refine at_cond_false rfl h44 ?_
                  refine at_skip ?_
                  refine at_blk_normal (at_then_normal ?_)
                  refine at_region ?_
                  refine at_val rfl rfl rfl (r_move rfl) ?_
                  refine at_val rfl rfl rfl (r_iadd rfl rfl) ?_
                  refine at_val rfl rfl rfl (r_assign rfl) ?_
                  refine at_nil ?_
                  refine at_weak [(0, _), (3, _), (5, _), (6, _), (7, _)] ⟨rfl, rfl, rfl, rfl, rfl, trivial⟩ ?_
                  refine at_then_normal ?_
                  exact at_weak_k (ih _ _ _ hF K) ⟨rfl, rfl, rfl, rfl, rfl, trivial⟩
          · refine at_fix (g := 25) rfl h15 ?_
            refine at_guard_no rfl rfl rfl rfl rfl ?_
            refine at_guard_no rfl rfl rfl rfl rfl ?_
            refine at_guard_no rfl rfl rfl rfl rfl ?_
            refine at_guard_no rfl rfl rfl rfl rfl ?_
            refine at_guard_no rfl rfl rfl rfl rfl ?_
            refine at_guard_no rfl rfl rfl rfl rfl ?_
            refine at_val rfl rfl rfl (r_pick rfl rfl rfl) ?_
            refine at_nil ?_
            refine at_weak [(0, _), (3, _), (5, _), (6, _), (7, _), (32, _)] ⟨rfl, rfl, rfl, rfl, rfl, rfl, trivial⟩ ?_
            refine at_then_normal ?_
            refine at_cond_false rfl rfl ?_
            refine at_skip ?_
            refine at_then_normal ?_
            refine at_seq ?_
            refine at_seq ?_
            refine at_weak [(0, _), (3, _), (5, _), (6, _), (7, _)] ⟨rfl, rfl, rfl, rfl, rfl, trivial⟩ ?_
            obtain ⟨h45, hF⟩ := of_guard hF
            obtain ⟨b47, o48, hp46⟩ := row_ptr hr0 h45
            obtain ⟨h49, hF⟩ := of_guard hF
            obtain ⟨b51, o52, hp50⟩ := row_ptr hr0 h49
            obtain ⟨t53, ht53, hF⟩ := of_bindM hF
            obtain ⟨t56, ht56, hF⟩ := of_bindM hF
            refine at_inv [.q 33 (fun g57 => .map (some b6)) [] 0 1, .q 34 (fun g57 => .slice p0_ x0.length c0_) [] 0 1, .q 35 (fun g57 => .int .i64 i9) [] 0 1, .q 36 (fun g57 => .pointer (some ⟨b47, o48 + Int.toNat i9 * 53, none⟩)) [1, 2] 0 1, .q 37 (fun g57 => .pointer (some ⟨b47, o48 + Int.toNat i9 * 53 + 20, none⟩)) [3] 0 1, .q 38 (fun g57 => .agg (Cd.cs (cVec (cInt .u8) 32 (by decide)) ((lget x0 i9).f_Key)).toArray) [4] 0 1, .q 39 (fun g57 => .agg (Cd.cs c_census_Count (mget t5 ((lget x0 i9).f_Key) ({ f_Kinds := (Vector.replicate 7 (0 : Int) : (Vector Int 7)), f_Bytes := (Vector.replicate 7 (0 : Int) : (Vector Int 7)), f_Whys := (Vector.replicate 21 (0 : Int) : (Vector Int 21)) } : S_census_Count))).toArray) [0, 5] 0 1, .q 40 (fun g57 => .slice p0_ x0.length c0_) [] 0 0, .q 41 (fun g57 => .slice p0_ x0.length c0_) [] 0 1, .q 42 (fun g57 => .int .i64 i9) [] 0 1, .q 43 (fun g57 => .pointer (some ⟨b51, o52 + Int.toNat i9 * 53, none⟩)) [8, 9] 0 1, .q 44 (fun g57 => .pointer (some ⟨b51, o52 + Int.toNat i9 * 53 + 20, none⟩)) [10] 0 1, .q 45 (fun g57 => .agg (Cd.cs (cVec (cInt .u8) 32 (by decide)) ((lget x0 i9).f_Key)).toArray) [11] 0 0, .al 0 46 (fun g57 => .slice ((g57 0).2.1) t53.length ((g57 0).2.2.1)) [7, 12], .q 47 (fun g57 => .bool t56) [6, 13] 1 1, .q 48 (fun g57 => .bool (!t56)) [14] 0 1] (fun g57 s => match s with | 0 => (Wd w [mapE b6 (cVec (cInt .u8) 32 (by decide)) c_census_Count true t5, cellsE b1 (Cd.cs (cVec (cInt .u8) 32 (by decide)) x1) 48]) | _ => (Wd w [rowE c_api_Event 58 ((g57 0).2.1) ((g57 0).2.2.1) t53, mapE b6 (cVec (cInt .u8) 32 (by decide)) c_census_Count true t5, cellsE b1 (Cd.cs (cVec (cInt .u8) 32 (by decide)) x1) 48])) 1 (by kernel_rfl) (by kernel_rfl) (by kernel_rfl) (by kernel_rfl) (by kernel_rfl) ⟨fun _ _ _ => rfl, fun _ _ _ => rfl, fun _ _ _ => rfl, fun _ _ _ => rfl, fun _ _ _ => rfl, fun _ _ _ => rfl, fun _ _ _ => rfl, fun _ _ _ => rfl, fun _ _ _ => rfl, fun _ _ _ => rfl, fun _ _ _ => rfl, fun _ _ _ => rfl, fun _ _ _ => rfl, fun g57 g2 h => by show (.slice ((g57 0).2.1) t53.length ((g57 0).2.2.1) : Value) = .slice ((g2 0).2.1) t53.length ((g2 0).2.2.1); rw [h 0 (show 0 < 1 by decide)], fun _ _ _ => rfl, fun _ _ _ => rfl, trivial⟩ (by kernel_rfl) (fun _ h => ⟨fun _ => (0, none, 0, none), h.drew⟩) ⟨?_, ?_, ?_, ?_, ?_, ?_, ?_, ?_, ?_, ?_, ?_, ?_, ?_, ?_, ?_, ?_, trivial⟩ ?_
            · intro Lx g57 s K hl hh k
              show At 78 ((0, _) :: (3, _) :: (5, _) :: (6, _) :: (7, _) :: Lx) _ _
              refine at_val rfl rfl rfl (r_move rfl) ?_
              exact at_nil k
            · intro Lx g57 s K hl hh k
              show At 78 ((0, _) :: (3, _) :: (5, _) :: (6, _) :: (7, _) :: Lx) _ _
              refine at_val rfl rfl rfl (r_move rfl) ?_
              exact at_nil k
            · intro Lx g57 s K hl hh k
              show At 78 ((0, _) :: (3, _) :: (5, _) :: (6, _) :: (7, _) :: Lx) _ _
              refine at_val rfl rfl rfl (r_move rfl) ?_
              exact at_nil k
            · intro Lx g57 s K hl hh k
              show At 78 ((34, _) :: (35, _) :: (0, _) :: (3, _) :: (5, _) :: (6, _) :: (7, _) :: Lx) _ _
              refine at_val rfl rfl rfl (r_idx Tryd.underlying41 Tryd.sizeOf58 rfl rfl h45 hp46) ?_
              exact at_nil k
            · intro Lx g57 s K hl hh k
              show At 78 ((36, _) :: (0, _) :: (3, _) :: (5, _) :: (6, _) :: (7, _) :: Lx) _ _
              refine at_val rfl rfl rfl (r_fieldAddr (fo := 20) Tryd.underlying58 rfl rfl (fun w => ⟨_, Tryd.sizeOf48 w⟩) rfl) ?_
              exact at_nil k
            · intro Lx g57 s K hl hh k
              show At 78 ((37, _) :: (0, _) :: (3, _) :: (5, _) :: (6, _) :: (7, _) :: Lx) _ _
              rcases (by omega : s = 0 ∨ s = 1) with rfl | rfl
              · skip
                refine at_val rfl rfl rfl (r_load_aggc (c := (cVec (cInt .u8) 32 (by decide))) (z := (lget x0 i9).f_Key) Tryd.isAgg48 Tryd.sizeOf48 rfl (row_lens (y := (lget x0 i9).f_Key) (fun _ h => h.below) hr0 h45 hp46 (Lens.comp (Lens.whole _ _) (fun z => { (lget x0 i9) with f_Key := z }) (c_api_Event_f_Key (lget x0 i9))))) ?_
                exact at_nil k
              · skip
                refine at_val rfl rfl rfl (r_load_aggc (c := (cVec (cInt .u8) 32 (by decide))) (z := (lget x0 i9).f_Key) Tryd.isAgg48 Tryd.sizeOf48 rfl (row_lens (y := (lget x0 i9).f_Key) (fun _ h => h.below) hr0 h45 hp46 (Lens.comp (Lens.whole _ _) (fun z => { (lget x0 i9) with f_Key := z }) (c_api_Event_f_Key (lget x0 i9))))) ?_
                exact at_nil k
            · intro Lx g57 s K hl hh k
              show At 78 ((33, _) :: (38, _) :: (0, _) :: (3, _) :: (5, _) :: (6, _) :: (7, _) :: Lx) _ _
              rcases (by omega : s = 0 ∨ s = 1) with rfl | rfl
              · skip
                refine at_val rfl rfl rfl (r_lookup (d := c_census_Count) (va := true) (k := (lget x0 i9).f_Key) (zv := ({ f_Kinds := (Vector.replicate 7 (0 : Int) : (Vector Int 7)), f_Bytes := (Vector.replicate 7 (0 : Int) : (Vector Int 7)), f_Whys := (Vector.replicate 21 (0 : Int) : (Vector Int 21)) } : S_census_Count)) Tryd.underlying49 (keylaw_vec Tryd.underlying48 Tryd.underlying5 Tryd.sizeOf5 Tryd.isAgg5 (eqs_vec Tryd.underlying48 infoT5 Tryd.sizeOf5 Tryd.isAgg5 (.inr rfl) (eqs_int Tryd.underlying5)) (by decide)) Tryd.zeroValue37 rfl rfl (fun w1 hw => hw.ok (Upd.mem .z))) ?_
                exact at_nil k
              · skip
                refine at_val rfl rfl rfl (r_lookup (d := c_census_Count) (va := true) (k := (lget x0 i9).f_Key) (zv := ({ f_Kinds := (Vector.replicate 7 (0 : Int) : (Vector Int 7)), f_Bytes := (Vector.replicate 7 (0 : Int) : (Vector Int 7)), f_Whys := (Vector.replicate 21 (0 : Int) : (Vector Int 21)) } : S_census_Count)) Tryd.underlying49 (keylaw_vec Tryd.underlying48 Tryd.underlying5 Tryd.sizeOf5 Tryd.isAgg5 (eqs_vec Tryd.underlying48 infoT5 Tryd.sizeOf5 Tryd.isAgg5 (.inr rfl) (eqs_int Tryd.underlying5)) (by decide)) Tryd.zeroValue37 rfl rfl (fun w1 hw => hw.ok (Upd.mem (.s .z)))) ?_
                exact at_nil k
            · intro Lx g57 s K hl hh k
              show At 78 ((0, _) :: (3, _) :: (5, _) :: (6, _) :: (7, _) :: Lx) _ _
              refine at_val rfl rfl rfl (r_move rfl) ?_
              exact at_nil k
            · intro Lx g57 s K hl hh k
              show At 78 ((0, _) :: (3, _) :: (5, _) :: (6, _) :: (7, _) :: Lx) _ _
              refine at_val rfl rfl rfl (r_move rfl) ?_
              exact at_nil k
            · intro Lx g57 s K hl hh k
              show At 78 ((0, _) :: (3, _) :: (5, _) :: (6, _) :: (7, _) :: Lx) _ _
              refine at_val rfl rfl rfl (r_move rfl) ?_
              exact at_nil k
            · intro Lx g57 s K hl hh k
              show At 78 ((41, _) :: (42, _) :: (0, _) :: (3, _) :: (5, _) :: (6, _) :: (7, _) :: Lx) _ _
              refine at_val rfl rfl rfl (r_idx Tryd.underlying41 Tryd.sizeOf58 rfl rfl h49 hp50) ?_
              exact at_nil k
            · intro Lx g57 s K hl hh k
              show At 78 ((43, _) :: (0, _) :: (3, _) :: (5, _) :: (6, _) :: (7, _) :: Lx) _ _
              refine at_val rfl rfl rfl (r_fieldAddr (fo := 20) Tryd.underlying58 rfl rfl (fun w => ⟨_, Tryd.sizeOf48 w⟩) rfl) ?_
              exact at_nil k
            · intro Lx g57 s K hl hh k
              show At 78 ((44, _) :: (0, _) :: (3, _) :: (5, _) :: (6, _) :: (7, _) :: Lx) _ _
              obtain rfl : s = 0 := by omega
              refine at_val rfl rfl rfl (r_load_aggc (c := (cVec (cInt .u8) 32 (by decide))) (z := (lget x0 i9).f_Key) Tryd.isAgg48 Tryd.sizeOf48 rfl (row_lens (y := (lget x0 i9).f_Key) (fun _ h => h.below) hr0 h49 hp50 (Lens.comp (Lens.whole _ _) (fun z => { (lget x0 i9) with f_Key := z }) (c_api_Event_f_Key (lget x0 i9))))) ?_
              exact at_nil k
            · intro Lx g57 K k
              show At 78 ((40, _) :: (45, _) :: (0, _) :: (3, _) :: (5, _) :: (6, _) :: (7, _) :: Lx) _ _
              refine at_callO (c := c_api_Event) (e := 58) (ys := t53) (V := fun p cap => .slice p t53.length cap) Tryd.func27 rfl (by kernel_rfl) rfl rfl (fun w hw => crawlwayref52_Of_ok _ _ _ _ _ ht53 w (hr0.below hw.below)) ?_
              intro p54 c55
              exact at_nil (k (0, p54, c55, none))
            · intro Lx g57 s K hl hh k
              show At 78 ((39, _) :: (46, _) :: (0, _) :: (3, _) :: (5, _) :: (6, _) :: (7, _) :: Lx) _ _
              obtain rfl : s = 1 := by omega
              refine at_callB Tryd.func24 rfl (by kernel_rfl) rfl rfl (fun w hw => crawlwaylaw52_is_ok _ _ _ _ _ ht56 w (hw.own .z).row) ?_
              exact at_nil k
            · intro Lx g57 s K hl hh k
              show At 78 ((47, _) :: (0, _) :: (3, _) :: (5, _) :: (6, _) :: (7, _) :: Lx) _ _
              refine at_val rfl rfl rfl (r_not rfl) ?_
              exact at_nil k
            intro g57
            show At 78 [(33, _), (34, _), (35, _), (36, _), (37, _), (38, _), (39, _), (40, _), (41, _), (42, _), (43, _), (44, _), (45, _), (46, _), (47, _), (48, _), (0, _), (3, _), (5, _), (6, _), (7, _)] _ _
            refine at_drop (H := _) .z ?_
            refine at_weak [(0, _), (3, _), (5, _), (6, _), (7, _), (48, _)] ⟨rfl, rfl, rfl, rfl, rfl, rfl, trivial⟩ ?_
            refine at_then_normal ?_
            rcases of_ite hF with ⟨h58, hF⟩ | ⟨h58, hF⟩
            · refine at_cond_true rfl h58 ?_
              refine at_seq ?_
              refine at_region ?_
              refine at_val rfl rfl rfl (r_assign rfl) ?_
              refine at_nil ?_
              refine at_drop (H := _) .z ?_
              refine at_drop (H := _) .z ?_
              refine at_weak [(4, _)] ⟨rfl, trivial⟩ ?_
              refine at_then_normal ?_
              refine at_ret ?_
              refine at_then_ret (at_blk_ret (at_then_ret (at_then_ret (at_blk_ret (at_then_ret ?_)))))
              obtain rfl := of_some hF
              subst K
              exact at_return1 rfl rfl (fun w1 hw => ⟨rfl, hw.below⟩)
            · refine at_cond_false rfl h58 ?_
              refine at_skip ?_
              refine at_then_normal ?_
              refine at_seq ?_
              refine at_weak [(0, _), (3, _), (5, _), (6, _), (7, _)] ⟨rfl, rfl, rfl, rfl, rfl, trivial⟩ ?_
              obtain ⟨h59, hF⟩ := of_guard hF
              obtain ⟨h60, hF⟩ := of_guard hF
              obtain ⟨b62, o63, hp61⟩ := row_ptr hr0 h60
              obtain ⟨t64, ht64, hF⟩ := of_bindM hF
              refine at_inv [.q 49 (fun g67 => .slice p0_ x0.length c0_) [] 0 1, .q 50 (fun g67 => .int .i64 i9) [] 0 1, .q 51 (fun g67 => .slice (rsp p0_ c0_ 0 (Cd.sz c_api_Event)) (lsub x0 0 i9).length (c0_ - Int.toNat 0)) [0, 1] 0 0, .q 52 (fun g67 => .slice p0_ x0.length c0_) [] 0 1, .q 53 (fun g67 => .int .i64 i9) [] 0 1, .q 54 (fun g67 => .pointer (some ⟨b62, o63 + Int.toNat i9 * 53, none⟩)) [3, 4] 0 1, .q 55 (fun g67 => .pointer (some ⟨b62, o63 + Int.toNat i9 * 53 + 20, none⟩)) [5] 0 1, .q 56 (fun g67 => .agg (Cd.cs (cVec (cInt .u8) 32 (by decide)) ((lget x0 i9).f_Key)).toArray) [6] 0 0, .al 0 57 (fun g67 => .slice ((g67 0).2.1) t64.length ((g67 0).2.2.1)) [2, 7], .q 58 (fun g67 => .int .i64 (t64.length : Int)) [8] 1 1, .q 59 (fun g67 => .bool ((t64.length : Int) == 0)) [9] 0 1] (fun g67 s => match s with | 0 => (Wd w [mapE b6 (cVec (cInt .u8) 32 (by decide)) c_census_Count true t5, cellsE b1 (Cd.cs (cVec (cInt .u8) 32 (by decide)) x1) 48]) | _ => (Wd w [rowE c_api_Event 58 ((g67 0).2.1) ((g67 0).2.2.1) t64, mapE b6 (cVec (cInt .u8) 32 (by decide)) c_census_Count true t5, cellsE b1 (Cd.cs (cVec (cInt .u8) 32 (by decide)) x1) 48])) 1 (by kernel_rfl) (by kernel_rfl) (by kernel_rfl) (by kernel_rfl) (by kernel_rfl) ⟨fun _ _ _ => rfl, fun _ _ _ => rfl, fun _ _ _ => rfl, fun _ _ _ => rfl, fun _ _ _ => rfl, fun _ _ _ => rfl, fun _ _ _ => rfl, fun _ _ _ => rfl, fun g67 g2 h => by show (.slice ((g67 0).2.1) t64.length ((g67 0).2.2.1) : Value) = .slice ((g2 0).2.1) t64.length ((g2 0).2.2.1); rw [h 0 (show 0 < 1 by decide)], fun _ _ _ => rfl, fun _ _ _ => rfl, trivial⟩ (by kernel_rfl) (fun _ h => ⟨fun _ => (0, none, 0, none), h.drew⟩) ⟨?_, ?_, ?_, ?_, ?_, ?_, ?_, ?_, ?_, ?_, ?_, trivial⟩ ?_
              · intro Lx g67 s K hl hh k
                show At 78 ((0, _) :: (3, _) :: (5, _) :: (6, _) :: (7, _) :: Lx) _ _
                refine at_val rfl rfl rfl (r_move rfl) ?_
                exact at_nil k
              · intro Lx g67 s K hl hh k
                show At 78 ((0, _) :: (3, _) :: (5, _) :: (6, _) :: (7, _) :: Lx) _ _
                refine at_val rfl rfl rfl (r_move rfl) ?_
                exact at_nil k
              · intro Lx g67 s K hl hh k
                show At 78 ((49, _) :: (50, _) :: (0, _) :: (3, _) :: (5, _) :: (6, _) :: (7, _) :: Lx) _ _
                obtain rfl : s = 0 := by omega
                refine at_val rfl rfl rfl (r_reslice (c := c_api_Event) Tryd.underlying41 Tryd.sizeOf58 rfl (Row.len hr0) rfl ⟨_, rfl⟩ h59) ?_
                exact at_nil k
              · intro Lx g67 s K hl hh k
                show At 78 ((0, _) :: (3, _) :: (5, _) :: (6, _) :: (7, _) :: Lx) _ _
                refine at_val rfl rfl rfl (r_move rfl) ?_
                exact at_nil k
              · intro Lx g67 s K hl hh k
                show At 78 ((0, _) :: (3, _) :: (5, _) :: (6, _) :: (7, _) :: Lx) _ _
                refine at_val rfl rfl rfl (r_move rfl) ?_
                exact at_nil k
              · intro Lx g67 s K hl hh k
                show At 78 ((52, _) :: (53, _) :: (0, _) :: (3, _) :: (5, _) :: (6, _) :: (7, _) :: Lx) _ _
                refine at_val rfl rfl rfl (r_idx Tryd.underlying41 Tryd.sizeOf58 rfl rfl h60 hp61) ?_
                exact at_nil k
              · intro Lx g67 s K hl hh k
                show At 78 ((54, _) :: (0, _) :: (3, _) :: (5, _) :: (6, _) :: (7, _) :: Lx) _ _
                refine at_val rfl rfl rfl (r_fieldAddr (fo := 20) Tryd.underlying58 rfl rfl (fun w => ⟨_, Tryd.sizeOf48 w⟩) rfl) ?_
                exact at_nil k
              · intro Lx g67 s K hl hh k
                show At 78 ((55, _) :: (0, _) :: (3, _) :: (5, _) :: (6, _) :: (7, _) :: Lx) _ _
                obtain rfl : s = 0 := by omega
                refine at_val rfl rfl rfl (r_load_aggc (c := (cVec (cInt .u8) 32 (by decide))) (z := (lget x0 i9).f_Key) Tryd.isAgg48 Tryd.sizeOf48 rfl (row_lens (y := (lget x0 i9).f_Key) (fun _ h => h.below) hr0 h60 hp61 (Lens.comp (Lens.whole _ _) (fun z => { (lget x0 i9) with f_Key := z }) (c_api_Event_f_Key (lget x0 i9))))) ?_
                exact at_nil k
              · intro Lx g67 K k
                show At 78 ((51, _) :: (56, _) :: (0, _) :: (3, _) :: (5, _) :: (6, _) :: (7, _) :: Lx) _ _
                refine at_callO (c := c_api_Event) (e := 58) (ys := t64) (V := fun p cap => .slice p t64.length cap) Tryd.func27 rfl (by kernel_rfl) rfl rfl (fun w hw => crawlwayref52_Of_ok _ _ _ _ _ ht64 w ((Row.sub hr0 h59).below hw.below)) ?_
                intro p65 c66
                exact at_nil (k (0, p65, c66, none))
              · intro Lx g67 s K hl hh k
                show At 78 ((57, _) :: (0, _) :: (3, _) :: (5, _) :: (6, _) :: (7, _) :: Lx) _ _
                obtain rfl : s = 1 := by omega
                refine at_val rfl rfl rfl (r_len_sl Tryd.underlying41 rfl) ?_
                exact at_nil k
              · intro Lx g67 s K hl hh k
                show At 78 ((58, _) :: (0, _) :: (3, _) :: (5, _) :: (6, _) :: (7, _) :: Lx) _ _
                refine at_val rfl rfl rfl (r_ieql rfl rfl) ?_
                exact at_nil k
              intro g67
              show At 78 [(49, _), (50, _), (51, _), (52, _), (53, _), (54, _), (55, _), (56, _), (57, _), (58, _), (59, _), (0, _), (3, _), (5, _), (6, _), (7, _)] _ _
              refine at_drop (H := _) .z ?_
              refine at_weak [(0, _), (3, _), (5, _), (6, _), (7, _), (59, _)] ⟨rfl, rfl, rfl, rfl, rfl, rfl, trivial⟩ ?_
              refine at_then_normal ?_
              rcases of_ite hF with ⟨h68, hF⟩ | ⟨h68, hF⟩
              · refine at_cond_true rfl h68 ?_
                refine at_region ?_
                refine at_val rfl rfl rfl (r_move rfl) ?_
                refine at_val rfl rfl rfl (r_iadd rfl rfl) ?_
                refine at_val rfl rfl rfl (r_assign rfl) ?_
                refine at_nil ?_
                refine at_weak [(0, _), (3, _), (5, _), (6, _), (7, _)] ⟨rfl, rfl, rfl, rfl, rfl, trivial⟩ ?_
                refine at_blk_normal (at_then_normal ?_)
                refine at_region ?_
                refine at_val rfl rfl rfl (r_move rfl) ?_
                refine at_val rfl rfl rfl (r_iadd rfl rfl) ?_
                refine at_val rfl rfl rfl (r_assign rfl) ?_
                refine at_nil ?_
                refine at_weak [(0, _), (3, _), (5, _), (6, _), (7, _)] ⟨rfl, rfl, rfl, rfl, rfl, trivial⟩ ?_
                refine at_then_normal ?_
                exact at_weak_k (ih _ _ _ hF K) ⟨rfl, rfl, rfl, rfl, rfl, trivial⟩
              · refine at_cond_false rfl h68 ?_
                refine at_skip ?_
                refine at_blk_normal (at_then_normal ?_)
                refine at_region ?_
                refine at_val rfl rfl rfl (r_move rfl) ?_
                refine at_val rfl rfl rfl (r_iadd rfl rfl) ?_
                refine at_val rfl rfl rfl (r_assign rfl) ?_
                refine at_nil ?_
                refine at_weak [(0, _), (3, _), (5, _), (6, _), (7, _)] ⟨rfl, rfl, rfl, rfl, rfl, trivial⟩ ?_
                refine at_then_normal ?_
                exact at_weak_k (ih _ _ _ hF K) ⟨rfl, rfl, rfl, rfl, rfl, trivial⟩
        · refine at_cond_false rfl h10 ?_
          refine at_exit ?_
          refine at_then_exit (at_then_exit ?_)
          obtain rfl := of_some hF
          exact at_weak_k K ⟨rfl, rfl, rfl, rfl, trivial⟩
    · cases q7 with
      | ret r' => exact of_some hF
      | nx sq7 =>
        skip
        refine at_blk_same ?_
        refine at_then_normal ?_
        refine at_seq ?_
        refine at_weak [(0, _), (3, _), (5, _), (6, _)] ⟨rfl, rfl, rfl, rfl, trivial⟩ ?_
        rcases of_ite hF with ⟨h69, hF⟩ | ⟨h69, hF⟩
        · skip
          obtain ⟨t70, ht70, hF⟩ := of_bindM hF
          obtain ⟨t73, ht73, hF⟩ := of_bindM hF
          rcases of_ite hF with ⟨h74, hF⟩ | ⟨h74, hF⟩
          · skip
            obtain ⟨t75, ht75, hF⟩ := of_bindM hF
            refine at_inv [.q 62 (fun g76 => .map (some b6)) [] 0 1, .q 63 (fun g76 => .int .i64 (List.length t5 : Int)) [0] 0 1, .q 64 (fun g76 => .int .i64 sq7) [] 0 1, .q 65 (fun g76 => .bool ((List.length t5 : Int) == sq7)) [1, 2] 0 1, .q 66 (fun g76 => .bool true) [3] 0 0, .q 67 (fun g76 => .map (some b6)) [4] 0 1, .q 68 (fun g76 => .agg (Cd.cs (cVec (cInt .u8) 32 (by decide)) x1).toArray) [4] 0 1, .q 69 (fun g76 => .agg (Cd.cs c_census_Count (mget t5 x1 ({ f_Kinds := (Vector.replicate 7 (0 : Int) : (Vector Int 7)), f_Bytes := (Vector.replicate 7 (0 : Int) : (Vector Int 7)), f_Whys := (Vector.replicate 21 (0 : Int) : (Vector Int 21)) } : S_census_Count))).toArray) [4, 5, 6] 0 1, .q 70 (fun g76 => .slice p0_ x0.length c0_) [4] 0 0, .q 71 (fun g76 => .agg (Cd.cs (cVec (cInt .u8) 32 (by decide)) x1).toArray) [4] 0 0, .al 0 72 (fun g76 => .slice ((g76 0).2.1) t70.length ((g76 0).2.2.1)) [4, 8, 9], .q 73 (fun g76 => .bool t73) [4, 7, 10] 1 1, .q 74 (fun g76 => .bool t73) [4, 11] 0 1, .q 75 (fun g76 => .bool true) [12] 0 1, .q 76 (fun g76 => .bool t75) [13] 0 1, .q 77 (fun g76 => .bool t75) [13, 14] 0 1, .q 4 (fun g76 => .bool t75) [15] 1 1] (fun g76 s => match s with | 0 => (Wd w [mapE b6 (cVec (cInt .u8) 32 (by decide)) c_census_Count true t5, cellsE b1 (Cd.cs (cVec (cInt .u8) 32 (by decide)) x1) 48]) | _ => (Wd w [rowE c_api_Event 58 ((g76 0).2.1) ((g76 0).2.2.1) t70, mapE b6 (cVec (cInt .u8) 32 (by decide)) c_census_Count true t5, cellsE b1 (Cd.cs (cVec (cInt .u8) 32 (by decide)) x1) 48])) 1 (by kernel_rfl) (by kernel_rfl) (by kernel_rfl) (by kernel_rfl) (by kernel_rfl) ⟨fun _ _ _ => rfl, fun _ _ _ => rfl, fun _ _ _ => rfl, fun _ _ _ => rfl, fun _ _ _ => rfl, fun _ _ _ => rfl, fun _ _ _ => rfl, fun _ _ _ => rfl, fun _ _ _ => rfl, fun _ _ _ => rfl, fun g76 g2 h => by show (.slice ((g76 0).2.1) t70.length ((g76 0).2.2.1) : Value) = .slice ((g2 0).2.1) t70.length ((g2 0).2.2.1); rw [h 0 (show 0 < 1 by decide)], fun _ _ _ => rfl, fun _ _ _ => rfl, fun _ _ _ => rfl, fun _ _ _ => rfl, fun _ _ _ => rfl, fun _ _ _ => rfl, trivial⟩ (by kernel_rfl) (fun _ h => ⟨fun _ => (0, none, 0, none), h.drew⟩) ⟨?_, ?_, ?_, ?_, ?_, ?_, ?_, ?_, ?_, ?_, ?_, ?_, ?_, ?_, ?_, ?_, ?_, trivial⟩ ?_
            · intro Lx g76 s K hl hh k
              show At 78 ((0, _) :: (3, _) :: (5, _) :: (6, _) :: Lx) _ _
              refine at_val rfl rfl rfl (r_move rfl) ?_
              exact at_nil k
            · intro Lx g76 s K hl hh k
              show At 78 ((62, _) :: (0, _) :: (3, _) :: (5, _) :: (6, _) :: Lx) _ _
              rcases (by omega : s = 0 ∨ s = 1) with rfl | rfl
              · skip
                refine at_val rfl rfl rfl (r_len_map Tryd.underlying49 rfl (fun w1 hw => hw.ok (Upd.mem .z))) ?_
                exact at_nil k
              · skip
                refine at_val rfl rfl rfl (r_len_map Tryd.underlying49 rfl (fun w1 hw => hw.ok (Upd.mem (.s .z)))) ?_
                exact at_nil k
            · intro Lx g76 s K hl hh k
              show At 78 ((0, _) :: (3, _) :: (5, _) :: (6, _) :: Lx) _ _
              refine at_val rfl rfl rfl (r_move rfl) ?_
              exact at_nil k
            · intro Lx g76 s K hl hh k
              show At 78 ((63, _) :: (64, _) :: (0, _) :: (3, _) :: (5, _) :: (6, _) :: Lx) _ _
              refine at_val rfl rfl rfl (r_ieql rfl rfl) ?_
              exact at_nil k
            · intro Lx g76 s K hl hh k
              show At 78 ((65, _) :: (0, _) :: (3, _) :: (5, _) :: (6, _) :: Lx) _ _
              refine at_val rfl rfl rfl (r_move rfl) ?_
              exact at_nil (at_cast h69 k)
            · intro Lx g76 s K hl hh k
              show At 78 ((66, _) :: (0, _) :: (3, _) :: (5, _) :: (6, _) :: Lx) _ _
              refine at_guard_yes rfl rfl rfl ?_
              refine at_val rfl rfl rfl (r_move rfl) ?_
              exact at_nil k
            · intro Lx g76 s K hl hh k
              show At 78 ((66, _) :: (0, _) :: (3, _) :: (5, _) :: (6, _) :: Lx) _ _
              refine at_guard_yes rfl rfl rfl ?_
              rcases (by omega : s = 0 ∨ s = 1) with rfl | rfl
              · skip
                refine at_val rfl rfl rfl (r_load_aggc (c := (cVec (cInt .u8) 32 (by decide))) (z := x1) Tryd.isAgg48 Tryd.sizeOf48 rfl (lens_cell (.s .z) (Lens.whole _ _))) ?_
                exact at_nil k
              · skip
                refine at_val rfl rfl rfl (r_load_aggc (c := (cVec (cInt .u8) 32 (by decide))) (z := x1) Tryd.isAgg48 Tryd.sizeOf48 rfl (lens_cell (.s (.s .z)) (Lens.whole _ _))) ?_
                exact at_nil k
            · intro Lx g76 s K hl hh k
              show At 78 ((66, _) :: (67, _) :: (68, _) :: (0, _) :: (3, _) :: (5, _) :: (6, _) :: Lx) _ _
              refine at_guard_yes rfl rfl rfl ?_
              rcases (by omega : s = 0 ∨ s = 1) with rfl | rfl
              · skip
                refine at_val rfl rfl rfl (r_lookup (d := c_census_Count) (va := true) (k := x1) (zv := ({ f_Kinds := (Vector.replicate 7 (0 : Int) : (Vector Int 7)), f_Bytes := (Vector.replicate 7 (0 : Int) : (Vector Int 7)), f_Whys := (Vector.replicate 21 (0 : Int) : (Vector Int 21)) } : S_census_Count)) Tryd.underlying49 (keylaw_vec Tryd.underlying48 Tryd.underlying5 Tryd.sizeOf5 Tryd.isAgg5 (eqs_vec Tryd.underlying48 infoT5 Tryd.sizeOf5 Tryd.isAgg5 (.inr rfl) (eqs_int Tryd.underlying5)) (by decide)) Tryd.zeroValue37 rfl rfl (fun w1 hw => hw.ok (Upd.mem .z))) ?_
                exact at_nil k
              · skip
                refine at_val rfl rfl rfl (r_lookup (d := c_census_Count) (va := true) (k := x1) (zv := ({ f_Kinds := (Vector.replicate 7 (0 : Int) : (Vector Int 7)), f_Bytes := (Vector.replicate 7 (0 : Int) : (Vector Int 7)), f_Whys := (Vector.replicate 21 (0 : Int) : (Vector Int 21)) } : S_census_Count)) Tryd.underlying49 (keylaw_vec Tryd.underlying48 Tryd.underlying5 Tryd.sizeOf5 Tryd.isAgg5 (eqs_vec Tryd.underlying48 infoT5 Tryd.sizeOf5 Tryd.isAgg5 (.inr rfl) (eqs_int Tryd.underlying5)) (by decide)) Tryd.zeroValue37 rfl rfl (fun w1 hw => hw.ok (Upd.mem (.s .z)))) ?_
                exact at_nil k
            · intro Lx g76 s K hl hh k
              show At 78 ((66, _) :: (0, _) :: (3, _) :: (5, _) :: (6, _) :: Lx) _ _
              refine at_guard_yes rfl rfl rfl ?_
              refine at_val rfl rfl rfl (r_move rfl) ?_
              exact at_nil k
            · intro Lx g76 s K hl hh k
              show At 78 ((66, _) :: (0, _) :: (3, _) :: (5, _) :: (6, _) :: Lx) _ _
              refine at_guard_yes rfl rfl rfl ?_
              obtain rfl : s = 0 := by omega
              refine at_val rfl rfl rfl (r_load_aggc (c := (cVec (cInt .u8) 32 (by decide))) (z := x1) Tryd.isAgg48 Tryd.sizeOf48 rfl (lens_cell (.s .z) (Lens.whole _ _))) ?_
              exact at_nil k
            · intro Lx g76 K k
              show At 78 ((66, _) :: (70, _) :: (71, _) :: (0, _) :: (3, _) :: (5, _) :: (6, _) :: Lx) _ _
              refine at_guard_yes rfl rfl rfl ?_
              refine at_callO (c := c_api_Event) (e := 58) (ys := t70) (V := fun p cap => .slice p t70.length cap) Tryd.func27 rfl (by kernel_rfl) rfl rfl (fun w hw => crawlwayref52_Of_ok _ _ _ _ _ ht70 w (hr0.below hw.below)) ?_
              intro p71 c72
              exact at_nil (k (0, p71, c72, none))
            · intro Lx g76 s K hl hh k
              show At 78 ((66, _) :: (69, _) :: (72, _) :: (0, _) :: (3, _) :: (5, _) :: (6, _) :: Lx) _ _
              refine at_guard_yes rfl rfl rfl ?_
              obtain rfl : s = 1 := by omega
              refine at_callB Tryd.func24 rfl (by kernel_rfl) rfl rfl (fun w hw => crawlwaylaw52_is_ok _ _ _ _ _ ht73 w (hw.own .z).row) ?_
              exact at_nil k
            · intro Lx g76 s K hl hh k
              show At 78 ((66, _) :: (73, _) :: (0, _) :: (3, _) :: (5, _) :: (6, _) :: Lx) _ _
              refine at_val rfl rfl rfl (r_pick rfl rfl rfl) ?_
              exact at_nil k
            · intro Lx g76 s K hl hh k
              show At 78 ((74, _) :: (0, _) :: (3, _) :: (5, _) :: (6, _) :: Lx) _ _
              refine at_val rfl rfl rfl (r_move rfl) ?_
              exact at_nil (at_cast h74 k)
            · intro Lx g76 s K hl hh k
              show At 78 ((75, _) :: (0, _) :: (3, _) :: (5, _) :: (6, _) :: Lx) _ _
              refine at_guard_yes rfl rfl rfl ?_
              rcases (by omega : s = 0 ∨ s = 1) with rfl | rfl
              · skip
                refine at_callB Tryd.func21 rfl (by kernel_rfl) rfl rfl (fun w hw => crawlwaylaw52_alive_ok  _ ht75 w (hg_census_names.on hw.below) (hg_strconv_uint64pow10.on hw.below)) ?_
                exact at_nil k
              · skip
                refine at_callB Tryd.func21 rfl (by kernel_rfl) rfl rfl (fun w hw => crawlwaylaw52_alive_ok  _ ht75 w (hg_census_names.on hw.below) (hg_strconv_uint64pow10.on hw.below)) ?_
                exact at_nil k
            · intro Lx g76 s K hl hh k
              show At 78 ((75, _) :: (76, _) :: (0, _) :: (3, _) :: (5, _) :: (6, _) :: Lx) _ _
              refine at_val rfl rfl rfl (r_pick rfl rfl rfl) ?_
              exact at_nil k
            · intro Lx g76 s K hl hh k
              show At 78 ((77, _) :: (0, _) :: (3, _) :: (5, _) :: (6, _) :: Lx) _ _
              refine at_val rfl rfl rfl (r_assign rfl) ?_
              exact at_nil k
            intro g76
            show At 78 [(62, _), (63, _), (64, _), (65, _), (66, _), (67, _), (68, _), (69, _), (70, _), (71, _), (72, _), (73, _), (74, _), (75, _), (76, _), (77, _), (4, _), (0, _), (3, _), (5, _), (6, _)] _ _
            refine at_drop (H := _) .z ?_
            refine at_drop (H := _) .z ?_
            refine at_drop (H := _) .z ?_
            refine at_weak [(4, _)] ⟨rfl, trivial⟩ ?_
            refine at_then_normal ?_
            refine at_ret ?_
            have K := of_some hF
            subst K
            exact at_return1 rfl rfl (fun w1 hw => ⟨rfl, hw.below⟩)
          · skip
            refine at_inv [.q 62 (fun g77 => .map (some b6)) [] 0 1, .q 63 (fun g77 => .int .i64 (List.length t5 : Int)) [0] 0 1, .q 64 (fun g77 => .int .i64 sq7) [] 0 1, .q 65 (fun g77 => .bool ((List.length t5 : Int) == sq7)) [1, 2] 0 1, .q 66 (fun g77 => .bool true) [3] 0 0, .q 67 (fun g77 => .map (some b6)) [4] 0 1, .q 68 (fun g77 => .agg (Cd.cs (cVec (cInt .u8) 32 (by decide)) x1).toArray) [4] 0 1, .q 69 (fun g77 => .agg (Cd.cs c_census_Count (mget t5 x1 ({ f_Kinds := (Vector.replicate 7 (0 : Int) : (Vector Int 7)), f_Bytes := (Vector.replicate 7 (0 : Int) : (Vector Int 7)), f_Whys := (Vector.replicate 21 (0 : Int) : (Vector Int 21)) } : S_census_Count))).toArray) [4, 5, 6] 0 1, .q 70 (fun g77 => .slice p0_ x0.length c0_) [4] 0 0, .q 71 (fun g77 => .agg (Cd.cs (cVec (cInt .u8) 32 (by decide)) x1).toArray) [4] 0 0, .al 0 72 (fun g77 => .slice ((g77 0).2.1) t70.length ((g77 0).2.2.1)) [4, 8, 9], .q 73 (fun g77 => .bool t73) [4, 7, 10] 1 1, .q 74 (fun g77 => .bool t73) [4, 11] 0 1, .q 75 (fun g77 => .bool false) [12] 0 1, .q 76 (fun g77 => undef) [13] 0 1, .q 77 (fun g77 => .bool false) [13, 14] 0 1, .q 4 (fun g77 => .bool false) [15] 1 1] (fun g77 s => match s with | 0 => (Wd w [mapE b6 (cVec (cInt .u8) 32 (by decide)) c_census_Count true t5, cellsE b1 (Cd.cs (cVec (cInt .u8) 32 (by decide)) x1) 48]) | _ => (Wd w [rowE c_api_Event 58 ((g77 0).2.1) ((g77 0).2.2.1) t70, mapE b6 (cVec (cInt .u8) 32 (by decide)) c_census_Count true t5, cellsE b1 (Cd.cs (cVec (cInt .u8) 32 (by decide)) x1) 48])) 1 (by kernel_rfl) (by kernel_rfl) (by kernel_rfl) (by kernel_rfl) (by kernel_rfl) ⟨fun _ _ _ => rfl, fun _ _ _ => rfl, fun _ _ _ => rfl, fun _ _ _ => rfl, fun _ _ _ => rfl, fun _ _ _ => rfl, fun _ _ _ => rfl, fun _ _ _ => rfl, fun _ _ _ => rfl, fun _ _ _ => rfl, fun g77 g2 h => by show (.slice ((g77 0).2.1) t70.length ((g77 0).2.2.1) : Value) = .slice ((g2 0).2.1) t70.length ((g2 0).2.2.1); rw [h 0 (show 0 < 1 by decide)], fun _ _ _ => rfl, fun _ _ _ => rfl, fun _ _ _ => rfl, fun _ _ _ => rfl, fun _ _ _ => rfl, fun _ _ _ => rfl, trivial⟩ (by kernel_rfl) (fun _ h => ⟨fun _ => (0, none, 0, none), h.drew⟩) ⟨?_, ?_, ?_, ?_, ?_, ?_, ?_, ?_, ?_, ?_, ?_, ?_, ?_, ?_, ?_, ?_, ?_, trivial⟩ ?_
            · intro Lx g77 s K hl hh k
              show At 78 ((0, _) :: (3, _) :: (5, _) :: (6, _) :: Lx) _ _
              refine at_val rfl rfl rfl (r_move rfl) ?_
              exact at_nil k
            · intro Lx g77 s K hl hh k
              show At 78 ((62, _) :: (0, _) :: (3, _) :: (5, _) :: (6, _) :: Lx) _ _
              rcases (by omega : s = 0 ∨ s = 1) with rfl | rfl
              · skip
                refine at_val rfl rfl rfl (r_len_map Tryd.underlying49 rfl (fun w1 hw => hw.ok (Upd.mem .z))) ?_
                exact at_nil k
              · skip
                refine at_val rfl rfl rfl (r_len_map Tryd.underlying49 rfl (fun w1 hw => hw.ok (Upd.mem (.s .z)))) ?_
                exact at_nil k
            · intro Lx g77 s K hl hh k
              show At 78 ((0, _) :: (3, _) :: (5, _) :: (6, _) :: Lx) _ _
              refine at_val rfl rfl rfl (r_move rfl) ?_
              exact at_nil k
            · intro Lx g77 s K hl hh k
              show At 78 ((63, _) :: (64, _) :: (0, _) :: (3, _) :: (5, _) :: (6, _) :: Lx) _ _
              refine at_val rfl rfl rfl (r_ieql rfl rfl) ?_
              exact at_nil k
            · intro Lx g77 s K hl hh k
              show At 78 ((65, _) :: (0, _) :: (3, _) :: (5, _) :: (6, _) :: Lx) _ _
              refine at_val rfl rfl rfl (r_move rfl) ?_
              exact at_nil (at_cast h69 k)
            · intro Lx g77 s K hl hh k
              show At 78 ((66, _) :: (0, _) :: (3, _) :: (5, _) :: (6, _) :: Lx) _ _
              refine at_guard_yes rfl rfl rfl ?_
              refine at_val rfl rfl rfl (r_move rfl) ?_
              exact at_nil k
            · intro Lx g77 s K hl hh k
              show At 78 ((66, _) :: (0, _) :: (3, _) :: (5, _) :: (6, _) :: Lx) _ _
              refine at_guard_yes rfl rfl rfl ?_
              rcases (by omega : s = 0 ∨ s = 1) with rfl | rfl
              · skip
                refine at_val rfl rfl rfl (r_load_aggc (c := (cVec (cInt .u8) 32 (by decide))) (z := x1) Tryd.isAgg48 Tryd.sizeOf48 rfl (lens_cell (.s .z) (Lens.whole _ _))) ?_
                exact at_nil k
              · skip
                refine at_val rfl rfl rfl (r_load_aggc (c := (cVec (cInt .u8) 32 (by decide))) (z := x1) Tryd.isAgg48 Tryd.sizeOf48 rfl (lens_cell (.s (.s .z)) (Lens.whole _ _))) ?_
                exact at_nil k
            · intro Lx g77 s K hl hh k
              show At 78 ((66, _) :: (67, _) :: (68, _) :: (0, _) :: (3, _) :: (5, _) :: (6, _) :: Lx) _ _
              refine at_guard_yes rfl rfl rfl ?_
              rcases (by omega : s = 0 ∨ s = 1) with rfl | rfl
              · skip
                refine at_val rfl rfl rfl (r_lookup (d := c_census_Count) (va := true) (k := x1) (zv := ({ f_Kinds := (Vector.replicate 7 (0 : Int) : (Vector Int 7)), f_Bytes := (Vector.replicate 7 (0 : Int) : (Vector Int 7)), f_Whys := (Vector.replicate 21 (0 : Int) : (Vector Int 21)) } : S_census_Count)) Tryd.underlying49 (keylaw_vec Tryd.underlying48 Tryd.underlying5 Tryd.sizeOf5 Tryd.isAgg5 (eqs_vec Tryd.underlying48 infoT5 Tryd.sizeOf5 Tryd.isAgg5 (.inr rfl) (eqs_int Tryd.underlying5)) (by decide)) Tryd.zeroValue37 rfl rfl (fun w1 hw => hw.ok (Upd.mem .z))) ?_
                exact at_nil k
              · skip
                refine at_val rfl rfl rfl (r_lookup (d := c_census_Count) (va := true) (k := x1) (zv := ({ f_Kinds := (Vector.replicate 7 (0 : Int) : (Vector Int 7)), f_Bytes := (Vector.replicate 7 (0 : Int) : (Vector Int 7)), f_Whys := (Vector.replicate 21 (0 : Int) : (Vector Int 21)) } : S_census_Count)) Tryd.underlying49 (keylaw_vec Tryd.underlying48 Tryd.underlying5 Tryd.sizeOf5 Tryd.isAgg5 (eqs_vec Tryd.underlying48 infoT5 Tryd.sizeOf5 Tryd.isAgg5 (.inr rfl) (eqs_int Tryd.underlying5)) (by decide)) Tryd.zeroValue37 rfl rfl (fun w1 hw => hw.ok (Upd.mem (.s .z)))) ?_
                exact at_nil k
            · intro Lx g77 s K hl hh k
              show At 78 ((66, _) :: (0, _) :: (3, _) :: (5, _) :: (6, _) :: Lx) _ _
              refine at_guard_yes rfl rfl rfl ?_
              refine at_val rfl rfl rfl (r_move rfl) ?_
              exact at_nil k
            · intro Lx g77 s K hl hh k
              show At 78 ((66, _) :: (0, _) :: (3, _) :: (5, _) :: (6, _) :: Lx) _ _
              refine at_guard_yes rfl rfl rfl ?_
              obtain rfl : s = 0 := by omega
              refine at_val rfl rfl rfl (r_load_aggc (c := (cVec (cInt .u8) 32 (by decide))) (z := x1) Tryd.isAgg48 Tryd.sizeOf48 rfl (lens_cell (.s .z) (Lens.whole _ _))) ?_
              exact at_nil k
            · intro Lx g77 K k
              show At 78 ((66, _) :: (70, _) :: (71, _) :: (0, _) :: (3, _) :: (5, _) :: (6, _) :: Lx) _ _
              refine at_guard_yes rfl rfl rfl ?_
              refine at_callO (c := c_api_Event) (e := 58) (ys := t70) (V := fun p cap => .slice p t70.length cap) Tryd.func27 rfl (by kernel_rfl) rfl rfl (fun w hw => crawlwayref52_Of_ok _ _ _ _ _ ht70 w (hr0.below hw.below)) ?_
              intro p71 c72
              exact at_nil (k (0, p71, c72, none))
            · intro Lx g77 s K hl hh k
              show At 78 ((66, _) :: (69, _) :: (72, _) :: (0, _) :: (3, _) :: (5, _) :: (6, _) :: Lx) _ _
              refine at_guard_yes rfl rfl rfl ?_
              obtain rfl : s = 1 := by omega
              refine at_callB Tryd.func24 rfl (by kernel_rfl) rfl rfl (fun w hw => crawlwaylaw52_is_ok _ _ _ _ _ ht73 w (hw.own .z).row) ?_
              exact at_nil k
            · intro Lx g77 s K hl hh k
              show At 78 ((66, _) :: (73, _) :: (0, _) :: (3, _) :: (5, _) :: (6, _) :: Lx) _ _
              refine at_val rfl rfl rfl (r_pick rfl rfl rfl) ?_
              exact at_nil k
            · intro Lx g77 s K hl hh k
              show At 78 ((74, _) :: (0, _) :: (3, _) :: (5, _) :: (6, _) :: Lx) _ _
              refine at_val rfl rfl rfl (r_move rfl) ?_
              exact at_nil (at_cast h74 k)
            · intro Lx g77 s K hl hh k
              show At 78 ((75, _) :: (0, _) :: (3, _) :: (5, _) :: (6, _) :: Lx) _ _
              rcases (by omega : s = 0 ∨ s = 1) with rfl | rfl
              · skip
                refine at_guard_no rfl rfl rfl rfl rfl ?_
                exact at_nil k
              · skip
                refine at_guard_no rfl rfl rfl rfl rfl ?_
                exact at_nil k
            · intro Lx g77 s K hl hh k
              show At 78 ((75, _) :: (76, _) :: (0, _) :: (3, _) :: (5, _) :: (6, _) :: Lx) _ _
              refine at_val rfl rfl rfl (r_pick rfl rfl rfl) ?_
              exact at_nil k
            · intro Lx g77 s K hl hh k
              show At 78 ((77, _) :: (0, _) :: (3, _) :: (5, _) :: (6, _) :: Lx) _ _
              refine at_val rfl rfl rfl (r_assign rfl) ?_
              exact at_nil k
            intro g77
            show At 78 [(62, _), (63, _), (64, _), (65, _), (66, _), (67, _), (68, _), (69, _), (70, _), (71, _), (72, _), (73, _), (74, _), (75, _), (76, _), (77, _), (4, _), (0, _), (3, _), (5, _), (6, _)] _ _
            refine at_drop (H := _) .z ?_
            refine at_drop (H := _) .z ?_
            refine at_drop (H := _) .z ?_
            refine at_weak [(4, _)] ⟨rfl, trivial⟩ ?_
            refine at_then_normal ?_
            refine at_ret ?_
            have K := of_some hF
            subst K
            exact at_return1 rfl rfl (fun w1 hw => ⟨rfl, hw.below⟩)
        · skip
          refine at_inv [.q 62 (fun g78 => .map (some b6)) [] 0 0, .q 63 (fun g78 => .int .i64 (List.length t5 : Int)) [0] 0 0, .q 64 (fun g78 => .int .i64 sq7) [] 0 0, .q 65 (fun g78 => .bool ((List.length t5 : Int) == sq7)) [1, 2] 0 0, .q 66 (fun g78 => .bool false) [3] 0 0, .q 67 (fun g78 => undef) [4] 0 0, .q 68 (fun g78 => undef) [4] 0 0, .q 69 (fun g78 => undef) [4, 5, 6] 0 0, .q 70 (fun g78 => undef) [4] 0 0, .q 71 (fun g78 => undef) [4] 0 0, .q 72 (fun g78 => undef) [4, 8, 9] 0 0, .q 73 (fun g78 => undef) [4, 7, 10] 0 0, .q 74 (fun g78 => .bool false) [4, 11] 0 0, .q 75 (fun g78 => .bool false) [12] 0 0, .q 76 (fun g78 => undef) [13] 0 0, .q 77 (fun g78 => .bool false) [13, 14] 0 0, .q 4 (fun g78 => .bool false) [15] 0 0] (fun g78 s => match s with | _ => (Wd w [mapE b6 (cVec (cInt .u8) 32 (by decide)) c_census_Count true t5, cellsE b1 (Cd.cs (cVec (cInt .u8) 32 (by decide)) x1) 48])) 0 (by kernel_rfl) (by kernel_rfl) (by kernel_rfl) (by kernel_rfl) (by kernel_rfl) ⟨fun _ _ _ => rfl, fun _ _ _ => rfl, fun _ _ _ => rfl, fun _ _ _ => rfl, fun _ _ _ => rfl, fun _ _ _ => rfl, fun _ _ _ => rfl, fun _ _ _ => rfl, fun _ _ _ => rfl, fun _ _ _ => rfl, fun _ _ _ => rfl, fun _ _ _ => rfl, fun _ _ _ => rfl, fun _ _ _ => rfl, fun _ _ _ => rfl, fun _ _ _ => rfl, fun _ _ _ => rfl, trivial⟩ (by kernel_rfl) (fun _ h => ⟨fun _ => (0, none, 0, none), h.drew⟩) ⟨?_, ?_, ?_, ?_, ?_, ?_, ?_, ?_, ?_, ?_, ?_, ?_, ?_, ?_, ?_, ?_, ?_, trivial⟩ ?_
          · intro Lx g78 s K hl hh k
            show At 78 ((0, _) :: (3, _) :: (5, _) :: (6, _) :: Lx) _ _
            refine at_val rfl rfl rfl (r_move rfl) ?_
            exact at_nil k
          · intro Lx g78 s K hl hh k
            show At 78 ((62, _) :: (0, _) :: (3, _) :: (5, _) :: (6, _) :: Lx) _ _
            obtain rfl : s = 0 := by omega
            refine at_val rfl rfl rfl (r_len_map Tryd.underlying49 rfl (fun w1 hw => hw.ok (Upd.mem .z))) ?_
            exact at_nil k
          · intro Lx g78 s K hl hh k
            show At 78 ((0, _) :: (3, _) :: (5, _) :: (6, _) :: Lx) _ _
            refine at_val rfl rfl rfl (r_move rfl) ?_
            exact at_nil k
          · intro Lx g78 s K hl hh k
            show At 78 ((63, _) :: (64, _) :: (0, _) :: (3, _) :: (5, _) :: (6, _) :: Lx) _ _
            refine at_val rfl rfl rfl (r_ieql rfl rfl) ?_
            exact at_nil k
          · intro Lx g78 s K hl hh k
            show At 78 ((65, _) :: (0, _) :: (3, _) :: (5, _) :: (6, _) :: Lx) _ _
            refine at_val rfl rfl rfl (r_move rfl) ?_
            exact at_nil (at_cast h69 k)
          · intro Lx g78 s K hl hh k
            show At 78 ((66, _) :: (0, _) :: (3, _) :: (5, _) :: (6, _) :: Lx) _ _
            refine at_guard_no rfl rfl rfl rfl rfl ?_
            exact at_nil k
          · intro Lx g78 s K hl hh k
            show At 78 ((66, _) :: (0, _) :: (3, _) :: (5, _) :: (6, _) :: Lx) _ _
            obtain rfl : s = 0 := by omega
            refine at_guard_no rfl rfl rfl rfl rfl ?_
            exact at_nil k
          · intro Lx g78 s K hl hh k
            show At 78 ((66, _) :: (67, _) :: (68, _) :: (0, _) :: (3, _) :: (5, _) :: (6, _) :: Lx) _ _
            obtain rfl : s = 0 := by omega
            refine at_guard_no rfl rfl rfl rfl rfl ?_
            exact at_nil k
          · intro Lx g78 s K hl hh k
            show At 78 ((66, _) :: (0, _) :: (3, _) :: (5, _) :: (6, _) :: Lx) _ _
            refine at_guard_no rfl rfl rfl rfl rfl ?_
            exact at_nil k
          · intro Lx g78 s K hl hh k
            show At 78 ((66, _) :: (0, _) :: (3, _) :: (5, _) :: (6, _) :: Lx) _ _
            obtain rfl : s = 0 := by omega
            refine at_guard_no rfl rfl rfl rfl rfl ?_
            exact at_nil k
          · intro Lx g78 s K hl hh k
            show At 78 ((66, _) :: (70, _) :: (71, _) :: (0, _) :: (3, _) :: (5, _) :: (6, _) :: Lx) _ _
            obtain rfl : s = 0 := by omega
            refine at_guard_no rfl rfl rfl rfl rfl ?_
            exact at_nil k
          · intro Lx g78 s K hl hh k
            show At 78 ((66, _) :: (69, _) :: (72, _) :: (0, _) :: (3, _) :: (5, _) :: (6, _) :: Lx) _ _
            obtain rfl : s = 0 := by omega
            refine at_guard_no rfl rfl rfl rfl rfl ?_
            exact at_nil k
          · intro Lx g78 s K hl hh k
            show At 78 ((66, _) :: (73, _) :: (0, _) :: (3, _) :: (5, _) :: (6, _) :: Lx) _ _
            refine at_val rfl rfl rfl (r_pick rfl rfl rfl) ?_
            exact at_nil k
          · intro Lx g78 s K hl hh k
            show At 78 ((74, _) :: (0, _) :: (3, _) :: (5, _) :: (6, _) :: Lx) _ _
            refine at_val rfl rfl rfl (r_move rfl) ?_
            exact at_nil k
          · intro Lx g78 s K hl hh k
            show At 78 ((75, _) :: (0, _) :: (3, _) :: (5, _) :: (6, _) :: Lx) _ _
            obtain rfl : s = 0 := by omega
            refine at_guard_no rfl rfl rfl rfl rfl ?_
            exact at_nil k
          · intro Lx g78 s K hl hh k
            show At 78 ((75, _) :: (76, _) :: (0, _) :: (3, _) :: (5, _) :: (6, _) :: Lx) _ _
            refine at_val rfl rfl rfl (r_pick rfl rfl rfl) ?_
            exact at_nil k
          · intro Lx g78 s K hl hh k
            show At 78 ((77, _) :: (0, _) :: (3, _) :: (5, _) :: (6, _) :: Lx) _ _
            refine at_val rfl rfl rfl (r_assign rfl) ?_
            exact at_nil k
          intro g78
          show At 78 [(62, _), (63, _), (64, _), (65, _), (66, _), (67, _), (68, _), (69, _), (70, _), (71, _), (72, _), (73, _), (74, _), (75, _), (76, _), (77, _), (4, _), (0, _), (3, _), (5, _), (6, _)] _ _
          refine at_drop (H := _) .z ?_
          refine at_drop (H := _) .z ?_
          refine at_weak [(4, _)] ⟨rfl, trivial⟩ ?_
          refine at_then_normal ?_
          refine at_ret ?_
          have K := of_some hF
          subst K
          exact at_return1 rfl rfl (fun w1 hw => ⟨rfl, hw.below⟩)
end Go.Proofs.YtnojjenpggdadaaDoor
