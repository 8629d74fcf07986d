/- Functions with the same answers as the Go functions that they are named for, and the proofs of it, by a program of this project (gen.py). -/
import Derived.Test.YthccncpephpdjaaT
import Derived.Test.YthccncpephpdjaaShelf
import Derived.Test.YthccncpephpdjaaW
import Derived.Test.YthccncpephpdjaaL
import Derived.Test.YthccncpephpdjaaR
import Derived.Test.YthccncpephpdjaaN
import Derived.Test.YthccncpephpdjaaProg
import Derived.Test.YthccncpephpdjaaG1
import Derived.Test.YthccncpephpdjaaG2
set_option linter.unusedVariables false
set_option linter.unusedSimpArgs false
namespace Go.Proofs.Ythccncpephpdjaa
open E Go.RowKit


def change_alike_1 (x0 : S_api_PeerChange) : Option ((Vector Bool 6)) :=
  some (vset (vset (vset (vset (vset (vset (Vector.replicate 6 false : (Vector Bool 6)) 0 x0.f_Remove) 1 x0.f_Update) 2 x0.f_HasPsk) 3 x0.f_HasEnd) 4 x0.f_HasKeep) 5 x0.f_Replace)
theorem change_alike_1_ok (g0_ : G_api_PeerChange) (x0 : S_api_PeerChange) (r : (Vector Bool 6)) (hF : change_alike_1 x0 = some r) (w : World) (hn0 : N_api_PeerChange w (g0_, x0)) :
    Calls Try.prog 88 #[.agg (Cd.cs c_api_PeerChange (g0_, x0)).toArray] w (fun e w' => e = .returned (.agg (Cd.cs (cVec cBool 6 (by decide)) r).toArray) ∧ Below w.heap.size w w') := by
  unfold change_alike_1 at hF
  refine calls_enter (l := [.agg (Cd.cs c_api_PeerChange (g0_, x0)).toArray]) Try.func88 rfl rfl rfl ?_
  refine at_start ?_
  refine at_weak [(0, _)] ⟨rfl, trivial⟩ ?_
  refine at_seq ?_
  refine at_region ?_
  refine at_box (cs := Cd.cs c_api_PeerChange (g0_, x0)) rfl rfl rfl ?_
  intro b1
  refine at_alloc (cs := Cd.cs (cVec cBool 6 (by decide)) (Vector.replicate 6 false : (Vector Bool 6))) Try.zeroValue125 rfl rfl ?_
  intro b2
  refine at_nil ?_
  refine at_weak [(1, _), (2, _)] ⟨rfl, rfl, trivial⟩ ?_
  refine at_then_normal ?_
  refine at_seq ?_
  refine at_region ?_
  refine at_val rfl rfl rfl (r_fieldAddr (fo := 32) Try.underlying37 rfl rfl (fun w => ⟨_, Try.sizeOf4 w⟩) rfl) ?_
  refine at_val rfl rfl rfl (r_load_cell Try.isAgg4 rfl (lens_cell0 (c := cBool) (y := x0.f_Remove) (.s .z) (c_api_PeerChange_f_Remove g0_ x0) rfl)) ?_
  refine at_val rfl rfl rfl (r_fieldAddr (fo := 33) Try.underlying37 rfl rfl (fun w => ⟨_, Try.sizeOf4 w⟩) rfl) ?_
  refine at_val rfl rfl rfl (r_load_cell Try.isAgg4 rfl (lens_cell0 (c := cBool) (y := x0.f_Update) (.s .z) (c_api_PeerChange_f_Update g0_ x0) rfl)) ?_
  refine at_val rfl rfl rfl (r_fieldAddr (fo := 34) Try.underlying37 rfl rfl (fun w => ⟨_, Try.sizeOf4 w⟩) rfl) ?_
  refine at_val rfl rfl rfl (r_load_cell Try.isAgg4 rfl (lens_cell0 (c := cBool) (y := x0.f_HasPsk) (.s .z) (c_api_PeerChange_f_HasPsk g0_ x0) rfl)) ?_
  refine at_val rfl rfl rfl (r_fieldAddr (fo := 67) Try.underlying37 rfl rfl (fun w => ⟨_, Try.sizeOf4 w⟩) rfl) ?_
  refine at_val rfl rfl rfl (r_load_cell Try.isAgg4 rfl (lens_cell0 (c := cBool) (y := x0.f_HasEnd) (.s .z) (c_api_PeerChange_f_HasEnd g0_ x0) rfl)) ?_
  refine at_val rfl rfl rfl (r_fieldAddr (fo := 86) Try.underlying37 rfl rfl (fun w => ⟨_, Try.sizeOf4 w⟩) rfl) ?_
  refine at_val rfl rfl rfl (r_load_cell Try.isAgg4 rfl (lens_cell0 (c := cBool) (y := x0.f_HasKeep) (.s .z) (c_api_PeerChange_f_HasKeep g0_ x0) rfl)) ?_
  refine at_val rfl rfl rfl (r_fieldAddr (fo := 88) Try.underlying37 rfl rfl (fun w => ⟨_, Try.sizeOf4 w⟩) rfl) ?_
  refine at_val rfl rfl rfl (r_load_cell Try.isAgg4 rfl (lens_cell0 (c := cBool) (y := x0.f_Replace) (.s .z) (c_api_PeerChange_f_Replace g0_ x0) rfl)) ?_
  refine at_val rfl rfl rfl (r_build_array (zs := Cd.cs (cVec cBool 6 (by decide)) (Vector.replicate 6 false : (Vector Bool 6))) (cs := Cd.cs (cVec cBool 6 (by decide)) (vset (vset (vset (vset (vset (vset (Vector.replicate 6 false : (Vector Bool 6)) 0 x0.f_Remove) 1 x0.f_Update) 2 x0.f_HasPsk) 3 x0.f_HasEnd) 4 x0.f_HasKeep) 5 x0.f_Replace)) Try.underlying125 Try.zeroValue125 rfl Try.sizeOf4 rfl (fill_step (c := cBool) (z := x0.f_Remove) rfl (Lens.vec cBool (by decide) (Vector.replicate 6 false : (Vector Bool 6)) 0 (by decide)) rfl (fill_step (c := cBool) (z := x0.f_Update) rfl (Lens.vec cBool (by decide) (vset (Vector.replicate 6 false : (Vector Bool 6)) 0 x0.f_Remove) 1 (by decide)) rfl (fill_step (c := cBool) (z := x0.f_HasPsk) rfl (Lens.vec cBool (by decide) (vset (vset (Vector.replicate 6 false : (Vector Bool 6)) 0 x0.f_Remove) 1 x0.f_Update) 2 (by decide)) rfl (fill_step (c := cBool) (z := x0.f_HasEnd) rfl (Lens.vec cBool (by decide) (vset (vset (vset (Vector.replicate 6 false : (Vector Bool 6)) 0 x0.f_Remove) 1 x0.f_Update) 2 x0.f_HasPsk) 3 (by decide)) rfl (fill_step (c := cBool) (z := x0.f_HasKeep) rfl (Lens.vec cBool (by decide) (vset (vset (vset (vset (Vector.replicate 6 false : (Vector Bool 6)) 0 x0.f_Remove) 1 x0.f_Update) 2 x0.f_HasPsk) 3 x0.f_HasEnd) 4 (by decide)) rfl (fill_step (c := cBool) (z := x0.f_Replace) rfl (Lens.vec cBool (by decide) (vset (vset (vset (vset (vset (Vector.replicate 6 false : (Vector Bool 6)) 0 x0.f_Remove) 1 x0.f_Update) 2 x0.f_HasPsk) 3 x0.f_HasEnd) 4 x0.f_HasKeep) 5 (by decide)) rfl rfl))))))) ?_
  refine at_store (c := (cVec cBool 6 (by decide))) (z := vset (vset (vset (vset (vset (vset (Vector.replicate 6 false : (Vector Bool 6)) 0 x0.f_Remove) 1 x0.f_Update) 2 x0.f_HasPsk) 3 x0.f_HasEnd) 4 x0.f_HasKeep) 5 x0.f_Replace) .z (Lens.whole _ _) Try.sizeOf125 rfl rfl rfl ?_
  refine at_nil ?_
  refine at_drop (H := _) (.s .z) ?_
  refine at_weak [(2, _)] ⟨rfl, trivial⟩ ?_
  refine at_then_normal ?_
  refine at_ret ?_
  have K := of_some hF
  subst K
  exact at_res1 rfl (res_cell (c := (cVec cBool 6 (by decide))) (y := vset (vset (vset (vset (vset (vset (Vector.replicate 6 false : (Vector Bool 6)) 0 x0.f_Remove) 1 x0.f_Update) 2 x0.f_HasPsk) 3 x0.f_HasEnd) 4 x0.f_HasKeep) 5 x0.f_Replace) rfl .z (Lens.whole _ _) Try.isAgg125 Try.sizeOf125 (.inl rfl)) (fun w1 hw => ⟨rfl, hw.below⟩)

def slices_Equal_api_Prefix.l0 (x0 : List S_api_Prefix) (x1 : List S_api_Prefix) (i3 : Int) : Option (Ctl (Bool) (Unit)) :=
  if (decide (i3 < (x0.length : Int))) = true then (if (0 : Int) ≤ i3 ∧ i3 < (x0.length : Int) then if (0 : Int) ≤ i3 ∧ i3 < (x1.length : Int) then if (!decide (lget x0 i3 = lget x1 i3)) = true then (some (.ret false)) else (slices_Equal_api_Prefix.l0 x0 x1 (wr .i64 (i3 + 1))) else none else none) else (some (.nx ()))
  partial_fixpoint
def slices_Equal_api_Prefix (x0 : List S_api_Prefix) (x1 : List S_api_Prefix) : Option (Bool) :=
  if ((x0.length : Int) != (x1.length : Int)) = true then (some false) else (slices_Equal_api_Prefix.l0 x0 x1 0 >>= fun q2 => match q2 with | .ret r' => some r' | .nx sq2 => (some true))
theorem slices_Equal_api_Prefix_ok (x0 : List S_api_Prefix) (p0_ : Option Addr) (c0_ : Nat) (x1 : List S_api_Prefix) (p1_ : Option Addr) (c1_ : Nat) (r : Bool) (hF : slices_Equal_api_Prefix x0 x1 = some r) (w : World) (hr0 : Row c_api_Prefix w p0_ c0_ x0) (hr1 : Row c_api_Prefix w p1_ c1_ x1) :
    Calls Try.prog 89 #[.slice p0_ x0.length c0_, .slice p1_ x1.length c1_] w (fun e w' => e = .returned (.bool r) ∧ Below w.heap.size w w') := by
  unfold slices_Equal_api_Prefix at hF
  refine calls_enter (l := [.slice p0_ x0.length c0_, .slice p1_ x1.length c1_]) Try.func89 rfl rfl rfl ?_
  refine at_start ?_
  refine at_weak [(0, _), (1, _)] ⟨rfl, rfl, trivial⟩ ?_
  refine at_seq ?_
  refine at_region ?_
  refine at_val rfl rfl rfl (r_assign rfl) ?_
  refine at_nil ?_
  refine at_weak [(0, _), (1, _)] ⟨rfl, rfl, trivial⟩ ?_
  refine at_then_normal ?_
  refine at_seq ?_
  refine at_seq ?_
  refine at_region ?_
  refine at_val rfl rfl rfl (r_move rfl) ?_
  refine at_val rfl rfl rfl (r_len_sl Try.underlying35 rfl) ?_
  refine at_val rfl rfl rfl (r_move rfl) ?_
  refine at_val rfl rfl rfl (r_len_sl Try.underlying35 rfl) ?_
  refine at_val rfl rfl rfl (r_ineq rfl rfl) ?_
  refine at_nil ?_
  refine at_weak [(0, _), (1, _), (10, _)] ⟨rfl, rfl, rfl, trivial⟩ ?_
  refine at_then_normal ?_
  rcases of_ite hF with ⟨h1, hF⟩ | ⟨h1, hF⟩
  · refine at_cond_true rfl h1 ?_
    refine at_seq ?_
    refine at_region ?_
    refine at_val rfl rfl rfl (r_assign rfl) ?_
    refine at_nil ?_
    refine at_weak [(4, _)] ⟨rfl, trivial⟩ ?_
    refine at_then_normal ?_
    refine at_ret ?_
    refine at_then_ret ?_
    have K := of_some hF
    subst K
    exact at_return1 rfl rfl (fun w1 hw => ⟨rfl, hw.below⟩)
  · refine at_cond_false rfl h1 ?_
    refine at_skip ?_
    refine at_then_normal ?_
    refine at_seq ?_
    refine at_seq ?_
    refine at_region ?_
    refine at_val rfl rfl rfl (r_move rfl) ?_
    refine at_val rfl rfl rfl (r_len_sl Try.underlying35 rfl) ?_
    refine at_val rfl rfl rfl (r_move rfl) ?_
    refine at_nil ?_
    refine at_weak [(0, _), (1, _), (12, _), (13, _)] ⟨rfl, rfl, rfl, rfl, trivial⟩ ?_
    refine at_then_normal ?_
    refine at_block ?_
    obtain ⟨q2, hq2, hF⟩ := of_bindM hF
    refine at_weak [(0, _), (1, _), (12, _), (13, _)] ⟨rfl, rfl, rfl, rfl, trivial⟩ ?_
    refine at_loop_r (B := 0) (r := r) (q := q2) (A := fun (_ : Unit) Y => At 26 [] (Wd w []) Y) ?_ ?_
    · intro K
      refine slices_Equal_api_Prefix.l0.partial_correctness x0 x1 (motive := fun i3 x => KR (fun (_ : Unit) Y => At 26 [] (Wd w []) Y) _ 0 r x → Round (fun Y => At 26 [(0, .slice p0_ x0.length c0_), (1, .slice p1_ x1.length c1_), (12, .int .i64 (x0.length : Int)), (13, .int .i64 i3)] (Wd w []) Y) _ _ _) ?_ _ _ hq2 K
      · clear K hF
        intro g ih i3 x hF K
        refine at_round ?_
        refine at_seq ?_
        refine at_region ?_
        refine at_val rfl rfl rfl (r_ilss rfl rfl) ?_
        refine at_nil ?_
        refine at_weak [(0, _), (1, _), (12, _), (13, _), (14, _)] ⟨rfl, rfl, rfl, rfl, rfl, trivial⟩ ?_
        refine at_then_normal ?_
        refine at_seq ?_
        rcases of_ite hF with ⟨h4, hF⟩ | ⟨h4, hF⟩
        · refine at_cond_true rfl h4 ?_
          refine at_skip ?_
          refine at_then_normal ?_
          refine at_seq ?_
          refine at_block ?_
          refine at_seq ?_
          refine at_region ?_
          refine at_val rfl rfl rfl (r_move rfl) ?_
          refine at_val rfl rfl rfl (r_assign rfl) ?_
          refine at_nil ?_
          refine at_weak [(0, _), (1, _), (5, _), (12, _), (13, _)] ⟨rfl, rfl, rfl, rfl, rfl, trivial⟩ ?_
          refine at_then_normal ?_
          refine at_seq ?_
          refine at_draw (by kernel_rfl) (by kernel_rfl) (fun _ h => h.drew) ?_
          refine atq_val rfl rfl rfl (r_move rfl) ?_
          refine atq_val rfl rfl rfl (r_move rfl) ?_
          obtain ⟨h5, hF⟩ := of_guard hF
          obtain ⟨b7, o8, hp6⟩ := row_ptr hr0 h5
          refine atq_val rfl rfl rfl (r_idx Try.underlying35 Try.sizeOf46 rfl rfl h5 hp6) ?_
          refine atq_val rfl rfl rfl (r_load_aggc (c := c_api_Prefix) (z := lget x0 i3) Try.isAgg46 Try.sizeOf46 rfl (row_cell (fun _ h => h.below) hr0 h5 hp6)) ?_
          refine atq_val rfl rfl rfl (r_move rfl) ?_
          refine atq_val rfl rfl rfl (r_move rfl) ?_
          obtain ⟨h9, hF⟩ := of_guard hF
          obtain ⟨b11, o12, hp10⟩ := row_ptr hr1 h9
          refine atq_val rfl rfl rfl (r_idx Try.underlying35 Try.sizeOf46 rfl rfl h9 hp10) ?_
          refine atq_val rfl rfl rfl (r_load_aggc (c := c_api_Prefix) (z := lget x1 i3) Try.isAgg46 Try.sizeOf46 rfl (row_cell (fun _ h => h.below) hr1 h9 hp10)) ?_
          refine atq_val rfl rfl rfl (r_eqagg (c := c_api_Prefix) (a := lget x0 i3) (b := lget x1 i3) (eq_api_Prefix_46) rfl Try.eqGuardType46 rfl rfl (.inr rfl) rfl) ?_
          refine atq_nil ?_
          refine at_weak [(0, _), (1, _), (12, _), (13, _), (24, _)] ⟨rfl, rfl, rfl, rfl, rfl, trivial⟩ ?_
          refine at_then_normal ?_
          rcases of_ite hF with ⟨h13, hF⟩ | ⟨h13, hF⟩
          · refine at_cond_true rfl h13 ?_
            refine at_seq ?_
            refine at_region ?_
            refine at_val rfl rfl rfl (r_assign rfl) ?_
            refine at_nil ?_
            refine at_weak [(4, _)] ⟨rfl, trivial⟩ ?_
            refine at_then_normal ?_
            refine at_ret ?_
            refine at_blk_ret (at_then_ret (at_then_ret (at_blk_ret (at_then_ret ?_))))
            obtain rfl := of_some hF
            subst K
            exact at_return1 rfl rfl (fun w1 hw => ⟨rfl, hw.below⟩)
          · refine at_cond_false rfl h13 ?_
            refine at_skip ?_
            refine at_blk_normal (at_then_normal ?_)
            refine at_region ?_
            refine at_val rfl rfl rfl (r_iadd rfl rfl) ?_
            refine at_val rfl rfl rfl (r_move rfl) ?_
            refine at_nil ?_
            refine at_weak [(0, _), (1, _), (12, _), (13, _)] ⟨rfl, rfl, rfl, rfl, trivial⟩ ?_
            refine at_then_normal ?_
            exact at_weak_k (ih _ _ hF K) ⟨rfl, rfl, rfl, rfl, trivial⟩
        · refine at_cond_false rfl h4 ?_
          refine at_exit ?_
          refine at_then_exit (at_then_exit ?_)
          obtain rfl := of_some hF
          exact at_weak_k K trivial
    · cases q2 with
      | ret r' => exact of_some hF
      | nx sq2 =>
        skip
        refine at_blk_same ?_
        refine at_then_normal ?_
        refine at_seq ?_
        refine at_region ?_
        refine at_val rfl rfl rfl (r_assign rfl) ?_
        refine at_nil ?_
        refine at_weak [(4, _)] ⟨rfl, trivial⟩ ?_
        refine at_then_normal ?_
        refine at_ret ?_
        have K := of_some hF
        subst K
        exact at_return1 rfl rfl (fun w1 hw => ⟨rfl, hw.below⟩)

def change_alike (x0 : S_api_PeerChange) (x1 : S_api_PeerChange) : Option (Bool) :=
  if (decide (x0.f_Key = x1.f_Key)) = true then (change_alike_1 x0 >>= fun t4 => change_alike_1 x1 >>= fun t5 => if (decide (t4 = t5)) = true then (if (decide (x0.f_Psk = x1.f_Psk)) = true then (if (decide (x0.f_End = x1.f_End)) = true then (if (x0.f_Keep == x1.f_Keep) = true then (slices_Equal_api_Prefix x0.f_Allowed x1.f_Allowed >>= fun t10 => some t10) else (some false)) else (some false)) else (some false)) else (some false)) else (some false)
theorem change_alike_ok (g0_ : G_api_PeerChange) (x0 : S_api_PeerChange) (g1_ : G_api_PeerChange) (x1 : S_api_PeerChange) (r : Bool) (hF : change_alike x0 x1 = some r) (w : World) (hn0 : N_api_PeerChange w (g0_, x0)) (hn1 : N_api_PeerChange w (g1_, x1)) :
    Calls Try.prog 65 #[.agg (Cd.cs c_api_PeerChange (g0_, x0)).toArray, .agg (Cd.cs c_api_PeerChange (g1_, x1)).toArray] w (fun e w' => e = .returned (.bool r) ∧ Below w.heap.size w w') := by
  unfold change_alike at hF
  refine calls_enter (l := [.agg (Cd.cs c_api_PeerChange (g0_, x0)).toArray, .agg (Cd.cs c_api_PeerChange (g1_, x1)).toArray]) Try.func65 rfl rfl rfl ?_
  refine at_start ?_
  refine at_weak [(0, _), (1, _)] ⟨rfl, rfl, trivial⟩ ?_
  refine at_seq ?_
  refine at_region ?_
  refine at_box (cs := Cd.cs c_api_PeerChange (g0_, x0)) rfl rfl rfl ?_
  intro b1
  refine at_box (cs := Cd.cs c_api_PeerChange (g1_, x1)) rfl rfl rfl ?_
  intro b2
  refine at_val rfl rfl rfl (r_assign rfl) ?_
  refine at_nil ?_
  refine at_weak [(2, _), (3, _)] ⟨rfl, rfl, trivial⟩ ?_
  refine at_then_normal ?_
  refine at_seq ?_
  refine at_region ?_
  refine at_val rfl rfl rfl (r_assign rfl) ?_
  refine at_nil ?_
  refine at_weak [(2, _), (3, _), (5, _)] ⟨rfl, rfl, rfl, trivial⟩ ?_
  refine at_then_normal ?_
  refine at_seq ?_
  refine at_draw (by kernel_rfl) (by kernel_rfl) (fun _ h => h.drew) ?_
  refine atq_val rfl rfl rfl (r_fieldAddr (fo := 0) Try.underlying37 rfl rfl (fun w => ⟨_, Try.sizeOf23 w⟩) rfl) ?_
  refine atq_val rfl rfl rfl (r_load_aggc (c := (cVec (cInt .u8) 32 (by decide))) (z := x0.f_Key) Try.isAgg23 Try.sizeOf23 rfl (lens_cell (.s .z) (c_api_PeerChange_f_Key g0_ x0))) ?_
  refine atq_val rfl rfl rfl (r_fieldAddr (fo := 0) Try.underlying37 rfl rfl (fun w => ⟨_, Try.sizeOf23 w⟩) rfl) ?_
  refine atq_val rfl rfl rfl (r_load_aggc (c := (cVec (cInt .u8) 32 (by decide))) (z := x1.f_Key) Try.isAgg23 Try.sizeOf23 rfl (lens_cell .z (c_api_PeerChange_f_Key g1_ x1))) ?_
  refine atq_val rfl rfl rfl (r_eqagg (c := (cVec (cInt .u8) 32 (by decide))) (a := x0.f_Key) (b := x1.f_Key) (eqs_vec Try.underlying23 infoT5 Try.sizeOf5 Try.isAgg5 (.inr rfl) (eqs_int Try.underlying5)) rfl Try.eqGuardType23 rfl rfl (.inl rfl) rfl) ?_
  refine atq_val rfl rfl rfl (r_move rfl) ?_
  rcases of_ite hF with ⟨h3, hF⟩ | ⟨h3, hF⟩
  · refine atq_fix (g := 11) rfl h3 ?_
    refine atq_guard_yes rfl rfl rfl ?_
    refine atq_val rfl rfl rfl (r_move rfl) ?_
    refine atq_guard_yes rfl rfl rfl ?_
    refine atq_val rfl rfl rfl (r_load_aggc (c := c_api_PeerChange) (z := (g0_, x0)) Try.isAgg37 Try.sizeOf37 rfl (lens_cell (.s .z) (Lens.whole _ _))) ?_
    refine atq_guard_yes rfl rfl rfl ?_
    refine atq_callee rfl ?_
    obtain ⟨t4, ht4, hF⟩ := of_bindM hF
    refine atq_call Try.func88 rfl (by kernel_rfl) rfl rfl (fun w hw => (change_alike_1_ok _ _ _ ht4 w (N_api_PeerChange.below hn0 hw.below)).mono fun _ _ h => ⟨h.1, hw.call h.2⟩) ?_
    refine atq_guard_yes rfl rfl rfl ?_
    refine atq_val rfl rfl rfl (r_move rfl) ?_
    refine atq_guard_yes rfl rfl rfl ?_
    refine atq_val rfl rfl rfl (r_load_aggc (c := c_api_PeerChange) (z := (g1_, x1)) Try.isAgg37 Try.sizeOf37 rfl (lens_cell .z (Lens.whole _ _))) ?_
    refine atq_guard_yes rfl rfl rfl ?_
    refine atq_callee rfl ?_
    obtain ⟨t5, ht5, hF⟩ := of_bindM hF
    refine atq_call Try.func88 rfl (by kernel_rfl) rfl rfl (fun w hw => (change_alike_1_ok _ _ _ ht5 w (N_api_PeerChange.below hn1 hw.below)).mono fun _ _ h => ⟨h.1, hw.call h.2⟩) ?_
    refine atq_guard_yes rfl rfl rfl ?_
    refine atq_val rfl rfl rfl (r_eqagg (c := (cVec cBool 6 (by decide))) (a := t4) (b := t5) (eqs_vec Try.underlying125 infoT4 Try.sizeOf4 Try.isAgg4 (.inr rfl) (eqs_bool Try.underlying4)) rfl Try.eqGuardType125 rfl rfl (.inl rfl) rfl) ?_
    refine atq_val rfl rfl rfl (r_pick rfl rfl rfl) ?_
    refine atq_val rfl rfl rfl (r_move rfl) ?_
    rcases of_ite hF with ⟨h6, hF⟩ | ⟨h6, hF⟩
    · refine atq_fix (g := 20) rfl h6 ?_
      refine atq_guard_yes rfl rfl rfl ?_
      refine atq_val rfl rfl rfl (r_fieldAddr (fo := 35) Try.underlying37 rfl rfl (fun w => ⟨_, Try.sizeOf23 w⟩) rfl) ?_
      refine atq_guard_yes rfl rfl rfl ?_
      refine atq_val rfl rfl rfl (r_load_aggc (c := (cVec (cInt .u8) 32 (by decide))) (z := x0.f_Psk) Try.isAgg23 Try.sizeOf23 rfl (lens_cell (.s .z) (c_api_PeerChange_f_Psk g0_ x0))) ?_
      refine atq_guard_yes rfl rfl rfl ?_
      refine atq_val rfl rfl rfl (r_fieldAddr (fo := 35) Try.underlying37 rfl rfl (fun w => ⟨_, Try.sizeOf23 w⟩) rfl) ?_
      refine atq_guard_yes rfl rfl rfl ?_
      refine atq_val rfl rfl rfl (r_load_aggc (c := (cVec (cInt .u8) 32 (by decide))) (z := x1.f_Psk) Try.isAgg23 Try.sizeOf23 rfl (lens_cell .z (c_api_PeerChange_f_Psk g1_ x1))) ?_
      refine atq_guard_yes rfl rfl rfl ?_
      refine atq_val rfl rfl rfl (r_eqagg (c := (cVec (cInt .u8) 32 (by decide))) (a := x0.f_Psk) (b := x1.f_Psk) (eqs_vec Try.underlying23 infoT5 Try.sizeOf5 Try.isAgg5 (.inr rfl) (eqs_int Try.underlying5)) rfl Try.eqGuardType23 rfl rfl (.inl rfl) rfl) ?_
      refine atq_val rfl rfl rfl (r_pick rfl rfl rfl) ?_
      refine atq_val rfl rfl rfl (r_move rfl) ?_
      rcases of_ite hF with ⟨h7, hF⟩ | ⟨h7, hF⟩
      · refine atq_fix (g := 27) rfl h7 ?_
        refine atq_guard_yes rfl rfl rfl ?_
        refine atq_val rfl rfl rfl (r_fieldAddr (fo := 68) Try.underlying37 rfl rfl (fun w => ⟨_, Try.sizeOf34 w⟩) rfl) ?_
        refine atq_guard_yes rfl rfl rfl ?_
        refine atq_val rfl rfl rfl (r_load_aggc (c := c_api_Endpoint) (z := x0.f_End) Try.isAgg34 Try.sizeOf34 rfl (lens_cell (.s .z) (c_api_PeerChange_f_End g0_ x0))) ?_
        refine atq_guard_yes rfl rfl rfl ?_
        refine atq_val rfl rfl rfl (r_fieldAddr (fo := 68) Try.underlying37 rfl rfl (fun w => ⟨_, Try.sizeOf34 w⟩) rfl) ?_
        refine atq_guard_yes rfl rfl rfl ?_
        refine atq_val rfl rfl rfl (r_load_aggc (c := c_api_Endpoint) (z := x1.f_End) Try.isAgg34 Try.sizeOf34 rfl (lens_cell .z (c_api_PeerChange_f_End g1_ x1))) ?_
        refine atq_guard_yes rfl rfl rfl ?_
        refine atq_val rfl rfl rfl (r_eqagg (c := c_api_Endpoint) (a := x0.f_End) (b := x1.f_End) (eq_api_Endpoint_34) rfl Try.eqGuardType34 rfl rfl (.inl rfl) rfl) ?_
        refine atq_val rfl rfl rfl (r_pick rfl rfl rfl) ?_
        refine atq_val rfl rfl rfl (r_move rfl) ?_
        rcases of_ite hF with ⟨h8, hF⟩ | ⟨h8, hF⟩
        · refine atq_fix (g := 34) rfl h8 ?_
          refine atq_guard_yes rfl rfl rfl ?_
          refine atq_val rfl rfl rfl (r_fieldAddr (fo := 87) Try.underlying37 rfl rfl (fun w => ⟨_, Try.sizeOf3 w⟩) rfl) ?_
          refine atq_guard_yes rfl rfl rfl ?_
          refine atq_val rfl rfl rfl (r_load_cell Try.isAgg3 rfl (lens_cell0 (c := (cInt .i64)) (y := x0.f_Keep) (.s .z) (c_api_PeerChange_f_Keep g0_ x0) rfl)) ?_
          refine atq_guard_yes rfl rfl rfl ?_
          refine atq_val rfl rfl rfl (r_fieldAddr (fo := 87) Try.underlying37 rfl rfl (fun w => ⟨_, Try.sizeOf3 w⟩) rfl) ?_
          refine atq_guard_yes rfl rfl rfl ?_
          refine atq_val rfl rfl rfl (r_load_cell Try.isAgg3 rfl (lens_cell0 (c := (cInt .i64)) (y := x1.f_Keep) .z (c_api_PeerChange_f_Keep g1_ x1) rfl)) ?_
          refine atq_guard_yes rfl rfl rfl ?_
          refine atq_val rfl rfl rfl (r_ieql rfl rfl) ?_
          refine atq_val rfl rfl rfl (r_pick rfl rfl rfl) ?_
          refine atq_val rfl rfl rfl (r_move rfl) ?_
          rcases of_ite hF with ⟨h9, hF⟩ | ⟨h9, hF⟩
          · refine atq_fix (g := 41) rfl h9 ?_
            refine atq_guard_yes rfl rfl rfl ?_
            refine atq_val rfl rfl rfl (r_fieldAddr (fo := 89) Try.underlying37 rfl rfl (fun w => ⟨_, Try.sizeOf35 w⟩) rfl) ?_
            refine atq_guard_yes rfl rfl rfl ?_
            refine atq_val rfl rfl rfl (r_load_cell Try.isAgg35 rfl (lens_cell0 (c := cHd) (y := ⟨g0_.1, List.length x0.f_Allowed, g0_.2⟩) (.s .z) (c_api_PeerChange_f_Allowed g0_ x0) rfl)) ?_
            refine atq_guard_yes rfl rfl rfl ?_
            refine atq_val rfl rfl rfl (r_fieldAddr (fo := 89) Try.underlying37 rfl rfl (fun w => ⟨_, Try.sizeOf35 w⟩) rfl) ?_
            refine atq_guard_yes rfl rfl rfl ?_
            refine atq_val rfl rfl rfl (r_load_cell Try.isAgg35 rfl (lens_cell0 (c := cHd) (y := ⟨g1_.1, List.length x1.f_Allowed, g1_.2⟩) .z (c_api_PeerChange_f_Allowed g1_ x1) rfl)) ?_
            refine atq_guard_yes rfl rfl rfl ?_
            obtain ⟨t10, ht10, hF⟩ := of_bindM hF
            refine atq_call Try.func89 rfl (by kernel_rfl) rfl rfl (fun w hw => (slices_Equal_api_Prefix_ok _ _ _ _ _ _ _ ht10 w (hn0.below hw.below) (hn1.below hw.below)).mono fun _ _ h => ⟨h.1, hw.call h.2⟩) ?_
            refine atq_val rfl rfl rfl (r_pick rfl rfl rfl) ?_
            refine atq_val rfl rfl rfl (r_assign rfl) ?_
            refine atq_nil ?_
            refine at_drop (H := _) .z ?_
            refine at_drop (H := _) .z ?_
            refine at_weak [(4, _)] ⟨rfl, trivial⟩ ?_
            refine at_then_normal ?_
            refine at_ret ?_
            have K := of_some hF
            subst K
            exact at_return1 rfl rfl (fun w1 hw => ⟨rfl, hw.below⟩)
          · refine atq_fix (g := 41) rfl h9 ?_
            refine atq_guard_no rfl rfl rfl rfl rfl ?_
            refine atq_guard_no rfl rfl rfl rfl rfl ?_
            refine atq_guard_no rfl rfl rfl rfl rfl ?_
            refine atq_guard_no rfl rfl rfl rfl rfl ?_
            refine atq_guard_no rfl rfl rfl rfl rfl ?_
            refine atq_val rfl rfl rfl (r_pick rfl rfl rfl) ?_
            refine atq_val rfl rfl rfl (r_assign rfl) ?_
            refine atq_nil ?_
            refine at_drop (H := _) .z ?_
            refine at_drop (H := _) .z ?_
            refine at_weak [(4, _)] ⟨rfl, trivial⟩ ?_
            refine at_then_normal ?_
            refine at_ret ?_
            have K := of_some hF
            subst K
            exact at_return1 rfl rfl (fun w1 hw => ⟨rfl, hw.below⟩)
        · refine atq_fix (g := 34) rfl h8 ?_
          refine atq_guard_no rfl rfl rfl rfl rfl ?_
          refine atq_guard_no rfl rfl rfl rfl rfl ?_
          refine atq_guard_no rfl rfl rfl rfl rfl ?_
          refine atq_guard_no rfl rfl rfl rfl rfl ?_
          refine atq_guard_no rfl rfl rfl rfl rfl ?_
          refine atq_val rfl rfl rfl (r_pick rfl rfl rfl) ?_
          refine atq_val rfl rfl rfl (r_move rfl) ?_
          refine atq_guard_no rfl rfl rfl rfl rfl ?_
          refine atq_guard_no rfl rfl rfl rfl rfl ?_
          refine atq_guard_no rfl rfl rfl rfl rfl ?_
          refine atq_guard_no rfl rfl rfl rfl rfl ?_
          refine atq_guard_no rfl rfl rfl rfl rfl ?_
          refine atq_val rfl rfl rfl (r_pick rfl rfl rfl) ?_
          refine atq_val rfl rfl rfl (r_assign rfl) ?_
          refine atq_nil ?_
          refine at_drop (H := _) .z ?_
          refine at_drop (H := _) .z ?_
          refine at_weak [(4, _)] ⟨rfl, trivial⟩ ?_
          refine at_then_normal ?_
          refine at_ret ?_
          have K := of_some hF
          subst K
          exact at_return1 rfl rfl (fun w1 hw => ⟨rfl, hw.below⟩)
      · refine atq_fix (g := 27) rfl h7 ?_
        refine atq_guard_no rfl rfl rfl rfl rfl ?_
        refine atq_guard_no rfl rfl rfl rfl rfl ?_
        refine atq_guard_no rfl rfl rfl rfl rfl ?_
        refine atq_guard_no rfl rfl rfl rfl rfl ?_
        refine atq_guard_no rfl rfl rfl rfl rfl ?_
        refine atq_val rfl rfl rfl (r_pick rfl rfl rfl) ?_
        refine atq_val rfl rfl rfl (r_move rfl) ?_
        refine atq_guard_no rfl rfl rfl rfl rfl ?_
        refine atq_guard_no rfl rfl rfl rfl rfl ?_
        refine atq_guard_no rfl rfl rfl rfl rfl ?_
        refine atq_guard_no rfl rfl rfl rfl rfl ?_
        refine atq_guard_no rfl rfl rfl rfl rfl ?_
        refine atq_val rfl rfl rfl (r_pick rfl rfl rfl) ?_
        refine atq_val rfl rfl rfl (r_move rfl) ?_
        refine atq_guard_no rfl rfl rfl rfl rfl ?_
        refine atq_guard_no rfl rfl rfl rfl rfl ?_
        refine atq_guard_no rfl rfl rfl rfl rfl ?_
        refine atq_guard_no rfl rfl rfl rfl rfl ?_
        refine atq_guard_no rfl rfl rfl rfl rfl ?_
        refine atq_val rfl rfl rfl (r_pick rfl rfl rfl) ?_
        refine atq_val rfl rfl rfl (r_assign rfl) ?_
        refine atq_nil ?_
        refine at_drop (H := _) .z ?_
        refine at_drop (H := _) .z ?_
        refine at_weak [(4, _)] ⟨rfl, trivial⟩ ?_
        refine at_then_normal ?_
        refine at_ret ?_
        have K := of_some hF
        subst K
        exact at_return1 rfl rfl (fun w1 hw => ⟨rfl, hw.below⟩)
    · refine atq_fix (g := 20) rfl h6 ?_
      refine atq_guard_no rfl rfl rfl rfl rfl ?_
      refine atq_guard_no rfl rfl rfl rfl rfl ?_
      refine atq_guard_no rfl rfl rfl rfl rfl ?_
      refine atq_guard_no rfl rfl rfl rfl rfl ?_
      refine atq_guard_no rfl rfl rfl rfl rfl ?_
      refine atq_val rfl rfl rfl (r_pick rfl rfl rfl) ?_
      refine atq_val rfl rfl rfl (r_move rfl) ?_
      refine atq_guard_no rfl rfl rfl rfl rfl ?_
      refine atq_guard_no rfl rfl rfl rfl rfl ?_
      refine atq_guard_no rfl rfl rfl rfl rfl ?_
      refine atq_guard_no rfl rfl rfl rfl rfl ?_
      refine atq_guard_no rfl rfl rfl rfl rfl ?_
      refine atq_val rfl rfl rfl (r_pick rfl rfl rfl) ?_
      refine atq_val rfl rfl rfl (r_move rfl) ?_
      refine atq_guard_no rfl rfl rfl rfl rfl ?_
      refine atq_guard_no rfl rfl rfl rfl rfl ?_
      refine atq_guard_no rfl rfl rfl rfl rfl ?_
      refine atq_guard_no rfl rfl rfl rfl rfl ?_
      refine atq_guard_no rfl rfl rfl rfl rfl ?_
      refine atq_val rfl rfl rfl (r_pick rfl rfl rfl) ?_
      refine atq_val rfl rfl rfl (r_move rfl) ?_
      refine atq_guard_no rfl rfl rfl rfl rfl ?_
      refine atq_guard_no rfl rfl rfl rfl rfl ?_
      refine atq_guard_no rfl rfl rfl rfl rfl ?_
      refine atq_guard_no rfl rfl rfl rfl rfl ?_
      refine atq_guard_no rfl rfl rfl rfl rfl ?_
      refine atq_val rfl rfl rfl (r_pick rfl rfl rfl) ?_
      refine atq_val rfl rfl rfl (r_assign rfl) ?_
      refine atq_nil ?_
      refine at_drop (H := _) .z ?_
      refine at_drop (H := _) .z ?_
      refine at_weak [(4, _)] ⟨rfl, trivial⟩ ?_
      refine at_then_normal ?_
      refine at_ret ?_
      have K := of_some hF
      subst K
      exact at_return1 rfl rfl (fun w1 hw => ⟨rfl, hw.below⟩)
  · refine atq_fix (g := 11) rfl h3 ?_
    refine atq_guard_no rfl rfl rfl rfl rfl ?_
    refine atq_guard_no rfl rfl rfl rfl rfl ?_
    refine atq_guard_no rfl rfl rfl rfl rfl ?_
    refine atq_guard_no rfl rfl rfl rfl rfl ?_
    refine atq_guard_no rfl rfl rfl rfl rfl ?_
    refine atq_guard_no rfl rfl rfl rfl rfl ?_
    refine atq_guard_no rfl rfl rfl rfl rfl ?_
    refine atq_val rfl rfl rfl (r_pick rfl rfl rfl) ?_
    refine atq_val rfl rfl rfl (r_move rfl) ?_
    refine atq_guard_no rfl rfl rfl rfl rfl ?_
    refine atq_guard_no rfl rfl rfl rfl rfl ?_
    refine atq_guard_no rfl rfl rfl rfl rfl ?_
    refine atq_guard_no rfl rfl rfl rfl rfl ?_
    refine atq_guard_no rfl rfl rfl rfl rfl ?_
    refine atq_val rfl rfl rfl (r_pick rfl rfl rfl) ?_
    refine atq_val rfl rfl rfl (r_move rfl) ?_
    refine atq_guard_no rfl rfl rfl rfl rfl ?_
    refine atq_guard_no rfl rfl rfl rfl rfl ?_
    refine atq_guard_no rfl rfl rfl rfl rfl ?_
    refine atq_guard_no rfl rfl rfl rfl rfl ?_
    refine atq_guard_no rfl rfl rfl rfl rfl ?_
    refine atq_val rfl rfl rfl (r_pick rfl rfl rfl) ?_
    refine atq_val rfl rfl rfl (r_move rfl) ?_
    refine atq_guard_no rfl rfl rfl rfl rfl ?_
    refine atq_guard_no rfl rfl rfl rfl rfl ?_
    refine atq_guard_no rfl rfl rfl rfl rfl ?_
    refine atq_guard_no rfl rfl rfl rfl rfl ?_
    refine atq_guard_no rfl rfl rfl rfl rfl ?_
    refine atq_val rfl rfl rfl (r_pick rfl rfl rfl) ?_
    refine atq_val rfl rfl rfl (r_move rfl) ?_
    refine atq_guard_no rfl rfl rfl rfl rfl ?_
    refine atq_guard_no rfl rfl rfl rfl rfl ?_
    refine atq_guard_no rfl rfl rfl rfl rfl ?_
    refine atq_guard_no rfl rfl rfl rfl rfl ?_
    refine atq_guard_no rfl rfl rfl rfl rfl ?_
    refine atq_val rfl rfl rfl (r_pick rfl rfl rfl) ?_
    refine atq_val rfl rfl rfl (r_assign rfl) ?_
    refine atq_nil ?_
    refine at_drop (H := _) .z ?_
    refine at_drop (H := _) .z ?_
    refine at_weak [(4, _)] ⟨rfl, trivial⟩ ?_
    refine at_then_normal ?_
    refine at_ret ?_
    have K := of_some hF
    subst K
    exact at_return1 rfl rfl (fun w1 hw => ⟨rfl, hw.below⟩)

def change_Same_1 (x0 : S_api_Request) : Option ((Vector Bool 4)) :=
  some (vset (vset (vset (vset (Vector.replicate 4 false : (Vector Bool 4)) 0 x0.f_HasPrivate) 1 x0.f_HasPort) 2 x0.f_HasMark) 3 x0.f_Replace)
theorem change_Same_1_ok (g0_ : G_api_Request) (x0 : S_api_Request) (r : (Vector Bool 4)) (hF : change_Same_1 x0 = some r) (w : World) (hn0 : N_api_Request w (g0_, x0)) :
    Calls Try.prog 63 #[.agg (Cd.cs c_api_Request (g0_, x0)).toArray] w (fun e w' => e = .returned (.agg (Cd.cs (cVec cBool 4 (by decide)) r).toArray) ∧ Below w.heap.size w w') := by
  unfold change_Same_1 at hF
  refine calls_enter (l := [.agg (Cd.cs c_api_Request (g0_, x0)).toArray]) Try.func63 rfl rfl rfl ?_
  refine at_start ?_
  refine at_weak [(0, _)] ⟨rfl, trivial⟩ ?_
  refine at_seq ?_
  refine at_region ?_
  refine at_box (cs := Cd.cs c_api_Request (g0_, x0)) rfl rfl rfl ?_
  intro b1
  refine at_alloc (cs := Cd.cs (cVec cBool 4 (by decide)) (Vector.replicate 4 false : (Vector Bool 4))) Try.zeroValue97 rfl rfl ?_
  intro b2
  refine at_nil ?_
  refine at_weak [(1, _), (2, _)] ⟨rfl, rfl, trivial⟩ ?_
  refine at_then_normal ?_
  refine at_seq ?_
  refine at_region ?_
  refine at_val rfl rfl rfl (r_fieldAddr (fo := 0) Try.underlying27 rfl rfl (fun w => ⟨_, Try.sizeOf4 w⟩) rfl) ?_
  refine at_val rfl rfl rfl (r_load_cell Try.isAgg4 rfl (lens_cell0 (c := cBool) (y := x0.f_HasPrivate) (.s .z) (c_api_Request_f_HasPrivate g0_ x0) rfl)) ?_
  refine at_val rfl rfl rfl (r_fieldAddr (fo := 33) Try.underlying27 rfl rfl (fun w => ⟨_, Try.sizeOf4 w⟩) rfl) ?_
  refine at_val rfl rfl rfl (r_load_cell Try.isAgg4 rfl (lens_cell0 (c := cBool) (y := x0.f_HasPort) (.s .z) (c_api_Request_f_HasPort g0_ x0) rfl)) ?_
  refine at_val rfl rfl rfl (r_fieldAddr (fo := 35) Try.underlying27 rfl rfl (fun w => ⟨_, Try.sizeOf4 w⟩) rfl) ?_
  refine at_val rfl rfl rfl (r_load_cell Try.isAgg4 rfl (lens_cell0 (c := cBool) (y := x0.f_HasMark) (.s .z) (c_api_Request_f_HasMark g0_ x0) rfl)) ?_
  refine at_val rfl rfl rfl (r_fieldAddr (fo := 37) Try.underlying27 rfl rfl (fun w => ⟨_, Try.sizeOf4 w⟩) rfl) ?_
  refine at_val rfl rfl rfl (r_load_cell Try.isAgg4 rfl (lens_cell0 (c := cBool) (y := x0.f_Replace) (.s .z) (c_api_Request_f_Replace g0_ x0) rfl)) ?_
  refine at_val rfl rfl rfl (r_build_array (zs := Cd.cs (cVec cBool 4 (by decide)) (Vector.replicate 4 false : (Vector Bool 4))) (cs := Cd.cs (cVec cBool 4 (by decide)) (vset (vset (vset (vset (Vector.replicate 4 false : (Vector Bool 4)) 0 x0.f_HasPrivate) 1 x0.f_HasPort) 2 x0.f_HasMark) 3 x0.f_Replace)) Try.underlying97 Try.zeroValue97 rfl Try.sizeOf4 rfl (fill_step (c := cBool) (z := x0.f_HasPrivate) rfl (Lens.vec cBool (by decide) (Vector.replicate 4 false : (Vector Bool 4)) 0 (by decide)) rfl (fill_step (c := cBool) (z := x0.f_HasPort) rfl (Lens.vec cBool (by decide) (vset (Vector.replicate 4 false : (Vector Bool 4)) 0 x0.f_HasPrivate) 1 (by decide)) rfl (fill_step (c := cBool) (z := x0.f_HasMark) rfl (Lens.vec cBool (by decide) (vset (vset (Vector.replicate 4 false : (Vector Bool 4)) 0 x0.f_HasPrivate) 1 x0.f_HasPort) 2 (by decide)) rfl (fill_step (c := cBool) (z := x0.f_Replace) rfl (Lens.vec cBool (by decide) (vset (vset (vset (Vector.replicate 4 false : (Vector Bool 4)) 0 x0.f_HasPrivate) 1 x0.f_HasPort) 2 x0.f_HasMark) 3 (by decide)) rfl rfl))))) ?_
  refine at_store (c := (cVec cBool 4 (by decide))) (z := vset (vset (vset (vset (Vector.replicate 4 false : (Vector Bool 4)) 0 x0.f_HasPrivate) 1 x0.f_HasPort) 2 x0.f_HasMark) 3 x0.f_Replace) .z (Lens.whole _ _) Try.sizeOf97 rfl rfl rfl ?_
  refine at_nil ?_
  refine at_drop (H := _) (.s .z) ?_
  refine at_weak [(2, _)] ⟨rfl, trivial⟩ ?_
  refine at_then_normal ?_
  refine at_ret ?_
  have K := of_some hF
  subst K
  exact at_res1 rfl (res_cell (c := (cVec cBool 4 (by decide))) (y := vset (vset (vset (vset (Vector.replicate 4 false : (Vector Bool 4)) 0 x0.f_HasPrivate) 1 x0.f_HasPort) 2 x0.f_HasMark) 3 x0.f_Replace) rfl .z (Lens.whole _ _) Try.isAgg97 Try.sizeOf97 (.inl rfl)) (fun w1 hw => ⟨rfl, hw.below⟩)

def slices_EqualFunc_api_PeerChange__change_alike.l0 (x0 : List S_api_PeerChange) (x1 : List S_api_PeerChange) (i3 : Int) : Option (Ctl (Bool) (Unit)) :=
  if (decide (i3 < (x0.length : Int))) = true then (if (0 : Int) ≤ i3 ∧ i3 < (x0.length : Int) then if (0 : Int) ≤ i3 ∧ i3 < (x1.length : Int) then change_alike (lget x0 i3) (lget x1 i3) >>= fun t27 => if (!t27) = true then (some (.ret false)) else (slices_EqualFunc_api_PeerChange__change_alike.l0 x0 x1 (wr .i64 (i3 + 1))) else none else none) else (some (.nx ()))
  partial_fixpoint
def slices_EqualFunc_api_PeerChange__change_alike (x0 : List S_api_PeerChange) (x1 : List S_api_PeerChange) : Option (Bool) :=
  if ((x0.length : Int) != (x1.length : Int)) = true then (some false) else (slices_EqualFunc_api_PeerChange__change_alike.l0 x0 x1 0 >>= fun q2 => match q2 with | .ret r' => some r' | .nx sq2 => (some true))
theorem slices_EqualFunc_api_PeerChange__change_alike_ok (x0 : List S_api_PeerChange) (p0_ : Option Addr) (c0_ : Nat) (x1 : List S_api_PeerChange) (p1_ : Option Addr) (c1_ : Nat) (r : Bool) (hF : slices_EqualFunc_api_PeerChange__change_alike x0 x1 = some r) (w : World) (hr0 : NR_api_PeerChange w p0_ c0_ x0) (hr1 : NR_api_PeerChange w p1_ c1_ x1) :
    Calls Try.prog 64 #[.slice p0_ x0.length c0_, .slice p1_ x1.length c1_, .func (.func 65) #[] #[]] w (fun e w' => e = .returned (.bool r) ∧ Below w.heap.size w w') := by
  unfold slices_EqualFunc_api_PeerChange__change_alike at hF
  refine calls_enter (l := [.slice p0_ x0.length c0_, .slice p1_ x1.length c1_, .func (.func 65) #[] #[]]) Try.func64 rfl rfl rfl ?_
  refine at_start ?_
  refine at_weak [(0, _), (1, _), (2, _)] ⟨rfl, rfl, rfl, trivial⟩ ?_
  refine at_seq ?_
  refine at_region ?_
  refine at_val rfl rfl rfl (r_assign rfl) ?_
  refine at_nil ?_
  refine at_weak [(0, _), (1, _), (2, _)] ⟨rfl, rfl, rfl, trivial⟩ ?_
  refine at_then_normal ?_
  refine at_seq ?_
  refine at_seq ?_
  refine at_region ?_
  refine at_val rfl rfl rfl (r_move rfl) ?_
  refine at_val rfl rfl rfl (r_len_sl Try.underlying25 rfl) ?_
  refine at_val rfl rfl rfl (r_move rfl) ?_
  refine at_val rfl rfl rfl (r_len_sl Try.underlying25 rfl) ?_
  refine at_val rfl rfl rfl (r_ineq rfl rfl) ?_
  refine at_nil ?_
  refine at_weak [(0, _), (1, _), (2, _), (14, _)] ⟨rfl, rfl, rfl, rfl, trivial⟩ ?_
  refine at_then_normal ?_
  rcases of_ite hF with ⟨h1, hF⟩ | ⟨h1, hF⟩
  · refine at_cond_true rfl h1 ?_
    refine at_seq ?_
    refine at_region ?_
    refine at_val rfl rfl rfl (r_assign rfl) ?_
    refine at_nil ?_
    refine at_weak [(6, _)] ⟨rfl, trivial⟩ ?_
    refine at_then_normal ?_
    refine at_ret ?_
    refine at_then_ret ?_
    have K := of_some hF
    subst K
    exact at_return1 rfl rfl (fun w1 hw => ⟨rfl, hw.below⟩)
  · refine at_cond_false rfl h1 ?_
    refine at_skip ?_
    refine at_then_normal ?_
    refine at_seq ?_
    refine at_seq ?_
    refine at_region ?_
    refine at_val rfl rfl rfl (r_move rfl) ?_
    refine at_val rfl rfl rfl (r_len_sl Try.underlying25 rfl) ?_
    refine at_val rfl rfl rfl (r_move rfl) ?_
    refine at_nil ?_
    refine at_weak [(1, _), (2, _), (15, _), (16, _), (17, _)] ⟨rfl, rfl, rfl, rfl, rfl, trivial⟩ ?_
    refine at_then_normal ?_
    refine at_block ?_
    obtain ⟨q2, hq2, hF⟩ := of_bindM hF
    refine at_weak [(1, _), (2, _), (15, _), (16, _), (17, _)] ⟨rfl, rfl, rfl, rfl, rfl, trivial⟩ ?_
    refine at_loop_r (B := 0) (r := r) (q := q2) (A := fun (_ : Unit) Y => At 32 [] (Wd w []) Y) ?_ ?_
    · intro K
      refine slices_EqualFunc_api_PeerChange__change_alike.l0.partial_correctness x0 x1 (motive := fun i3 x => KR (fun (_ : Unit) Y => At 32 [] (Wd w []) Y) _ 0 r x → Round (fun Y => At 32 [(1, .slice p1_ x1.length c1_), (2, .func (.func 65) #[] #[]), (15, .slice p0_ x0.length c0_), (16, .int .i64 (x0.length : Int)), (17, .int .i64 i3)] (Wd w []) Y) _ _ _) ?_ _ _ hq2 K
      · clear K hF
        intro g ih i3 x hF K
        refine at_round ?_
        refine at_seq ?_
        refine at_region ?_
        refine at_val rfl rfl rfl (r_ilss rfl rfl) ?_
        refine at_nil ?_
        refine at_weak [(1, _), (2, _), (15, _), (16, _), (17, _), (18, _)] ⟨rfl, rfl, rfl, rfl, rfl, rfl, trivial⟩ ?_
        refine at_then_normal ?_
        refine at_seq ?_
        rcases of_ite hF with ⟨h4, hF⟩ | ⟨h4, hF⟩
        · refine at_cond_true rfl h4 ?_
          refine at_skip ?_
          refine at_then_normal ?_
          refine at_seq ?_
          refine at_block ?_
          refine at_seq ?_
          refine at_region ?_
          refine at_val rfl rfl rfl (r_move rfl) ?_
          obtain ⟨h5, hF⟩ := of_guard hF
          obtain ⟨zs9, hz10, hr11, hn12⟩ := hr0
          obtain ⟨b7, o8, hp6⟩ := row_ptr hr11 (zidx hz10 h5)
          obtain ⟨g13, hg14⟩ := zget hz10 i3
          refine at_val rfl rfl rfl (r_idx Try.underlying25 Try.sizeOf37 rfl rfl h5 hp6) ?_
          refine at_val rfl rfl rfl (r_load_aggc (c := c_api_PeerChange) (z := (g13, lget x0 i3)) Try.isAgg37 Try.sizeOf37 rfl (ncell (fun _ h => h.below) hr11 (zidx hz10 h5) hp6 hg14)) ?_
          refine at_alloc (cs := Cd.cs c_api_PeerChange (((none : Option Addr), (0 : Nat)), ({ f_Key := (Vector.replicate 32 (0 : Int) : (Vector Int 32)), f_Remove := false, f_Update := false, f_HasPsk := false, f_Psk := (Vector.replicate 32 (0 : Int) : (Vector Int 32)), f_HasEnd := false, f_End := ({ f_A := ({ f_V := (0 : Int), f_B := (Vector.replicate 16 (0 : Int) : (Vector Int 16)) } : S_api_Addr), f_Port := (0 : Int) } : S_api_Endpoint), f_HasKeep := false, f_Keep := (0 : Int), f_Replace := false, f_Allowed := ([] : List S_api_Prefix) } : S_api_PeerChange))) Try.zeroValue37 rfl rfl ?_
          intro b15
          refine at_val rfl rfl rfl (r_assign rfl) ?_
          refine at_store (c := c_api_PeerChange) (z := (g13, lget x0 i3)) .z (Lens.whole _ _) Try.sizeOf37 rfl rfl rfl ?_
          refine at_nil ?_
          refine at_weak [(1, _), (2, _), (7, _), (8, _), (15, _), (16, _), (17, _)] ⟨rfl, rfl, rfl, rfl, rfl, rfl, rfl, trivial⟩ ?_
          refine at_then_normal ?_
          refine at_seq ?_
          refine at_region ?_
          refine at_val rfl rfl rfl (r_move rfl) ?_
          refine at_val rfl rfl rfl (r_move rfl) ?_
          obtain ⟨h16, hF⟩ := of_guard hF
          obtain ⟨zs20, hz21, hr22, hn23⟩ := hr1
          obtain ⟨b18, o19, hp17⟩ := row_ptr hr22 (zidx hz21 h16)
          obtain ⟨g24, hg25⟩ := zget hz21 i3
          refine at_val rfl rfl rfl (r_idx Try.underlying25 Try.sizeOf37 rfl rfl h16 hp17) ?_
          refine at_val rfl rfl rfl (r_load_aggc (c := c_api_PeerChange) (z := (g24, lget x1 i3)) Try.isAgg37 Try.sizeOf37 rfl (ncell (fun _ h => h.below) hr22 (zidx hz21 h16) hp17 hg25)) ?_
          refine at_alloc (cs := Cd.cs c_api_PeerChange (((none : Option Addr), (0 : Nat)), ({ f_Key := (Vector.replicate 32 (0 : Int) : (Vector Int 32)), f_Remove := false, f_Update := false, f_HasPsk := false, f_Psk := (Vector.replicate 32 (0 : Int) : (Vector Int 32)), f_HasEnd := false, f_End := ({ f_A := ({ f_V := (0 : Int), f_B := (Vector.replicate 16 (0 : Int) : (Vector Int 16)) } : S_api_Addr), f_Port := (0 : Int) } : S_api_Endpoint), f_HasKeep := false, f_Keep := (0 : Int), f_Replace := false, f_Allowed := ([] : List S_api_Prefix) } : S_api_PeerChange))) Try.zeroValue37 rfl rfl ?_
          intro b26
          refine at_store (c := c_api_PeerChange) (z := (g24, lget x1 i3)) .z (Lens.whole _ _) Try.sizeOf37 rfl rfl rfl ?_
          refine at_nil ?_
          refine at_weak [(1, _), (2, _), (8, _), (9, _), (15, _), (16, _), (17, _)] ⟨rfl, rfl, rfl, rfl, rfl, rfl, rfl, trivial⟩ ?_
          refine at_then_normal ?_
          refine at_seq ?_
          refine at_region ?_
          refine at_val rfl rfl rfl (r_move rfl) ?_
          refine at_val rfl rfl rfl (r_load_aggc (c := c_api_PeerChange) (z := (g13, lget x0 i3)) Try.isAgg37 Try.sizeOf37 rfl (lens_cell (.s .z) (Lens.whole _ _))) ?_
          refine at_val rfl rfl rfl (r_load_aggc (c := c_api_PeerChange) (z := (g24, lget x1 i3)) Try.isAgg37 Try.sizeOf37 rfl (lens_cell .z (Lens.whole _ _))) ?_
          refine at_callee rfl ?_
          obtain ⟨t27, ht27, hF⟩ := of_bindM hF
          refine at_callB Try.func65 rfl (by kernel_rfl) rfl rfl (fun w hw => change_alike_ok _ _ _ _ _ ht27 w (N_api_PeerChange.below (nz hg14 hn12 (zidx hz10 h5)) hw.below) (N_api_PeerChange.below (nz hg25 hn23 (zidx hz21 h16)) hw.below)) ?_
          refine at_val rfl rfl rfl (r_not rfl) ?_
          refine at_nil ?_
          refine at_drop (H := _) .z ?_
          refine at_drop (H := _) .z ?_
          refine at_weak [(1, _), (2, _), (15, _), (16, _), (17, _), (30, _)] ⟨rfl, rfl, rfl, rfl, rfl, rfl, trivial⟩ ?_
          refine at_then_normal ?_
          rcases of_ite hF with ⟨h28, hF⟩ | ⟨h28, hF⟩
          · refine at_cond_true rfl h28 ?_
            refine at_seq ?_
            refine at_region ?_
            refine at_val rfl rfl rfl (r_assign rfl) ?_
            refine at_nil ?_
            refine at_weak [(6, _)] ⟨rfl, trivial⟩ ?_
            refine at_then_normal ?_
            refine at_ret ?_
            refine at_blk_ret (at_then_ret (at_then_ret (at_blk_ret (at_then_ret ?_))))
            obtain rfl := of_some hF
            subst K
            exact at_return1 rfl rfl (fun w1 hw => ⟨rfl, hw.below⟩)
          · refine at_cond_false rfl h28 ?_
            refine at_skip ?_
            refine at_blk_normal (at_then_normal ?_)
            refine at_region ?_
            refine at_val rfl rfl rfl (r_iadd rfl rfl) ?_
            refine at_val rfl rfl rfl (r_move rfl) ?_
            refine at_nil ?_
            refine at_weak [(1, _), (2, _), (15, _), (16, _), (17, _)] ⟨rfl, rfl, rfl, rfl, rfl, trivial⟩ ?_
            refine at_then_normal ?_
            exact at_weak_k (ih _ _ hF K) ⟨rfl, rfl, rfl, rfl, rfl, trivial⟩
        · refine at_cond_false rfl h4 ?_
          refine at_exit ?_
          refine at_then_exit (at_then_exit ?_)
          obtain rfl := of_some hF
          exact at_weak_k K trivial
    · cases q2 with
      | ret r' => exact of_some hF
      | nx sq2 =>
        skip
        refine at_blk_same ?_
        refine at_then_normal ?_
        refine at_seq ?_
        refine at_region ?_
        refine at_val rfl rfl rfl (r_assign rfl) ?_
        refine at_nil ?_
        refine at_weak [(6, _)] ⟨rfl, trivial⟩ ?_
        refine at_then_normal ?_
        refine at_ret ?_
        have K := of_some hF
        subst K
        exact at_return1 rfl rfl (fun w1 hw => ⟨rfl, hw.below⟩)

def change_Same (x0 : S_api_Request) (x1 : S_api_Request) : Option (Bool) :=
  change_Same_1 x0 >>= fun t3 => change_Same_1 x1 >>= fun t4 => if (decide (t3 = t4)) = true then (if (decide (x0.f_Private = x1.f_Private)) = true then (if (x0.f_Port == x1.f_Port) = true then (if (x0.f_Mark == x1.f_Mark) = true then (slices_EqualFunc_api_PeerChange__change_alike x0.f_Peers x1.f_Peers >>= fun t9 => some t9) else (some false)) else (some false)) else (some false)) else (some false)
theorem change_Same_ok (g0_ : G_api_Request) (x0 : S_api_Request) (g1_ : G_api_Request) (x1 : S_api_Request) (r : Bool) (hF : change_Same x0 x1 = some r) (w : World) (hn0 : N_api_Request w (g0_, x0)) (hn1 : N_api_Request w (g1_, x1)) :
    Calls Try.prog 22 #[.agg (Cd.cs c_api_Request (g0_, x0)).toArray, .agg (Cd.cs c_api_Request (g1_, x1)).toArray] w (fun e w' => e = .returned (.bool r) ∧ Below w.heap.size w w') := by
  unfold change_Same at hF
  refine calls_enter (l := [.agg (Cd.cs c_api_Request (g0_, x0)).toArray, .agg (Cd.cs c_api_Request (g1_, x1)).toArray]) Try.func22 rfl rfl rfl ?_
  refine at_start ?_
  refine at_weak [(0, _), (1, _)] ⟨rfl, rfl, trivial⟩ ?_
  refine at_seq ?_
  refine at_region ?_
  refine at_box (cs := Cd.cs c_api_Request (g0_, x0)) rfl rfl rfl ?_
  intro b1
  refine at_box (cs := Cd.cs c_api_Request (g1_, x1)) rfl rfl rfl ?_
  intro b2
  refine at_val rfl rfl rfl (r_assign rfl) ?_
  refine at_nil ?_
  refine at_weak [(2, _), (3, _)] ⟨rfl, rfl, trivial⟩ ?_
  refine at_then_normal ?_
  refine at_seq ?_
  refine at_region ?_
  refine at_val rfl rfl rfl (r_assign rfl) ?_
  refine at_nil ?_
  refine at_weak [(2, _), (3, _), (5, _)] ⟨rfl, rfl, rfl, trivial⟩ ?_
  refine at_then_normal ?_
  refine at_seq ?_
  refine at_draw (by kernel_rfl) (by kernel_rfl) (fun _ h => h.drew) ?_
  refine atq_val rfl rfl rfl (r_move rfl) ?_
  refine atq_val rfl rfl rfl (r_load_aggc (c := c_api_Request) (z := (g0_, x0)) Try.isAgg27 Try.sizeOf27 rfl (lens_cell (.s .z) (Lens.whole _ _))) ?_
  refine atq_callee rfl ?_
  obtain ⟨t3, ht3, hF⟩ := of_bindM hF
  refine atq_call Try.func63 rfl (by kernel_rfl) rfl rfl (fun w hw => (change_Same_1_ok _ _ _ ht3 w (N_api_Request.below hn0 hw.below)).mono fun _ _ h => ⟨h.1, hw.call h.2⟩) ?_
  refine atq_val rfl rfl rfl (r_move rfl) ?_
  refine atq_val rfl rfl rfl (r_load_aggc (c := c_api_Request) (z := (g1_, x1)) Try.isAgg27 Try.sizeOf27 rfl (lens_cell .z (Lens.whole _ _))) ?_
  refine atq_callee rfl ?_
  obtain ⟨t4, ht4, hF⟩ := of_bindM hF
  refine atq_call Try.func63 rfl (by kernel_rfl) rfl rfl (fun w hw => (change_Same_1_ok _ _ _ ht4 w (N_api_Request.below hn1 hw.below)).mono fun _ _ h => ⟨h.1, hw.call h.2⟩) ?_
  refine atq_val rfl rfl rfl (r_eqagg (c := (cVec cBool 4 (by decide))) (a := t3) (b := t4) (eqs_vec Try.underlying97 infoT4 Try.sizeOf4 Try.isAgg4 (.inr rfl) (eqs_bool Try.underlying4)) rfl Try.eqGuardType97 rfl rfl (.inl rfl) rfl) ?_
  refine atq_val rfl rfl rfl (r_move rfl) ?_
  rcases of_ite hF with ⟨h5, hF⟩ | ⟨h5, hF⟩
  · refine atq_fix (g := 13) rfl h5 ?_
    refine atq_guard_yes rfl rfl rfl ?_
    refine atq_val rfl rfl rfl (r_fieldAddr (fo := 1) Try.underlying27 rfl rfl (fun w => ⟨_, Try.sizeOf23 w⟩) rfl) ?_
    refine atq_guard_yes rfl rfl rfl ?_
    refine atq_val rfl rfl rfl (r_load_aggc (c := (cVec (cInt .u8) 32 (by decide))) (z := x0.f_Private) Try.isAgg23 Try.sizeOf23 rfl (lens_cell (.s .z) (c_api_Request_f_Private g0_ x0))) ?_
    refine atq_guard_yes rfl rfl rfl ?_
    refine atq_val rfl rfl rfl (r_fieldAddr (fo := 1) Try.underlying27 rfl rfl (fun w => ⟨_, Try.sizeOf23 w⟩) rfl) ?_
    refine atq_guard_yes rfl rfl rfl ?_
    refine atq_val rfl rfl rfl (r_load_aggc (c := (cVec (cInt .u8) 32 (by decide))) (z := x1.f_Private) Try.isAgg23 Try.sizeOf23 rfl (lens_cell .z (c_api_Request_f_Private g1_ x1))) ?_
    refine atq_guard_yes rfl rfl rfl ?_
    refine atq_val rfl rfl rfl (r_eqagg (c := (cVec (cInt .u8) 32 (by decide))) (a := x0.f_Private) (b := x1.f_Private) (eqs_vec Try.underlying23 infoT5 Try.sizeOf5 Try.isAgg5 (.inr rfl) (eqs_int Try.underlying5)) rfl Try.eqGuardType23 rfl rfl (.inl rfl) rfl) ?_
    refine atq_val rfl rfl rfl (r_pick rfl rfl rfl) ?_
    refine atq_val rfl rfl rfl (r_move rfl) ?_
    rcases of_ite hF with ⟨h6, hF⟩ | ⟨h6, hF⟩
    · refine atq_fix (g := 20) rfl h6 ?_
      refine atq_guard_yes rfl rfl rfl ?_
      refine atq_val rfl rfl rfl (r_fieldAddr (fo := 34) Try.underlying27 rfl rfl (fun w => ⟨_, Try.sizeOf3 w⟩) rfl) ?_
      refine atq_guard_yes rfl rfl rfl ?_
      refine atq_val rfl rfl rfl (r_load_cell Try.isAgg3 rfl (lens_cell0 (c := (cInt .i64)) (y := x0.f_Port) (.s .z) (c_api_Request_f_Port g0_ x0) rfl)) ?_
      refine atq_guard_yes rfl rfl rfl ?_
      refine atq_val rfl rfl rfl (r_fieldAddr (fo := 34) Try.underlying27 rfl rfl (fun w => ⟨_, Try.sizeOf3 w⟩) rfl) ?_
      refine atq_guard_yes rfl rfl rfl ?_
      refine atq_val rfl rfl rfl (r_load_cell Try.isAgg3 rfl (lens_cell0 (c := (cInt .i64)) (y := x1.f_Port) .z (c_api_Request_f_Port g1_ x1) rfl)) ?_
      refine atq_guard_yes rfl rfl rfl ?_
      refine atq_val rfl rfl rfl (r_ieql rfl rfl) ?_
      refine atq_val rfl rfl rfl (r_pick rfl rfl rfl) ?_
      refine atq_val rfl rfl rfl (r_move rfl) ?_
      rcases of_ite hF with ⟨h7, hF⟩ | ⟨h7, hF⟩
      · refine atq_fix (g := 27) rfl h7 ?_
        refine atq_guard_yes rfl rfl rfl ?_
        refine atq_val rfl rfl rfl (r_fieldAddr (fo := 36) Try.underlying27 rfl rfl (fun w => ⟨_, Try.sizeOf24 w⟩) rfl) ?_
        refine atq_guard_yes rfl rfl rfl ?_
        refine atq_val rfl rfl rfl (r_load_cell Try.isAgg24 rfl (lens_cell0 (c := (cInt .u32)) (y := x0.f_Mark) (.s .z) (c_api_Request_f_Mark g0_ x0) rfl)) ?_
        refine atq_guard_yes rfl rfl rfl ?_
        refine atq_val rfl rfl rfl (r_fieldAddr (fo := 36) Try.underlying27 rfl rfl (fun w => ⟨_, Try.sizeOf24 w⟩) rfl) ?_
        refine atq_guard_yes rfl rfl rfl ?_
        refine atq_val rfl rfl rfl (r_load_cell Try.isAgg24 rfl (lens_cell0 (c := (cInt .u32)) (y := x1.f_Mark) .z (c_api_Request_f_Mark g1_ x1) rfl)) ?_
        refine atq_guard_yes rfl rfl rfl ?_
        refine atq_val rfl rfl rfl (r_ieql rfl rfl) ?_
        refine atq_val rfl rfl rfl (r_pick rfl rfl rfl) ?_
        refine atq_val rfl rfl rfl (r_move rfl) ?_
        rcases of_ite hF with ⟨h8, hF⟩ | ⟨h8, hF⟩
        · refine atq_fix (g := 34) rfl h8 ?_
          refine atq_guard_yes rfl rfl rfl ?_
          refine atq_val rfl rfl rfl (r_fieldAddr (fo := 38) Try.underlying27 rfl rfl (fun w => ⟨_, Try.sizeOf25 w⟩) rfl) ?_
          refine atq_guard_yes rfl rfl rfl ?_
          refine atq_val rfl rfl rfl (r_load_cell Try.isAgg25 rfl (lens_cell0 (c := cHd) (y := ⟨g0_.1, List.length x0.f_Peers, g0_.2⟩) (.s .z) (c_api_Request_f_Peers g0_ x0) rfl)) ?_
          refine atq_guard_yes rfl rfl rfl ?_
          refine atq_val rfl rfl rfl (r_fieldAddr (fo := 38) Try.underlying27 rfl rfl (fun w => ⟨_, Try.sizeOf25 w⟩) rfl) ?_
          refine atq_guard_yes rfl rfl rfl ?_
          refine atq_val rfl rfl rfl (r_load_cell Try.isAgg25 rfl (lens_cell0 (c := cHd) (y := ⟨g1_.1, List.length x1.f_Peers, g1_.2⟩) .z (c_api_Request_f_Peers g1_ x1) rfl)) ?_
          refine atq_guard_yes rfl rfl rfl ?_
          obtain ⟨t9, ht9, hF⟩ := of_bindM hF
          refine atq_call Try.func64 rfl (by kernel_rfl) rfl rfl (fun w hw => (slices_EqualFunc_api_PeerChange__change_alike_ok _ _ _ _ _ _ _ ht9 w (NR_api_PeerChange.below hn0 hw.below) (NR_api_PeerChange.below hn1 hw.below)).mono fun _ _ h => ⟨h.1, hw.call h.2⟩) ?_
          refine atq_val rfl rfl rfl (r_pick rfl rfl rfl) ?_
          refine atq_val rfl rfl rfl (r_assign rfl) ?_
          refine atq_nil ?_
          refine at_drop (H := _) .z ?_
          refine at_drop (H := _) .z ?_
          refine at_weak [(4, _)] ⟨rfl, trivial⟩ ?_
          refine at_then_normal ?_
          refine at_ret ?_
          have K := of_some hF
          subst K
          exact at_return1 rfl rfl (fun w1 hw => ⟨rfl, hw.below⟩)
        · refine atq_fix (g := 34) rfl h8 ?_
          refine atq_guard_no rfl rfl rfl rfl rfl ?_
          refine atq_guard_no rfl rfl rfl rfl rfl ?_
          refine atq_guard_no rfl rfl rfl rfl rfl ?_
          refine atq_guard_no rfl rfl rfl rfl rfl ?_
          refine atq_guard_no rfl rfl rfl rfl rfl ?_
          refine atq_val rfl rfl rfl (r_pick rfl rfl rfl) ?_
          refine atq_val rfl rfl rfl (r_assign rfl) ?_
          refine atq_nil ?_
          refine at_drop (H := _) .z ?_
          refine at_drop (H := _) .z ?_
          refine at_weak [(4, _)] ⟨rfl, trivial⟩ ?_
          refine at_then_normal ?_
          refine at_ret ?_
          have K := of_some hF
          subst K
          exact at_return1 rfl rfl (fun w1 hw => ⟨rfl, hw.below⟩)
      · refine atq_fix (g := 27) rfl h7 ?_
        refine atq_guard_no rfl rfl rfl rfl rfl ?_
        refine atq_guard_no rfl rfl rfl rfl rfl ?_
        refine atq_guard_no rfl rfl rfl rfl rfl ?_
        refine atq_guard_no rfl rfl rfl rfl rfl ?_
        refine atq_guard_no rfl rfl rfl rfl rfl ?_
        refine atq_val rfl rfl rfl (r_pick rfl rfl rfl) ?_
        refine atq_val rfl rfl rfl (r_move rfl) ?_
        refine atq_guard_no rfl rfl rfl rfl rfl ?_
        refine atq_guard_no rfl rfl rfl rfl rfl ?_
        refine atq_guard_no rfl rfl rfl rfl rfl ?_
        refine atq_guard_no rfl rfl rfl rfl rfl ?_
        refine atq_guard_no rfl rfl rfl rfl rfl ?_
        refine atq_val rfl rfl rfl (r_pick rfl rfl rfl) ?_
        refine atq_val rfl rfl rfl (r_assign rfl) ?_
        refine atq_nil ?_
        refine at_drop (H := _) .z ?_
        refine at_drop (H := _) .z ?_
        refine at_weak [(4, _)] ⟨rfl, trivial⟩ ?_
        refine at_then_normal ?_
        refine at_ret ?_
        have K := of_some hF
        subst K
        exact at_return1 rfl rfl (fun w1 hw => ⟨rfl, hw.below⟩)
    · refine atq_fix (g := 20) rfl h6 ?_
      refine atq_guard_no rfl rfl rfl rfl rfl ?_
      refine atq_guard_no rfl rfl rfl rfl rfl ?_
      refine atq_guard_no rfl rfl rfl rfl rfl ?_
      refine atq_guard_no rfl rfl rfl rfl rfl ?_
      refine atq_guard_no rfl rfl rfl rfl rfl ?_
      refine atq_val rfl rfl rfl (r_pick rfl rfl rfl) ?_
      refine atq_val rfl rfl rfl (r_move rfl) ?_
      refine atq_guard_no rfl rfl rfl rfl rfl ?_
      refine atq_guard_no rfl rfl rfl rfl rfl ?_
      refine atq_guard_no rfl rfl rfl rfl rfl ?_
      refine atq_guard_no rfl rfl rfl rfl rfl ?_
      refine atq_guard_no rfl rfl rfl rfl rfl ?_
      refine atq_val rfl rfl rfl (r_pick rfl rfl rfl) ?_
      refine atq_val rfl rfl rfl (r_move rfl) ?_
      refine atq_guard_no rfl rfl rfl rfl rfl ?_
      refine atq_guard_no rfl rfl rfl rfl rfl ?_
      refine atq_guard_no rfl rfl rfl rfl rfl ?_
      refine atq_guard_no rfl rfl rfl rfl rfl ?_
      refine atq_guard_no rfl rfl rfl rfl rfl ?_
      refine atq_val rfl rfl rfl (r_pick rfl rfl rfl) ?_
      refine atq_val rfl rfl rfl (r_assign rfl) ?_
      refine atq_nil ?_
      refine at_drop (H := _) .z ?_
      refine at_drop (H := _) .z ?_
      refine at_weak [(4, _)] ⟨rfl, trivial⟩ ?_
      refine at_then_normal ?_
      refine at_ret ?_
      have K := of_some hF
      subst K
      exact at_return1 rfl rfl (fun w1 hw => ⟨rfl, hw.below⟩)
  · refine atq_fix (g := 13) rfl h5 ?_
    refine atq_guard_no rfl rfl rfl rfl rfl ?_
    refine atq_guard_no rfl rfl rfl rfl rfl ?_
    refine atq_guard_no rfl rfl rfl rfl rfl ?_
    refine atq_guard_no rfl rfl rfl rfl rfl ?_
    refine atq_guard_no rfl rfl rfl rfl rfl ?_
    refine atq_val rfl rfl rfl (r_pick rfl rfl rfl) ?_
    refine atq_val rfl rfl rfl (r_move rfl) ?_
    refine atq_guard_no rfl rfl rfl rfl rfl ?_
    refine atq_guard_no rfl rfl rfl rfl rfl ?_
    refine atq_guard_no rfl rfl rfl rfl rfl ?_
    refine atq_guard_no rfl rfl rfl rfl rfl ?_
    refine atq_guard_no rfl rfl rfl rfl rfl ?_
    refine atq_val rfl rfl rfl (r_pick rfl rfl rfl) ?_
    refine atq_val rfl rfl rfl (r_move rfl) ?_
    refine atq_guard_no rfl rfl rfl rfl rfl ?_
    refine atq_guard_no rfl rfl rfl rfl rfl ?_
    refine atq_guard_no rfl rfl rfl rfl rfl ?_
    refine atq_guard_no rfl rfl rfl rfl rfl ?_
    refine atq_guard_no rfl rfl rfl rfl rfl ?_
    refine atq_val rfl rfl rfl (r_pick rfl rfl rfl) ?_
    refine atq_val rfl rfl rfl (r_move rfl) ?_
    refine atq_guard_no rfl rfl rfl rfl rfl ?_
    refine atq_guard_no rfl rfl rfl rfl rfl ?_
    refine atq_guard_no rfl rfl rfl rfl rfl ?_
    refine atq_guard_no rfl rfl rfl rfl rfl ?_
    refine atq_guard_no rfl rfl rfl rfl rfl ?_
    refine atq_val rfl rfl rfl (r_pick rfl rfl rfl) ?_
    refine atq_val rfl rfl rfl (r_assign rfl) ?_
    refine atq_nil ?_
    refine at_drop (H := _) .z ?_
    refine at_drop (H := _) .z ?_
    refine at_weak [(4, _)] ⟨rfl, trivial⟩ ?_
    refine at_then_normal ?_
    refine at_ret ?_
    have K := of_some hF
    subst K
    exact at_return1 rfl rfl (fun w1 hw => ⟨rfl, hw.below⟩)

def crawlwayref11_Same.l0 (x0 : List S_api_Prefix) (x1 : List S_api_Prefix) (i3 : Int) : Option (Ctl (Bool) (Unit)) :=
  if (decide (i3 < (x0.length : Int))) = true then (if (0 : Int) ≤ i3 ∧ i3 < (x0.length : Int) then if (0 : Int) ≤ i3 ∧ i3 < (x1.length : Int) then if (!decide (lget x0 i3 = lget x1 i3)) = true then (some (.ret false)) else (crawlwayref11_Same.l0 x0 x1 (wr .i64 (i3 + 1))) else none else none) else (some (.nx ()))
  partial_fixpoint
def crawlwayref11_Same (x0 : List S_api_Prefix) (x1 : List S_api_Prefix) : Option (Bool) :=
  if ((x0.length : Int) != (x1.length : Int)) = true then (some false) else (crawlwayref11_Same.l0 x0 x1 0 >>= fun q2 => match q2 with | .ret r' => some r' | .nx sq2 => (some true))
theorem crawlwayref11_Same_ok (x0 : List S_api_Prefix) (p0_ : Option Addr) (c0_ : Nat) (x1 : List S_api_Prefix) (p1_ : Option Addr) (c1_ : Nat) (r : Bool) (hF : crawlwayref11_Same x0 x1 = some r) (w : World) (hr0 : Row c_api_Prefix w p0_ c0_ x0) (hr1 : Row c_api_Prefix w p1_ c1_ x1) :
    Calls Try.prog 41 #[.slice p0_ x0.length c0_, .slice p1_ x1.length c1_] w (fun e w' => e = .returned (.bool r) ∧ Below w.heap.size w w') := by
  unfold crawlwayref11_Same at hF
  refine calls_enter (l := [.slice p0_ x0.length c0_, .slice p1_ x1.length c1_]) Try.func41 rfl rfl rfl ?_
  refine at_start ?_
  refine at_weak [(0, _), (1, _)] ⟨rfl, rfl, trivial⟩ ?_
  refine at_seq ?_
  refine at_region ?_
  refine at_val rfl rfl rfl (r_assign rfl) ?_
  refine at_nil ?_
  refine at_weak [(0, _), (1, _)] ⟨rfl, rfl, trivial⟩ ?_
  refine at_then_normal ?_
  refine at_seq ?_
  refine at_seq ?_
  refine at_region ?_
  refine at_val rfl rfl rfl (r_move rfl) ?_
  refine at_val rfl rfl rfl (r_len_sl Try.underlying35 rfl) ?_
  refine at_val rfl rfl rfl (r_move rfl) ?_
  refine at_val rfl rfl rfl (r_len_sl Try.underlying35 rfl) ?_
  refine at_val rfl rfl rfl (r_ineq rfl rfl) ?_
  refine at_nil ?_
  refine at_weak [(0, _), (1, _), (10, _)] ⟨rfl, rfl, rfl, trivial⟩ ?_
  refine at_then_normal ?_
  rcases of_ite hF with ⟨h1, hF⟩ | ⟨h1, hF⟩
  · refine at_cond_true rfl h1 ?_
    refine at_seq ?_
    refine at_region ?_
    refine at_val rfl rfl rfl (r_assign rfl) ?_
    refine at_nil ?_
    refine at_weak [(4, _)] ⟨rfl, trivial⟩ ?_
    refine at_then_normal ?_
    refine at_ret ?_
    refine at_then_ret ?_
    have K := of_some hF
    subst K
    exact at_return1 rfl rfl (fun w1 hw => ⟨rfl, hw.below⟩)
  · refine at_cond_false rfl h1 ?_
    refine at_skip ?_
    refine at_then_normal ?_
    refine at_seq ?_
    refine at_seq ?_
    refine at_region ?_
    refine at_val rfl rfl rfl (r_assign rfl) ?_
    refine at_nil ?_
    refine at_weak [(0, _), (1, _), (5, _)] ⟨rfl, rfl, rfl, trivial⟩ ?_
    refine at_then_normal ?_
    refine at_block ?_
    obtain ⟨q2, hq2, hF⟩ := of_bindM hF
    refine at_weak [(0, _), (1, _), (5, _)] ⟨rfl, rfl, rfl, trivial⟩ ?_
    refine at_loop_r (B := 0) (r := r) (q := q2) (A := fun (_ : Unit) Y => At 26 [] (Wd w []) Y) ?_ ?_
    · intro K
      refine crawlwayref11_Same.l0.partial_correctness x0 x1 (motive := fun i3 x => KR (fun (_ : Unit) Y => At 26 [] (Wd w []) Y) _ 0 r x → Round (fun Y => At 26 [(0, .slice p0_ x0.length c0_), (1, .slice p1_ x1.length c1_), (5, .int .i64 i3)] (Wd w []) Y) _ _ _) ?_ _ _ hq2 K
      · clear K hF
        intro g ih i3 x hF K
        refine at_round ?_
        refine at_seq ?_
        refine at_seq ?_
        refine at_region ?_
        refine at_val rfl rfl rfl (r_move rfl) ?_
        refine at_val rfl rfl rfl (r_move rfl) ?_
        refine at_val rfl rfl rfl (r_len_sl Try.underlying35 rfl) ?_
        refine at_val rfl rfl rfl (r_ilss rfl rfl) ?_
        refine at_nil ?_
        refine at_weak [(0, _), (1, _), (5, _), (14, _)] ⟨rfl, rfl, rfl, rfl, trivial⟩ ?_
        refine at_then_normal ?_
        rcases of_ite hF with ⟨h4, hF⟩ | ⟨h4, hF⟩
        · refine at_cond_true rfl h4 ?_
          refine at_skip ?_
          refine at_then_normal ?_
          refine at_seq ?_
          refine at_block ?_
          refine at_seq ?_
          refine at_draw (by kernel_rfl) (by kernel_rfl) (fun _ h => h.drew) ?_
          refine atq_val rfl rfl rfl (r_move rfl) ?_
          refine atq_val rfl rfl rfl (r_move rfl) ?_
          obtain ⟨h5, hF⟩ := of_guard hF
          obtain ⟨b7, o8, hp6⟩ := row_ptr hr0 h5
          refine atq_val rfl rfl rfl (r_idx Try.underlying35 Try.sizeOf46 rfl rfl h5 hp6) ?_
          refine atq_val rfl rfl rfl (r_load_aggc (c := c_api_Prefix) (z := lget x0 i3) Try.isAgg46 Try.sizeOf46 rfl (row_cell (fun _ h => h.below) hr0 h5 hp6)) ?_
          refine atq_val rfl rfl rfl (r_move rfl) ?_
          refine atq_val rfl rfl rfl (r_move rfl) ?_
          obtain ⟨h9, hF⟩ := of_guard hF
          obtain ⟨b11, o12, hp10⟩ := row_ptr hr1 h9
          refine atq_val rfl rfl rfl (r_idx Try.underlying35 Try.sizeOf46 rfl rfl h9 hp10) ?_
          refine atq_val rfl rfl rfl (r_load_aggc (c := c_api_Prefix) (z := lget x1 i3) Try.isAgg46 Try.sizeOf46 rfl (row_cell (fun _ h => h.below) hr1 h9 hp10)) ?_
          refine atq_val rfl rfl rfl (r_eqagg (c := c_api_Prefix) (a := lget x0 i3) (b := lget x1 i3) (eq_api_Prefix_46) rfl Try.eqGuardType46 rfl rfl (.inr rfl) rfl) ?_
          refine atq_nil ?_
          refine at_weak [(0, _), (1, _), (5, _), (25, _)] ⟨rfl, rfl, rfl, rfl, trivial⟩ ?_
          refine at_then_normal ?_
          rcases of_ite hF with ⟨h13, hF⟩ | ⟨h13, hF⟩
          · refine at_cond_true rfl h13 ?_
            refine at_seq ?_
            refine at_region ?_
            refine at_val rfl rfl rfl (r_assign rfl) ?_
            refine at_nil ?_
            refine at_weak [(4, _)] ⟨rfl, trivial⟩ ?_
            refine at_then_normal ?_
            refine at_ret ?_
            refine at_blk_ret (at_then_ret (at_then_ret (at_blk_ret (at_then_ret ?_))))
            obtain rfl := of_some hF
            subst K
            exact at_return1 rfl rfl (fun w1 hw => ⟨rfl, hw.below⟩)
          · refine at_cond_false rfl h13 ?_
            refine at_skip ?_
            refine at_blk_normal (at_then_normal ?_)
            refine at_region ?_
            refine at_val rfl rfl rfl (r_move rfl) ?_
            refine at_val rfl rfl rfl (r_iadd rfl rfl) ?_
            refine at_val rfl rfl rfl (r_assign rfl) ?_
            refine at_nil ?_
            refine at_weak [(0, _), (1, _), (5, _)] ⟨rfl, rfl, rfl, trivial⟩ ?_
            refine at_then_normal ?_
            exact at_weak_k (ih _ _ hF K) ⟨rfl, rfl, rfl, trivial⟩
        · refine at_cond_false rfl h4 ?_
          refine at_exit ?_
          refine at_then_exit (at_then_exit ?_)
          obtain rfl := of_some hF
          exact at_weak_k K trivial
    · cases q2 with
      | ret r' => exact of_some hF
      | nx sq2 =>
        skip
        refine at_blk_same ?_
        refine at_then_normal ?_
        refine at_seq ?_
        refine at_region ?_
        refine at_val rfl rfl rfl (r_assign rfl) ?_
        refine at_nil ?_
        refine at_weak [(4, _)] ⟨rfl, trivial⟩ ?_
        refine at_then_normal ?_
        refine at_ret ?_
        have K := of_some hF
        subst K
        exact at_return1 rfl rfl (fun w1 hw => ⟨rfl, hw.below⟩)

def crawlwayref32_SamePeer (x0 : S_api_PeerChange) (x1 : S_api_PeerChange) : Option (Bool) :=
  if (decide (x0.f_Key = x1.f_Key)) = true then (if (x0.f_Remove == x1.f_Remove) = true then (if (x0.f_Update == x1.f_Update) = true then (if (x0.f_HasPsk == x1.f_HasPsk) = true then (if (decide (x0.f_Psk = x1.f_Psk)) = true then (if (x0.f_HasEnd == x1.f_HasEnd) = true then (if (decide (x0.f_End = x1.f_End)) = true then (if (x0.f_HasKeep == x1.f_HasKeep) = true then (if (x0.f_Keep == x1.f_Keep) = true then (if (x0.f_Replace == x1.f_Replace) = true then (crawlwayref11_Same x0.f_Allowed x1.f_Allowed >>= fun t13 => some t13) else (some false)) else (some false)) else (some false)) else (some false)) else (some false)) else (some false)) else (some false)) else (some false)) else (some false)) else (some false)
theorem crawlwayref32_SamePeer_ok (g0_ : G_api_PeerChange) (x0 : S_api_PeerChange) (g1_ : G_api_PeerChange) (x1 : S_api_PeerChange) (r : Bool) (hF : crawlwayref32_SamePeer x0 x1 = some r) (w : World) (hn0 : N_api_PeerChange w (g0_, x0)) (hn1 : N_api_PeerChange w (g1_, x1)) :
    Calls Try.prog 62 #[.agg (Cd.cs c_api_PeerChange (g0_, x0)).toArray, .agg (Cd.cs c_api_PeerChange (g1_, x1)).toArray] w (fun e w' => e = .returned (.bool r) ∧ Below w.heap.size w w') := by
  unfold crawlwayref32_SamePeer at hF
  refine calls_enter (l := [.agg (Cd.cs c_api_PeerChange (g0_, x0)).toArray, .agg (Cd.cs c_api_PeerChange (g1_, x1)).toArray]) Try.func62 rfl rfl rfl ?_
  refine at_start ?_
  refine at_weak [(0, _), (1, _)] ⟨rfl, rfl, trivial⟩ ?_
  refine at_seq ?_
  refine at_region ?_
  refine at_box (cs := Cd.cs c_api_PeerChange (g0_, x0)) rfl rfl rfl ?_
  intro b1
  refine at_box (cs := Cd.cs c_api_PeerChange (g1_, x1)) rfl rfl rfl ?_
  intro b2
  refine at_val rfl rfl rfl (r_assign rfl) ?_
  refine at_nil ?_
  refine at_weak [(2, _), (3, _)] ⟨rfl, rfl, trivial⟩ ?_
  refine at_then_normal ?_
  refine at_seq ?_
  refine at_region ?_
  refine at_val rfl rfl rfl (r_fieldAddr (fo := 0) Try.underlying37 rfl rfl (fun w => ⟨_, Try.sizeOf23 w⟩) rfl) ?_
  refine at_val rfl rfl rfl (r_load_aggc (c := (cVec (cInt .u8) 32 (by decide))) (z := x0.f_Key) Try.isAgg23 Try.sizeOf23 rfl (lens_cell (.s .z) (c_api_PeerChange_f_Key g0_ x0))) ?_
  refine at_val rfl rfl rfl (r_fieldAddr (fo := 0) Try.underlying37 rfl rfl (fun w => ⟨_, Try.sizeOf23 w⟩) rfl) ?_
  refine at_val rfl rfl rfl (r_load_aggc (c := (cVec (cInt .u8) 32 (by decide))) (z := x1.f_Key) Try.isAgg23 Try.sizeOf23 rfl (lens_cell .z (c_api_PeerChange_f_Key g1_ x1))) ?_
  refine at_val rfl rfl rfl (r_eqagg (c := (cVec (cInt .u8) 32 (by decide))) (a := x0.f_Key) (b := x1.f_Key) (eqs_vec Try.underlying23 infoT5 Try.sizeOf5 Try.isAgg5 (.inr rfl) (eqs_int Try.underlying5)) rfl Try.eqGuardType23 rfl rfl (.inl rfl) rfl) ?_
  refine at_val rfl rfl rfl (r_move rfl) ?_
  rcases of_ite hF with ⟨h3, hF⟩ | ⟨h3, hF⟩
  · refine at_fix (g := 10) rfl h3 ?_
    refine at_guard_yes rfl rfl rfl ?_
    refine at_val rfl rfl rfl (r_fieldAddr (fo := 32) Try.underlying37 rfl rfl (fun w => ⟨_, Try.sizeOf4 w⟩) rfl) ?_
    refine at_guard_yes rfl rfl rfl ?_
    refine at_val rfl rfl rfl (r_load_cell Try.isAgg4 rfl (lens_cell0 (c := cBool) (y := x0.f_Remove) (.s .z) (c_api_PeerChange_f_Remove g0_ x0) rfl)) ?_
    refine at_guard_yes rfl rfl rfl ?_
    refine at_val rfl rfl rfl (r_fieldAddr (fo := 32) Try.underlying37 rfl rfl (fun w => ⟨_, Try.sizeOf4 w⟩) rfl) ?_
    refine at_guard_yes rfl rfl rfl ?_
    refine at_val rfl rfl rfl (r_load_cell Try.isAgg4 rfl (lens_cell0 (c := cBool) (y := x1.f_Remove) .z (c_api_PeerChange_f_Remove g1_ x1) rfl)) ?_
    refine at_guard_yes rfl rfl rfl ?_
    refine at_val rfl rfl rfl (r_bool Try.underlying4 rfl rfl (.inl rfl) rfl) ?_
    refine at_val rfl rfl rfl (r_pick rfl rfl rfl) ?_
    refine at_val rfl rfl rfl (r_move rfl) ?_
    rcases of_ite hF with ⟨h4, hF⟩ | ⟨h4, hF⟩
    · refine at_fix (g := 17) rfl h4 ?_
      refine at_guard_yes rfl rfl rfl ?_
      refine at_val rfl rfl rfl (r_fieldAddr (fo := 33) Try.underlying37 rfl rfl (fun w => ⟨_, Try.sizeOf4 w⟩) rfl) ?_
      refine at_guard_yes rfl rfl rfl ?_
      refine at_val rfl rfl rfl (r_load_cell Try.isAgg4 rfl (lens_cell0 (c := cBool) (y := x0.f_Update) (.s .z) (c_api_PeerChange_f_Update g0_ x0) rfl)) ?_
      refine at_guard_yes rfl rfl rfl ?_
      refine at_val rfl rfl rfl (r_fieldAddr (fo := 33) Try.underlying37 rfl rfl (fun w => ⟨_, Try.sizeOf4 w⟩) rfl) ?_
      refine at_guard_yes rfl rfl rfl ?_
      refine at_val rfl rfl rfl (r_load_cell Try.isAgg4 rfl (lens_cell0 (c := cBool) (y := x1.f_Update) .z (c_api_PeerChange_f_Update g1_ x1) rfl)) ?_
      refine at_guard_yes rfl rfl rfl ?_
      refine at_val rfl rfl rfl (r_bool Try.underlying4 rfl rfl (.inl rfl) rfl) ?_
      refine at_val rfl rfl rfl (r_pick rfl rfl rfl) ?_
      refine at_val rfl rfl rfl (r_move rfl) ?_
      rcases of_ite hF with ⟨h5, hF⟩ | ⟨h5, hF⟩
      · refine at_fix (g := 24) rfl h5 ?_
        refine at_guard_yes rfl rfl rfl ?_
        refine at_val rfl rfl rfl (r_fieldAddr (fo := 34) Try.underlying37 rfl rfl (fun w => ⟨_, Try.sizeOf4 w⟩) rfl) ?_
        refine at_guard_yes rfl rfl rfl ?_
        refine at_val rfl rfl rfl (r_load_cell Try.isAgg4 rfl (lens_cell0 (c := cBool) (y := x0.f_HasPsk) (.s .z) (c_api_PeerChange_f_HasPsk g0_ x0) rfl)) ?_
        refine at_guard_yes rfl rfl rfl ?_
        refine at_val rfl rfl rfl (r_fieldAddr (fo := 34) Try.underlying37 rfl rfl (fun w => ⟨_, Try.sizeOf4 w⟩) rfl) ?_
        refine at_guard_yes rfl rfl rfl ?_
        refine at_val rfl rfl rfl (r_load_cell Try.isAgg4 rfl (lens_cell0 (c := cBool) (y := x1.f_HasPsk) .z (c_api_PeerChange_f_HasPsk g1_ x1) rfl)) ?_
        refine at_guard_yes rfl rfl rfl ?_
        refine at_val rfl rfl rfl (r_bool Try.underlying4 rfl rfl (.inl rfl) rfl) ?_
        refine at_val rfl rfl rfl (r_pick rfl rfl rfl) ?_
        refine at_val rfl rfl rfl (r_move rfl) ?_
        rcases of_ite hF with ⟨h6, hF⟩ | ⟨h6, hF⟩
        · refine at_fix (g := 31) rfl h6 ?_
          refine at_guard_yes rfl rfl rfl ?_
          refine at_val rfl rfl rfl (r_fieldAddr (fo := 35) Try.underlying37 rfl rfl (fun w => ⟨_, Try.sizeOf23 w⟩) rfl) ?_
          refine at_guard_yes rfl rfl rfl ?_
          refine at_val rfl rfl rfl (r_load_aggc (c := (cVec (cInt .u8) 32 (by decide))) (z := x0.f_Psk) Try.isAgg23 Try.sizeOf23 rfl (lens_cell (.s .z) (c_api_PeerChange_f_Psk g0_ x0))) ?_
          refine at_guard_yes rfl rfl rfl ?_
          refine at_val rfl rfl rfl (r_fieldAddr (fo := 35) Try.underlying37 rfl rfl (fun w => ⟨_, Try.sizeOf23 w⟩) rfl) ?_
          refine at_guard_yes rfl rfl rfl ?_
          refine at_val rfl rfl rfl (r_load_aggc (c := (cVec (cInt .u8) 32 (by decide))) (z := x1.f_Psk) Try.isAgg23 Try.sizeOf23 rfl (lens_cell .z (c_api_PeerChange_f_Psk g1_ x1))) ?_
          refine at_guard_yes rfl rfl rfl ?_
          refine at_val rfl rfl rfl (r_eqagg (c := (cVec (cInt .u8) 32 (by decide))) (a := x0.f_Psk) (b := x1.f_Psk) (eqs_vec Try.underlying23 infoT5 Try.sizeOf5 Try.isAgg5 (.inr rfl) (eqs_int Try.underlying5)) rfl Try.eqGuardType23 rfl rfl (.inl rfl) rfl) ?_
          refine at_val rfl rfl rfl (r_pick rfl rfl rfl) ?_
          refine at_val rfl rfl rfl (r_move rfl) ?_
          rcases of_ite hF with ⟨h7, hF⟩ | ⟨h7, hF⟩
          · refine at_fix (g := 38) rfl h7 ?_
            refine at_guard_yes rfl rfl rfl ?_
            refine at_val rfl rfl rfl (r_fieldAddr (fo := 67) Try.underlying37 rfl rfl (fun w => ⟨_, Try.sizeOf4 w⟩) rfl) ?_
            refine at_guard_yes rfl rfl rfl ?_
            refine at_val rfl rfl rfl (r_load_cell Try.isAgg4 rfl (lens_cell0 (c := cBool) (y := x0.f_HasEnd) (.s .z) (c_api_PeerChange_f_HasEnd g0_ x0) rfl)) ?_
            refine at_guard_yes rfl rfl rfl ?_
            refine at_val rfl rfl rfl (r_fieldAddr (fo := 67) Try.underlying37 rfl rfl (fun w => ⟨_, Try.sizeOf4 w⟩) rfl) ?_
            refine at_guard_yes rfl rfl rfl ?_
            refine at_val rfl rfl rfl (r_load_cell Try.isAgg4 rfl (lens_cell0 (c := cBool) (y := x1.f_HasEnd) .z (c_api_PeerChange_f_HasEnd g1_ x1) rfl)) ?_
            refine at_guard_yes rfl rfl rfl ?_
            refine at_val rfl rfl rfl (r_bool Try.underlying4 rfl rfl (.inl rfl) rfl) ?_
            refine at_val rfl rfl rfl (r_pick rfl rfl rfl) ?_
            refine at_val rfl rfl rfl (r_move rfl) ?_
            rcases of_ite hF with ⟨h8, hF⟩ | ⟨h8, hF⟩
            · refine at_fix (g := 45) rfl h8 ?_
              refine at_guard_yes rfl rfl rfl ?_
              refine at_val rfl rfl rfl (r_fieldAddr (fo := 68) Try.underlying37 rfl rfl (fun w => ⟨_, Try.sizeOf34 w⟩) rfl) ?_
              refine at_guard_yes rfl rfl rfl ?_
              refine at_val rfl rfl rfl (r_load_aggc (c := c_api_Endpoint) (z := x0.f_End) Try.isAgg34 Try.sizeOf34 rfl (lens_cell (.s .z) (c_api_PeerChange_f_End g0_ x0))) ?_
              refine at_guard_yes rfl rfl rfl ?_
              refine at_val rfl rfl rfl (r_fieldAddr (fo := 68) Try.underlying37 rfl rfl (fun w => ⟨_, Try.sizeOf34 w⟩) rfl) ?_
              refine at_guard_yes rfl rfl rfl ?_
              refine at_val rfl rfl rfl (r_load_aggc (c := c_api_Endpoint) (z := x1.f_End) Try.isAgg34 Try.sizeOf34 rfl (lens_cell .z (c_api_PeerChange_f_End g1_ x1))) ?_
              refine at_guard_yes rfl rfl rfl ?_
              refine at_val rfl rfl rfl (r_eqagg (c := c_api_Endpoint) (a := x0.f_End) (b := x1.f_End) (eq_api_Endpoint_34) rfl Try.eqGuardType34 rfl rfl (.inl rfl) rfl) ?_
              refine at_val rfl rfl rfl (r_pick rfl rfl rfl) ?_
              refine at_val rfl rfl rfl (r_move rfl) ?_
              rcases of_ite hF with ⟨h9, hF⟩ | ⟨h9, hF⟩
              · refine at_fix (g := 52) rfl h9 ?_
                refine at_guard_yes rfl rfl rfl ?_
                refine at_val rfl rfl rfl (r_fieldAddr (fo := 86) Try.underlying37 rfl rfl (fun w => ⟨_, Try.sizeOf4 w⟩) rfl) ?_
                refine at_guard_yes rfl rfl rfl ?_
                refine at_val rfl rfl rfl (r_load_cell Try.isAgg4 rfl (lens_cell0 (c := cBool) (y := x0.f_HasKeep) (.s .z) (c_api_PeerChange_f_HasKeep g0_ x0) rfl)) ?_
                refine at_guard_yes rfl rfl rfl ?_
                refine at_val rfl rfl rfl (r_fieldAddr (fo := 86) Try.underlying37 rfl rfl (fun w => ⟨_, Try.sizeOf4 w⟩) rfl) ?_
                refine at_guard_yes rfl rfl rfl ?_
                refine at_val rfl rfl rfl (r_load_cell Try.isAgg4 rfl (lens_cell0 (c := cBool) (y := x1.f_HasKeep) .z (c_api_PeerChange_f_HasKeep g1_ x1) rfl)) ?_
                refine at_guard_yes rfl rfl rfl ?_
                refine at_val rfl rfl rfl (r_bool Try.underlying4 rfl rfl (.inl rfl) rfl) ?_
                refine at_val rfl rfl rfl (r_pick rfl rfl rfl) ?_
                refine at_val rfl rfl rfl (r_move rfl) ?_
                rcases of_ite hF with ⟨h10, hF⟩ | ⟨h10, hF⟩
                · refine at_fix (g := 59) rfl h10 ?_
                  refine at_guard_yes rfl rfl rfl ?_
                  refine at_val rfl rfl rfl (r_fieldAddr (fo := 87) Try.underlying37 rfl rfl (fun w => ⟨_, Try.sizeOf3 w⟩) rfl) ?_
                  refine at_guard_yes rfl rfl rfl ?_
                  refine at_val rfl rfl rfl (r_load_cell Try.isAgg3 rfl (lens_cell0 (c := (cInt .i64)) (y := x0.f_Keep) (.s .z) (c_api_PeerChange_f_Keep g0_ x0) rfl)) ?_
                  refine at_guard_yes rfl rfl rfl ?_
                  refine at_val rfl rfl rfl (r_fieldAddr (fo := 87) Try.underlying37 rfl rfl (fun w => ⟨_, Try.sizeOf3 w⟩) rfl) ?_
                  refine at_guard_yes rfl rfl rfl ?_
                  refine at_val rfl rfl rfl (r_load_cell Try.isAgg3 rfl (lens_cell0 (c := (cInt .i64)) (y := x1.f_Keep) .z (c_api_PeerChange_f_Keep g1_ x1) rfl)) ?_
                  refine at_guard_yes rfl rfl rfl ?_
                  refine at_val rfl rfl rfl (r_ieql rfl rfl) ?_
                  refine at_val rfl rfl rfl (r_pick rfl rfl rfl) ?_
                  refine at_val rfl rfl rfl (r_move rfl) ?_
                  rcases of_ite hF with ⟨h11, hF⟩ | ⟨h11, hF⟩
                  · refine at_fix (g := 66) rfl h11 ?_
                    refine at_guard_yes rfl rfl rfl ?_
                    refine at_val rfl rfl rfl (r_fieldAddr (fo := 88) Try.underlying37 rfl rfl (fun w => ⟨_, Try.sizeOf4 w⟩) rfl) ?_
                    refine at_guard_yes rfl rfl rfl ?_
                    refine at_val rfl rfl rfl (r_load_cell Try.isAgg4 rfl (lens_cell0 (c := cBool) (y := x0.f_Replace) (.s .z) (c_api_PeerChange_f_Replace g0_ x0) rfl)) ?_
                    refine at_guard_yes rfl rfl rfl ?_
                    refine at_val rfl rfl rfl (r_fieldAddr (fo := 88) Try.underlying37 rfl rfl (fun w => ⟨_, Try.sizeOf4 w⟩) rfl) ?_
                    refine at_guard_yes rfl rfl rfl ?_
                    refine at_val rfl rfl rfl (r_load_cell Try.isAgg4 rfl (lens_cell0 (c := cBool) (y := x1.f_Replace) .z (c_api_PeerChange_f_Replace g1_ x1) rfl)) ?_
                    refine at_guard_yes rfl rfl rfl ?_
                    refine at_val rfl rfl rfl (r_bool Try.underlying4 rfl rfl (.inl rfl) rfl) ?_
                    refine at_val rfl rfl rfl (r_pick rfl rfl rfl) ?_
                    refine at_val rfl rfl rfl (r_move rfl) ?_
                    rcases of_ite hF with ⟨h12, hF⟩ | ⟨h12, hF⟩
                    · refine at_fix (g := 73) rfl h12 ?_
                      refine at_guard_yes rfl rfl rfl ?_
                      refine at_val rfl rfl rfl (r_fieldAddr (fo := 89) Try.underlying37 rfl rfl (fun w => ⟨_, Try.sizeOf35 w⟩) rfl) ?_
                      refine at_guard_yes rfl rfl rfl ?_
                      refine at_val rfl rfl rfl (r_load_cell Try.isAgg35 rfl (lens_cell0 (c := cHd) (y := ⟨g0_.1, List.length x0.f_Allowed, g0_.2⟩) (.s .z) (c_api_PeerChange_f_Allowed g0_ x0) rfl)) ?_
                      refine at_guard_yes rfl rfl rfl ?_
                      refine at_val rfl rfl rfl (r_fieldAddr (fo := 89) Try.underlying37 rfl rfl (fun w => ⟨_, Try.sizeOf35 w⟩) rfl) ?_
                      refine at_guard_yes rfl rfl rfl ?_
                      refine at_val rfl rfl rfl (r_load_cell Try.isAgg35 rfl (lens_cell0 (c := cHd) (y := ⟨g1_.1, List.length x1.f_Allowed, g1_.2⟩) .z (c_api_PeerChange_f_Allowed g1_ x1) rfl)) ?_
                      refine at_guard_yes rfl rfl rfl ?_
                      obtain ⟨t13, ht13, hF⟩ := of_bindM hF
                      refine at_callB Try.func41 rfl (by kernel_rfl) rfl rfl (fun w hw => crawlwayref11_Same_ok _ _ _ _ _ _ _ ht13 w (hn0.below hw.below) (hn1.below hw.below)) ?_
                      refine at_val rfl rfl rfl (r_pick rfl rfl rfl) ?_
                      refine at_val rfl rfl rfl (r_assign rfl) ?_
                      refine at_nil ?_
                      refine at_drop (H := _) .z ?_
                      refine at_drop (H := _) .z ?_
                      refine at_weak [(4, _)] ⟨rfl, trivial⟩ ?_
                      refine at_then_normal ?_
                      refine at_ret ?_
                      have K := of_some hF
                      subst K
                      exact at_return1 rfl rfl (fun w1 hw => ⟨rfl, hw.below⟩)
                    · refine at_fix (g := 73) rfl h12 ?_
                      refine at_guard_no rfl rfl rfl rfl rfl ?_
                      refine at_guard_no rfl rfl rfl rfl rfl ?_
                      refine at_guard_no rfl rfl rfl rfl rfl ?_
                      refine at_guard_no rfl rfl rfl rfl rfl ?_
                      refine at_guard_no rfl rfl rfl rfl rfl ?_
                      refine at_val rfl rfl rfl (r_pick rfl rfl rfl) ?_
                      refine at_val rfl rfl rfl (r_assign rfl) ?_
                      refine at_nil ?_
                      refine at_drop (H := _) .z ?_
                      refine at_drop (H := _) .z ?_
                      refine at_weak [(4, _)] ⟨rfl, trivial⟩ ?_
                      refine at_then_normal ?_
                      refine at_ret ?_
                      have K := of_some hF
                      subst K
                      exact at_return1 rfl rfl (fun w1 hw => ⟨rfl, hw.below⟩)
                  · refine at_fix (g := 66) rfl h11 ?_
                    refine at_guard_no rfl rfl rfl rfl rfl ?_
                    refine at_guard_no rfl rfl rfl rfl rfl ?_
                    refine at_guard_no rfl rfl rfl rfl rfl ?_
                    refine at_guard_no rfl rfl rfl rfl rfl ?_
                    refine at_guard_no rfl rfl rfl rfl rfl ?_
                    refine at_val rfl rfl rfl (r_pick rfl rfl rfl) ?_
                    refine at_val rfl rfl rfl (r_move rfl) ?_
                    refine at_guard_no rfl rfl rfl rfl rfl ?_
                    refine at_guard_no rfl rfl rfl rfl rfl ?_
                    refine at_guard_no rfl rfl rfl rfl rfl ?_
                    refine at_guard_no rfl rfl rfl rfl rfl ?_
                    refine at_guard_no rfl rfl rfl rfl rfl ?_
                    refine at_val rfl rfl rfl (r_pick rfl rfl rfl) ?_
                    refine at_val rfl rfl rfl (r_assign rfl) ?_
                    refine at_nil ?_
                    refine at_drop (H := _) .z ?_
                    refine at_drop (H := _) .z ?_
                    refine at_weak [(4, _)] ⟨rfl, trivial⟩ ?_
                    refine at_then_normal ?_
                    refine at_ret ?_
                    have K := of_some hF
                    subst K
                    exact at_return1 rfl rfl (fun w1 hw => ⟨rfl, hw.below⟩)
                · refine at_fix (g := 59) rfl h10 ?_
                  refine at_guard_no rfl rfl rfl rfl rfl ?_
                  refine at_guard_no rfl rfl rfl rfl rfl ?_
                  refine at_guard_no rfl rfl rfl rfl rfl ?_
                  refine at_guard_no rfl rfl rfl rfl rfl ?_
                  refine at_guard_no rfl rfl rfl rfl rfl ?_
                  refine at_val rfl rfl rfl (r_pick rfl rfl rfl) ?_
                  refine at_val rfl rfl rfl (r_move rfl) ?_
                  refine at_guard_no rfl rfl rfl rfl rfl ?_
                  refine at_guard_no rfl rfl rfl rfl rfl ?_
                  refine at_guard_no rfl rfl rfl rfl rfl ?_
                  refine at_guard_no rfl rfl rfl rfl rfl ?_
                  refine at_guard_no rfl rfl rfl rfl rfl ?_
                  refine at_val rfl rfl rfl (r_pick rfl rfl rfl) ?_
                  refine at_val rfl rfl rfl (r_move rfl) ?_
                  refine at_guard_no rfl rfl rfl rfl rfl ?_
                  refine at_guard_no rfl rfl rfl rfl rfl ?_
                  refine at_guard_no rfl rfl rfl rfl rfl ?_
                  refine at_guard_no rfl rfl rfl rfl rfl ?_
                  refine at_guard_no rfl rfl rfl rfl rfl ?_
                  refine at_val rfl rfl rfl (r_pick rfl rfl rfl) ?_
                  refine at_val rfl rfl rfl (r_assign rfl) ?_
                  refine at_nil ?_
                  refine at_drop (H := _) .z ?_
                  refine at_drop (H := _) .z ?_
                  refine at_weak [(4, _)] ⟨rfl, trivial⟩ ?_
                  refine at_then_normal ?_
                  refine at_ret ?_
                  have K := of_some hF
                  subst K
                  exact at_return1 rfl rfl (fun w1 hw => ⟨rfl, hw.below⟩)
              · refine at_fix (g := 52) rfl h9 ?_
                refine at_guard_no rfl rfl rfl rfl rfl ?_
                refine at_guard_no rfl rfl rfl rfl rfl ?_
                refine at_guard_no rfl rfl rfl rfl rfl ?_
                refine at_guard_no rfl rfl rfl rfl rfl ?_
                refine at_guard_no rfl rfl rfl rfl rfl ?_
                refine at_val rfl rfl rfl (r_pick rfl rfl rfl) ?_
                refine at_val rfl rfl rfl (r_move rfl) ?_
                refine at_guard_no rfl rfl rfl rfl rfl ?_
                refine at_guard_no rfl rfl rfl rfl rfl ?_
                refine at_guard_no rfl rfl rfl rfl rfl ?_
                refine at_guard_no rfl rfl rfl rfl rfl ?_
                refine at_guard_no rfl rfl rfl rfl rfl ?_
                refine at_val rfl rfl rfl (r_pick rfl rfl rfl) ?_
                refine at_val rfl rfl rfl (r_move rfl) ?_
                refine at_guard_no rfl rfl rfl rfl rfl ?_
                refine at_guard_no rfl rfl rfl rfl rfl ?_
                refine at_guard_no rfl rfl rfl rfl rfl ?_
                refine at_guard_no rfl rfl rfl rfl rfl ?_
                refine at_guard_no rfl rfl rfl rfl rfl ?_
                refine at_val rfl rfl rfl (r_pick rfl rfl rfl) ?_
                refine at_val rfl rfl rfl (r_move rfl) ?_
                refine at_guard_no rfl rfl rfl rfl rfl ?_
                refine at_guard_no rfl rfl rfl rfl rfl ?_
                refine at_guard_no rfl rfl rfl rfl rfl ?_
                refine at_guard_no rfl rfl rfl rfl rfl ?_
                refine at_guard_no rfl rfl rfl rfl rfl ?_
                refine at_val rfl rfl rfl (r_pick rfl rfl rfl) ?_
                refine at_val rfl rfl rfl (r_assign rfl) ?_
                refine at_nil ?_
                refine at_drop (H := _) .z ?_
                refine at_drop (H := _) .z ?_
                refine at_weak [(4, _)] ⟨rfl, trivial⟩ ?_
                refine at_then_normal ?_
                refine at_ret ?_
                have K := of_some hF
                subst K
                exact at_return1 rfl rfl (fun w1 hw => ⟨rfl, hw.below⟩)
            · refine at_fix (g := 45) rfl h8 ?_
              refine at_guard_no rfl rfl rfl rfl rfl ?_
              refine at_guard_no rfl rfl rfl rfl rfl ?_
              refine at_guard_no rfl rfl rfl rfl rfl ?_
              refine at_guard_no rfl rfl rfl rfl rfl ?_
              refine at_guard_no rfl rfl rfl rfl rfl ?_
              refine at_val rfl rfl rfl (r_pick rfl rfl rfl) ?_
              refine at_val rfl rfl rfl (r_move rfl) ?_
              refine at_guard_no rfl rfl rfl rfl rfl ?_
              refine at_guard_no rfl rfl rfl rfl rfl ?_
              refine at_guard_no rfl rfl rfl rfl rfl ?_
              refine at_guard_no rfl rfl rfl rfl rfl ?_
              refine at_guard_no rfl rfl rfl rfl rfl ?_
              refine at_val rfl rfl rfl (r_pick rfl rfl rfl) ?_
              refine at_val rfl rfl rfl (r_move rfl) ?_
              refine at_guard_no rfl rfl rfl rfl rfl ?_
              refine at_guard_no rfl rfl rfl rfl rfl ?_
              refine at_guard_no rfl rfl rfl rfl rfl ?_
              refine at_guard_no rfl rfl rfl rfl rfl ?_
              refine at_guard_no rfl rfl rfl rfl rfl ?_
              refine at_val rfl rfl rfl (r_pick rfl rfl rfl) ?_
              refine at_val rfl rfl rfl (r_move rfl) ?_
              refine at_guard_no rfl rfl rfl rfl rfl ?_
              refine at_guard_no rfl rfl rfl rfl rfl ?_
              refine at_guard_no rfl rfl rfl rfl rfl ?_
              refine at_guard_no rfl rfl rfl rfl rfl ?_
              refine at_guard_no rfl rfl rfl rfl rfl ?_
              refine at_val rfl rfl rfl (r_pick rfl rfl rfl) ?_
              refine at_val rfl rfl rfl (r_move rfl) ?_
              refine at_guard_no rfl rfl rfl rfl rfl ?_
              refine at_guard_no rfl rfl rfl rfl rfl ?_
              refine at_guard_no rfl rfl rfl rfl rfl ?_
              refine at_guard_no rfl rfl rfl rfl rfl ?_
              refine at_guard_no rfl rfl rfl rfl rfl ?_
              refine at_val rfl rfl rfl (r_pick rfl rfl rfl) ?_
              refine at_val rfl rfl rfl (r_assign rfl) ?_
              refine at_nil ?_
              refine at_drop (H := _) .z ?_
              refine at_drop (H := _) .z ?_
              refine at_weak [(4, _)] ⟨rfl, trivial⟩ ?_
              refine at_then_normal ?_
              refine at_ret ?_
              have K := of_some hF
              subst K
              exact at_return1 rfl rfl (fun w1 hw => ⟨rfl, hw.below⟩)
          · refine at_fix (g := 38) rfl h7 ?_
            refine at_guard_no rfl rfl rfl rfl rfl ?_
            refine at_guard_no rfl rfl rfl rfl rfl ?_
            refine at_guard_no rfl rfl rfl rfl rfl ?_
            refine at_guard_no rfl rfl rfl rfl rfl ?_
            refine at_guard_no rfl rfl rfl rfl rfl ?_
            refine at_val rfl rfl rfl (r_pick rfl rfl rfl) ?_
            refine at_val rfl rfl rfl (r_move rfl) ?_
            refine at_guard_no rfl rfl rfl rfl rfl ?_
            refine at_guard_no rfl rfl rfl rfl rfl ?_
            refine at_guard_no rfl rfl rfl rfl rfl ?_
            refine at_guard_no rfl rfl rfl rfl rfl ?_
            refine at_guard_no rfl rfl rfl rfl rfl ?_
            refine at_val rfl rfl rfl (r_pick rfl rfl rfl) ?_
            refine at_val rfl rfl rfl (r_move rfl) ?_
            refine at_guard_no rfl rfl rfl rfl rfl ?_
            refine at_guard_no rfl rfl rfl rfl rfl ?_
            refine at_guard_no rfl rfl rfl rfl rfl ?_
            refine at_guard_no rfl rfl rfl rfl rfl ?_
            refine at_guard_no rfl rfl rfl rfl rfl ?_
            refine at_val rfl rfl rfl (r_pick rfl rfl rfl) ?_
            refine at_val rfl rfl rfl (r_move rfl) ?_
            refine at_guard_no rfl rfl rfl rfl rfl ?_
            refine at_guard_no rfl rfl rfl rfl rfl ?_
            refine at_guard_no rfl rfl rfl rfl rfl ?_
            refine at_guard_no rfl rfl rfl rfl rfl ?_
            refine at_guard_no rfl rfl rfl rfl rfl ?_
            refine at_val rfl rfl rfl (r_pick rfl rfl rfl) ?_
            refine at_val rfl rfl rfl (r_move rfl) ?_
            refine at_guard_no rfl rfl rfl rfl rfl ?_
            refine at_guard_no rfl rfl rfl rfl rfl ?_
            refine at_guard_no rfl rfl rfl rfl rfl ?_
            refine at_guard_no rfl rfl rfl rfl rfl ?_
            refine at_guard_no rfl rfl rfl rfl rfl ?_
            refine at_val rfl rfl rfl (r_pick rfl rfl rfl) ?_
            refine at_val rfl rfl rfl (r_move rfl) ?_
            refine at_guard_no rfl rfl rfl rfl rfl ?_
            refine at_guard_no rfl rfl rfl rfl rfl ?_
            refine at_guard_no rfl rfl rfl rfl rfl ?_
            refine at_guard_no rfl rfl rfl rfl rfl ?_
            refine at_guard_no rfl rfl rfl rfl rfl ?_
            refine at_val rfl rfl rfl (r_pick rfl rfl rfl) ?_
            refine at_val rfl rfl rfl (r_assign rfl) ?_
            refine at_nil ?_
            refine at_drop (H := _) .z ?_
            refine at_drop (H := _) .z ?_
            refine at_weak [(4, _)] ⟨rfl, trivial⟩ ?_
            refine at_then_normal ?_
            refine at_ret ?_
            have K := of_some hF
            subst K
            exact at_return1 rfl rfl (fun w1 hw => ⟨rfl, hw.below⟩)
        · refine at_fix (g := 31) rfl h6 ?_
          refine at_guard_no rfl rfl rfl rfl rfl ?_
          refine at_guard_no rfl rfl rfl rfl rfl ?_
          refine at_guard_no rfl rfl rfl rfl rfl ?_
          refine at_guard_no rfl rfl rfl rfl rfl ?_
          refine at_guard_no rfl rfl rfl rfl rfl ?_
          refine at_val rfl rfl rfl (r_pick rfl rfl rfl) ?_
          refine at_val rfl rfl rfl (r_move rfl) ?_
          refine at_guard_no rfl rfl rfl rfl rfl ?_
          refine at_guard_no rfl rfl rfl rfl rfl ?_
          refine at_guard_no rfl rfl rfl rfl rfl ?_
          refine at_guard_no rfl rfl rfl rfl rfl ?_
          refine at_guard_no rfl rfl rfl rfl rfl ?_
          refine at_val rfl rfl rfl (r_pick rfl rfl rfl) ?_
          refine at_val rfl rfl rfl (r_move rfl) ?_
          refine at_guard_no rfl rfl rfl rfl rfl ?_
          refine at_guard_no rfl rfl rfl rfl rfl ?_
          refine at_guard_no rfl rfl rfl rfl rfl ?_
          refine at_guard_no rfl rfl rfl rfl rfl ?_
          refine at_guard_no rfl rfl rfl rfl rfl ?_
          refine at_val rfl rfl rfl (r_pick rfl rfl rfl) ?_
          refine at_val rfl rfl rfl (r_move rfl) ?_
          refine at_guard_no rfl rfl rfl rfl rfl ?_
          refine at_guard_no rfl rfl rfl rfl rfl ?_
          refine at_guard_no rfl rfl rfl rfl rfl ?_
          refine at_guard_no rfl rfl rfl rfl rfl ?_
          refine at_guard_no rfl rfl rfl rfl rfl ?_
          refine at_val rfl rfl rfl (r_pick rfl rfl rfl) ?_
          refine at_val rfl rfl rfl (r_move rfl) ?_
          refine at_guard_no rfl rfl rfl rfl rfl ?_
          refine at_guard_no rfl rfl rfl rfl rfl ?_
          refine at_guard_no rfl rfl rfl rfl rfl ?_
          refine at_guard_no rfl rfl rfl rfl rfl ?_
          refine at_guard_no rfl rfl rfl rfl rfl ?_
          refine at_val rfl rfl rfl (r_pick rfl rfl rfl) ?_
          refine at_val rfl rfl rfl (r_move rfl) ?_
          refine at_guard_no rfl rfl rfl rfl rfl ?_
          refine at_guard_no rfl rfl rfl rfl rfl ?_
          refine at_guard_no rfl rfl rfl rfl rfl ?_
          refine at_guard_no rfl rfl rfl rfl rfl ?_
          refine at_guard_no rfl rfl rfl rfl rfl ?_
          refine at_val rfl rfl rfl (r_pick rfl rfl rfl) ?_
          refine at_val rfl rfl rfl (r_move rfl) ?_
          refine at_guard_no rfl rfl rfl rfl rfl ?_
          refine at_guard_no rfl rfl rfl rfl rfl ?_
          refine at_guard_no rfl rfl rfl rfl rfl ?_
          refine at_guard_no rfl rfl rfl rfl rfl ?_
          refine at_guard_no rfl rfl rfl rfl rfl ?_
          refine at_val rfl rfl rfl (r_pick rfl rfl rfl) ?_
          refine at_val rfl rfl rfl (r_assign rfl) ?_
          refine at_nil ?_
          refine at_drop (H := _) .z ?_
          refine at_drop (H := _) .z ?_
          refine at_weak [(4, _)] ⟨rfl, trivial⟩ ?_
          refine at_then_normal ?_
          refine at_ret ?_
          have K := of_some hF
          subst K
          exact at_return1 rfl rfl (fun w1 hw => ⟨rfl, hw.below⟩)
      · refine at_fix (g := 24) rfl h5 ?_
        refine at_guard_no rfl rfl rfl rfl rfl ?_
        refine at_guard_no rfl rfl rfl rfl rfl ?_
        refine at_guard_no rfl rfl rfl rfl rfl ?_
        refine at_guard_no rfl rfl rfl rfl rfl ?_
        refine at_guard_no rfl rfl rfl rfl rfl ?_
        refine at_val rfl rfl rfl (r_pick rfl rfl rfl) ?_
        refine at_val rfl rfl rfl (r_move rfl) ?_
        refine at_guard_no rfl rfl rfl rfl rfl ?_
        refine at_guard_no rfl rfl rfl rfl rfl ?_
        refine at_guard_no rfl rfl rfl rfl rfl ?_
        refine at_guard_no rfl rfl rfl rfl rfl ?_
        refine at_guard_no rfl rfl rfl rfl rfl ?_
        refine at_val rfl rfl rfl (r_pick rfl rfl rfl) ?_
        refine at_val rfl rfl rfl (r_move rfl) ?_
        refine at_guard_no rfl rfl rfl rfl rfl ?_
        refine at_guard_no rfl rfl rfl rfl rfl ?_
        refine at_guard_no rfl rfl rfl rfl rfl ?_
        refine at_guard_no rfl rfl rfl rfl rfl ?_
        refine at_guard_no rfl rfl rfl rfl rfl ?_
        refine at_val rfl rfl rfl (r_pick rfl rfl rfl) ?_
        refine at_val rfl rfl rfl (r_move rfl) ?_
        refine at_guard_no rfl rfl rfl rfl rfl ?_
        refine at_guard_no rfl rfl rfl rfl rfl ?_
        refine at_guard_no rfl rfl rfl rfl rfl ?_
        refine at_guard_no rfl rfl rfl rfl rfl ?_
        refine at_guard_no rfl rfl rfl rfl rfl ?_
        refine at_val rfl rfl rfl (r_pick rfl rfl rfl) ?_
        refine at_val rfl rfl rfl (r_move rfl) ?_
        refine at_guard_no rfl rfl rfl rfl rfl ?_
        refine at_guard_no rfl rfl rfl rfl rfl ?_
        refine at_guard_no rfl rfl rfl rfl rfl ?_
        refine at_guard_no rfl rfl rfl rfl rfl ?_
        refine at_guard_no rfl rfl rfl rfl rfl ?_
        refine at_val rfl rfl rfl (r_pick rfl rfl rfl) ?_
        refine at_val rfl rfl rfl (r_move rfl) ?_
        refine at_guard_no rfl rfl rfl rfl rfl ?_
        refine at_guard_no rfl rfl rfl rfl rfl ?_
        refine at_guard_no rfl rfl rfl rfl rfl ?_
        refine at_guard_no rfl rfl rfl rfl rfl ?_
        refine at_guard_no rfl rfl rfl rfl rfl ?_
        refine at_val rfl rfl rfl (r_pick rfl rfl rfl) ?_
        refine at_val rfl rfl rfl (r_move rfl) ?_
        refine at_guard_no rfl rfl rfl rfl rfl ?_
        refine at_guard_no rfl rfl rfl rfl rfl ?_
        refine at_guard_no rfl rfl rfl rfl rfl ?_
        refine at_guard_no rfl rfl rfl rfl rfl ?_
        refine at_guard_no rfl rfl rfl rfl rfl ?_
        refine at_val rfl rfl rfl (r_pick rfl rfl rfl) ?_
        refine at_val rfl rfl rfl (r_move rfl) ?_
        refine at_guard_no rfl rfl rfl rfl rfl ?_
        refine at_guard_no rfl rfl rfl rfl rfl ?_
        refine at_guard_no rfl rfl rfl rfl rfl ?_
        refine at_guard_no rfl rfl rfl rfl rfl ?_
        refine at_guard_no rfl rfl rfl rfl rfl ?_
        refine at_val rfl rfl rfl (r_pick rfl rfl rfl) ?_
        refine at_val rfl rfl rfl (r_assign rfl) ?_
        refine at_nil ?_
        refine at_drop (H := _) .z ?_
        refine at_drop (H := _) .z ?_
        refine at_weak [(4, _)] ⟨rfl, trivial⟩ ?_
        refine at_then_normal ?_
        refine at_ret ?_
        have K := of_some hF
        subst K
        exact at_return1 rfl rfl (fun w1 hw => ⟨rfl, hw.below⟩)
    · refine at_fix (g := 17) rfl h4 ?_
      refine at_guard_no rfl rfl rfl rfl rfl ?_
      refine at_guard_no rfl rfl rfl rfl rfl ?_
      refine at_guard_no rfl rfl rfl rfl rfl ?_
      refine at_guard_no rfl rfl rfl rfl rfl ?_
      refine at_guard_no rfl rfl rfl rfl rfl ?_
      refine at_val rfl rfl rfl (r_pick rfl rfl rfl) ?_
      refine at_val rfl rfl rfl (r_move rfl) ?_
      refine at_guard_no rfl rfl rfl rfl rfl ?_
      refine at_guard_no rfl rfl rfl rfl rfl ?_
      refine at_guard_no rfl rfl rfl rfl rfl ?_
      refine at_guard_no rfl rfl rfl rfl rfl ?_
      refine at_guard_no rfl rfl rfl rfl rfl ?_
      refine at_val rfl rfl rfl (r_pick rfl rfl rfl) ?_
      refine at_val rfl rfl rfl (r_move rfl) ?_
      refine at_guard_no rfl rfl rfl rfl rfl ?_
      refine at_guard_no rfl rfl rfl rfl rfl ?_
      refine at_guard_no rfl rfl rfl rfl rfl ?_
      refine at_guard_no rfl rfl rfl rfl rfl ?_
      refine at_guard_no rfl rfl rfl rfl rfl ?_
      refine at_val rfl rfl rfl (r_pick rfl rfl rfl) ?_
      refine at_val rfl rfl rfl (r_move rfl) ?_
      refine at_guard_no rfl rfl rfl rfl rfl ?_
      refine at_guard_no rfl rfl rfl rfl rfl ?_
      refine at_guard_no rfl rfl rfl rfl rfl ?_
      refine at_guard_no rfl rfl rfl rfl rfl ?_
      refine at_guard_no rfl rfl rfl rfl rfl ?_
      refine at_val rfl rfl rfl (r_pick rfl rfl rfl) ?_
      refine at_val rfl rfl rfl (r_move rfl) ?_
      refine at_guard_no rfl rfl rfl rfl rfl ?_
      refine at_guard_no rfl rfl rfl rfl rfl ?_
      refine at_guard_no rfl rfl rfl rfl rfl ?_
      refine at_guard_no rfl rfl rfl rfl rfl ?_
      refine at_guard_no rfl rfl rfl rfl rfl ?_
      refine at_val rfl rfl rfl (r_pick rfl rfl rfl) ?_
      refine at_val rfl rfl rfl (r_move rfl) ?_
      refine at_guard_no rfl rfl rfl rfl rfl ?_
      refine at_guard_no rfl rfl rfl rfl rfl ?_
      refine at_guard_no rfl rfl rfl rfl rfl ?_
      refine at_guard_no rfl rfl rfl rfl rfl ?_
      refine at_guard_no rfl rfl rfl rfl rfl ?_
      refine at_val rfl rfl rfl (r_pick rfl rfl rfl) ?_
      refine at_val rfl rfl rfl (r_move rfl) ?_
      refine at_guard_no rfl rfl rfl rfl rfl ?_
      refine at_guard_no rfl rfl rfl rfl rfl ?_
      refine at_guard_no rfl rfl rfl rfl rfl ?_
      refine at_guard_no rfl rfl rfl rfl rfl ?_
      refine at_guard_no rfl rfl rfl rfl rfl ?_
      refine at_val rfl rfl rfl (r_pick rfl rfl rfl) ?_
      refine at_val rfl rfl rfl (r_move rfl) ?_
      refine at_guard_no rfl rfl rfl rfl rfl ?_
      refine at_guard_no rfl rfl rfl rfl rfl ?_
      refine at_guard_no rfl rfl rfl rfl rfl ?_
      refine at_guard_no rfl rfl rfl rfl rfl ?_
      refine at_guard_no rfl rfl rfl rfl rfl ?_
      refine at_val rfl rfl rfl (r_pick rfl rfl rfl) ?_
      refine at_val rfl rfl rfl (r_move rfl) ?_
      refine at_guard_no rfl rfl rfl rfl rfl ?_
      refine at_guard_no rfl rfl rfl rfl rfl ?_
      refine at_guard_no rfl rfl rfl rfl rfl ?_
      refine at_guard_no rfl rfl rfl rfl rfl ?_
      refine at_guard_no rfl rfl rfl rfl rfl ?_
      refine at_val rfl rfl rfl (r_pick rfl rfl rfl) ?_
      refine at_val rfl rfl rfl (r_assign rfl) ?_
      refine at_nil ?_
      refine at_drop (H := _) .z ?_
      refine at_drop (H := _) .z ?_
      refine at_weak [(4, _)] ⟨rfl, trivial⟩ ?_
      refine at_then_normal ?_
      refine at_ret ?_
      have K := of_some hF
      subst K
      exact at_return1 rfl rfl (fun w1 hw => ⟨rfl, hw.below⟩)
  · refine at_fix (g := 10) rfl h3 ?_
    refine at_guard_no rfl rfl rfl rfl rfl ?_
    refine at_guard_no rfl rfl rfl rfl rfl ?_
    refine at_guard_no rfl rfl rfl rfl rfl ?_
    refine at_guard_no rfl rfl rfl rfl rfl ?_
    refine at_guard_no rfl rfl rfl rfl rfl ?_
    refine at_val rfl rfl rfl (r_pick rfl rfl rfl) ?_
    refine at_val rfl rfl rfl (r_move rfl) ?_
    refine at_guard_no rfl rfl rfl rfl rfl ?_
    refine at_guard_no rfl rfl rfl rfl rfl ?_
    refine at_guard_no rfl rfl rfl rfl rfl ?_
    refine at_guard_no rfl rfl rfl rfl rfl ?_
    refine at_guard_no rfl rfl rfl rfl rfl ?_
    refine at_val rfl rfl rfl (r_pick rfl rfl rfl) ?_
    refine at_val rfl rfl rfl (r_move rfl) ?_
    refine at_guard_no rfl rfl rfl rfl rfl ?_
    refine at_guard_no rfl rfl rfl rfl rfl ?_
    refine at_guard_no rfl rfl rfl rfl rfl ?_
    refine at_guard_no rfl rfl rfl rfl rfl ?_
    refine at_guard_no rfl rfl rfl rfl rfl ?_
    refine at_val rfl rfl rfl (r_pick rfl rfl rfl) ?_
    refine at_val rfl rfl rfl (r_move rfl) ?_
    refine at_guard_no rfl rfl rfl rfl rfl ?_
    refine at_guard_no rfl rfl rfl rfl rfl ?_
    refine at_guard_no rfl rfl rfl rfl rfl ?_
    refine at_guard_no rfl rfl rfl rfl rfl ?_
    refine at_guard_no rfl rfl rfl rfl rfl ?_
    refine at_val rfl rfl rfl (r_pick rfl rfl rfl) ?_
    refine at_val rfl rfl rfl (r_move rfl) ?_
    refine at_guard_no rfl rfl rfl rfl rfl ?_
    refine at_guard_no rfl rfl rfl rfl rfl ?_
    refine at_guard_no rfl rfl rfl rfl rfl ?_
    refine at_guard_no rfl rfl rfl rfl rfl ?_
    refine at_guard_no rfl rfl rfl rfl rfl ?_
    refine at_val rfl rfl rfl (r_pick rfl rfl rfl) ?_
    refine at_val rfl rfl rfl (r_move rfl) ?_
    refine at_guard_no rfl rfl rfl rfl rfl ?_
    refine at_guard_no rfl rfl rfl rfl rfl ?_
    refine at_guard_no rfl rfl rfl rfl rfl ?_
    refine at_guard_no rfl rfl rfl rfl rfl ?_
    refine at_guard_no rfl rfl rfl rfl rfl ?_
    refine at_val rfl rfl rfl (r_pick rfl rfl rfl) ?_
    refine at_val rfl rfl rfl (r_move rfl) ?_
    refine at_guard_no rfl rfl rfl rfl rfl ?_
    refine at_guard_no rfl rfl rfl rfl rfl ?_
    refine at_guard_no rfl rfl rfl rfl rfl ?_
    refine at_guard_no rfl rfl rfl rfl rfl ?_
    refine at_guard_no rfl rfl rfl rfl rfl ?_
    refine at_val rfl rfl rfl (r_pick rfl rfl rfl) ?_
    refine at_val rfl rfl rfl (r_move rfl) ?_
    refine at_guard_no rfl rfl rfl rfl rfl ?_
    refine at_guard_no rfl rfl rfl rfl rfl ?_
    refine at_guard_no rfl rfl rfl rfl rfl ?_
    refine at_guard_no rfl rfl rfl rfl rfl ?_
    refine at_guard_no rfl rfl rfl rfl rfl ?_
    refine at_val rfl rfl rfl (r_pick rfl rfl rfl) ?_
    refine at_val rfl rfl rfl (r_move rfl) ?_
    refine at_guard_no rfl rfl rfl rfl rfl ?_
    refine at_guard_no rfl rfl rfl rfl rfl ?_
    refine at_guard_no rfl rfl rfl rfl rfl ?_
    refine at_guard_no rfl rfl rfl rfl rfl ?_
    refine at_guard_no rfl rfl rfl rfl rfl ?_
    refine at_val rfl rfl rfl (r_pick rfl rfl rfl) ?_
    refine at_val rfl rfl rfl (r_move rfl) ?_
    refine at_guard_no rfl rfl rfl rfl rfl ?_
    refine at_guard_no rfl rfl rfl rfl rfl ?_
    refine at_guard_no rfl rfl rfl rfl rfl ?_
    refine at_guard_no rfl rfl rfl rfl rfl ?_
    refine at_guard_no rfl rfl rfl rfl rfl ?_
    refine at_val rfl rfl rfl (r_pick rfl rfl rfl) ?_
    refine at_val rfl rfl rfl (r_assign rfl) ?_
    refine at_nil ?_
    refine at_drop (H := _) .z ?_
    refine at_drop (H := _) .z ?_
    refine at_weak [(4, _)] ⟨rfl, trivial⟩ ?_
    refine at_then_normal ?_
    refine at_ret ?_
    have K := of_some hF
    subst K
    exact at_return1 rfl rfl (fun w1 hw => ⟨rfl, hw.below⟩)

def crawlwayref32_Same.l0 (x0 : S_api_Request) (x1 : S_api_Request) (i12 : Int) : Option (Ctl (Bool) (Unit)) :=
  if (decide (i12 < (x0.f_Peers.length : Int))) = true then (if (0 : Int) ≤ i12 ∧ i12 < (x0.f_Peers.length : Int) then if (0 : Int) ≤ i12 ∧ i12 < (x1.f_Peers.length : Int) then crawlwayref32_SamePeer (lget x0.f_Peers i12) (lget x1.f_Peers i12) >>= fun t34 => if (!t34) = true then (some (.ret false)) else (crawlwayref32_Same.l0 x0 x1 (wr .i64 (i12 + 1))) else none else none) else (some (.nx ()))
  partial_fixpoint
def crawlwayref32_Same (x0 : S_api_Request) (x1 : S_api_Request) : Option (Bool) :=
  if (x0.f_HasPrivate != x1.f_HasPrivate) = true then (some false) else (if (!decide (x0.f_Private = x1.f_Private)) = true then (some false) else (if (x0.f_HasPort != x1.f_HasPort) = true then (some false) else (if (x0.f_Port != x1.f_Port) = true then (some false) else (if (x0.f_HasMark != x1.f_HasMark) = true then (some false) else (if (x0.f_Mark != x1.f_Mark) = true then (some false) else (if (x0.f_Replace != x1.f_Replace) = true then (some false) else (if ((x0.f_Peers.length : Int) != (x1.f_Peers.length : Int)) = true then (some false) else (crawlwayref32_Same.l0 x0 x1 0 >>= fun q11 => match q11 with | .ret r' => some r' | .nx sq11 => (some true)))))))))
theorem crawlwayref32_Same_ok (g0_ : G_api_Request) (x0 : S_api_Request) (g1_ : G_api_Request) (x1 : S_api_Request) (r : Bool) (hF : crawlwayref32_Same x0 x1 = some r) (w : World) (hn0 : N_api_Request w (g0_, x0)) (hn1 : N_api_Request w (g1_, x1)) :
    Calls Try.prog 20 #[.agg (Cd.cs c_api_Request (g0_, x0)).toArray, .agg (Cd.cs c_api_Request (g1_, x1)).toArray] w (fun e w' => e = .returned (.bool r) ∧ Below w.heap.size w w') := by
  unfold crawlwayref32_Same at hF
  refine calls_enter (l := [.agg (Cd.cs c_api_Request (g0_, x0)).toArray, .agg (Cd.cs c_api_Request (g1_, x1)).toArray]) Try.func20 rfl rfl rfl ?_
  refine at_start ?_
  refine at_weak [(0, _), (1, _)] ⟨rfl, rfl, trivial⟩ ?_
  refine at_seq ?_
  refine at_region ?_
  refine at_box (cs := Cd.cs c_api_Request (g0_, x0)) rfl rfl rfl ?_
  intro b1
  refine at_box (cs := Cd.cs c_api_Request (g1_, x1)) rfl rfl rfl ?_
  intro b2
  refine at_val rfl rfl rfl (r_assign rfl) ?_
  refine at_nil ?_
  refine at_weak [(2, _), (3, _)] ⟨rfl, rfl, trivial⟩ ?_
  refine at_then_normal ?_
  refine at_seq ?_
  refine at_seq ?_
  refine at_region ?_
  refine at_val rfl rfl rfl (r_fieldAddr (fo := 0) Try.underlying27 rfl rfl (fun w => ⟨_, Try.sizeOf4 w⟩) rfl) ?_
  refine at_val rfl rfl rfl (r_load_cell Try.isAgg4 rfl (lens_cell0 (c := cBool) (y := x0.f_HasPrivate) (.s .z) (c_api_Request_f_HasPrivate g0_ x0) rfl)) ?_
  refine at_val rfl rfl rfl (r_fieldAddr (fo := 0) Try.underlying27 rfl rfl (fun w => ⟨_, Try.sizeOf4 w⟩) rfl) ?_
  refine at_val rfl rfl rfl (r_load_cell Try.isAgg4 rfl (lens_cell0 (c := cBool) (y := x1.f_HasPrivate) .z (c_api_Request_f_HasPrivate g1_ x1) rfl)) ?_
  refine at_val rfl rfl rfl (r_bool Try.underlying4 rfl rfl (.inr rfl) rfl) ?_
  refine at_val rfl rfl rfl (r_move rfl) ?_
  rcases of_ite hF with ⟨h3, hF⟩ | ⟨h3, hF⟩
  · refine at_fix (g := 11) rfl h3 ?_
    refine at_guard_no rfl rfl rfl rfl rfl ?_
    refine at_guard_no rfl rfl rfl rfl rfl ?_
    refine at_guard_no rfl rfl rfl rfl rfl ?_
    refine at_guard_no rfl rfl rfl rfl rfl ?_
    refine at_guard_no rfl rfl rfl rfl rfl ?_
    refine at_val rfl rfl rfl (r_pick rfl rfl rfl) ?_
    refine at_val rfl rfl rfl (r_move rfl) ?_
    refine at_guard_no rfl rfl rfl rfl rfl ?_
    refine at_guard_no rfl rfl rfl rfl rfl ?_
    refine at_guard_no rfl rfl rfl rfl rfl ?_
    refine at_guard_no rfl rfl rfl rfl rfl ?_
    refine at_guard_no rfl rfl rfl rfl rfl ?_
    refine at_val rfl rfl rfl (r_pick rfl rfl rfl) ?_
    refine at_val rfl rfl rfl (r_move rfl) ?_
    refine at_guard_no rfl rfl rfl rfl rfl ?_
    refine at_guard_no rfl rfl rfl rfl rfl ?_
    refine at_guard_no rfl rfl rfl rfl rfl ?_
    refine at_guard_no rfl rfl rfl rfl rfl ?_
    refine at_guard_no rfl rfl rfl rfl rfl ?_
    refine at_val rfl rfl rfl (r_pick rfl rfl rfl) ?_
    refine at_val rfl rfl rfl (r_move rfl) ?_
    refine at_guard_no rfl rfl rfl rfl rfl ?_
    refine at_guard_no rfl rfl rfl rfl rfl ?_
    refine at_guard_no rfl rfl rfl rfl rfl ?_
    refine at_guard_no rfl rfl rfl rfl rfl ?_
    refine at_guard_no rfl rfl rfl rfl rfl ?_
    refine at_val rfl rfl rfl (r_pick rfl rfl rfl) ?_
    refine at_val rfl rfl rfl (r_move rfl) ?_
    refine at_guard_no rfl rfl rfl rfl rfl ?_
    refine at_guard_no rfl rfl rfl rfl rfl ?_
    refine at_guard_no rfl rfl rfl rfl rfl ?_
    refine at_guard_no rfl rfl rfl rfl rfl ?_
    refine at_guard_no rfl rfl rfl rfl rfl ?_
    refine at_val rfl rfl rfl (r_pick rfl rfl rfl) ?_
    refine at_val rfl rfl rfl (r_move rfl) ?_
    refine at_guard_no rfl rfl rfl rfl rfl ?_
    refine at_guard_no rfl rfl rfl rfl rfl ?_
    refine at_guard_no rfl rfl rfl rfl rfl ?_
    refine at_guard_no rfl rfl rfl rfl rfl ?_
    refine at_guard_no rfl rfl rfl rfl rfl ?_
    refine at_val rfl rfl rfl (r_pick rfl rfl rfl) ?_
    refine at_val rfl rfl rfl (r_move rfl) ?_
    refine at_guard_no rfl rfl rfl rfl rfl ?_
    refine at_guard_no rfl rfl rfl rfl rfl ?_
    refine at_guard_no rfl rfl rfl rfl rfl ?_
    refine at_guard_no rfl rfl rfl rfl rfl ?_
    refine at_guard_no rfl rfl rfl rfl rfl ?_
    refine at_guard_no rfl rfl rfl rfl rfl ?_
    refine at_guard_no rfl rfl rfl rfl rfl ?_
    refine at_val rfl rfl rfl (r_pick rfl rfl rfl) ?_
    refine at_nil ?_
    refine at_weak [(2, _), (3, _), (61, _)] ⟨rfl, rfl, rfl, trivial⟩ ?_
    refine at_then_normal ?_
    refine at_cond_true rfl rfl ?_
    refine at_seq ?_
    refine at_region ?_
    refine at_val rfl rfl rfl (r_assign rfl) ?_
    refine at_nil ?_
    refine at_drop (H := _) .z ?_
    refine at_drop (H := _) .z ?_
    refine at_weak [(4, _)] ⟨rfl, trivial⟩ ?_
    refine at_then_normal ?_
    refine at_ret ?_
    refine at_then_ret ?_
    have K := of_some hF
    subst K
    exact at_return1 rfl rfl (fun w1 hw => ⟨rfl, hw.below⟩)
  · refine at_fix (g := 11) rfl h3 ?_
    refine at_guard_yes rfl rfl rfl ?_
    refine at_val rfl rfl rfl (r_fieldAddr (fo := 1) Try.underlying27 rfl rfl (fun w => ⟨_, Try.sizeOf23 w⟩) rfl) ?_
    refine at_guard_yes rfl rfl rfl ?_
    refine at_val rfl rfl rfl (r_load_aggc (c := (cVec (cInt .u8) 32 (by decide))) (z := x0.f_Private) Try.isAgg23 Try.sizeOf23 rfl (lens_cell (.s .z) (c_api_Request_f_Private g0_ x0))) ?_
    refine at_guard_yes rfl rfl rfl ?_
    refine at_val rfl rfl rfl (r_fieldAddr (fo := 1) Try.underlying27 rfl rfl (fun w => ⟨_, Try.sizeOf23 w⟩) rfl) ?_
    refine at_guard_yes rfl rfl rfl ?_
    refine at_val rfl rfl rfl (r_load_aggc (c := (cVec (cInt .u8) 32 (by decide))) (z := x1.f_Private) Try.isAgg23 Try.sizeOf23 rfl (lens_cell .z (c_api_Request_f_Private g1_ x1))) ?_
    refine at_guard_yes rfl rfl rfl ?_
    refine at_val rfl rfl rfl (r_eqagg (c := (cVec (cInt .u8) 32 (by decide))) (a := x0.f_Private) (b := x1.f_Private) (eqs_vec Try.underlying23 infoT5 Try.sizeOf5 Try.isAgg5 (.inr rfl) (eqs_int Try.underlying5)) rfl Try.eqGuardType23 rfl rfl (.inr rfl) rfl) ?_
    refine at_val rfl rfl rfl (r_pick rfl rfl rfl) ?_
    refine at_val rfl rfl rfl (r_move rfl) ?_
    rcases of_ite hF with ⟨h4, hF⟩ | ⟨h4, hF⟩
    · refine at_fix (g := 18) rfl h4 ?_
      refine at_guard_no rfl rfl rfl rfl rfl ?_
      refine at_guard_no rfl rfl rfl rfl rfl ?_
      refine at_guard_no rfl rfl rfl rfl rfl ?_
      refine at_guard_no rfl rfl rfl rfl rfl ?_
      refine at_guard_no rfl rfl rfl rfl rfl ?_
      refine at_val rfl rfl rfl (r_pick rfl rfl rfl) ?_
      refine at_val rfl rfl rfl (r_move rfl) ?_
      refine at_guard_no rfl rfl rfl rfl rfl ?_
      refine at_guard_no rfl rfl rfl rfl rfl ?_
      refine at_guard_no rfl rfl rfl rfl rfl ?_
      refine at_guard_no rfl rfl rfl rfl rfl ?_
      refine at_guard_no rfl rfl rfl rfl rfl ?_
      refine at_val rfl rfl rfl (r_pick rfl rfl rfl) ?_
      refine at_val rfl rfl rfl (r_move rfl) ?_
      refine at_guard_no rfl rfl rfl rfl rfl ?_
      refine at_guard_no rfl rfl rfl rfl rfl ?_
      refine at_guard_no rfl rfl rfl rfl rfl ?_
      refine at_guard_no rfl rfl rfl rfl rfl ?_
      refine at_guard_no rfl rfl rfl rfl rfl ?_
      refine at_val rfl rfl rfl (r_pick rfl rfl rfl) ?_
      refine at_val rfl rfl rfl (r_move rfl) ?_
      refine at_guard_no rfl rfl rfl rfl rfl ?_
      refine at_guard_no rfl rfl rfl rfl rfl ?_
      refine at_guard_no rfl rfl rfl rfl rfl ?_
      refine at_guard_no rfl rfl rfl rfl rfl ?_
      refine at_guard_no rfl rfl rfl rfl rfl ?_
      refine at_val rfl rfl rfl (r_pick rfl rfl rfl) ?_
      refine at_val rfl rfl rfl (r_move rfl) ?_
      refine at_guard_no rfl rfl rfl rfl rfl ?_
      refine at_guard_no rfl rfl rfl rfl rfl ?_
      refine at_guard_no rfl rfl rfl rfl rfl ?_
      refine at_guard_no rfl rfl rfl rfl rfl ?_
      refine at_guard_no rfl rfl rfl rfl rfl ?_
      refine at_val rfl rfl rfl (r_pick rfl rfl rfl) ?_
      refine at_val rfl rfl rfl (r_move rfl) ?_
      refine at_guard_no rfl rfl rfl rfl rfl ?_
      refine at_guard_no rfl rfl rfl rfl rfl ?_
      refine at_guard_no rfl rfl rfl rfl rfl ?_
      refine at_guard_no rfl rfl rfl rfl rfl ?_
      refine at_guard_no rfl rfl rfl rfl rfl ?_
      refine at_guard_no rfl rfl rfl rfl rfl ?_
      refine at_guard_no rfl rfl rfl rfl rfl ?_
      refine at_val rfl rfl rfl (r_pick rfl rfl rfl) ?_
      refine at_nil ?_
      refine at_weak [(2, _), (3, _), (61, _)] ⟨rfl, rfl, rfl, trivial⟩ ?_
      refine at_then_normal ?_
      refine at_cond_true rfl rfl ?_
      refine at_seq ?_
      refine at_region ?_
      refine at_val rfl rfl rfl (r_assign rfl) ?_
      refine at_nil ?_
      refine at_drop (H := _) .z ?_
      refine at_drop (H := _) .z ?_
      refine at_weak [(4, _)] ⟨rfl, trivial⟩ ?_
      refine at_then_normal ?_
      refine at_ret ?_
      refine at_then_ret ?_
      have K := of_some hF
      subst K
      exact at_return1 rfl rfl (fun w1 hw => ⟨rfl, hw.below⟩)
    · refine at_fix (g := 18) rfl h4 ?_
      refine at_guard_yes rfl rfl rfl ?_
      refine at_val rfl rfl rfl (r_fieldAddr (fo := 33) Try.underlying27 rfl rfl (fun w => ⟨_, Try.sizeOf4 w⟩) rfl) ?_
      refine at_guard_yes rfl rfl rfl ?_
      refine at_val rfl rfl rfl (r_load_cell Try.isAgg4 rfl (lens_cell0 (c := cBool) (y := x0.f_HasPort) (.s .z) (c_api_Request_f_HasPort g0_ x0) rfl)) ?_
      refine at_guard_yes rfl rfl rfl ?_
      refine at_val rfl rfl rfl (r_fieldAddr (fo := 33) Try.underlying27 rfl rfl (fun w => ⟨_, Try.sizeOf4 w⟩) rfl) ?_
      refine at_guard_yes rfl rfl rfl ?_
      refine at_val rfl rfl rfl (r_load_cell Try.isAgg4 rfl (lens_cell0 (c := cBool) (y := x1.f_HasPort) .z (c_api_Request_f_HasPort g1_ x1) rfl)) ?_
      refine at_guard_yes rfl rfl rfl ?_
      refine at_val rfl rfl rfl (r_bool Try.underlying4 rfl rfl (.inr rfl) rfl) ?_
      refine at_val rfl rfl rfl (r_pick rfl rfl rfl) ?_
      refine at_val rfl rfl rfl (r_move rfl) ?_
      rcases of_ite hF with ⟨h5, hF⟩ | ⟨h5, hF⟩
      · refine at_fix (g := 25) rfl h5 ?_
        refine at_guard_no rfl rfl rfl rfl rfl ?_
        refine at_guard_no rfl rfl rfl rfl rfl ?_
        refine at_guard_no rfl rfl rfl rfl rfl ?_
        refine at_guard_no rfl rfl rfl rfl rfl ?_
        refine at_guard_no rfl rfl rfl rfl rfl ?_
        refine at_val rfl rfl rfl (r_pick rfl rfl rfl) ?_
        refine at_val rfl rfl rfl (r_move rfl) ?_
        refine at_guard_no rfl rfl rfl rfl rfl ?_
        refine at_guard_no rfl rfl rfl rfl rfl ?_
        refine at_guard_no rfl rfl rfl rfl rfl ?_
        refine at_guard_no rfl rfl rfl rfl rfl ?_
        refine at_guard_no rfl rfl rfl rfl rfl ?_
        refine at_val rfl rfl rfl (r_pick rfl rfl rfl) ?_
        refine at_val rfl rfl rfl (r_move rfl) ?_
        refine at_guard_no rfl rfl rfl rfl rfl ?_
        refine at_guard_no rfl rfl rfl rfl rfl ?_
        refine at_guard_no rfl rfl rfl rfl rfl ?_
        refine at_guard_no rfl rfl rfl rfl rfl ?_
        refine at_guard_no rfl rfl rfl rfl rfl ?_
        refine at_val rfl rfl rfl (r_pick rfl rfl rfl) ?_
        refine at_val rfl rfl rfl (r_move rfl) ?_
        refine at_guard_no rfl rfl rfl rfl rfl ?_
        refine at_guard_no rfl rfl rfl rfl rfl ?_
        refine at_guard_no rfl rfl rfl rfl rfl ?_
        refine at_guard_no rfl rfl rfl rfl rfl ?_
        refine at_guard_no rfl rfl rfl rfl rfl ?_
        refine at_val rfl rfl rfl (r_pick rfl rfl rfl) ?_
        refine at_val rfl rfl rfl (r_move rfl) ?_
        refine at_guard_no rfl rfl rfl rfl rfl ?_
        refine at_guard_no rfl rfl rfl rfl rfl ?_
        refine at_guard_no rfl rfl rfl rfl rfl ?_
        refine at_guard_no rfl rfl rfl rfl rfl ?_
        refine at_guard_no rfl rfl rfl rfl rfl ?_
        refine at_guard_no rfl rfl rfl rfl rfl ?_
        refine at_guard_no rfl rfl rfl rfl rfl ?_
        refine at_val rfl rfl rfl (r_pick rfl rfl rfl) ?_
        refine at_nil ?_
        refine at_weak [(2, _), (3, _), (61, _)] ⟨rfl, rfl, rfl, trivial⟩ ?_
        refine at_then_normal ?_
        refine at_cond_true rfl rfl ?_
        refine at_seq ?_
        refine at_region ?_
        refine at_val rfl rfl rfl (r_assign rfl) ?_
        refine at_nil ?_
        refine at_drop (H := _) .z ?_
        refine at_drop (H := _) .z ?_
        refine at_weak [(4, _)] ⟨rfl, trivial⟩ ?_
        refine at_then_normal ?_
        refine at_ret ?_
        refine at_then_ret ?_
        have K := of_some hF
        subst K
        exact at_return1 rfl rfl (fun w1 hw => ⟨rfl, hw.below⟩)
      · refine at_fix (g := 25) rfl h5 ?_
        refine at_guard_yes rfl rfl rfl ?_
        refine at_val rfl rfl rfl (r_fieldAddr (fo := 34) Try.underlying27 rfl rfl (fun w => ⟨_, Try.sizeOf3 w⟩) rfl) ?_
        refine at_guard_yes rfl rfl rfl ?_
        refine at_val rfl rfl rfl (r_load_cell Try.isAgg3 rfl (lens_cell0 (c := (cInt .i64)) (y := x0.f_Port) (.s .z) (c_api_Request_f_Port g0_ x0) rfl)) ?_
        refine at_guard_yes rfl rfl rfl ?_
        refine at_val rfl rfl rfl (r_fieldAddr (fo := 34) Try.underlying27 rfl rfl (fun w => ⟨_, Try.sizeOf3 w⟩) rfl) ?_
        refine at_guard_yes rfl rfl rfl ?_
        refine at_val rfl rfl rfl (r_load_cell Try.isAgg3 rfl (lens_cell0 (c := (cInt .i64)) (y := x1.f_Port) .z (c_api_Request_f_Port g1_ x1) rfl)) ?_
        refine at_guard_yes rfl rfl rfl ?_
        refine at_val rfl rfl rfl (r_ineq rfl rfl) ?_
        refine at_val rfl rfl rfl (r_pick rfl rfl rfl) ?_
        refine at_val rfl rfl rfl (r_move rfl) ?_
        rcases of_ite hF with ⟨h6, hF⟩ | ⟨h6, hF⟩
        · refine at_fix (g := 32) rfl h6 ?_
          refine at_guard_no rfl rfl rfl rfl rfl ?_
          refine at_guard_no rfl rfl rfl rfl rfl ?_
          refine at_guard_no rfl rfl rfl rfl rfl ?_
          refine at_guard_no rfl rfl rfl rfl rfl ?_
          refine at_guard_no rfl rfl rfl rfl rfl ?_
          refine at_val rfl rfl rfl (r_pick rfl rfl rfl) ?_
          refine at_val rfl rfl rfl (r_move rfl) ?_
          refine at_guard_no rfl rfl rfl rfl rfl ?_
          refine at_guard_no rfl rfl rfl rfl rfl ?_
          refine at_guard_no rfl rfl rfl rfl rfl ?_
          refine at_guard_no rfl rfl rfl rfl rfl ?_
          refine at_guard_no rfl rfl rfl rfl rfl ?_
          refine at_val rfl rfl rfl (r_pick rfl rfl rfl) ?_
          refine at_val rfl rfl rfl (r_move rfl) ?_
          refine at_guard_no rfl rfl rfl rfl rfl ?_
          refine at_guard_no rfl rfl rfl rfl rfl ?_
          refine at_guard_no rfl rfl rfl rfl rfl ?_
          refine at_guard_no rfl rfl rfl rfl rfl ?_
          refine at_guard_no rfl rfl rfl rfl rfl ?_
          refine at_val rfl rfl rfl (r_pick rfl rfl rfl) ?_
          refine at_val rfl rfl rfl (r_move rfl) ?_
          refine at_guard_no rfl rfl rfl rfl rfl ?_
          refine at_guard_no rfl rfl rfl rfl rfl ?_
          refine at_guard_no rfl rfl rfl rfl rfl ?_
          refine at_guard_no rfl rfl rfl rfl rfl ?_
          refine at_guard_no rfl rfl rfl rfl rfl ?_
          refine at_guard_no rfl rfl rfl rfl rfl ?_
          refine at_guard_no rfl rfl rfl rfl rfl ?_
          refine at_val rfl rfl rfl (r_pick rfl rfl rfl) ?_
          refine at_nil ?_
          refine at_weak [(2, _), (3, _), (61, _)] ⟨rfl, rfl, rfl, trivial⟩ ?_
          refine at_then_normal ?_
          refine at_cond_true rfl rfl ?_
          refine at_seq ?_
          refine at_region ?_
          refine at_val rfl rfl rfl (r_assign rfl) ?_
          refine at_nil ?_
          refine at_drop (H := _) .z ?_
          refine at_drop (H := _) .z ?_
          refine at_weak [(4, _)] ⟨rfl, trivial⟩ ?_
          refine at_then_normal ?_
          refine at_ret ?_
          refine at_then_ret ?_
          have K := of_some hF
          subst K
          exact at_return1 rfl rfl (fun w1 hw => ⟨rfl, hw.below⟩)
        · refine at_fix (g := 32) rfl h6 ?_
          refine at_guard_yes rfl rfl rfl ?_
          refine at_val rfl rfl rfl (r_fieldAddr (fo := 35) Try.underlying27 rfl rfl (fun w => ⟨_, Try.sizeOf4 w⟩) rfl) ?_
          refine at_guard_yes rfl rfl rfl ?_
          refine at_val rfl rfl rfl (r_load_cell Try.isAgg4 rfl (lens_cell0 (c := cBool) (y := x0.f_HasMark) (.s .z) (c_api_Request_f_HasMark g0_ x0) rfl)) ?_
          refine at_guard_yes rfl rfl rfl ?_
          refine at_val rfl rfl rfl (r_fieldAddr (fo := 35) Try.underlying27 rfl rfl (fun w => ⟨_, Try.sizeOf4 w⟩) rfl) ?_
          refine at_guard_yes rfl rfl rfl ?_
          refine at_val rfl rfl rfl (r_load_cell Try.isAgg4 rfl (lens_cell0 (c := cBool) (y := x1.f_HasMark) .z (c_api_Request_f_HasMark g1_ x1) rfl)) ?_
          refine at_guard_yes rfl rfl rfl ?_
          refine at_val rfl rfl rfl (r_bool Try.underlying4 rfl rfl (.inr rfl) rfl) ?_
          refine at_val rfl rfl rfl (r_pick rfl rfl rfl) ?_
          refine at_val rfl rfl rfl (r_move rfl) ?_
          rcases of_ite hF with ⟨h7, hF⟩ | ⟨h7, hF⟩
          · refine at_fix (g := 39) rfl h7 ?_
            refine at_guard_no rfl rfl rfl rfl rfl ?_
            refine at_guard_no rfl rfl rfl rfl rfl ?_
            refine at_guard_no rfl rfl rfl rfl rfl ?_
            refine at_guard_no rfl rfl rfl rfl rfl ?_
            refine at_guard_no rfl rfl rfl rfl rfl ?_
            refine at_val rfl rfl rfl (r_pick rfl rfl rfl) ?_
            refine at_val rfl rfl rfl (r_move rfl) ?_
            refine at_guard_no rfl rfl rfl rfl rfl ?_
            refine at_guard_no rfl rfl rfl rfl rfl ?_
            refine at_guard_no rfl rfl rfl rfl rfl ?_
            refine at_guard_no rfl rfl rfl rfl rfl ?_
            refine at_guard_no rfl rfl rfl rfl rfl ?_
            refine at_val rfl rfl rfl (r_pick rfl rfl rfl) ?_
            refine at_val rfl rfl rfl (r_move rfl) ?_
            refine at_guard_no rfl rfl rfl rfl rfl ?_
            refine at_guard_no rfl rfl rfl rfl rfl ?_
            refine at_guard_no rfl rfl rfl rfl rfl ?_
            refine at_guard_no rfl rfl rfl rfl rfl ?_
            refine at_guard_no rfl rfl rfl rfl rfl ?_
            refine at_guard_no rfl rfl rfl rfl rfl ?_
            refine at_guard_no rfl rfl rfl rfl rfl ?_
            refine at_val rfl rfl rfl (r_pick rfl rfl rfl) ?_
            refine at_nil ?_
            refine at_weak [(2, _), (3, _), (61, _)] ⟨rfl, rfl, rfl, trivial⟩ ?_
            refine at_then_normal ?_
            refine at_cond_true rfl rfl ?_
            refine at_seq ?_
            refine at_region ?_
            refine at_val rfl rfl rfl (r_assign rfl) ?_
            refine at_nil ?_
            refine at_drop (H := _) .z ?_
            refine at_drop (H := _) .z ?_
            refine at_weak [(4, _)] ⟨rfl, trivial⟩ ?_
            refine at_then_normal ?_
            refine at_ret ?_
            refine at_then_ret ?_
            have K := of_some hF
            subst K
            exact at_return1 rfl rfl (fun w1 hw => ⟨rfl, hw.below⟩)
          · refine at_fix (g := 39) rfl h7 ?_
            refine at_guard_yes rfl rfl rfl ?_
            refine at_val rfl rfl rfl (r_fieldAddr (fo := 36) Try.underlying27 rfl rfl (fun w => ⟨_, Try.sizeOf24 w⟩) rfl) ?_
            refine at_guard_yes rfl rfl rfl ?_
            refine at_val rfl rfl rfl (r_load_cell Try.isAgg24 rfl (lens_cell0 (c := (cInt .u32)) (y := x0.f_Mark) (.s .z) (c_api_Request_f_Mark g0_ x0) rfl)) ?_
            refine at_guard_yes rfl rfl rfl ?_
            refine at_val rfl rfl rfl (r_fieldAddr (fo := 36) Try.underlying27 rfl rfl (fun w => ⟨_, Try.sizeOf24 w⟩) rfl) ?_
            refine at_guard_yes rfl rfl rfl ?_
            refine at_val rfl rfl rfl (r_load_cell Try.isAgg24 rfl (lens_cell0 (c := (cInt .u32)) (y := x1.f_Mark) .z (c_api_Request_f_Mark g1_ x1) rfl)) ?_
            refine at_guard_yes rfl rfl rfl ?_
            refine at_val rfl rfl rfl (r_ineq rfl rfl) ?_
            refine at_val rfl rfl rfl (r_pick rfl rfl rfl) ?_
            refine at_val rfl rfl rfl (r_move rfl) ?_
            rcases of_ite hF with ⟨h8, hF⟩ | ⟨h8, hF⟩
            · refine at_fix (g := 46) rfl h8 ?_
              refine at_guard_no rfl rfl rfl rfl rfl ?_
              refine at_guard_no rfl rfl rfl rfl rfl ?_
              refine at_guard_no rfl rfl rfl rfl rfl ?_
              refine at_guard_no rfl rfl rfl rfl rfl ?_
              refine at_guard_no rfl rfl rfl rfl rfl ?_
              refine at_val rfl rfl rfl (r_pick rfl rfl rfl) ?_
              refine at_val rfl rfl rfl (r_move rfl) ?_
              refine at_guard_no rfl rfl rfl rfl rfl ?_
              refine at_guard_no rfl rfl rfl rfl rfl ?_
              refine at_guard_no rfl rfl rfl rfl rfl ?_
              refine at_guard_no rfl rfl rfl rfl rfl ?_
              refine at_guard_no rfl rfl rfl rfl rfl ?_
              refine at_guard_no rfl rfl rfl rfl rfl ?_
              refine at_guard_no rfl rfl rfl rfl rfl ?_
              refine at_val rfl rfl rfl (r_pick rfl rfl rfl) ?_
              refine at_nil ?_
              refine at_weak [(2, _), (3, _), (61, _)] ⟨rfl, rfl, rfl, trivial⟩ ?_
              refine at_then_normal ?_
              refine at_cond_true rfl rfl ?_
              refine at_seq ?_
              refine at_region ?_
              refine at_val rfl rfl rfl (r_assign rfl) ?_
              refine at_nil ?_
              refine at_drop (H := _) .z ?_
              refine at_drop (H := _) .z ?_
              refine at_weak [(4, _)] ⟨rfl, trivial⟩ ?_
              refine at_then_normal ?_
              refine at_ret ?_
              refine at_then_ret ?_
              have K := of_some hF
              subst K
              exact at_return1 rfl rfl (fun w1 hw => ⟨rfl, hw.below⟩)
            · refine at_fix (g := 46) rfl h8 ?_
              refine at_guard_yes rfl rfl rfl ?_
              refine at_val rfl rfl rfl (r_fieldAddr (fo := 37) Try.underlying27 rfl rfl (fun w => ⟨_, Try.sizeOf4 w⟩) rfl) ?_
              refine at_guard_yes rfl rfl rfl ?_
              refine at_val rfl rfl rfl (r_load_cell Try.isAgg4 rfl (lens_cell0 (c := cBool) (y := x0.f_Replace) (.s .z) (c_api_Request_f_Replace g0_ x0) rfl)) ?_
              refine at_guard_yes rfl rfl rfl ?_
              refine at_val rfl rfl rfl (r_fieldAddr (fo := 37) Try.underlying27 rfl rfl (fun w => ⟨_, Try.sizeOf4 w⟩) rfl) ?_
              refine at_guard_yes rfl rfl rfl ?_
              refine at_val rfl rfl rfl (r_load_cell Try.isAgg4 rfl (lens_cell0 (c := cBool) (y := x1.f_Replace) .z (c_api_Request_f_Replace g1_ x1) rfl)) ?_
              refine at_guard_yes rfl rfl rfl ?_
              refine at_val rfl rfl rfl (r_bool Try.underlying4 rfl rfl (.inr rfl) rfl) ?_
              refine at_val rfl rfl rfl (r_pick rfl rfl rfl) ?_
              refine at_val rfl rfl rfl (r_move rfl) ?_
              rcases of_ite hF with ⟨h9, hF⟩ | ⟨h9, hF⟩
              · refine at_fix (g := 53) rfl h9 ?_
                refine at_guard_no rfl rfl rfl rfl rfl ?_
                refine at_guard_no rfl rfl rfl rfl rfl ?_
                refine at_guard_no rfl rfl rfl rfl rfl ?_
                refine at_guard_no rfl rfl rfl rfl rfl ?_
                refine at_guard_no rfl rfl rfl rfl rfl ?_
                refine at_guard_no rfl rfl rfl rfl rfl ?_
                refine at_guard_no rfl rfl rfl rfl rfl ?_
                refine at_val rfl rfl rfl (r_pick rfl rfl rfl) ?_
                refine at_nil ?_
                refine at_weak [(2, _), (3, _), (61, _)] ⟨rfl, rfl, rfl, trivial⟩ ?_
                refine at_then_normal ?_
                refine at_cond_true rfl rfl ?_
                refine at_seq ?_
                refine at_region ?_
                refine at_val rfl rfl rfl (r_assign rfl) ?_
                refine at_nil ?_
                refine at_drop (H := _) .z ?_
                refine at_drop (H := _) .z ?_
                refine at_weak [(4, _)] ⟨rfl, trivial⟩ ?_
                refine at_then_normal ?_
                refine at_ret ?_
                refine at_then_ret ?_
                have K := of_some hF
                subst K
                exact at_return1 rfl rfl (fun w1 hw => ⟨rfl, hw.below⟩)
              · refine at_fix (g := 53) rfl h9 ?_
                refine at_guard_yes rfl rfl rfl ?_
                refine at_val rfl rfl rfl (r_fieldAddr (fo := 38) Try.underlying27 rfl rfl (fun w => ⟨_, Try.sizeOf25 w⟩) rfl) ?_
                refine at_guard_yes rfl rfl rfl ?_
                refine at_val rfl rfl rfl (r_load_cell Try.isAgg25 rfl (lens_cell0 (c := cHd) (y := ⟨g0_.1, List.length x0.f_Peers, g0_.2⟩) (.s .z) (c_api_Request_f_Peers g0_ x0) rfl)) ?_
                refine at_guard_yes rfl rfl rfl ?_
                refine at_val rfl rfl rfl (r_len_sl Try.underlying25 rfl) ?_
                refine at_guard_yes rfl rfl rfl ?_
                refine at_val rfl rfl rfl (r_fieldAddr (fo := 38) Try.underlying27 rfl rfl (fun w => ⟨_, Try.sizeOf25 w⟩) rfl) ?_
                refine at_guard_yes rfl rfl rfl ?_
                refine at_val rfl rfl rfl (r_load_cell Try.isAgg25 rfl (lens_cell0 (c := cHd) (y := ⟨g1_.1, List.length x1.f_Peers, g1_.2⟩) .z (c_api_Request_f_Peers g1_ x1) rfl)) ?_
                refine at_guard_yes rfl rfl rfl ?_
                refine at_val rfl rfl rfl (r_len_sl Try.underlying25 rfl) ?_
                refine at_guard_yes rfl rfl rfl ?_
                refine at_val rfl rfl rfl (r_ineq rfl rfl) ?_
                refine at_val rfl rfl rfl (r_pick rfl rfl rfl) ?_
                refine at_nil ?_
                refine at_weak [(2, _), (3, _), (61, _)] ⟨rfl, rfl, rfl, trivial⟩ ?_
                refine at_then_normal ?_
                rcases of_ite hF with ⟨h10, hF⟩ | ⟨h10, hF⟩
                · refine at_cond_true rfl h10 ?_
                  refine at_seq ?_
                  refine at_region ?_
                  refine at_val rfl rfl rfl (r_assign rfl) ?_
                  refine at_nil ?_
                  refine at_drop (H := _) .z ?_
                  refine at_drop (H := _) .z ?_
                  refine at_weak [(4, _)] ⟨rfl, trivial⟩ ?_
                  refine at_then_normal ?_
                  refine at_ret ?_
                  refine at_then_ret ?_
                  have K := of_some hF
                  subst K
                  exact at_return1 rfl rfl (fun w1 hw => ⟨rfl, hw.below⟩)
                · refine at_cond_false rfl h10 ?_
                  refine at_skip ?_
                  refine at_then_normal ?_
                  refine at_seq ?_
                  refine at_seq ?_
                  refine at_region ?_
                  refine at_val rfl rfl rfl (r_assign rfl) ?_
                  refine at_nil ?_
                  refine at_weak [(2, _), (3, _), (5, _)] ⟨rfl, rfl, rfl, trivial⟩ ?_
                  refine at_then_normal ?_
                  refine at_block ?_
                  obtain ⟨q11, hq11, hF⟩ := of_bindM hF
                  refine at_weak [(2, _), (3, _), (5, _)] ⟨rfl, rfl, rfl, trivial⟩ ?_
                  refine at_loop_r (B := 0) (r := r) (q := q11) (A := fun (_ : Unit) Y => At 81 [] (Wd w []) Y) ?_ ?_
                  · intro K
                    refine crawlwayref32_Same.l0.partial_correctness x0 x1 (motive := fun i12 x => KR (fun (_ : Unit) Y => At 81 [] (Wd w []) Y) _ 0 r x → Round (fun Y => At 81 [(2, .pointer (some ⟨b1, 0, none⟩)), (3, .pointer (some ⟨b2, 0, none⟩)), (5, .int .i64 i12)] (Wd w [cellsE b2 (Cd.cs c_api_Request (g1_, x1)) 27, cellsE b1 (Cd.cs c_api_Request (g0_, x0)) 27]) Y) _ _ _) ?_ _ _ hq11 K
                    · clear K hF
                      intro g ih i12 x hF K
                      refine at_round ?_
                      refine at_seq ?_
                      refine at_seq ?_
                      refine at_region ?_
                      refine at_val rfl rfl rfl (r_move rfl) ?_
                      refine at_val rfl rfl rfl (r_fieldAddr (fo := 38) Try.underlying27 rfl rfl (fun w => ⟨_, Try.sizeOf25 w⟩) rfl) ?_
                      refine at_val rfl rfl rfl (r_load_cell Try.isAgg25 rfl (lens_cell0 (c := cHd) (y := ⟨g0_.1, List.length x0.f_Peers, g0_.2⟩) (.s .z) (c_api_Request_f_Peers g0_ x0) rfl)) ?_
                      refine at_val rfl rfl rfl (r_len_sl Try.underlying25 rfl) ?_
                      refine at_val rfl rfl rfl (r_ilss rfl rfl) ?_
                      refine at_nil ?_
                      refine at_weak [(2, _), (3, _), (5, _), (66, _)] ⟨rfl, rfl, rfl, rfl, trivial⟩ ?_
                      refine at_then_normal ?_
                      rcases of_ite hF with ⟨h13, hF⟩ | ⟨h13, hF⟩
                      · refine at_cond_true rfl h13 ?_
                        refine at_skip ?_
                        refine at_then_normal ?_
                        refine at_seq ?_
                        refine at_block ?_
                        refine at_seq ?_
                        refine at_draw (by kernel_rfl) (by kernel_rfl) (fun _ h => h.drew) ?_
                        refine atq_val rfl rfl rfl (r_fieldAddr (fo := 38) Try.underlying27 rfl rfl (fun w => ⟨_, Try.sizeOf25 w⟩) rfl) ?_
                        refine atq_val rfl rfl rfl (r_load_cell Try.isAgg25 rfl (lens_cell0 (c := cHd) (y := ⟨g0_.1, List.length x0.f_Peers, g0_.2⟩) (.s .z) (c_api_Request_f_Peers g0_ x0) rfl)) ?_
                        refine atq_val rfl rfl rfl (r_move rfl) ?_
                        obtain ⟨h14, hF⟩ := of_guard hF
                        obtain ⟨zs18, hz19, hr20, hn21⟩ := hn0
                        obtain ⟨b16, o17, hp15⟩ := row_ptr hr20 (zidx hz19 h14)
                        obtain ⟨g22, hg23⟩ := zget hz19 i12
                        refine atq_val rfl rfl rfl (r_idx Try.underlying25 Try.sizeOf37 rfl rfl h14 hp15) ?_
                        refine atq_val rfl rfl rfl (r_load_aggc (c := c_api_PeerChange) (z := (g22, lget x0.f_Peers i12)) Try.isAgg37 Try.sizeOf37 rfl (ncell (fun _ h => h.below) hr20 (zidx hz19 h14) hp15 hg23)) ?_
                        refine atq_val rfl rfl rfl (r_fieldAddr (fo := 38) Try.underlying27 rfl rfl (fun w => ⟨_, Try.sizeOf25 w⟩) rfl) ?_
                        refine atq_val rfl rfl rfl (r_load_cell Try.isAgg25 rfl (lens_cell0 (c := cHd) (y := ⟨g1_.1, List.length x1.f_Peers, g1_.2⟩) .z (c_api_Request_f_Peers g1_ x1) rfl)) ?_
                        refine atq_val rfl rfl rfl (r_move rfl) ?_
                        obtain ⟨h24, hF⟩ := of_guard hF
                        obtain ⟨zs28, hz29, hr30, hn31⟩ := hn1
                        obtain ⟨b26, o27, hp25⟩ := row_ptr hr30 (zidx hz29 h24)
                        obtain ⟨g32, hg33⟩ := zget hz29 i12
                        refine atq_val rfl rfl rfl (r_idx Try.underlying25 Try.sizeOf37 rfl rfl h24 hp25) ?_
                        refine atq_val rfl rfl rfl (r_load_aggc (c := c_api_PeerChange) (z := (g32, lget x1.f_Peers i12)) Try.isAgg37 Try.sizeOf37 rfl (ncell (fun _ h => h.below) hr30 (zidx hz29 h24) hp25 hg33)) ?_
                        obtain ⟨t34, ht34, hF⟩ := of_bindM hF
                        refine atq_call Try.func62 rfl (by kernel_rfl) rfl rfl (fun w hw => (crawlwayref32_SamePeer_ok _ _ _ _ _ ht34 w (N_api_PeerChange.below (nz hg23 hn21 (zidx hz19 h14)) hw.below) (N_api_PeerChange.below (nz hg33 hn31 (zidx hz29 h24)) hw.below)).mono fun _ _ h => ⟨h.1, hw.call h.2⟩) ?_
                        refine atq_val rfl rfl rfl (r_not rfl) ?_
                        refine atq_nil ?_
                        refine at_weak [(2, _), (3, _), (5, _), (80, _)] ⟨rfl, rfl, rfl, rfl, trivial⟩ ?_
                        refine at_then_normal ?_
                        rcases of_ite hF with ⟨h35, hF⟩ | ⟨h35, hF⟩
                        · refine at_cond_true rfl h35 ?_
                          refine at_seq ?_
                          refine at_region ?_
                          refine at_val rfl rfl rfl (r_assign rfl) ?_
                          refine at_nil ?_
                          refine at_drop (H := _) .z ?_
                          refine at_drop (H := _) .z ?_
                          refine at_weak [(4, _)] ⟨rfl, trivial⟩ ?_
                          refine at_then_normal ?_
                          refine at_ret ?_
                          refine at_blk_ret (at_then_ret (at_then_ret (at_blk_ret (at_then_ret ?_))))
                          obtain rfl := of_some hF
                          subst K
                          exact at_return1 rfl rfl (fun w1 hw => ⟨rfl, hw.below⟩)
                        · refine at_cond_false rfl h35 ?_
                          refine at_skip ?_
                          refine at_blk_normal (at_then_normal ?_)
                          refine at_region ?_
                          refine at_val rfl rfl rfl (r_move rfl) ?_
                          refine at_val rfl rfl rfl (r_iadd rfl rfl) ?_
                          refine at_val rfl rfl rfl (r_assign rfl) ?_
                          refine at_nil ?_
                          refine at_weak [(2, _), (3, _), (5, _)] ⟨rfl, rfl, rfl, trivial⟩ ?_
                          refine at_then_normal ?_
                          exact at_weak_k (ih _ _ hF K) ⟨rfl, rfl, rfl, trivial⟩
                      · refine at_cond_false rfl h13 ?_
                        refine at_exit ?_
                        refine at_then_exit (at_then_exit ?_)
                        refine at_drop (H := _) .z ?_
                        refine at_drop (H := _) .z ?_
                        obtain rfl := of_some hF
                        exact at_weak_k K trivial
                  · cases q11 with
                    | ret r' => exact of_some hF
                    | nx sq11 =>
                      skip
                      refine at_blk_same ?_
                      refine at_then_normal ?_
                      refine at_seq ?_
                      refine at_region ?_
                      refine at_val rfl rfl rfl (r_assign rfl) ?_
                      refine at_nil ?_
                      refine at_weak [(4, _)] ⟨rfl, trivial⟩ ?_
                      refine at_then_normal ?_
                      refine at_ret ?_
                      have K := of_some hF
                      subst K
                      exact at_return1 rfl rfl (fun w1 hw => ⟨rfl, hw.below⟩)

def crawlwaylaw32_ChangeSame (x0 : S_api_Request) (x1 : S_api_Request) : Option (Bool) :=
  crawlwayref32_Large x0 >>= fun t3 => if t3 = true then (crawlwaylaw32_alive >>= fun t5 => some t5) else (crawlwayref32_Large x1 >>= fun t6 => if t6 = true then (crawlwaylaw32_alive >>= fun t8 => some t8) else (change_Same x0 x1 >>= fun t9 => crawlwayref32_Same x0 x1 >>= fun t10 => if (t9 == t10) = true then (change_Same x0 x0 >>= fun t12 => if t12 = true then (crawlwaylaw32_alive >>= fun t14 => some t14) else (some false)) else (some false)))
theorem crawlwaylaw32_ChangeSame_ok (g0_ : G_api_Request) (x0 : S_api_Request) (g1_ : G_api_Request) (x1 : S_api_Request) (r : Bool) (hF : crawlwaylaw32_ChangeSame x0 x1 = some r) (w : World) (hn0 : N_api_Request w (g0_, x0)) (hn1 : N_api_Request w (g1_, x1)) :
    Calls Try.prog 5 #[.agg (Cd.cs c_api_Request (g0_, x0)).toArray, .agg (Cd.cs c_api_Request (g1_, x1)).toArray] w (fun e w' => e = .returned (.bool r) ∧ Below w.heap.size w w') := by
  unfold crawlwaylaw32_ChangeSame at hF
  refine calls_enter (l := [.agg (Cd.cs c_api_Request (g0_, x0)).toArray, .agg (Cd.cs c_api_Request (g1_, x1)).toArray]) Try.func5 rfl rfl rfl ?_
  refine at_start ?_
  refine at_weak [(0, _), (1, _)] ⟨rfl, rfl, trivial⟩ ?_
  refine at_seq ?_
  refine at_region ?_
  refine at_box (cs := Cd.cs c_api_Request (g0_, x0)) rfl rfl rfl ?_
  intro b1
  refine at_box (cs := Cd.cs c_api_Request (g1_, x1)) rfl rfl rfl ?_
  intro b2
  refine at_val rfl rfl rfl (r_assign rfl) ?_
  refine at_nil ?_
  refine at_weak [(2, _), (3, _)] ⟨rfl, rfl, trivial⟩ ?_
  refine at_then_normal ?_
  refine at_seq ?_
  refine at_seq ?_
  refine at_region ?_
  refine at_val rfl rfl rfl (r_load_aggc (c := c_api_Request) (z := (g0_, x0)) Try.isAgg27 Try.sizeOf27 rfl (lens_cell (.s .z) (Lens.whole _ _))) ?_
  obtain ⟨t3, ht3, hF⟩ := of_bindM hF
  refine at_callB Try.func13 rfl (by kernel_rfl) rfl rfl (fun w hw => crawlwayref32_Large_ok _ _ _ ht3 w (N_api_Request.below hn0 hw.below)) ?_
  refine at_val rfl rfl rfl (r_move rfl) ?_
  rcases of_ite hF with ⟨h4, hF⟩ | ⟨h4, hF⟩
  · refine at_fix (g := 7) rfl h4 ?_
    refine at_guard_no rfl rfl rfl rfl rfl ?_
    refine at_guard_no rfl rfl rfl rfl rfl ?_
    refine at_val rfl rfl rfl (r_pick rfl rfl rfl) ?_
    refine at_nil ?_
    refine at_weak [(2, _), (3, _), (10, _)] ⟨rfl, rfl, rfl, trivial⟩ ?_
    refine at_then_normal ?_
    refine at_cond_true rfl rfl ?_
    refine at_seq ?_
    refine at_region ?_
    obtain ⟨t5, ht5, hF⟩ := of_bindM hF
    refine at_callB Try.func14 rfl (by kernel_rfl) rfl rfl (fun w hw => crawlwaylaw32_alive_ok  _ ht5 w) ?_
    refine at_val rfl rfl rfl (r_assign rfl) ?_
    refine at_nil ?_
    refine at_drop (H := _) .z ?_
    refine at_drop (H := _) .z ?_
    refine at_weak [(4, _)] ⟨rfl, trivial⟩ ?_
    refine at_then_normal ?_
    refine at_ret ?_
    refine at_then_ret ?_
    have K := of_some hF
    subst K
    exact at_return1 rfl rfl (fun w1 hw => ⟨rfl, hw.below⟩)
  · refine at_fix (g := 7) rfl h4 ?_
    refine at_guard_yes rfl rfl rfl ?_
    refine at_val rfl rfl rfl (r_load_aggc (c := c_api_Request) (z := (g1_, x1)) Try.isAgg27 Try.sizeOf27 rfl (lens_cell .z (Lens.whole _ _))) ?_
    refine at_guard_yes rfl rfl rfl ?_
    obtain ⟨t6, ht6, hF⟩ := of_bindM hF
    refine at_callB Try.func13 rfl (by kernel_rfl) rfl rfl (fun w hw => crawlwayref32_Large_ok _ _ _ ht6 w (N_api_Request.below hn1 hw.below)) ?_
    refine at_val rfl rfl rfl (r_pick rfl rfl rfl) ?_
    refine at_nil ?_
    refine at_weak [(2, _), (3, _), (10, _)] ⟨rfl, rfl, rfl, trivial⟩ ?_
    refine at_then_normal ?_
    rcases of_ite hF with ⟨h7, hF⟩ | ⟨h7, hF⟩
    · refine at_cond_true rfl h7 ?_
      refine at_seq ?_
      refine at_region ?_
      obtain ⟨t8, ht8, hF⟩ := of_bindM hF
      refine at_callB Try.func14 rfl (by kernel_rfl) rfl rfl (fun w hw => crawlwaylaw32_alive_ok  _ ht8 w) ?_
      refine at_val rfl rfl rfl (r_assign rfl) ?_
      refine at_nil ?_
      refine at_drop (H := _) .z ?_
      refine at_drop (H := _) .z ?_
      refine at_weak [(4, _)] ⟨rfl, trivial⟩ ?_
      refine at_then_normal ?_
      refine at_ret ?_
      refine at_then_ret ?_
      have K := of_some hF
      subst K
      exact at_return1 rfl rfl (fun w1 hw => ⟨rfl, hw.below⟩)
    · refine at_cond_false rfl h7 ?_
      refine at_skip ?_
      refine at_then_normal ?_
      refine at_seq ?_
      refine at_draw (by kernel_rfl) (by kernel_rfl) (fun _ h => h.drew) ?_
      refine atq_val rfl rfl rfl (r_load_aggc (c := c_api_Request) (z := (g0_, x0)) Try.isAgg27 Try.sizeOf27 rfl (lens_cell (.s .z) (Lens.whole _ _))) ?_
      refine atq_val rfl rfl rfl (r_load_aggc (c := c_api_Request) (z := (g1_, x1)) Try.isAgg27 Try.sizeOf27 rfl (lens_cell .z (Lens.whole _ _))) ?_
      obtain ⟨t9, ht9, hF⟩ := of_bindM hF
      refine atq_call Try.func22 rfl (by kernel_rfl) rfl rfl (fun w hw => (change_Same_ok _ _ _ _ _ ht9 w (N_api_Request.below hn0 hw.below) (N_api_Request.below hn1 hw.below)).mono fun _ _ h => ⟨h.1, hw.call h.2⟩) ?_
      refine atq_val rfl rfl rfl (r_load_aggc (c := c_api_Request) (z := (g0_, x0)) Try.isAgg27 Try.sizeOf27 rfl (lens_cell (.s .z) (Lens.whole _ _))) ?_
      refine atq_val rfl rfl rfl (r_load_aggc (c := c_api_Request) (z := (g1_, x1)) Try.isAgg27 Try.sizeOf27 rfl (lens_cell .z (Lens.whole _ _))) ?_
      obtain ⟨t10, ht10, hF⟩ := of_bindM hF
      refine atq_call Try.func20 rfl (by kernel_rfl) rfl rfl (fun w hw => (crawlwayref32_Same_ok _ _ _ _ _ ht10 w (N_api_Request.below hn0 hw.below) (N_api_Request.below hn1 hw.below)).mono fun _ _ h => ⟨h.1, hw.call h.2⟩) ?_
      refine atq_val rfl rfl rfl (r_bool Try.underlying4 rfl rfl (.inl rfl) rfl) ?_
      refine atq_val rfl rfl rfl (r_move rfl) ?_
      rcases of_ite hF with ⟨h11, hF⟩ | ⟨h11, hF⟩
      · refine atq_fix (g := 19) rfl h11 ?_
        refine atq_guard_yes rfl rfl rfl ?_
        refine atq_val rfl rfl rfl (r_load_aggc (c := c_api_Request) (z := (g0_, x0)) Try.isAgg27 Try.sizeOf27 rfl (lens_cell (.s .z) (Lens.whole _ _))) ?_
        refine atq_guard_yes rfl rfl rfl ?_
        refine atq_val rfl rfl rfl (r_load_aggc (c := c_api_Request) (z := (g0_, x0)) Try.isAgg27 Try.sizeOf27 rfl (lens_cell (.s .z) (Lens.whole _ _))) ?_
        refine atq_guard_yes rfl rfl rfl ?_
        obtain ⟨t12, ht12, hF⟩ := of_bindM hF
        refine atq_call Try.func22 rfl (by kernel_rfl) rfl rfl (fun w hw => (change_Same_ok _ _ _ _ _ ht12 w (N_api_Request.below hn0 hw.below) (N_api_Request.below hn0 hw.below)).mono fun _ _ h => ⟨h.1, hw.call h.2⟩) ?_
        refine atq_val rfl rfl rfl (r_pick rfl rfl rfl) ?_
        refine atq_val rfl rfl rfl (r_move rfl) ?_
        rcases of_ite hF with ⟨h13, hF⟩ | ⟨h13, hF⟩
        · refine atq_fix (g := 24) rfl h13 ?_
          refine atq_guard_yes rfl rfl rfl ?_
          obtain ⟨t14, ht14, hF⟩ := of_bindM hF
          refine atq_call Try.func14 rfl (by kernel_rfl) rfl rfl (fun w hw => (crawlwaylaw32_alive_ok  _ ht14 w).mono fun _ _ h => ⟨h.1, hw.call h.2⟩) ?_
          refine atq_val rfl rfl rfl (r_pick rfl rfl rfl) ?_
          refine atq_val rfl rfl rfl (r_assign rfl) ?_
          refine atq_nil ?_
          refine at_drop (H := _) .z ?_
          refine at_drop (H := _) .z ?_
          refine at_weak [(4, _)] ⟨rfl, trivial⟩ ?_
          refine at_then_normal ?_
          refine at_ret ?_
          have K := of_some hF
          subst K
          exact at_return1 rfl rfl (fun w1 hw => ⟨rfl, hw.below⟩)
        · refine atq_fix (g := 24) rfl h13 ?_
          refine atq_guard_no rfl rfl rfl rfl rfl ?_
          refine atq_val rfl rfl rfl (r_pick rfl rfl rfl) ?_
          refine atq_val rfl rfl rfl (r_assign rfl) ?_
          refine atq_nil ?_
          refine at_drop (H := _) .z ?_
          refine at_drop (H := _) .z ?_
          refine at_weak [(4, _)] ⟨rfl, trivial⟩ ?_
          refine at_then_normal ?_
          refine at_ret ?_
          have K := of_some hF
          subst K
          exact at_return1 rfl rfl (fun w1 hw => ⟨rfl, hw.below⟩)
      · refine atq_fix (g := 19) rfl h11 ?_
        refine atq_guard_no rfl rfl rfl rfl rfl ?_
        refine atq_guard_no rfl rfl rfl rfl rfl ?_
        refine atq_guard_no rfl rfl rfl rfl rfl ?_
        refine atq_val rfl rfl rfl (r_pick rfl rfl rfl) ?_
        refine atq_val rfl rfl rfl (r_move rfl) ?_
        refine atq_guard_no rfl rfl rfl rfl rfl ?_
        refine atq_val rfl rfl rfl (r_pick rfl rfl rfl) ?_
        refine atq_val rfl rfl rfl (r_assign rfl) ?_
        refine atq_nil ?_
        refine at_drop (H := _) .z ?_
        refine at_drop (H := _) .z ?_
        refine at_weak [(4, _)] ⟨rfl, trivial⟩ ?_
        refine at_then_normal ?_
        refine at_ret ?_
        have K := of_some hF
        subst K
        exact at_return1 rfl rfl (fun w1 hw => ⟨rfl, hw.below⟩)
end Go.Proofs.Ythccncpephpdjaa
