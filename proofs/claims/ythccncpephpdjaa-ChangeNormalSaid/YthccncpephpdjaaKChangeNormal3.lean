/- Texts of this claim, those in one that belong together; printed by a program of this project. -/
import Derived.Test.YthccncpephpdjaaProg
import Derived.Test.YthccncpephpdjaaKChangeNormal2
set_option linter.unusedVariables false
set_option linter.unusedSimpArgs false
namespace Go.Proofs.Ythccncpephpdjaa
open E Go.RowKit
def crawlwayref11_Same.l0 (x0 : List S_api_Prefix) (x1 : List S_api_Prefix) (i3 : Int) : Option (Ctl (Bool) (Unit)) :=
  if (decide (i3 < (x0.length : Int))) = true then (if (0 : Int) ≤ i3 ∧ i3 < (x0.length : Int) then if (0 : Int) ≤ i3 ∧ i3 < (x1.length : Int) then if (!decide (lget x0 i3 = lget x1 i3)) = true then (some (.ret false)) else (crawlwayref11_Same.l0 x0 x1 (wr .i64 (i3 + 1))) else none else none) else (some (.nx ()))
  partial_fixpoint
def crawlwayref11_Same (x0 : List S_api_Prefix) (x1 : List S_api_Prefix) : Option (Bool) :=
  if ((x0.length : Int) != (x1.length : Int)) = true then (some false) else (crawlwayref11_Same.l0 x0 x1 0 >>= fun q2 => match q2 with | .ret r' => some r' | .nx sq2 => (some true))
theorem crawlwayref11_Same_ok (x0 : List S_api_Prefix) (p0_ : Option Addr) (c0_ : Nat) (x1 : List S_api_Prefix) (p1_ : Option Addr) (c1_ : Nat) (r : Bool) (hF : crawlwayref11_Same x0 x1 = some r) (w : World) (hr0 : Row c_api_Prefix w p0_ c0_ x0) (hr1 : Row c_api_Prefix w p1_ c1_ x1) :
    Calls Try.prog 41 #[.slice p0_ x0.length c0_, .slice p1_ x1.length c1_] w (fun e w' => e = .returned (.bool r) ∧ Below w.heap.size w w') := by
 unfold crawlwayref11_Same at hF
 refine calls_enter (l := [.slice p0_ x0.length c0_, .slice p1_ x1.length c1_]) Try.func41 rfl rfl rfl ?_
 refine at_start ?_
 refine at_weak [(0, _), (1, _)] ⟨rfl, rfl, trivial⟩ ?_
 refine sr ?_
 refine av rfl (r_assign rfl) ?_
 refine nwt [(0, _), (1, _)] ⟨rfl, rfl, trivial⟩ ?_
 refine at_seq ?_
 refine sr ?_
 refine av rfl (r_move rfl) ?_
 refine av rfl (r_len_sl Try.underlying35 rfl) ?_
 refine av rfl (r_move rfl) ?_
 refine av rfl (r_len_sl Try.underlying35 rfl) ?_
 refine av rfl (r_ineq rfl rfl) ?_
 refine nwt [(0, _), (1, _), (10, _)] ⟨rfl, rfl, rfl, trivial⟩ ?_
 rcases of_ite hF with ⟨h1, hF⟩ | ⟨h1, hF⟩
 ·refine at_cond_true rfl h1 ?_
  refine sr ?_
  refine av rfl (r_assign rfl) ?_
  refine nwt [(4, _)] ⟨rfl, trivial⟩ ?_
  refine rt ?_
  have K := of_some hF
  subst K
  exact at_return1 rfl rfl (fun w1 hw => ⟨rfl, hw.below⟩)
 ·refine at_cond_false rfl h1 ?_
  refine sn ?_
  refine at_seq ?_
  refine sr ?_
  refine av rfl (r_assign rfl) ?_
  refine nwt [(0, _), (1, _), (5, _)] ⟨rfl, rfl, rfl, trivial⟩ ?_
  refine at_block ?_
  obtain ⟨q2, hq2, hF⟩ := of_bindM hF
  refine at_weak [(0, _), (1, _), (5, _)] ⟨rfl, rfl, rfl, trivial⟩ ?_
  refine at_loop_r (B := 0) (r := r) (q := q2) (A := fun (_ : Unit) Y => At 26 [] (Wd w []) Y) ?_ ?_
  ·intro K
   refine crawlwayref11_Same.l0.partial_correctness x0 x1 (motive := fun i3 x => KR (fun (_ : Unit) Y => At 26 [] (Wd w []) Y) _ 0 r x → Round (fun Y => At 26 [(0, .slice p0_ x0.length c0_), (1, .slice p1_ x1.length c1_), (5, .int .i64 i3)] (Wd w []) Y) _ _ _) ?_ _ _ hq2 K
   ·clear K hF
    intro g ih i3 x hF K
    refine at_round ?_
    refine at_seq ?_
    refine sr ?_
    refine av rfl (r_move rfl) ?_
    refine av rfl (r_move rfl) ?_
    refine av rfl (r_len_sl Try.underlying35 rfl) ?_
    refine av rfl (r_ilss rfl rfl) ?_
    refine nwt [(0, _), (1, _), (5, _), (14, _)] ⟨rfl, rfl, rfl, rfl, trivial⟩ ?_
    rcases of_ite hF with ⟨h4, hF⟩ | ⟨h4, hF⟩
    ·refine at_cond_true rfl h4 ?_
     refine sn ?_
     refine at_seq ?_
     refine at_block ?_
     refine at_seq ?_
     refine at_draw (by kernel_rfl) (by kernel_rfl) (fun _ h => h.drew) ?_
     refine atq_val rfl rfl rfl (r_move rfl) ?_
     refine atq_val rfl rfl rfl (r_move rfl) ?_
     obtain ⟨h5, hF⟩ := of_guard hF
     obtain ⟨b7, o8, hp6⟩ := row_ptr hr0 h5
     refine atq_val rfl rfl rfl (r_idx Try.underlying35 Try.sizeOf46 rfl rfl h5 hp6) ?_
     refine atq_val rfl rfl rfl (r_load_aggc (c := c_api_Prefix) (z := lget x0 i3) Try.isAgg46 Try.sizeOf46 rfl (row_cell (fun _ h => h.below) hr0 h5 hp6)) ?_
     refine atq_val rfl rfl rfl (r_move rfl) ?_
     refine atq_val rfl rfl rfl (r_move rfl) ?_
     obtain ⟨h9, hF⟩ := of_guard hF
     obtain ⟨b11, o12, hp10⟩ := row_ptr hr1 h9
     refine atq_val rfl rfl rfl (r_idx Try.underlying35 Try.sizeOf46 rfl rfl h9 hp10) ?_
     refine atq_val rfl rfl rfl (r_load_aggc (c := c_api_Prefix) (z := lget x1 i3) Try.isAgg46 Try.sizeOf46 rfl (row_cell (fun _ h => h.below) hr1 h9 hp10)) ?_
     refine atq_val rfl rfl rfl (r_eqagg (c := c_api_Prefix) (a := lget x0 i3) (b := lget x1 i3) (eq_api_Prefix_46) rfl Try.eqGuardType46 rfl rfl (.inr rfl) rfl) ?_
     refine atq_nil ?_
     refine at_weak [(0, _), (1, _), (5, _), (25, _)] ⟨rfl, rfl, rfl, rfl, trivial⟩ ?_
     refine at_then_normal ?_
     rcases of_ite hF with ⟨h13, hF⟩ | ⟨h13, hF⟩
     ·refine at_cond_true rfl h13 ?_
      refine sr ?_
      refine av rfl (r_assign rfl) ?_
      refine nwt [(4, _)] ⟨rfl, trivial⟩ ?_
      refine at_ret ?_
      refine at_blk_ret (at_then_ret (at_then_ret (at_blk_ret (at_then_ret ?_))))
      obtain rfl := of_some hF
      subst K
      exact at_return1 rfl rfl (fun w1 hw => ⟨rfl, hw.below⟩)
     ·refine at_cond_false rfl h13 ?_
      refine at_skip ?_
      refine at_blk_normal (at_then_normal ?_)
      refine at_region ?_
      refine av rfl (r_move rfl) ?_
      refine av rfl (r_iadd rfl rfl) ?_
      refine av rfl (r_assign rfl) ?_
      refine nwt [(0, _), (1, _), (5, _)] ⟨rfl, rfl, rfl, trivial⟩ ?_
      exact at_weak_k (ih _ _ hF K) ⟨rfl, rfl, rfl, trivial⟩
    ·refine at_cond_false rfl h4 ?_
     refine at_exit ?_
     refine at_then_exit (at_then_exit ?_)
     obtain rfl := of_some hF
     exact at_weak_k K trivial
  ·cases q2 with
   | ret r' => exact of_some hF
   | nx sq2 =>
    skip
    refine at_blk_same ?_
    refine at_then_normal ?_
    refine sr ?_
    refine av rfl (r_assign rfl) ?_
    refine nwt [(4, _)] ⟨rfl, trivial⟩ ?_
    refine at_ret ?_
    have K := of_some hF
    subst K
    exact at_return1 rfl rfl (fun w1 hw => ⟨rfl, hw.below⟩)
def crawlwayref32_SamePeer (x0 : S_api_PeerChange) (x1 : S_api_PeerChange) : Option (Bool) :=
  if (decide (x0.f_Key = x1.f_Key)) = true then (if (x0.f_Remove == x1.f_Remove) = true then (if (x0.f_Update == x1.f_Update) = true then (if (x0.f_HasPsk == x1.f_HasPsk) = true then (if (decide (x0.f_Psk = x1.f_Psk)) = true then (if (x0.f_HasEnd == x1.f_HasEnd) = true then (if (decide (x0.f_End = x1.f_End)) = true then (if (x0.f_HasKeep == x1.f_HasKeep) = true then (if (x0.f_Keep == x1.f_Keep) = true then (if (x0.f_Replace == x1.f_Replace) = true then (crawlwayref11_Same x0.f_Allowed x1.f_Allowed >>= fun t13 => some t13) else (some false)) else (some false)) else (some false)) else (some false)) else (some false)) else (some false)) else (some false)) else (some false)) else (some false)) else (some false)
theorem crawlwayref32_SamePeer_ok (g0_ : G_api_PeerChange) (x0 : S_api_PeerChange) (g1_ : G_api_PeerChange) (x1 : S_api_PeerChange) (r : Bool) (hF : crawlwayref32_SamePeer x0 x1 = some r) (w : World) (hn0 : N_api_PeerChange w (g0_, x0)) (hn1 : N_api_PeerChange w (g1_, x1)) :
    Calls Try.prog 62 #[.agg (Cd.cs c_api_PeerChange (g0_, x0)).toArray, .agg (Cd.cs c_api_PeerChange (g1_, x1)).toArray] w (fun e w' => e = .returned (.bool r) ∧ Below w.heap.size w w') := by
 unfold crawlwayref32_SamePeer at hF
 refine calls_enter (l := [.agg (Cd.cs c_api_PeerChange (g0_, x0)).toArray, .agg (Cd.cs c_api_PeerChange (g1_, x1)).toArray]) Try.func62 rfl rfl rfl ?_
 refine at_start ?_
 refine at_weak [(0, _), (1, _)] ⟨rfl, rfl, trivial⟩ ?_
 refine sr ?_
 refine at_box (cs := Cd.cs c_api_PeerChange (g0_, x0)) rfl rfl rfl ?_
 intro b1
 refine at_box (cs := Cd.cs c_api_PeerChange (g1_, x1)) rfl rfl rfl ?_
 intro b2
 refine av rfl (r_assign rfl) ?_
 refine nws [(2, _), (3, _)] ⟨rfl, rfl, trivial⟩ ?_
 refine av rfl (r_fieldAddr (fo := 0) Try.underlying37 rfl rfl (fun w => ⟨_, Try.sizeOf23 w⟩) rfl) ?_
 refine av rfl (r_load_aggc (c := (cVec (cInt .u8) 32 (by decide))) (z := x0.f_Key) Try.isAgg23 Try.sizeOf23 rfl (lens_cell (.s .z) (c_api_PeerChange_f_Key g0_ x0))) ?_
 refine av rfl (r_fieldAddr (fo := 0) Try.underlying37 rfl rfl (fun w => ⟨_, Try.sizeOf23 w⟩) rfl) ?_
 refine av rfl (r_load_aggc (c := (cVec (cInt .u8) 32 (by decide))) (z := x1.f_Key) Try.isAgg23 Try.sizeOf23 rfl (lens_cell .z (c_api_PeerChange_f_Key g1_ x1))) ?_
 refine av rfl (r_eqagg (c := (cVec (cInt .u8) 32 (by decide))) (a := x0.f_Key) (b := x1.f_Key) (eqs_vec Try.underlying23 infoT5 Try.sizeOf5 Try.isAgg5 (.inr rfl) (eqs_int Try.underlying5)) rfl Try.eqGuardType23 rfl rfl (.inl rfl) rfl) ?_
 refine av rfl (r_move rfl) ?_
 rcases of_ite hF with ⟨h3, hF⟩ | ⟨h3, hF⟩
 ·refine at_fix (g := 10) rfl h3 ?_
  refine at_guard_yes rfl rfl rfl ?_
  refine av rfl (r_fieldAddr (fo := 32) Try.underlying37 rfl rfl (fun w => ⟨_, Try.sizeOf4 w⟩) rfl) ?_
  refine at_guard_yes rfl rfl rfl ?_
  refine av rfl (r_load_cell Try.isAgg4 rfl (lens_cell0 (c := cBool) (y := x0.f_Remove) (.s .z) (c_api_PeerChange_f_Remove g0_ x0) rfl)) ?_
  refine at_guard_yes rfl rfl rfl ?_
  refine av rfl (r_fieldAddr (fo := 32) Try.underlying37 rfl rfl (fun w => ⟨_, Try.sizeOf4 w⟩) rfl) ?_
  refine at_guard_yes rfl rfl rfl ?_
  refine av rfl (r_load_cell Try.isAgg4 rfl (lens_cell0 (c := cBool) (y := x1.f_Remove) .z (c_api_PeerChange_f_Remove g1_ x1) rfl)) ?_
  refine at_guard_yes rfl rfl rfl ?_
  refine av rfl (r_bool Try.underlying4 rfl rfl (.inl rfl) rfl) ?_
  refine av rfl (r_pick rfl rfl rfl) ?_
  refine av rfl (r_move rfl) ?_
  rcases of_ite hF with ⟨h4, hF⟩ | ⟨h4, hF⟩
  ·refine at_fix (g := 17) rfl h4 ?_
   refine at_guard_yes rfl rfl rfl ?_
   refine av rfl (r_fieldAddr (fo := 33) Try.underlying37 rfl rfl (fun w => ⟨_, Try.sizeOf4 w⟩) rfl) ?_
   refine at_guard_yes rfl rfl rfl ?_
   refine av rfl (r_load_cell Try.isAgg4 rfl (lens_cell0 (c := cBool) (y := x0.f_Update) (.s .z) (c_api_PeerChange_f_Update g0_ x0) rfl)) ?_
   refine at_guard_yes rfl rfl rfl ?_
   refine av rfl (r_fieldAddr (fo := 33) Try.underlying37 rfl rfl (fun w => ⟨_, Try.sizeOf4 w⟩) rfl) ?_
   refine at_guard_yes rfl rfl rfl ?_
   refine av rfl (r_load_cell Try.isAgg4 rfl (lens_cell0 (c := cBool) (y := x1.f_Update) .z (c_api_PeerChange_f_Update g1_ x1) rfl)) ?_
   refine at_guard_yes rfl rfl rfl ?_
   refine av rfl (r_bool Try.underlying4 rfl rfl (.inl rfl) rfl) ?_
   refine av rfl (r_pick rfl rfl rfl) ?_
   refine av rfl (r_move rfl) ?_
   rcases of_ite hF with ⟨h5, hF⟩ | ⟨h5, hF⟩
   ·refine at_fix (g := 24) rfl h5 ?_
    refine at_guard_yes rfl rfl rfl ?_
    refine av rfl (r_fieldAddr (fo := 34) Try.underlying37 rfl rfl (fun w => ⟨_, Try.sizeOf4 w⟩) rfl) ?_
    refine at_guard_yes rfl rfl rfl ?_
    refine av rfl (r_load_cell Try.isAgg4 rfl (lens_cell0 (c := cBool) (y := x0.f_HasPsk) (.s .z) (c_api_PeerChange_f_HasPsk g0_ x0) rfl)) ?_
    refine at_guard_yes rfl rfl rfl ?_
    refine av rfl (r_fieldAddr (fo := 34) Try.underlying37 rfl rfl (fun w => ⟨_, Try.sizeOf4 w⟩) rfl) ?_
    refine at_guard_yes rfl rfl rfl ?_
    refine av rfl (r_load_cell Try.isAgg4 rfl (lens_cell0 (c := cBool) (y := x1.f_HasPsk) .z (c_api_PeerChange_f_HasPsk g1_ x1) rfl)) ?_
    refine at_guard_yes rfl rfl rfl ?_
    refine av rfl (r_bool Try.underlying4 rfl rfl (.inl rfl) rfl) ?_
    refine av rfl (r_pick rfl rfl rfl) ?_
    refine av rfl (r_move rfl) ?_
    rcases of_ite hF with ⟨h6, hF⟩ | ⟨h6, hF⟩
    ·refine at_fix (g := 31) rfl h6 ?_
     refine at_guard_yes rfl rfl rfl ?_
     refine av rfl (r_fieldAddr (fo := 35) Try.underlying37 rfl rfl (fun w => ⟨_, Try.sizeOf23 w⟩) rfl) ?_
     refine at_guard_yes rfl rfl rfl ?_
     refine av rfl (r_load_aggc (c := (cVec (cInt .u8) 32 (by decide))) (z := x0.f_Psk) Try.isAgg23 Try.sizeOf23 rfl (lens_cell (.s .z) (c_api_PeerChange_f_Psk g0_ x0))) ?_
     refine at_guard_yes rfl rfl rfl ?_
     refine av rfl (r_fieldAddr (fo := 35) Try.underlying37 rfl rfl (fun w => ⟨_, Try.sizeOf23 w⟩) rfl) ?_
     refine at_guard_yes rfl rfl rfl ?_
     refine av rfl (r_load_aggc (c := (cVec (cInt .u8) 32 (by decide))) (z := x1.f_Psk) Try.isAgg23 Try.sizeOf23 rfl (lens_cell .z (c_api_PeerChange_f_Psk g1_ x1))) ?_
     refine at_guard_yes rfl rfl rfl ?_
     refine av rfl (r_eqagg (c := (cVec (cInt .u8) 32 (by decide))) (a := x0.f_Psk) (b := x1.f_Psk) (eqs_vec Try.underlying23 infoT5 Try.sizeOf5 Try.isAgg5 (.inr rfl) (eqs_int Try.underlying5)) rfl Try.eqGuardType23 rfl rfl (.inl rfl) rfl) ?_
     refine av rfl (r_pick rfl rfl rfl) ?_
     refine av rfl (r_move rfl) ?_
     rcases of_ite hF with ⟨h7, hF⟩ | ⟨h7, hF⟩
     ·refine at_fix (g := 38) rfl h7 ?_
      refine at_guard_yes rfl rfl rfl ?_
      refine av rfl (r_fieldAddr (fo := 67) Try.underlying37 rfl rfl (fun w => ⟨_, Try.sizeOf4 w⟩) rfl) ?_
      refine at_guard_yes rfl rfl rfl ?_
      refine av rfl (r_load_cell Try.isAgg4 rfl (lens_cell0 (c := cBool) (y := x0.f_HasEnd) (.s .z) (c_api_PeerChange_f_HasEnd g0_ x0) rfl)) ?_
      refine at_guard_yes rfl rfl rfl ?_
      refine av rfl (r_fieldAddr (fo := 67) Try.underlying37 rfl rfl (fun w => ⟨_, Try.sizeOf4 w⟩) rfl) ?_
      refine at_guard_yes rfl rfl rfl ?_
      refine av rfl (r_load_cell Try.isAgg4 rfl (lens_cell0 (c := cBool) (y := x1.f_HasEnd) .z (c_api_PeerChange_f_HasEnd g1_ x1) rfl)) ?_
      refine at_guard_yes rfl rfl rfl ?_
      refine av rfl (r_bool Try.underlying4 rfl rfl (.inl rfl) rfl) ?_
      refine av rfl (r_pick rfl rfl rfl) ?_
      refine av rfl (r_move rfl) ?_
      rcases of_ite hF with ⟨h8, hF⟩ | ⟨h8, hF⟩
      ·refine at_fix (g := 45) rfl h8 ?_
       refine at_guard_yes rfl rfl rfl ?_
       refine av rfl (r_fieldAddr (fo := 68) Try.underlying37 rfl rfl (fun w => ⟨_, Try.sizeOf34 w⟩) rfl) ?_
       refine at_guard_yes rfl rfl rfl ?_
       refine av rfl (r_load_aggc (c := c_api_Endpoint) (z := x0.f_End) Try.isAgg34 Try.sizeOf34 rfl (lens_cell (.s .z) (c_api_PeerChange_f_End g0_ x0))) ?_
       refine at_guard_yes rfl rfl rfl ?_
       refine av rfl (r_fieldAddr (fo := 68) Try.underlying37 rfl rfl (fun w => ⟨_, Try.sizeOf34 w⟩) rfl) ?_
       refine at_guard_yes rfl rfl rfl ?_
       refine av rfl (r_load_aggc (c := c_api_Endpoint) (z := x1.f_End) Try.isAgg34 Try.sizeOf34 rfl (lens_cell .z (c_api_PeerChange_f_End g1_ x1))) ?_
       refine at_guard_yes rfl rfl rfl ?_
       refine av rfl (r_eqagg (c := c_api_Endpoint) (a := x0.f_End) (b := x1.f_End) (eq_api_Endpoint_34) rfl Try.eqGuardType34 rfl rfl (.inl rfl) rfl) ?_
       refine av rfl (r_pick rfl rfl rfl) ?_
       refine av rfl (r_move rfl) ?_
       rcases of_ite hF with ⟨h9, hF⟩ | ⟨h9, hF⟩
       ·refine at_fix (g := 52) rfl h9 ?_
        refine at_guard_yes rfl rfl rfl ?_
        refine av rfl (r_fieldAddr (fo := 86) Try.underlying37 rfl rfl (fun w => ⟨_, Try.sizeOf4 w⟩) rfl) ?_
        refine at_guard_yes rfl rfl rfl ?_
        refine av rfl (r_load_cell Try.isAgg4 rfl (lens_cell0 (c := cBool) (y := x0.f_HasKeep) (.s .z) (c_api_PeerChange_f_HasKeep g0_ x0) rfl)) ?_
        refine at_guard_yes rfl rfl rfl ?_
        refine av rfl (r_fieldAddr (fo := 86) Try.underlying37 rfl rfl (fun w => ⟨_, Try.sizeOf4 w⟩) rfl) ?_
        refine at_guard_yes rfl rfl rfl ?_
        refine av rfl (r_load_cell Try.isAgg4 rfl (lens_cell0 (c := cBool) (y := x1.f_HasKeep) .z (c_api_PeerChange_f_HasKeep g1_ x1) rfl)) ?_
        refine at_guard_yes rfl rfl rfl ?_
        refine av rfl (r_bool Try.underlying4 rfl rfl (.inl rfl) rfl) ?_
        refine av rfl (r_pick rfl rfl rfl) ?_
        refine av rfl (r_move rfl) ?_
        rcases of_ite hF with ⟨h10, hF⟩ | ⟨h10, hF⟩
        ·refine at_fix (g := 59) rfl h10 ?_
         refine at_guard_yes rfl rfl rfl ?_
         refine av rfl (r_fieldAddr (fo := 87) Try.underlying37 rfl rfl (fun w => ⟨_, Try.sizeOf3 w⟩) rfl) ?_
         refine at_guard_yes rfl rfl rfl ?_
         refine av rfl (r_load_cell Try.isAgg3 rfl (lens_cell0 (c := (cInt .i64)) (y := x0.f_Keep) (.s .z) (c_api_PeerChange_f_Keep g0_ x0) rfl)) ?_
         refine at_guard_yes rfl rfl rfl ?_
         refine av rfl (r_fieldAddr (fo := 87) Try.underlying37 rfl rfl (fun w => ⟨_, Try.sizeOf3 w⟩) rfl) ?_
         refine at_guard_yes rfl rfl rfl ?_
         refine av rfl (r_load_cell Try.isAgg3 rfl (lens_cell0 (c := (cInt .i64)) (y := x1.f_Keep) .z (c_api_PeerChange_f_Keep g1_ x1) rfl)) ?_
         refine at_guard_yes rfl rfl rfl ?_
         refine av rfl (r_ieql rfl rfl) ?_
         refine av rfl (r_pick rfl rfl rfl) ?_
         refine av rfl (r_move rfl) ?_
         rcases of_ite hF with ⟨h11, hF⟩ | ⟨h11, hF⟩
         ·refine at_fix (g := 66) rfl h11 ?_
          refine at_guard_yes rfl rfl rfl ?_
          refine av rfl (r_fieldAddr (fo := 88) Try.underlying37 rfl rfl (fun w => ⟨_, Try.sizeOf4 w⟩) rfl) ?_
          refine at_guard_yes rfl rfl rfl ?_
          refine av rfl (r_load_cell Try.isAgg4 rfl (lens_cell0 (c := cBool) (y := x0.f_Replace) (.s .z) (c_api_PeerChange_f_Replace g0_ x0) rfl)) ?_
          refine at_guard_yes rfl rfl rfl ?_
          refine av rfl (r_fieldAddr (fo := 88) Try.underlying37 rfl rfl (fun w => ⟨_, Try.sizeOf4 w⟩) rfl) ?_
          refine at_guard_yes rfl rfl rfl ?_
          refine av rfl (r_load_cell Try.isAgg4 rfl (lens_cell0 (c := cBool) (y := x1.f_Replace) .z (c_api_PeerChange_f_Replace g1_ x1) rfl)) ?_
          refine at_guard_yes rfl rfl rfl ?_
          refine av rfl (r_bool Try.underlying4 rfl rfl (.inl rfl) rfl) ?_
          refine av rfl (r_pick rfl rfl rfl) ?_
          refine av rfl (r_move rfl) ?_
          rcases of_ite hF with ⟨h12, hF⟩ | ⟨h12, hF⟩
          ·refine at_fix (g := 73) rfl h12 ?_
           refine at_guard_yes rfl rfl rfl ?_
           refine av rfl (r_fieldAddr (fo := 89) Try.underlying37 rfl rfl (fun w => ⟨_, Try.sizeOf35 w⟩) rfl) ?_
           refine at_guard_yes rfl rfl rfl ?_
           refine av rfl (r_load_cell Try.isAgg35 rfl (lens_cell0 (c := cHd) (y := ⟨g0_.1, List.length x0.f_Allowed, g0_.2⟩) (.s .z) (c_api_PeerChange_f_Allowed g0_ x0) rfl)) ?_
           refine at_guard_yes rfl rfl rfl ?_
           refine av rfl (r_fieldAddr (fo := 89) Try.underlying37 rfl rfl (fun w => ⟨_, Try.sizeOf35 w⟩) rfl) ?_
           refine at_guard_yes rfl rfl rfl ?_
           refine av rfl (r_load_cell Try.isAgg35 rfl (lens_cell0 (c := cHd) (y := ⟨g1_.1, List.length x1.f_Allowed, g1_.2⟩) .z (c_api_PeerChange_f_Allowed g1_ x1) rfl)) ?_
           refine at_guard_yes rfl rfl rfl ?_
           obtain ⟨t13, ht13, hF⟩ := of_bindM hF
           refine at_callB Try.func41 rfl (by kernel_rfl) rfl rfl (fun w hw => crawlwayref11_Same_ok _ _ _ _ _ _ _ ht13 w (hn0.below hw.below) (hn1.below hw.below)) ?_
           refine av rfl (r_pick rfl rfl rfl) ?_
           refine av rfl (r_assign rfl) ?_
           refine at_nil ?_
           refine at_drop (H := _) .z ?_
           refine at_drop (H := _) .z ?_
           refine at_weak [(4, _)] ⟨rfl, trivial⟩ ?_
           refine at_then_normal ?_
           refine at_ret ?_
           have K := of_some hF
           subst K
           exact at_return1 rfl rfl (fun w1 hw => ⟨rfl, hw.below⟩)
          ·refine at_fix (g := 73) rfl h12 ?_
           refine at_guard_no rfl rfl rfl rfl rfl ?_
           refine at_guard_no rfl rfl rfl rfl rfl ?_
           refine at_guard_no rfl rfl rfl rfl rfl ?_
           refine at_guard_no rfl rfl rfl rfl rfl ?_
           refine at_guard_no rfl rfl rfl rfl rfl ?_
           refine av rfl (r_pick rfl rfl rfl) ?_
           refine av rfl (r_assign rfl) ?_
           refine at_nil ?_
           refine at_drop (H := _) .z ?_
           refine at_drop (H := _) .z ?_
           refine at_weak [(4, _)] ⟨rfl, trivial⟩ ?_
           refine at_then_normal ?_
           refine at_ret ?_
           have K := of_some hF
           subst K
           exact at_return1 rfl rfl (fun w1 hw => ⟨rfl, hw.below⟩)
         ·refine at_fix (g := 66) rfl h11 ?_
          refine at_guard_no rfl rfl rfl rfl rfl ?_
          refine at_guard_no rfl rfl rfl rfl rfl ?_
          refine at_guard_no rfl rfl rfl rfl rfl ?_
          refine at_guard_no rfl rfl rfl rfl rfl ?_
          refine at_guard_no rfl rfl rfl rfl rfl ?_
          refine av rfl (r_pick rfl rfl rfl) ?_
          refine av rfl (r_move rfl) ?_
          refine at_guard_no rfl rfl rfl rfl rfl ?_
          refine at_guard_no rfl rfl rfl rfl rfl ?_
          refine at_guard_no rfl rfl rfl rfl rfl ?_
          refine at_guard_no rfl rfl rfl rfl rfl ?_
          refine at_guard_no rfl rfl rfl rfl rfl ?_
          refine av rfl (r_pick rfl rfl rfl) ?_
          refine av rfl (r_assign rfl) ?_
          refine at_nil ?_
          refine at_drop (H := _) .z ?_
          refine at_drop (H := _) .z ?_
          refine at_weak [(4, _)] ⟨rfl, trivial⟩ ?_
          refine at_then_normal ?_
          refine at_ret ?_
          have K := of_some hF
          subst K
          exact at_return1 rfl rfl (fun w1 hw => ⟨rfl, hw.below⟩)
        ·refine at_fix (g := 59) rfl h10 ?_
         refine at_guard_no rfl rfl rfl rfl rfl ?_
         refine at_guard_no rfl rfl rfl rfl rfl ?_
         refine at_guard_no rfl rfl rfl rfl rfl ?_
         refine at_guard_no rfl rfl rfl rfl rfl ?_
         refine at_guard_no rfl rfl rfl rfl rfl ?_
         refine av rfl (r_pick rfl rfl rfl) ?_
         refine av rfl (r_move rfl) ?_
         refine at_guard_no rfl rfl rfl rfl rfl ?_
         refine at_guard_no rfl rfl rfl rfl rfl ?_
         refine at_guard_no rfl rfl rfl rfl rfl ?_
         refine at_guard_no rfl rfl rfl rfl rfl ?_
         refine at_guard_no rfl rfl rfl rfl rfl ?_
         refine av rfl (r_pick rfl rfl rfl) ?_
         refine av rfl (r_move rfl) ?_
         refine at_guard_no rfl rfl rfl rfl rfl ?_
         refine at_guard_no rfl rfl rfl rfl rfl ?_
         refine at_guard_no rfl rfl rfl rfl rfl ?_
         refine at_guard_no rfl rfl rfl rfl rfl ?_
         refine at_guard_no rfl rfl rfl rfl rfl ?_
         refine av rfl (r_pick rfl rfl rfl) ?_
         refine av rfl (r_assign rfl) ?_
         refine at_nil ?_
         refine at_drop (H := _) .z ?_
         refine at_drop (H := _) .z ?_
         refine at_weak [(4, _)] ⟨rfl, trivial⟩ ?_
         refine at_then_normal ?_
         refine at_ret ?_
         have K := of_some hF
         subst K
         exact at_return1 rfl rfl (fun w1 hw => ⟨rfl, hw.below⟩)
       ·refine at_fix (g := 52) rfl h9 ?_
        refine at_guard_no rfl rfl rfl rfl rfl ?_
        refine at_guard_no rfl rfl rfl rfl rfl ?_
        refine at_guard_no rfl rfl rfl rfl rfl ?_
        refine at_guard_no rfl rfl rfl rfl rfl ?_
        refine at_guard_no rfl rfl rfl rfl rfl ?_
        refine av rfl (r_pick rfl rfl rfl) ?_
        refine av rfl (r_move rfl) ?_
        refine at_guard_no rfl rfl rfl rfl rfl ?_
        refine at_guard_no rfl rfl rfl rfl rfl ?_
        refine at_guard_no rfl rfl rfl rfl rfl ?_
        refine at_guard_no rfl rfl rfl rfl rfl ?_
        refine at_guard_no rfl rfl rfl rfl rfl ?_
        refine av rfl (r_pick rfl rfl rfl) ?_
        refine av rfl (r_move rfl) ?_
        refine at_guard_no rfl rfl rfl rfl rfl ?_
        refine at_guard_no rfl rfl rfl rfl rfl ?_
        refine at_guard_no rfl rfl rfl rfl rfl ?_
        refine at_guard_no rfl rfl rfl rfl rfl ?_
        refine at_guard_no rfl rfl rfl rfl rfl ?_
        refine av rfl (r_pick rfl rfl rfl) ?_
        refine av rfl (r_move rfl) ?_
        refine at_guard_no rfl rfl rfl rfl rfl ?_
        refine at_guard_no rfl rfl rfl rfl rfl ?_
        refine at_guard_no rfl rfl rfl rfl rfl ?_
        refine at_guard_no rfl rfl rfl rfl rfl ?_
        refine at_guard_no rfl rfl rfl rfl rfl ?_
        refine av rfl (r_pick rfl rfl rfl) ?_
        refine av rfl (r_assign rfl) ?_
        refine at_nil ?_
        refine at_drop (H := _) .z ?_
        refine at_drop (H := _) .z ?_
        refine at_weak [(4, _)] ⟨rfl, trivial⟩ ?_
        refine at_then_normal ?_
        refine at_ret ?_
        have K := of_some hF
        subst K
        exact at_return1 rfl rfl (fun w1 hw => ⟨rfl, hw.below⟩)
      ·refine at_fix (g := 45) rfl h8 ?_
       refine at_guard_no rfl rfl rfl rfl rfl ?_
       refine at_guard_no rfl rfl rfl rfl rfl ?_
       refine at_guard_no rfl rfl rfl rfl rfl ?_
       refine at_guard_no rfl rfl rfl rfl rfl ?_
       refine at_guard_no rfl rfl rfl rfl rfl ?_
       refine av rfl (r_pick rfl rfl rfl) ?_
       refine av rfl (r_move rfl) ?_
       refine at_guard_no rfl rfl rfl rfl rfl ?_
       refine at_guard_no rfl rfl rfl rfl rfl ?_
       refine at_guard_no rfl rfl rfl rfl rfl ?_
       refine at_guard_no rfl rfl rfl rfl rfl ?_
       refine at_guard_no rfl rfl rfl rfl rfl ?_
       refine av rfl (r_pick rfl rfl rfl) ?_
       refine av rfl (r_move rfl) ?_
       refine at_guard_no rfl rfl rfl rfl rfl ?_
       refine at_guard_no rfl rfl rfl rfl rfl ?_
       refine at_guard_no rfl rfl rfl rfl rfl ?_
       refine at_guard_no rfl rfl rfl rfl rfl ?_
       refine at_guard_no rfl rfl rfl rfl rfl ?_
       refine av rfl (r_pick rfl rfl rfl) ?_
       refine av rfl (r_move rfl) ?_
       refine at_guard_no rfl rfl rfl rfl rfl ?_
       refine at_guard_no rfl rfl rfl rfl rfl ?_
       refine at_guard_no rfl rfl rfl rfl rfl ?_
       refine at_guard_no rfl rfl rfl rfl rfl ?_
       refine at_guard_no rfl rfl rfl rfl rfl ?_
       refine av rfl (r_pick rfl rfl rfl) ?_
       refine av rfl (r_move rfl) ?_
       refine at_guard_no rfl rfl rfl rfl rfl ?_
       refine at_guard_no rfl rfl rfl rfl rfl ?_
       refine at_guard_no rfl rfl rfl rfl rfl ?_
       refine at_guard_no rfl rfl rfl rfl rfl ?_
       refine at_guard_no rfl rfl rfl rfl rfl ?_
       refine av rfl (r_pick rfl rfl rfl) ?_
       refine av rfl (r_assign rfl) ?_
       refine at_nil ?_
       refine at_drop (H := _) .z ?_
       refine at_drop (H := _) .z ?_
       refine at_weak [(4, _)] ⟨rfl, trivial⟩ ?_
       refine at_then_normal ?_
       refine at_ret ?_
       have K := of_some hF
       subst K
       exact at_return1 rfl rfl (fun w1 hw => ⟨rfl, hw.below⟩)
     ·refine at_fix (g := 38) rfl h7 ?_
      refine at_guard_no rfl rfl rfl rfl rfl ?_
      refine at_guard_no rfl rfl rfl rfl rfl ?_
      refine at_guard_no rfl rfl rfl rfl rfl ?_
      refine at_guard_no rfl rfl rfl rfl rfl ?_
      refine at_guard_no rfl rfl rfl rfl rfl ?_
      refine av rfl (r_pick rfl rfl rfl) ?_
      refine av rfl (r_move rfl) ?_
      refine at_guard_no rfl rfl rfl rfl rfl ?_
      refine at_guard_no rfl rfl rfl rfl rfl ?_
      refine at_guard_no rfl rfl rfl rfl rfl ?_
      refine at_guard_no rfl rfl rfl rfl rfl ?_
      refine at_guard_no rfl rfl rfl rfl rfl ?_
      refine av rfl (r_pick rfl rfl rfl) ?_
      refine av rfl (r_move rfl) ?_
      refine at_guard_no rfl rfl rfl rfl rfl ?_
      refine at_guard_no rfl rfl rfl rfl rfl ?_
      refine at_guard_no rfl rfl rfl rfl rfl ?_
      refine at_guard_no rfl rfl rfl rfl rfl ?_
      refine at_guard_no rfl rfl rfl rfl rfl ?_
      refine av rfl (r_pick rfl rfl rfl) ?_
      refine av rfl (r_move rfl) ?_
      refine at_guard_no rfl rfl rfl rfl rfl ?_
      refine at_guard_no rfl rfl rfl rfl rfl ?_
      refine at_guard_no rfl rfl rfl rfl rfl ?_
      refine at_guard_no rfl rfl rfl rfl rfl ?_
      refine at_guard_no rfl rfl rfl rfl rfl ?_
      refine av rfl (r_pick rfl rfl rfl) ?_
      refine av rfl (r_move rfl) ?_
      refine at_guard_no rfl rfl rfl rfl rfl ?_
      refine at_guard_no rfl rfl rfl rfl rfl ?_
      refine at_guard_no rfl rfl rfl rfl rfl ?_
      refine at_guard_no rfl rfl rfl rfl rfl ?_
      refine at_guard_no rfl rfl rfl rfl rfl ?_
      refine av rfl (r_pick rfl rfl rfl) ?_
      refine av rfl (r_move rfl) ?_
      refine at_guard_no rfl rfl rfl rfl rfl ?_
      refine at_guard_no rfl rfl rfl rfl rfl ?_
      refine at_guard_no rfl rfl rfl rfl rfl ?_
      refine at_guard_no rfl rfl rfl rfl rfl ?_
      refine at_guard_no rfl rfl rfl rfl rfl ?_
      refine av rfl (r_pick rfl rfl rfl) ?_
      refine av rfl (r_assign rfl) ?_
      refine at_nil ?_
      refine at_drop (H := _) .z ?_
      refine at_drop (H := _) .z ?_
      refine at_weak [(4, _)] ⟨rfl, trivial⟩ ?_
      refine at_then_normal ?_
      refine at_ret ?_
      have K := of_some hF
      subst K
      exact at_return1 rfl rfl (fun w1 hw => ⟨rfl, hw.below⟩)
    ·refine at_fix (g := 31) rfl h6 ?_
     refine at_guard_no rfl rfl rfl rfl rfl ?_
     refine at_guard_no rfl rfl rfl rfl rfl ?_
     refine at_guard_no rfl rfl rfl rfl rfl ?_
     refine at_guard_no rfl rfl rfl rfl rfl ?_
     refine at_guard_no rfl rfl rfl rfl rfl ?_
     refine av rfl (r_pick rfl rfl rfl) ?_
     refine av rfl (r_move rfl) ?_
     refine at_guard_no rfl rfl rfl rfl rfl ?_
     refine at_guard_no rfl rfl rfl rfl rfl ?_
     refine at_guard_no rfl rfl rfl rfl rfl ?_
     refine at_guard_no rfl rfl rfl rfl rfl ?_
     refine at_guard_no rfl rfl rfl rfl rfl ?_
     refine av rfl (r_pick rfl rfl rfl) ?_
     refine av rfl (r_move rfl) ?_
     refine at_guard_no rfl rfl rfl rfl rfl ?_
     refine at_guard_no rfl rfl rfl rfl rfl ?_
     refine at_guard_no rfl rfl rfl rfl rfl ?_
     refine at_guard_no rfl rfl rfl rfl rfl ?_
     refine at_guard_no rfl rfl rfl rfl rfl ?_
     refine av rfl (r_pick rfl rfl rfl) ?_
     refine av rfl (r_move rfl) ?_
     refine at_guard_no rfl rfl rfl rfl rfl ?_
     refine at_guard_no rfl rfl rfl rfl rfl ?_
     refine at_guard_no rfl rfl rfl rfl rfl ?_
     refine at_guard_no rfl rfl rfl rfl rfl ?_
     refine at_guard_no rfl rfl rfl rfl rfl ?_
     refine av rfl (r_pick rfl rfl rfl) ?_
     refine av rfl (r_move rfl) ?_
     refine at_guard_no rfl rfl rfl rfl rfl ?_
     refine at_guard_no rfl rfl rfl rfl rfl ?_
     refine at_guard_no rfl rfl rfl rfl rfl ?_
     refine at_guard_no rfl rfl rfl rfl rfl ?_
     refine at_guard_no rfl rfl rfl rfl rfl ?_
     refine av rfl (r_pick rfl rfl rfl) ?_
     refine av rfl (r_move rfl) ?_
     refine at_guard_no rfl rfl rfl rfl rfl ?_
     refine at_guard_no rfl rfl rfl rfl rfl ?_
     refine at_guard_no rfl rfl rfl rfl rfl ?_
     refine at_guard_no rfl rfl rfl rfl rfl ?_
     refine at_guard_no rfl rfl rfl rfl rfl ?_
     refine av rfl (r_pick rfl rfl rfl) ?_
     refine av rfl (r_move rfl) ?_
     refine at_guard_no rfl rfl rfl rfl rfl ?_
     refine at_guard_no rfl rfl rfl rfl rfl ?_
     refine at_guard_no rfl rfl rfl rfl rfl ?_
     refine at_guard_no rfl rfl rfl rfl rfl ?_
     refine at_guard_no rfl rfl rfl rfl rfl ?_
     refine av rfl (r_pick rfl rfl rfl) ?_
     refine av rfl (r_assign rfl) ?_
     refine at_nil ?_
     refine at_drop (H := _) .z ?_
     refine at_drop (H := _) .z ?_
     refine at_weak [(4, _)] ⟨rfl, trivial⟩ ?_
     refine at_then_normal ?_
     refine at_ret ?_
     have K := of_some hF
     subst K
     exact at_return1 rfl rfl (fun w1 hw => ⟨rfl, hw.below⟩)
   ·refine at_fix (g := 24) rfl h5 ?_
    refine at_guard_no rfl rfl rfl rfl rfl ?_
    refine at_guard_no rfl rfl rfl rfl rfl ?_
    refine at_guard_no rfl rfl rfl rfl rfl ?_
    refine at_guard_no rfl rfl rfl rfl rfl ?_
    refine at_guard_no rfl rfl rfl rfl rfl ?_
    refine av rfl (r_pick rfl rfl rfl) ?_
    refine av rfl (r_move rfl) ?_
    refine at_guard_no rfl rfl rfl rfl rfl ?_
    refine at_guard_no rfl rfl rfl rfl rfl ?_
    refine at_guard_no rfl rfl rfl rfl rfl ?_
    refine at_guard_no rfl rfl rfl rfl rfl ?_
    refine at_guard_no rfl rfl rfl rfl rfl ?_
    refine av rfl (r_pick rfl rfl rfl) ?_
    refine av rfl (r_move rfl) ?_
    refine at_guard_no rfl rfl rfl rfl rfl ?_
    refine at_guard_no rfl rfl rfl rfl rfl ?_
    refine at_guard_no rfl rfl rfl rfl rfl ?_
    refine at_guard_no rfl rfl rfl rfl rfl ?_
    refine at_guard_no rfl rfl rfl rfl rfl ?_
    refine av rfl (r_pick rfl rfl rfl) ?_
    refine av rfl (r_move rfl) ?_
    refine at_guard_no rfl rfl rfl rfl rfl ?_
    refine at_guard_no rfl rfl rfl rfl rfl ?_
    refine at_guard_no rfl rfl rfl rfl rfl ?_
    refine at_guard_no rfl rfl rfl rfl rfl ?_
    refine at_guard_no rfl rfl rfl rfl rfl ?_
    refine av rfl (r_pick rfl rfl rfl) ?_
    refine av rfl (r_move rfl) ?_
    refine at_guard_no rfl rfl rfl rfl rfl ?_
    refine at_guard_no rfl rfl rfl rfl rfl ?_
    refine at_guard_no rfl rfl rfl rfl rfl ?_
    refine at_guard_no rfl rfl rfl rfl rfl ?_
    refine at_guard_no rfl rfl rfl rfl rfl ?_
    refine av rfl (r_pick rfl rfl rfl) ?_
    refine av rfl (r_move rfl) ?_
    refine at_guard_no rfl rfl rfl rfl rfl ?_
    refine at_guard_no rfl rfl rfl rfl rfl ?_
    refine at_guard_no rfl rfl rfl rfl rfl ?_
    refine at_guard_no rfl rfl rfl rfl rfl ?_
    refine at_guard_no rfl rfl rfl rfl rfl ?_
    refine av rfl (r_pick rfl rfl rfl) ?_
    refine av rfl (r_move rfl) ?_
    refine at_guard_no rfl rfl rfl rfl rfl ?_
    refine at_guard_no rfl rfl rfl rfl rfl ?_
    refine at_guard_no rfl rfl rfl rfl rfl ?_
    refine at_guard_no rfl rfl rfl rfl rfl ?_
    refine at_guard_no rfl rfl rfl rfl rfl ?_
    refine av rfl (r_pick rfl rfl rfl) ?_
    refine av rfl (r_move rfl) ?_
    refine at_guard_no rfl rfl rfl rfl rfl ?_
    refine at_guard_no rfl rfl rfl rfl rfl ?_
    refine at_guard_no rfl rfl rfl rfl rfl ?_
    refine at_guard_no rfl rfl rfl rfl rfl ?_
    refine at_guard_no rfl rfl rfl rfl rfl ?_
    refine av rfl (r_pick rfl rfl rfl) ?_
    refine av rfl (r_assign rfl) ?_
    refine at_nil ?_
    refine at_drop (H := _) .z ?_
    refine at_drop (H := _) .z ?_
    refine at_weak [(4, _)] ⟨rfl, trivial⟩ ?_
    refine at_then_normal ?_
    refine at_ret ?_
    have K := of_some hF
    subst K
    exact at_return1 rfl rfl (fun w1 hw => ⟨rfl, hw.below⟩)
  ·refine at_fix (g := 17) rfl h4 ?_
   refine at_guard_no rfl rfl rfl rfl rfl ?_
   refine at_guard_no rfl rfl rfl rfl rfl ?_
   refine at_guard_no rfl rfl rfl rfl rfl ?_
   refine at_guard_no rfl rfl rfl rfl rfl ?_
   refine at_guard_no rfl rfl rfl rfl rfl ?_
   refine av rfl (r_pick rfl rfl rfl) ?_
   refine av rfl (r_move rfl) ?_
   refine at_guard_no rfl rfl rfl rfl rfl ?_
   refine at_guard_no rfl rfl rfl rfl rfl ?_
   refine at_guard_no rfl rfl rfl rfl rfl ?_
   refine at_guard_no rfl rfl rfl rfl rfl ?_
   refine at_guard_no rfl rfl rfl rfl rfl ?_
   refine av rfl (r_pick rfl rfl rfl) ?_
   refine av rfl (r_move rfl) ?_
   refine at_guard_no rfl rfl rfl rfl rfl ?_
   refine at_guard_no rfl rfl rfl rfl rfl ?_
   refine at_guard_no rfl rfl rfl rfl rfl ?_
   refine at_guard_no rfl rfl rfl rfl rfl ?_
   refine at_guard_no rfl rfl rfl rfl rfl ?_
   refine av rfl (r_pick rfl rfl rfl) ?_
   refine av rfl (r_move rfl) ?_
   refine at_guard_no rfl rfl rfl rfl rfl ?_
   refine at_guard_no rfl rfl rfl rfl rfl ?_
   refine at_guard_no rfl rfl rfl rfl rfl ?_
   refine at_guard_no rfl rfl rfl rfl rfl ?_
   refine at_guard_no rfl rfl rfl rfl rfl ?_
   refine av rfl (r_pick rfl rfl rfl) ?_
   refine av rfl (r_move rfl) ?_
   refine at_guard_no rfl rfl rfl rfl rfl ?_
   refine at_guard_no rfl rfl rfl rfl rfl ?_
   refine at_guard_no rfl rfl rfl rfl rfl ?_
   refine at_guard_no rfl rfl rfl rfl rfl ?_
   refine at_guard_no rfl rfl rfl rfl rfl ?_
   refine av rfl (r_pick rfl rfl rfl) ?_
   refine av rfl (r_move rfl) ?_
   refine at_guard_no rfl rfl rfl rfl rfl ?_
   refine at_guard_no rfl rfl rfl rfl rfl ?_
   refine at_guard_no rfl rfl rfl rfl rfl ?_
   refine at_guard_no rfl rfl rfl rfl rfl ?_
   refine at_guard_no rfl rfl rfl rfl rfl ?_
   refine av rfl (r_pick rfl rfl rfl) ?_
   refine av rfl (r_move rfl) ?_
   refine at_guard_no rfl rfl rfl rfl rfl ?_
   refine at_guard_no rfl rfl rfl rfl rfl ?_
   refine at_guard_no rfl rfl rfl rfl rfl ?_
   refine at_guard_no rfl rfl rfl rfl rfl ?_
   refine at_guard_no rfl rfl rfl rfl rfl ?_
   refine av rfl (r_pick rfl rfl rfl) ?_
   refine av rfl (r_move rfl) ?_
   refine at_guard_no rfl rfl rfl rfl rfl ?_
   refine at_guard_no rfl rfl rfl rfl rfl ?_
   refine at_guard_no rfl rfl rfl rfl rfl ?_
   refine at_guard_no rfl rfl rfl rfl rfl ?_
   refine at_guard_no rfl rfl rfl rfl rfl ?_
   refine av rfl (r_pick rfl rfl rfl) ?_
   refine av rfl (r_move rfl) ?_
   refine at_guard_no rfl rfl rfl rfl rfl ?_
   refine at_guard_no rfl rfl rfl rfl rfl ?_
   refine at_guard_no rfl rfl rfl rfl rfl ?_
   refine at_guard_no rfl rfl rfl rfl rfl ?_
   refine at_guard_no rfl rfl rfl rfl rfl ?_
   refine av rfl (r_pick rfl rfl rfl) ?_
   refine av rfl (r_assign rfl) ?_
   refine at_nil ?_
   refine at_drop (H := _) .z ?_
   refine at_drop (H := _) .z ?_
   refine at_weak [(4, _)] ⟨rfl, trivial⟩ ?_
   refine at_then_normal ?_
   refine at_ret ?_
   have K := of_some hF
   subst K
   exact at_return1 rfl rfl (fun w1 hw => ⟨rfl, hw.below⟩)
 ·refine at_fix (g := 10) rfl h3 ?_
  refine at_guard_no rfl rfl rfl rfl rfl ?_
  refine at_guard_no rfl rfl rfl rfl rfl ?_
  refine at_guard_no rfl rfl rfl rfl rfl ?_
  refine at_guard_no rfl rfl rfl rfl rfl ?_
  refine at_guard_no rfl rfl rfl rfl rfl ?_
  refine av rfl (r_pick rfl rfl rfl) ?_
  refine av rfl (r_move rfl) ?_
  refine at_guard_no rfl rfl rfl rfl rfl ?_
  refine at_guard_no rfl rfl rfl rfl rfl ?_
  refine at_guard_no rfl rfl rfl rfl rfl ?_
  refine at_guard_no rfl rfl rfl rfl rfl ?_
  refine at_guard_no rfl rfl rfl rfl rfl ?_
  refine av rfl (r_pick rfl rfl rfl) ?_
  refine av rfl (r_move rfl) ?_
  refine at_guard_no rfl rfl rfl rfl rfl ?_
  refine at_guard_no rfl rfl rfl rfl rfl ?_
  refine at_guard_no rfl rfl rfl rfl rfl ?_
  refine at_guard_no rfl rfl rfl rfl rfl ?_
  refine at_guard_no rfl rfl rfl rfl rfl ?_
  refine av rfl (r_pick rfl rfl rfl) ?_
  refine av rfl (r_move rfl) ?_
  refine at_guard_no rfl rfl rfl rfl rfl ?_
  refine at_guard_no rfl rfl rfl rfl rfl ?_
  refine at_guard_no rfl rfl rfl rfl rfl ?_
  refine at_guard_no rfl rfl rfl rfl rfl ?_
  refine at_guard_no rfl rfl rfl rfl rfl ?_
  refine av rfl (r_pick rfl rfl rfl) ?_
  refine av rfl (r_move rfl) ?_
  refine at_guard_no rfl rfl rfl rfl rfl ?_
  refine at_guard_no rfl rfl rfl rfl rfl ?_
  refine at_guard_no rfl rfl rfl rfl rfl ?_
  refine at_guard_no rfl rfl rfl rfl rfl ?_
  refine at_guard_no rfl rfl rfl rfl rfl ?_
  refine av rfl (r_pick rfl rfl rfl) ?_
  refine av rfl (r_move rfl) ?_
  refine at_guard_no rfl rfl rfl rfl rfl ?_
  refine at_guard_no rfl rfl rfl rfl rfl ?_
  refine at_guard_no rfl rfl rfl rfl rfl ?_
  refine at_guard_no rfl rfl rfl rfl rfl ?_
  refine at_guard_no rfl rfl rfl rfl rfl ?_
  refine av rfl (r_pick rfl rfl rfl) ?_
  refine av rfl (r_move rfl) ?_
  refine at_guard_no rfl rfl rfl rfl rfl ?_
  refine at_guard_no rfl rfl rfl rfl rfl ?_
  refine at_guard_no rfl rfl rfl rfl rfl ?_
  refine at_guard_no rfl rfl rfl rfl rfl ?_
  refine at_guard_no rfl rfl rfl rfl rfl ?_
  refine av rfl (r_pick rfl rfl rfl) ?_
  refine av rfl (r_move rfl) ?_
  refine at_guard_no rfl rfl rfl rfl rfl ?_
  refine at_guard_no rfl rfl rfl rfl rfl ?_
  refine at_guard_no rfl rfl rfl rfl rfl ?_
  refine at_guard_no rfl rfl rfl rfl rfl ?_
  refine at_guard_no rfl rfl rfl rfl rfl ?_
  refine av rfl (r_pick rfl rfl rfl) ?_
  refine av rfl (r_move rfl) ?_
  refine at_guard_no rfl rfl rfl rfl rfl ?_
  refine at_guard_no rfl rfl rfl rfl rfl ?_
  refine at_guard_no rfl rfl rfl rfl rfl ?_
  refine at_guard_no rfl rfl rfl rfl rfl ?_
  refine at_guard_no rfl rfl rfl rfl rfl ?_
  refine av rfl (r_pick rfl rfl rfl) ?_
  refine av rfl (r_move rfl) ?_
  refine at_guard_no rfl rfl rfl rfl rfl ?_
  refine at_guard_no rfl rfl rfl rfl rfl ?_
  refine at_guard_no rfl rfl rfl rfl rfl ?_
  refine at_guard_no rfl rfl rfl rfl rfl ?_
  refine at_guard_no rfl rfl rfl rfl rfl ?_
  refine av rfl (r_pick rfl rfl rfl) ?_
  refine av rfl (r_assign rfl) ?_
  refine at_nil ?_
  refine at_drop (H := _) .z ?_
  refine at_drop (H := _) .z ?_
  refine at_weak [(4, _)] ⟨rfl, trivial⟩ ?_
  refine at_then_normal ?_
  refine at_ret ?_
  have K := of_some hF
  subst K
  exact at_return1 rfl rfl (fun w1 hw => ⟨rfl, hw.below⟩)
def crawlwayref32_Same.l0 (x0 : S_api_Request) (x1 : S_api_Request) (i12 : Int) : Option (Ctl (Bool) (Unit)) :=
  if (decide (i12 < (x0.f_Peers.length : Int))) = true then (if (0 : Int) ≤ i12 ∧ i12 < (x0.f_Peers.length : Int) then if (0 : Int) ≤ i12 ∧ i12 < (x1.f_Peers.length : Int) then crawlwayref32_SamePeer (lget x0.f_Peers i12) (lget x1.f_Peers i12) >>= fun t34 => if (!t34) = true then (some (.ret false)) else (crawlwayref32_Same.l0 x0 x1 (wr .i64 (i12 + 1))) else none else none) else (some (.nx ()))
  partial_fixpoint
def crawlwayref32_Same (x0 : S_api_Request) (x1 : S_api_Request) : Option (Bool) :=
  if (x0.f_HasPrivate != x1.f_HasPrivate) = true then (some false) else (if (!decide (x0.f_Private = x1.f_Private)) = true then (some false) else (if (x0.f_HasPort != x1.f_HasPort) = true then (some false) else (if (x0.f_Port != x1.f_Port) = true then (some false) else (if (x0.f_HasMark != x1.f_HasMark) = true then (some false) else (if (x0.f_Mark != x1.f_Mark) = true then (some false) else (if (x0.f_Replace != x1.f_Replace) = true then (some false) else (if ((x0.f_Peers.length : Int) != (x1.f_Peers.length : Int)) = true then (some false) else (crawlwayref32_Same.l0 x0 x1 0 >>= fun q11 => match q11 with | .ret r' => some r' | .nx sq11 => (some true)))))))))
theorem crawlwayref32_Same_ok (g0_ : G_api_Request) (x0 : S_api_Request) (g1_ : G_api_Request) (x1 : S_api_Request) (r : Bool) (hF : crawlwayref32_Same x0 x1 = some r) (w : World) (hn0 : N_api_Request w (g0_, x0)) (hn1 : N_api_Request w (g1_, x1)) :
    Calls Try.prog 20 #[.agg (Cd.cs c_api_Request (g0_, x0)).toArray, .agg (Cd.cs c_api_Request (g1_, x1)).toArray] w (fun e w' => e = .returned (.bool r) ∧ Below w.heap.size w w') := by
 unfold crawlwayref32_Same at hF
 refine calls_enter (l := [.agg (Cd.cs c_api_Request (g0_, x0)).toArray, .agg (Cd.cs c_api_Request (g1_, x1)).toArray]) Try.func20 rfl rfl rfl ?_
 refine at_start ?_
 refine at_weak [(0, _), (1, _)] ⟨rfl, rfl, trivial⟩ ?_
 refine sr ?_
 refine at_box (cs := Cd.cs c_api_Request (g0_, x0)) rfl rfl rfl ?_
 intro b1
 refine at_box (cs := Cd.cs c_api_Request (g1_, x1)) rfl rfl rfl ?_
 intro b2
 refine av rfl (r_assign rfl) ?_
 refine nwt [(2, _), (3, _)] ⟨rfl, rfl, trivial⟩ ?_
 refine at_seq ?_
 refine sr ?_
 refine av rfl (r_fieldAddr (fo := 0) Try.underlying27 rfl rfl (fun w => ⟨_, Try.sizeOf4 w⟩) rfl) ?_
 refine av rfl (r_load_cell Try.isAgg4 rfl (lens_cell0 (c := cBool) (y := x0.f_HasPrivate) (.s .z) (c_api_Request_f_HasPrivate g0_ x0) rfl)) ?_
 refine av rfl (r_fieldAddr (fo := 0) Try.underlying27 rfl rfl (fun w => ⟨_, Try.sizeOf4 w⟩) rfl) ?_
 refine av rfl (r_load_cell Try.isAgg4 rfl (lens_cell0 (c := cBool) (y := x1.f_HasPrivate) .z (c_api_Request_f_HasPrivate g1_ x1) rfl)) ?_
 refine av rfl (r_bool Try.underlying4 rfl rfl (.inr rfl) rfl) ?_
 refine av rfl (r_move rfl) ?_
 rcases of_ite hF with ⟨h3, hF⟩ | ⟨h3, hF⟩
 ·refine at_fix (g := 11) rfl h3 ?_
  refine at_guard_no rfl rfl rfl rfl rfl ?_
  refine at_guard_no rfl rfl rfl rfl rfl ?_
  refine at_guard_no rfl rfl rfl rfl rfl ?_
  refine at_guard_no rfl rfl rfl rfl rfl ?_
  refine at_guard_no rfl rfl rfl rfl rfl ?_
  refine av rfl (r_pick rfl rfl rfl) ?_
  refine av rfl (r_move rfl) ?_
  refine at_guard_no rfl rfl rfl rfl rfl ?_
  refine at_guard_no rfl rfl rfl rfl rfl ?_
  refine at_guard_no rfl rfl rfl rfl rfl ?_
  refine at_guard_no rfl rfl rfl rfl rfl ?_
  refine at_guard_no rfl rfl rfl rfl rfl ?_
  refine av rfl (r_pick rfl rfl rfl) ?_
  refine av rfl (r_move rfl) ?_
  refine at_guard_no rfl rfl rfl rfl rfl ?_
  refine at_guard_no rfl rfl rfl rfl rfl ?_
  refine at_guard_no rfl rfl rfl rfl rfl ?_
  refine at_guard_no rfl rfl rfl rfl rfl ?_
  refine at_guard_no rfl rfl rfl rfl rfl ?_
  refine av rfl (r_pick rfl rfl rfl) ?_
  refine av rfl (r_move rfl) ?_
  refine at_guard_no rfl rfl rfl rfl rfl ?_
  refine at_guard_no rfl rfl rfl rfl rfl ?_
  refine at_guard_no rfl rfl rfl rfl rfl ?_
  refine at_guard_no rfl rfl rfl rfl rfl ?_
  refine at_guard_no rfl rfl rfl rfl rfl ?_
  refine av rfl (r_pick rfl rfl rfl) ?_
  refine av rfl (r_move rfl) ?_
  refine at_guard_no rfl rfl rfl rfl rfl ?_
  refine at_guard_no rfl rfl rfl rfl rfl ?_
  refine at_guard_no rfl rfl rfl rfl rfl ?_
  refine at_guard_no rfl rfl rfl rfl rfl ?_
  refine at_guard_no rfl rfl rfl rfl rfl ?_
  refine av rfl (r_pick rfl rfl rfl) ?_
  refine av rfl (r_move rfl) ?_
  refine at_guard_no rfl rfl rfl rfl rfl ?_
  refine at_guard_no rfl rfl rfl rfl rfl ?_
  refine at_guard_no rfl rfl rfl rfl rfl ?_
  refine at_guard_no rfl rfl rfl rfl rfl ?_
  refine at_guard_no rfl rfl rfl rfl rfl ?_
  refine av rfl (r_pick rfl rfl rfl) ?_
  refine av rfl (r_move rfl) ?_
  refine at_guard_no rfl rfl rfl rfl rfl ?_
  refine at_guard_no rfl rfl rfl rfl rfl ?_
  refine at_guard_no rfl rfl rfl rfl rfl ?_
  refine at_guard_no rfl rfl rfl rfl rfl ?_
  refine at_guard_no rfl rfl rfl rfl rfl ?_
  refine at_guard_no rfl rfl rfl rfl rfl ?_
  refine at_guard_no rfl rfl rfl rfl rfl ?_
  refine av rfl (r_pick rfl rfl rfl) ?_
  refine nwt [(2, _), (3, _), (61, _)] ⟨rfl, rfl, rfl, trivial⟩ ?_
  refine at_cond_true rfl rfl ?_
  refine sr ?_
  refine av rfl (r_assign rfl) ?_
  refine at_nil ?_
  refine at_drop (H := _) .z ?_
  refine at_drop (H := _) .z ?_
  refine at_weak [(4, _)] ⟨rfl, trivial⟩ ?_
  refine at_then_normal ?_
  refine rt ?_
  have K := of_some hF
  subst K
  exact at_return1 rfl rfl (fun w1 hw => ⟨rfl, hw.below⟩)
 ·refine at_fix (g := 11) rfl h3 ?_
  refine at_guard_yes rfl rfl rfl ?_
  refine av rfl (r_fieldAddr (fo := 1) Try.underlying27 rfl rfl (fun w => ⟨_, Try.sizeOf23 w⟩) rfl) ?_
  refine at_guard_yes rfl rfl rfl ?_
  refine av rfl (r_load_aggc (c := (cVec (cInt .u8) 32 (by decide))) (z := x0.f_Private) Try.isAgg23 Try.sizeOf23 rfl (lens_cell (.s .z) (c_api_Request_f_Private g0_ x0))) ?_
  refine at_guard_yes rfl rfl rfl ?_
  refine av rfl (r_fieldAddr (fo := 1) Try.underlying27 rfl rfl (fun w => ⟨_, Try.sizeOf23 w⟩) rfl) ?_
  refine at_guard_yes rfl rfl rfl ?_
  refine av rfl (r_load_aggc (c := (cVec (cInt .u8) 32 (by decide))) (z := x1.f_Private) Try.isAgg23 Try.sizeOf23 rfl (lens_cell .z (c_api_Request_f_Private g1_ x1))) ?_
  refine at_guard_yes rfl rfl rfl ?_
  refine av rfl (r_eqagg (c := (cVec (cInt .u8) 32 (by decide))) (a := x0.f_Private) (b := x1.f_Private) (eqs_vec Try.underlying23 infoT5 Try.sizeOf5 Try.isAgg5 (.inr rfl) (eqs_int Try.underlying5)) rfl Try.eqGuardType23 rfl rfl (.inr rfl) rfl) ?_
  refine av rfl (r_pick rfl rfl rfl) ?_
  refine av rfl (r_move rfl) ?_
  rcases of_ite hF with ⟨h4, hF⟩ | ⟨h4, hF⟩
  ·refine at_fix (g := 18) rfl h4 ?_
   refine at_guard_no rfl rfl rfl rfl rfl ?_
   refine at_guard_no rfl rfl rfl rfl rfl ?_
   refine at_guard_no rfl rfl rfl rfl rfl ?_
   refine at_guard_no rfl rfl rfl rfl rfl ?_
   refine at_guard_no rfl rfl rfl rfl rfl ?_
   refine av rfl (r_pick rfl rfl rfl) ?_
   refine av rfl (r_move rfl) ?_
   refine at_guard_no rfl rfl rfl rfl rfl ?_
   refine at_guard_no rfl rfl rfl rfl rfl ?_
   refine at_guard_no rfl rfl rfl rfl rfl ?_
   refine at_guard_no rfl rfl rfl rfl rfl ?_
   refine at_guard_no rfl rfl rfl rfl rfl ?_
   refine av rfl (r_pick rfl rfl rfl) ?_
   refine av rfl (r_move rfl) ?_
   refine at_guard_no rfl rfl rfl rfl rfl ?_
   refine at_guard_no rfl rfl rfl rfl rfl ?_
   refine at_guard_no rfl rfl rfl rfl rfl ?_
   refine at_guard_no rfl rfl rfl rfl rfl ?_
   refine at_guard_no rfl rfl rfl rfl rfl ?_
   refine av rfl (r_pick rfl rfl rfl) ?_
   refine av rfl (r_move rfl) ?_
   refine at_guard_no rfl rfl rfl rfl rfl ?_
   refine at_guard_no rfl rfl rfl rfl rfl ?_
   refine at_guard_no rfl rfl rfl rfl rfl ?_
   refine at_guard_no rfl rfl rfl rfl rfl ?_
   refine at_guard_no rfl rfl rfl rfl rfl ?_
   refine av rfl (r_pick rfl rfl rfl) ?_
   refine av rfl (r_move rfl) ?_
   refine at_guard_no rfl rfl rfl rfl rfl ?_
   refine at_guard_no rfl rfl rfl rfl rfl ?_
   refine at_guard_no rfl rfl rfl rfl rfl ?_
   refine at_guard_no rfl rfl rfl rfl rfl ?_
   refine at_guard_no rfl rfl rfl rfl rfl ?_
   refine av rfl (r_pick rfl rfl rfl) ?_
   refine av rfl (r_move rfl) ?_
   refine at_guard_no rfl rfl rfl rfl rfl ?_
   refine at_guard_no rfl rfl rfl rfl rfl ?_
   refine at_guard_no rfl rfl rfl rfl rfl ?_
   refine at_guard_no rfl rfl rfl rfl rfl ?_
   refine at_guard_no rfl rfl rfl rfl rfl ?_
   refine at_guard_no rfl rfl rfl rfl rfl ?_
   refine at_guard_no rfl rfl rfl rfl rfl ?_
   refine av rfl (r_pick rfl rfl rfl) ?_
   refine nwt [(2, _), (3, _), (61, _)] ⟨rfl, rfl, rfl, trivial⟩ ?_
   refine at_cond_true rfl rfl ?_
   refine sr ?_
   refine av rfl (r_assign rfl) ?_
   refine at_nil ?_
   refine at_drop (H := _) .z ?_
   refine at_drop (H := _) .z ?_
   refine at_weak [(4, _)] ⟨rfl, trivial⟩ ?_
   refine at_then_normal ?_
   refine rt ?_
   have K := of_some hF
   subst K
   exact at_return1 rfl rfl (fun w1 hw => ⟨rfl, hw.below⟩)
  ·refine at_fix (g := 18) rfl h4 ?_
   refine at_guard_yes rfl rfl rfl ?_
   refine av rfl (r_fieldAddr (fo := 33) Try.underlying27 rfl rfl (fun w => ⟨_, Try.sizeOf4 w⟩) rfl) ?_
   refine at_guard_yes rfl rfl rfl ?_
   refine av rfl (r_load_cell Try.isAgg4 rfl (lens_cell0 (c := cBool) (y := x0.f_HasPort) (.s .z) (c_api_Request_f_HasPort g0_ x0) rfl)) ?_
   refine at_guard_yes rfl rfl rfl ?_
   refine av rfl (r_fieldAddr (fo := 33) Try.underlying27 rfl rfl (fun w => ⟨_, Try.sizeOf4 w⟩) rfl) ?_
   refine at_guard_yes rfl rfl rfl ?_
   refine av rfl (r_load_cell Try.isAgg4 rfl (lens_cell0 (c := cBool) (y := x1.f_HasPort) .z (c_api_Request_f_HasPort g1_ x1) rfl)) ?_
   refine at_guard_yes rfl rfl rfl ?_
   refine av rfl (r_bool Try.underlying4 rfl rfl (.inr rfl) rfl) ?_
   refine av rfl (r_pick rfl rfl rfl) ?_
   refine av rfl (r_move rfl) ?_
   rcases of_ite hF with ⟨h5, hF⟩ | ⟨h5, hF⟩
   ·refine at_fix (g := 25) rfl h5 ?_
    refine at_guard_no rfl rfl rfl rfl rfl ?_
    refine at_guard_no rfl rfl rfl rfl rfl ?_
    refine at_guard_no rfl rfl rfl rfl rfl ?_
    refine at_guard_no rfl rfl rfl rfl rfl ?_
    refine at_guard_no rfl rfl rfl rfl rfl ?_
    refine av rfl (r_pick rfl rfl rfl) ?_
    refine av rfl (r_move rfl) ?_
    refine at_guard_no rfl rfl rfl rfl rfl ?_
    refine at_guard_no rfl rfl rfl rfl rfl ?_
    refine at_guard_no rfl rfl rfl rfl rfl ?_
    refine at_guard_no rfl rfl rfl rfl rfl ?_
    refine at_guard_no rfl rfl rfl rfl rfl ?_
    refine av rfl (r_pick rfl rfl rfl) ?_
    refine av rfl (r_move rfl) ?_
    refine at_guard_no rfl rfl rfl rfl rfl ?_
    refine at_guard_no rfl rfl rfl rfl rfl ?_
    refine at_guard_no rfl rfl rfl rfl rfl ?_
    refine at_guard_no rfl rfl rfl rfl rfl ?_
    refine at_guard_no rfl rfl rfl rfl rfl ?_
    refine av rfl (r_pick rfl rfl rfl) ?_
    refine av rfl (r_move rfl) ?_
    refine at_guard_no rfl rfl rfl rfl rfl ?_
    refine at_guard_no rfl rfl rfl rfl rfl ?_
    refine at_guard_no rfl rfl rfl rfl rfl ?_
    refine at_guard_no rfl rfl rfl rfl rfl ?_
    refine at_guard_no rfl rfl rfl rfl rfl ?_
    refine av rfl (r_pick rfl rfl rfl) ?_
    refine av rfl (r_move rfl) ?_
    refine at_guard_no rfl rfl rfl rfl rfl ?_
    refine at_guard_no rfl rfl rfl rfl rfl ?_
    refine at_guard_no rfl rfl rfl rfl rfl ?_
    refine at_guard_no rfl rfl rfl rfl rfl ?_
    refine at_guard_no rfl rfl rfl rfl rfl ?_
    refine at_guard_no rfl rfl rfl rfl rfl ?_
    refine at_guard_no rfl rfl rfl rfl rfl ?_
    refine av rfl (r_pick rfl rfl rfl) ?_
    refine nwt [(2, _), (3, _), (61, _)] ⟨rfl, rfl, rfl, trivial⟩ ?_
    refine at_cond_true rfl rfl ?_
    refine sr ?_
    refine av rfl (r_assign rfl) ?_
    refine at_nil ?_
    refine at_drop (H := _) .z ?_
    refine at_drop (H := _) .z ?_
    refine at_weak [(4, _)] ⟨rfl, trivial⟩ ?_
    refine at_then_normal ?_
    refine rt ?_
    have K := of_some hF
    subst K
    exact at_return1 rfl rfl (fun w1 hw => ⟨rfl, hw.below⟩)
   ·refine at_fix (g := 25) rfl h5 ?_
    refine at_guard_yes rfl rfl rfl ?_
    refine av rfl (r_fieldAddr (fo := 34) Try.underlying27 rfl rfl (fun w => ⟨_, Try.sizeOf3 w⟩) rfl) ?_
    refine at_guard_yes rfl rfl rfl ?_
    refine av rfl (r_load_cell Try.isAgg3 rfl (lens_cell0 (c := (cInt .i64)) (y := x0.f_Port) (.s .z) (c_api_Request_f_Port g0_ x0) rfl)) ?_
    refine at_guard_yes rfl rfl rfl ?_
    refine av rfl (r_fieldAddr (fo := 34) Try.underlying27 rfl rfl (fun w => ⟨_, Try.sizeOf3 w⟩) rfl) ?_
    refine at_guard_yes rfl rfl rfl ?_
    refine av rfl (r_load_cell Try.isAgg3 rfl (lens_cell0 (c := (cInt .i64)) (y := x1.f_Port) .z (c_api_Request_f_Port g1_ x1) rfl)) ?_
    refine at_guard_yes rfl rfl rfl ?_
    refine av rfl (r_ineq rfl rfl) ?_
    refine av rfl (r_pick rfl rfl rfl) ?_
    refine av rfl (r_move rfl) ?_
    rcases of_ite hF with ⟨h6, hF⟩ | ⟨h6, hF⟩
    ·refine at_fix (g := 32) rfl h6 ?_
     refine at_guard_no rfl rfl rfl rfl rfl ?_
     refine at_guard_no rfl rfl rfl rfl rfl ?_
     refine at_guard_no rfl rfl rfl rfl rfl ?_
     refine at_guard_no rfl rfl rfl rfl rfl ?_
     refine at_guard_no rfl rfl rfl rfl rfl ?_
     refine av rfl (r_pick rfl rfl rfl) ?_
     refine av rfl (r_move rfl) ?_
     refine at_guard_no rfl rfl rfl rfl rfl ?_
     refine at_guard_no rfl rfl rfl rfl rfl ?_
     refine at_guard_no rfl rfl rfl rfl rfl ?_
     refine at_guard_no rfl rfl rfl rfl rfl ?_
     refine at_guard_no rfl rfl rfl rfl rfl ?_
     refine av rfl (r_pick rfl rfl rfl) ?_
     refine av rfl (r_move rfl) ?_
     refine at_guard_no rfl rfl rfl rfl rfl ?_
     refine at_guard_no rfl rfl rfl rfl rfl ?_
     refine at_guard_no rfl rfl rfl rfl rfl ?_
     refine at_guard_no rfl rfl rfl rfl rfl ?_
     refine at_guard_no rfl rfl rfl rfl rfl ?_
     refine av rfl (r_pick rfl rfl rfl) ?_
     refine av rfl (r_move rfl) ?_
     refine at_guard_no rfl rfl rfl rfl rfl ?_
     refine at_guard_no rfl rfl rfl rfl rfl ?_
     refine at_guard_no rfl rfl rfl rfl rfl ?_
     refine at_guard_no rfl rfl rfl rfl rfl ?_
     refine at_guard_no rfl rfl rfl rfl rfl ?_
     refine at_guard_no rfl rfl rfl rfl rfl ?_
     refine at_guard_no rfl rfl rfl rfl rfl ?_
     refine av rfl (r_pick rfl rfl rfl) ?_
     refine nwt [(2, _), (3, _), (61, _)] ⟨rfl, rfl, rfl, trivial⟩ ?_
     refine at_cond_true rfl rfl ?_
     refine sr ?_
     refine av rfl (r_assign rfl) ?_
     refine at_nil ?_
     refine at_drop (H := _) .z ?_
     refine at_drop (H := _) .z ?_
     refine at_weak [(4, _)] ⟨rfl, trivial⟩ ?_
     refine at_then_normal ?_
     refine rt ?_
     have K := of_some hF
     subst K
     exact at_return1 rfl rfl (fun w1 hw => ⟨rfl, hw.below⟩)
    ·refine at_fix (g := 32) rfl h6 ?_
     refine at_guard_yes rfl rfl rfl ?_
     refine av rfl (r_fieldAddr (fo := 35) Try.underlying27 rfl rfl (fun w => ⟨_, Try.sizeOf4 w⟩) rfl) ?_
     refine at_guard_yes rfl rfl rfl ?_
     refine av rfl (r_load_cell Try.isAgg4 rfl (lens_cell0 (c := cBool) (y := x0.f_HasMark) (.s .z) (c_api_Request_f_HasMark g0_ x0) rfl)) ?_
     refine at_guard_yes rfl rfl rfl ?_
     refine av rfl (r_fieldAddr (fo := 35) Try.underlying27 rfl rfl (fun w => ⟨_, Try.sizeOf4 w⟩) rfl) ?_
     refine at_guard_yes rfl rfl rfl ?_
     refine av rfl (r_load_cell Try.isAgg4 rfl (lens_cell0 (c := cBool) (y := x1.f_HasMark) .z (c_api_Request_f_HasMark g1_ x1) rfl)) ?_
     refine at_guard_yes rfl rfl rfl ?_
     refine av rfl (r_bool Try.underlying4 rfl rfl (.inr rfl) rfl) ?_
     refine av rfl (r_pick rfl rfl rfl) ?_
     refine av rfl (r_move rfl) ?_
     rcases of_ite hF with ⟨h7, hF⟩ | ⟨h7, hF⟩
     ·refine at_fix (g := 39) rfl h7 ?_
      refine at_guard_no rfl rfl rfl rfl rfl ?_
      refine at_guard_no rfl rfl rfl rfl rfl ?_
      refine at_guard_no rfl rfl rfl rfl rfl ?_
      refine at_guard_no rfl rfl rfl rfl rfl ?_
      refine at_guard_no rfl rfl rfl rfl rfl ?_
      refine av rfl (r_pick rfl rfl rfl) ?_
      refine av rfl (r_move rfl) ?_
      refine at_guard_no rfl rfl rfl rfl rfl ?_
      refine at_guard_no rfl rfl rfl rfl rfl ?_
      refine at_guard_no rfl rfl rfl rfl rfl ?_
      refine at_guard_no rfl rfl rfl rfl rfl ?_
      refine at_guard_no rfl rfl rfl rfl rfl ?_
      refine av rfl (r_pick rfl rfl rfl) ?_
      refine av rfl (r_move rfl) ?_
      refine at_guard_no rfl rfl rfl rfl rfl ?_
      refine at_guard_no rfl rfl rfl rfl rfl ?_
      refine at_guard_no rfl rfl rfl rfl rfl ?_
      refine at_guard_no rfl rfl rfl rfl rfl ?_
      refine at_guard_no rfl rfl rfl rfl rfl ?_
      refine at_guard_no rfl rfl rfl rfl rfl ?_
      refine at_guard_no rfl rfl rfl rfl rfl ?_
      refine av rfl (r_pick rfl rfl rfl) ?_
      refine nwt [(2, _), (3, _), (61, _)] ⟨rfl, rfl, rfl, trivial⟩ ?_
      refine at_cond_true rfl rfl ?_
      refine sr ?_
      refine av rfl (r_assign rfl) ?_
      refine at_nil ?_
      refine at_drop (H := _) .z ?_
      refine at_drop (H := _) .z ?_
      refine at_weak [(4, _)] ⟨rfl, trivial⟩ ?_
      refine at_then_normal ?_
      refine rt ?_
      have K := of_some hF
      subst K
      exact at_return1 rfl rfl (fun w1 hw => ⟨rfl, hw.below⟩)
     ·refine at_fix (g := 39) rfl h7 ?_
      refine at_guard_yes rfl rfl rfl ?_
      refine av rfl (r_fieldAddr (fo := 36) Try.underlying27 rfl rfl (fun w => ⟨_, Try.sizeOf24 w⟩) rfl) ?_
      refine at_guard_yes rfl rfl rfl ?_
      refine av rfl (r_load_cell Try.isAgg24 rfl (lens_cell0 (c := (cInt .u32)) (y := x0.f_Mark) (.s .z) (c_api_Request_f_Mark g0_ x0) rfl)) ?_
      refine at_guard_yes rfl rfl rfl ?_
      refine av rfl (r_fieldAddr (fo := 36) Try.underlying27 rfl rfl (fun w => ⟨_, Try.sizeOf24 w⟩) rfl) ?_
      refine at_guard_yes rfl rfl rfl ?_
      refine av rfl (r_load_cell Try.isAgg24 rfl (lens_cell0 (c := (cInt .u32)) (y := x1.f_Mark) .z (c_api_Request_f_Mark g1_ x1) rfl)) ?_
      refine at_guard_yes rfl rfl rfl ?_
      refine av rfl (r_ineq rfl rfl) ?_
      refine av rfl (r_pick rfl rfl rfl) ?_
      refine av rfl (r_move rfl) ?_
      rcases of_ite hF with ⟨h8, hF⟩ | ⟨h8, hF⟩
      ·refine at_fix (g := 46) rfl h8 ?_
       refine at_guard_no rfl rfl rfl rfl rfl ?_
       refine at_guard_no rfl rfl rfl rfl rfl ?_
       refine at_guard_no rfl rfl rfl rfl rfl ?_
       refine at_guard_no rfl rfl rfl rfl rfl ?_
       refine at_guard_no rfl rfl rfl rfl rfl ?_
       refine av rfl (r_pick rfl rfl rfl) ?_
       refine av rfl (r_move rfl) ?_
       refine at_guard_no rfl rfl rfl rfl rfl ?_
       refine at_guard_no rfl rfl rfl rfl rfl ?_
       refine at_guard_no rfl rfl rfl rfl rfl ?_
       refine at_guard_no rfl rfl rfl rfl rfl ?_
       refine at_guard_no rfl rfl rfl rfl rfl ?_
       refine at_guard_no rfl rfl rfl rfl rfl ?_
       refine at_guard_no rfl rfl rfl rfl rfl ?_
       refine av rfl (r_pick rfl rfl rfl) ?_
       refine nwt [(2, _), (3, _), (61, _)] ⟨rfl, rfl, rfl, trivial⟩ ?_
       refine at_cond_true rfl rfl ?_
       refine sr ?_
       refine av rfl (r_assign rfl) ?_
       refine at_nil ?_
       refine at_drop (H := _) .z ?_
       refine at_drop (H := _) .z ?_
       refine at_weak [(4, _)] ⟨rfl, trivial⟩ ?_
       refine at_then_normal ?_
       refine rt ?_
       have K := of_some hF
       subst K
       exact at_return1 rfl rfl (fun w1 hw => ⟨rfl, hw.below⟩)
      ·refine at_fix (g := 46) rfl h8 ?_
       refine at_guard_yes rfl rfl rfl ?_
       refine av rfl (r_fieldAddr (fo := 37) Try.underlying27 rfl rfl (fun w => ⟨_, Try.sizeOf4 w⟩) rfl) ?_
       refine at_guard_yes rfl rfl rfl ?_
       refine av rfl (r_load_cell Try.isAgg4 rfl (lens_cell0 (c := cBool) (y := x0.f_Replace) (.s .z) (c_api_Request_f_Replace g0_ x0) rfl)) ?_
       refine at_guard_yes rfl rfl rfl ?_
       refine av rfl (r_fieldAddr (fo := 37) Try.underlying27 rfl rfl (fun w => ⟨_, Try.sizeOf4 w⟩) rfl) ?_
       refine at_guard_yes rfl rfl rfl ?_
       refine av rfl (r_load_cell Try.isAgg4 rfl (lens_cell0 (c := cBool) (y := x1.f_Replace) .z (c_api_Request_f_Replace g1_ x1) rfl)) ?_
       refine at_guard_yes rfl rfl rfl ?_
       refine av rfl (r_bool Try.underlying4 rfl rfl (.inr rfl) rfl) ?_
       refine av rfl (r_pick rfl rfl rfl) ?_
       refine av rfl (r_move rfl) ?_
       rcases of_ite hF with ⟨h9, hF⟩ | ⟨h9, hF⟩
       ·refine at_fix (g := 53) rfl h9 ?_
        refine at_guard_no rfl rfl rfl rfl rfl ?_
        refine at_guard_no rfl rfl rfl rfl rfl ?_
        refine at_guard_no rfl rfl rfl rfl rfl ?_
        refine at_guard_no rfl rfl rfl rfl rfl ?_
        refine at_guard_no rfl rfl rfl rfl rfl ?_
        refine at_guard_no rfl rfl rfl rfl rfl ?_
        refine at_guard_no rfl rfl rfl rfl rfl ?_
        refine av rfl (r_pick rfl rfl rfl) ?_
        refine nwt [(2, _), (3, _), (61, _)] ⟨rfl, rfl, rfl, trivial⟩ ?_
        refine at_cond_true rfl rfl ?_
        refine sr ?_
        refine av rfl (r_assign rfl) ?_
        refine at_nil ?_
        refine at_drop (H := _) .z ?_
        refine at_drop (H := _) .z ?_
        refine at_weak [(4, _)] ⟨rfl, trivial⟩ ?_
        refine at_then_normal ?_
        refine rt ?_
        have K := of_some hF
        subst K
        exact at_return1 rfl rfl (fun w1 hw => ⟨rfl, hw.below⟩)
       ·refine at_fix (g := 53) rfl h9 ?_
        refine at_guard_yes rfl rfl rfl ?_
        refine av rfl (r_fieldAddr (fo := 38) Try.underlying27 rfl rfl (fun w => ⟨_, Try.sizeOf25 w⟩) rfl) ?_
        refine at_guard_yes rfl rfl rfl ?_
        refine av rfl (r_load_cell Try.isAgg25 rfl (lens_cell0 (c := cHd) (y := ⟨g0_.1, List.length x0.f_Peers, g0_.2⟩) (.s .z) (c_api_Request_f_Peers g0_ x0) rfl)) ?_
        refine at_guard_yes rfl rfl rfl ?_
        refine av rfl (r_len_sl Try.underlying25 rfl) ?_
        refine at_guard_yes rfl rfl rfl ?_
        refine av rfl (r_fieldAddr (fo := 38) Try.underlying27 rfl rfl (fun w => ⟨_, Try.sizeOf25 w⟩) rfl) ?_
        refine at_guard_yes rfl rfl rfl ?_
        refine av rfl (r_load_cell Try.isAgg25 rfl (lens_cell0 (c := cHd) (y := ⟨g1_.1, List.length x1.f_Peers, g1_.2⟩) .z (c_api_Request_f_Peers g1_ x1) rfl)) ?_
        refine at_guard_yes rfl rfl rfl ?_
        refine av rfl (r_len_sl Try.underlying25 rfl) ?_
        refine at_guard_yes rfl rfl rfl ?_
        refine av rfl (r_ineq rfl rfl) ?_
        refine av rfl (r_pick rfl rfl rfl) ?_
        refine nwt [(2, _), (3, _), (61, _)] ⟨rfl, rfl, rfl, trivial⟩ ?_
        rcases of_ite hF with ⟨h10, hF⟩ | ⟨h10, hF⟩
        ·refine at_cond_true rfl h10 ?_
         refine sr ?_
         refine av rfl (r_assign rfl) ?_
         refine at_nil ?_
         refine at_drop (H := _) .z ?_
         refine at_drop (H := _) .z ?_
         refine at_weak [(4, _)] ⟨rfl, trivial⟩ ?_
         refine at_then_normal ?_
         refine rt ?_
         have K := of_some hF
         subst K
         exact at_return1 rfl rfl (fun w1 hw => ⟨rfl, hw.below⟩)
        ·refine at_cond_false rfl h10 ?_
         refine sn ?_
         refine at_seq ?_
         refine sr ?_
         refine av rfl (r_assign rfl) ?_
         refine nwt [(2, _), (3, _), (5, _)] ⟨rfl, rfl, rfl, trivial⟩ ?_
         refine at_block ?_
         obtain ⟨q11, hq11, hF⟩ := of_bindM hF
         refine at_weak [(2, _), (3, _), (5, _)] ⟨rfl, rfl, rfl, trivial⟩ ?_
         refine at_loop_r (B := 0) (r := r) (q := q11) (A := fun (_ : Unit) Y => At 81 [] (Wd w []) Y) ?_ ?_
         ·intro K
          refine crawlwayref32_Same.l0.partial_correctness x0 x1 (motive := fun i12 x => KR (fun (_ : Unit) Y => At 81 [] (Wd w []) Y) _ 0 r x → Round (fun Y => At 81 [(2, .pointer (some ⟨b1, 0, none⟩)), (3, .pointer (some ⟨b2, 0, none⟩)), (5, .int .i64 i12)] (Wd w [cellsE b2 (Cd.cs c_api_Request (g1_, x1)) 27, cellsE b1 (Cd.cs c_api_Request (g0_, x0)) 27]) Y) _ _ _) ?_ _ _ hq11 K
          ·clear K hF
           intro g ih i12 x hF K
           refine at_round ?_
           refine at_seq ?_
           refine sr ?_
           refine av rfl (r_move rfl) ?_
           refine av rfl (r_fieldAddr (fo := 38) Try.underlying27 rfl rfl (fun w => ⟨_, Try.sizeOf25 w⟩) rfl) ?_
           refine av rfl (r_load_cell Try.isAgg25 rfl (lens_cell0 (c := cHd) (y := ⟨g0_.1, List.length x0.f_Peers, g0_.2⟩) (.s .z) (c_api_Request_f_Peers g0_ x0) rfl)) ?_
           refine av rfl (r_len_sl Try.underlying25 rfl) ?_
           refine av rfl (r_ilss rfl rfl) ?_
           refine nwt [(2, _), (3, _), (5, _), (66, _)] ⟨rfl, rfl, rfl, rfl, trivial⟩ ?_
           rcases of_ite hF with ⟨h13, hF⟩ | ⟨h13, hF⟩
           ·refine at_cond_true rfl h13 ?_
            refine sn ?_
            refine at_seq ?_
            refine at_block ?_
            refine at_seq ?_
            refine at_draw (by kernel_rfl) (by kernel_rfl) (fun _ h => h.drew) ?_
            refine atq_val rfl rfl rfl (r_fieldAddr (fo := 38) Try.underlying27 rfl rfl (fun w => ⟨_, Try.sizeOf25 w⟩) rfl) ?_
            refine atq_val rfl rfl rfl (r_load_cell Try.isAgg25 rfl (lens_cell0 (c := cHd) (y := ⟨g0_.1, List.length x0.f_Peers, g0_.2⟩) (.s .z) (c_api_Request_f_Peers g0_ x0) rfl)) ?_
            refine atq_val rfl rfl rfl (r_move rfl) ?_
            obtain ⟨h14, hF⟩ := of_guard hF
            obtain ⟨zs18, hz19, hr20, hn21⟩ := hn0
            obtain ⟨b16, o17, hp15⟩ := row_ptr hr20 (zidx hz19 h14)
            obtain ⟨g22, hg23⟩ := zget hz19 i12
            refine atq_val rfl rfl rfl (r_idx Try.underlying25 Try.sizeOf37 rfl rfl h14 hp15) ?_
            refine atq_val rfl rfl rfl (r_load_aggc (c := c_api_PeerChange) (z := (g22, lget x0.f_Peers i12)) Try.isAgg37 Try.sizeOf37 rfl (ncell (fun _ h => h.below) hr20 (zidx hz19 h14) hp15 hg23)) ?_
            refine atq_val rfl rfl rfl (r_fieldAddr (fo := 38) Try.underlying27 rfl rfl (fun w => ⟨_, Try.sizeOf25 w⟩) rfl) ?_
            refine atq_val rfl rfl rfl (r_load_cell Try.isAgg25 rfl (lens_cell0 (c := cHd) (y := ⟨g1_.1, List.length x1.f_Peers, g1_.2⟩) .z (c_api_Request_f_Peers g1_ x1) rfl)) ?_
            refine atq_val rfl rfl rfl (r_move rfl) ?_
            obtain ⟨h24, hF⟩ := of_guard hF
            obtain ⟨zs28, hz29, hr30, hn31⟩ := hn1
            obtain ⟨b26, o27, hp25⟩ := row_ptr hr30 (zidx hz29 h24)
            obtain ⟨g32, hg33⟩ := zget hz29 i12
            refine atq_val rfl rfl rfl (r_idx Try.underlying25 Try.sizeOf37 rfl rfl h24 hp25) ?_
            refine atq_val rfl rfl rfl (r_load_aggc (c := c_api_PeerChange) (z := (g32, lget x1.f_Peers i12)) Try.isAgg37 Try.sizeOf37 rfl (ncell (fun _ h => h.below) hr30 (zidx hz29 h24) hp25 hg33)) ?_
            obtain ⟨t34, ht34, hF⟩ := of_bindM hF
            refine atq_call Try.func62 rfl (by kernel_rfl) rfl rfl (fun w hw => (crawlwayref32_SamePeer_ok _ _ _ _ _ ht34 w (N_api_PeerChange.below (nz hg23 hn21 (zidx hz19 h14)) hw.below) (N_api_PeerChange.below (nz hg33 hn31 (zidx hz29 h24)) hw.below)).mono fun _ _ h => ⟨h.1, hw.call h.2⟩) ?_
            refine atq_val rfl rfl rfl (r_not rfl) ?_
            refine atq_nil ?_
            refine at_weak [(2, _), (3, _), (5, _), (80, _)] ⟨rfl, rfl, rfl, rfl, trivial⟩ ?_
            refine at_then_normal ?_
            rcases of_ite hF with ⟨h35, hF⟩ | ⟨h35, hF⟩
            ·refine at_cond_true rfl h35 ?_
             refine sr ?_
             refine av rfl (r_assign rfl) ?_
             refine at_nil ?_
             refine at_drop (H := _) .z ?_
             refine at_drop (H := _) .z ?_
             refine at_weak [(4, _)] ⟨rfl, trivial⟩ ?_
             refine at_then_normal ?_
             refine at_ret ?_
             refine at_blk_ret (at_then_ret (at_then_ret (at_blk_ret (at_then_ret ?_))))
             obtain rfl := of_some hF
             subst K
             exact at_return1 rfl rfl (fun w1 hw => ⟨rfl, hw.below⟩)
            ·refine at_cond_false rfl h35 ?_
             refine at_skip ?_
             refine at_blk_normal (at_then_normal ?_)
             refine at_region ?_
             refine av rfl (r_move rfl) ?_
             refine av rfl (r_iadd rfl rfl) ?_
             refine av rfl (r_assign rfl) ?_
             refine nwt [(2, _), (3, _), (5, _)] ⟨rfl, rfl, rfl, trivial⟩ ?_
             exact at_weak_k (ih _ _ hF K) ⟨rfl, rfl, rfl, trivial⟩
           ·refine at_cond_false rfl h13 ?_
            refine at_exit ?_
            refine at_then_exit (at_then_exit ?_)
            refine at_drop (H := _) .z ?_
            refine at_drop (H := _) .z ?_
            obtain rfl := of_some hF
            exact at_weak_k K trivial
         ·cases q11 with
          | ret r' => exact of_some hF
          | nx sq11 =>
           skip
           refine at_blk_same ?_
           refine at_then_normal ?_
           refine sr ?_
           refine av rfl (r_assign rfl) ?_
           refine nwt [(4, _)] ⟨rfl, trivial⟩ ?_
           refine at_ret ?_
           have K := of_some hF
           subst K
           exact at_return1 rfl rfl (fun w1 hw => ⟨rfl, hw.below⟩)
end Go.Proofs.Ythccncpephpdjaa
namespace Go.Proofs.Ythccncpephpdjaa
open E Go.RowKit
abbrev zqG7_0 : S_api_Request := ({ f_HasPrivate := false, f_Private := (Vector.replicate 32 (0 : Int) : (Vector Int 32)), f_HasPort := false, f_Port := (0 : Int), f_HasMark := false, f_Mark := (0 : Int), f_Replace := false, f_Peers := ([] : List S_api_PeerChange) } : S_api_Request)
abbrev zqG7_1 : S_api_Endpoint := ({ f_A := ({ f_V := (0 : Int), f_B := (Vector.replicate 16 (0 : Int) : (Vector Int 16)) } : S_api_Addr), f_Port := (0 : Int) } : S_api_Endpoint)
theorem infoG737_is : (Try.prog.info? 37).isSome = true := by kernel_rfl
noncomputable def infoG737_v : TypeInfo := (Try.prog.info? 37).get infoG737_is
theorem infoG737 : Try.prog.info? 37 = some infoG737_v := (Option.some_get _).symm
theorem infoG746_is : (Try.prog.info? 46).isSome = true := by kernel_rfl
noncomputable def infoG746_v : TypeInfo := (Try.prog.info? 46).get infoG746_is
theorem infoG746 : Try.prog.info? 46 = some infoG746_v := (Option.some_get _).symm
def slices_Clone_api_Prefix (x0 : List S_api_Prefix) : Option (List S_api_Prefix) := if (0 + x0.length) * 32 ≤ 140737488355328 then some x0 else none
theorem slices_Clone_api_Prefix_ok (x0 : List S_api_Prefix) (p : Option Addr) (cap : Nat) (r : List S_api_Prefix) (hF : slices_Clone_api_Prefix x0 = some r) (w : World) (hr : Row c_api_Prefix w p cap x0) :
    Calls Try.prog 61 #[.slice p x0.length cap] w (fun e w' => ∃ p' cap', e = .returned (.slice p' r.length cap') ∧ Own c_api_Prefix 46 w.heap.size w' p' cap' r ∧ Below w.heap.size w w') := by
 unfold slices_Clone_api_Prefix at hF
 obtain ⟨h, hF⟩ := of_guard hF
 obtain rfl := of_some hF
 have heq : ∀ w1, (binOp .eql 35 (.slice p x0.length cap) (.slice none 0 0)).run Try.prog w1 = .ok (.bool p.isNone) w1 := fun w1 => Lib.run_eql_slice_nil w1 _ _ p x0.length cap 0 0 Try.underlying35
 refine calls_enter (l := [.slice p x0.length cap]) Try.func61 rfl rfl rfl ?_
 refine at_start ?_
 refine sr ?_
 refine av rfl (r_assign rfl) ?_
 refine at_nil ?_
 refine at_then_normal ?_
 refine at_seq ?_
 refine sr ?_
 refine av rfl (r_move rfl) ?_
 refine at_val (v := .bool p.isNone) rfl rfl rfl (fun a w1 h _ => ?_) ?_
 ·have hx : a.eval (.tmp 3) = .slice p x0.length cap := h.eval rfl
  have hy : a.eval (.const (.slice none 0 0)) = .slice none 0 0 := rfl
  have hg : ∀ (t : TypeId) (x y : Operand), (eqGuard .eql t x y (.slice p x0.length cap) (.slice none 0 0)).run Try.prog w1 = .ok () w1 := fun t x y => rfl
  simp only [execOp, hx, hy, Sem.run_bind, hg, Result.andThen_ok, heq]
  rfl
 refine at_nil ?_
 refine at_then_normal ?_
 rcases hp : p with _ | a0
 ·have hxs : x0 = [] := by
   rcases hr.2 with h0 | ⟨b, o, hb, _⟩
   ·exact h0
   ·rw [hp] at hb; cases hb
  subst hxs
  refine at_cond_true rfl rfl ?_
  refine sr ?_
  refine av rfl (r_assign rfl) ?_
  refine at_nil ?_
  refine at_then_normal ?_
  refine rt ?_
  exact at_return1 rfl rfl (fun w1 hw => ⟨none, 0, rfl, Own.nil _ _ _ _, hw.below⟩)
 ·refine at_cond_false rfl rfl ?_
  refine sns ?_
  refine at_lit0 c_api_Prefix Try.underlying35 Try.sizeOf46 rfl ?_
  intro b
  refine av rfl (r_move rfl) ?_
  refine at_append_row (z := .agg (Cd.cs c_api_Prefix ({ f_A := ({ f_V := (0 : Int), f_B := (Vector.replicate 16 (0 : Int) : (Vector Int 16)) } : S_api_Addr), f_Bits := (0 : Int) } : S_api_Prefix)).toArray) (c := c_api_Prefix) (ys := x0) .z Try.underlying35 infoG746 (by kernel_rfl) (by kernel_rfl) rfl rfl rfl (fun w1 hw => hp ▸ hr.below hw.below) (by kernel_rfl) h (app_small h) rfl ?_
  intro p' cap'
  refine av rfl (r_assign rfl) ?_
  refine at_nil ?_
  refine at_then_normal ?_
  refine at_ret ?_
  exact at_return1 rfl rfl (fun w1 hw => ⟨p', cap', rfl, hw.own .z, hw.below⟩)
def change_Normal.l0 (x0 : S_api_Request) (i10 : List S_api_PeerChange) (i11 : Int) : Option (List S_api_PeerChange) :=
  if (decide (i11 < (x0.f_Peers.length : Int))) = true then (if (0 : Int) ≤ i11 ∧ i11 < (x0.f_Peers.length : Int) then if ((lget x0.f_Peers i11).f_Remove) = true then (slices_Clone_api_Prefix ([]) >>= fun t36 => if (i10.length + 1) * 152 ≤ 140737488355328 then change_Normal.l0 x0 (i10 ++ [{ { { ({ f_Key := (Vector.replicate 32 (0 : Int) : (Vector Int 32)), f_Remove := false, f_Update := false, f_HasPsk := false, f_Psk := (Vector.replicate 32 (0 : Int) : (Vector Int 32)), f_HasEnd := false, f_End := ({ f_A := ({ f_V := (0 : Int), f_B := (Vector.replicate 16 (0 : Int) : (Vector Int 16)) } : S_api_Addr), f_Port := (0 : Int) } : S_api_Endpoint), f_HasKeep := false, f_Keep := (0 : Int), f_Replace := false, f_Allowed := ([] : List S_api_Prefix) } : S_api_PeerChange) with f_Key := (lget x0.f_Peers i11).f_Key } with f_Remove := true } with f_Allowed := t36 }]) (wr .i64 (i11 + 1)) else none) else (slices_Clone_api_Prefix ((lget x0.f_Peers i11).f_Allowed) >>= fun t49 => if (i10.length + 1) * 152 ≤ 140737488355328 then change_Normal.l0 x0 (i10 ++ [{ lget x0.f_Peers i11 with f_Allowed := t49 }]) (wr .i64 (i11 + 1)) else none) else none) else (some i10)
  partial_fixpoint
def change_Normal (x0 : S_api_Request) : Option (S_api_Request) :=
  change_Normal.l0 x0 ([] : List S_api_PeerChange) 0 >>= fun q9 => some ({ x0 with f_Peers := q9 })
theorem change_Normal_ok {x0 : S_api_Request} {r : S_api_Request} (hF : change_Normal x0 = some r) : ∀ {w0 w : World} {G_ : List Ent} {Z_ : List Nat} {s_ : World} {g0_ : G_api_Request} (hz0 : NK_api_Request (KZ w0 Z_) s_ (g0_, x0)) (hw_ : Wd w0 (frzE w0 Z_ s_ :: G_) w),
    Calls Try.prog 19 #[.agg (Cd.cs c_api_Request (g0_, x0)).toArray] w (fun e w' => ∃ (Z' : List Nat) (s' : World) (z : G_api_Request), Mono (KZ w0 Z_) s_ (KZ w0 Z') s' ∧ e = .returned (.agg (Cd.cs c_api_Request (z, r)).toArray) ∧ (NK_api_Request (KZ w0 Z') s' (z, r)) ∧ Wd w0 (frzE w0 Z' s' :: G_) w') := by
 intro w0 w G_ Z_ s_ g0_ hz0 hw_
 unfold change_Normal at hF
 refine calls_enter (l := [.agg (Cd.cs c_api_Request (g0_, x0)).toArray]) Try.func19 rfl rfl rfl ?_
 refine at_enterF hw_ ?_
 clear hw_
 obtain ⟨Z0_, hZ0_⟩ : ∃ Z0_, Z0_ = Z_ := ⟨_, rfl⟩
 obtain ⟨s0_, hs0_⟩ : ∃ s0_, s0_ = s_ := ⟨_, rfl⟩
 have hM_ : Mono (KZ w0 Z0_) s0_ (KZ w0 Z_) s_ := by rw [hZ0_, hs0_]; exact Mono.refl _ _
 rw [← hZ0_, ← hs0_]
 rw [show frzE w0 Z0_ s0_ = frzE w0 Z_ s_ from by rw [hZ0_, hs0_]]
 refine at_weak [(0, _)] ⟨rfl, trivial⟩ ?_
 refine sr ?_
 refine at_box (cs := Cd.cs c_api_Request (g0_, x0)) rfl rfl rfl ?_
 intro b1
 refine at_alloc (cs := Cd.cs c_api_Request (((none : Option Addr), (0 : Nat)), zqG7_0)) Try.zeroValue27 rfl rfl ?_
 intro b2
 refine nws [(1, _), (2, _)] ⟨rfl, rfl, trivial⟩ ?_
 refine av rfl (r_assign rfl) ?_
 refine nwt [(1, _), (2, _), (3, _)] ⟨rfl, rfl, rfl, trivial⟩ ?_
 refine at_seq ?_
 refine sr ?_
 refine av rfl (r_fieldAddr (fo := 38) Try.underlying27 rfl rfl (fun w => ⟨_, Try.sizeOf25 w⟩) rfl) ?_
 refine av rfl (r_load_cell Try.isAgg25 rfl (lens_cell0 (c := cHd) (y := ⟨g0_.1, List.length x0.f_Peers, g0_.2⟩) (.s .z) (c_api_Request_f_Peers g0_ x0) rfl)) ?_
 refine av rfl (r_len_sl Try.underlying25 rfl) ?_
 refine av rfl (r_move rfl) ?_
 refine nwt [(1, _), (2, _), (3, _), (7, _), (8, _), (9, _)] ⟨rfl, rfl, rfl, rfl, rfl, rfl, trivial⟩ ?_
 refine at_block ?_
 refine at_own_nil c_api_PeerChange 37 ?_
 refine at_weak [(1, _), (2, _), (3, .slice (nn 3) ([] : List S_api_PeerChange).length 0), (7, _), (8, _), (9, _)] ⟨rfl, rfl, rfl, rfl, rfl, rfl, trivial⟩ ?_
 obtain ⟨q9, hq9, hF⟩ := of_bindM hF
 refine at_weak [(1, _), (2, _), (3, _), (7, _), (8, _), (9, _)] ⟨rfl, rfl, rfl, rfl, rfl, rfl, trivial⟩ ?_
 refine at_loop_n (B := 0) (A := fun Y => ∀ (Z_ : List Nat) (s_ : World) (hM_ : Mono (KZ w0 Z0_) s0_ (KZ w0 Z_) s_) (hz0 : NK_api_Request (KZ w0 Z_) s_ (g0_, x0)) (p17 : Option Addr) (c18 : Nat) (zs19 : List (G_api_PeerChange × S_api_PeerChange)) (hz20 : List.map Prod.snd zs19 = q9) (ha21 : ∀ z ∈ zs19, NK_api_PeerChange (KZ w0 Z_) s_ z), At 30 [(1, .pointer (some ⟨b1, 0, none⟩)), (2, .pointer (some ⟨b2, 0, none⟩)), (3, .slice p17 q9.length c18)] (Wd w0 (rowE c_api_PeerChange 37 p17 c18 zs19 :: cellsE b2 (Cd.cs c_api_Request (((none : Option Addr), (0 : Nat)), zqG7_0)) 27 :: cellsE b1 (Cd.cs c_api_Request (g0_, x0)) 27 :: frzE w0 Z_ s_ :: G_)) Y) ?_ ?_
 ·intro K
  refine change_Normal.l0.partial_correctness x0 (motive := fun i10 i11 x => KN (fun Y => ∀ (Z_ : List Nat) (s_ : World) (hM_ : Mono (KZ w0 Z0_) s0_ (KZ w0 Z_) s_) (hz0 : NK_api_Request (KZ w0 Z_) s_ (g0_, x0)) (p17 : Option Addr) (c18 : Nat) (zs19 : List (G_api_PeerChange × S_api_PeerChange)) (hz20 : List.map Prod.snd zs19 = x) (ha21 : ∀ z ∈ zs19, NK_api_PeerChange (KZ w0 Z_) s_ z), At 30 [(1, .pointer (some ⟨b1, 0, none⟩)), (2, .pointer (some ⟨b2, 0, none⟩)), (3, .slice p17 x.length c18)] (Wd w0 (rowE c_api_PeerChange 37 p17 c18 zs19 :: cellsE b2 (Cd.cs c_api_Request (((none : Option Addr), (0 : Nat)), zqG7_0)) 27 :: cellsE b1 (Cd.cs c_api_Request (g0_, x0)) 27 :: frzE w0 Z_ s_ :: G_)) Y) _ 0 → Round (fun Y => ∀ (Z_ : List Nat) (s_ : World) (hM_ : Mono (KZ w0 Z0_) s0_ (KZ w0 Z_) s_) (hz0 : NK_api_Request (KZ w0 Z_) s_ (g0_, x0)) (p12 : Option Addr) (c13 : Nat) (zs14 : List (G_api_PeerChange × S_api_PeerChange)) (hz15 : List.map Prod.snd zs14 = i10) (ha16 : ∀ z ∈ zs14, NK_api_PeerChange (KZ w0 Z_) s_ z), At 30 [(1, .pointer (some ⟨b1, 0, none⟩)), (2, .pointer (some ⟨b2, 0, none⟩)), (3, .slice p12 i10.length c13), (7, .slice g0_.1 x0.f_Peers.length g0_.2), (8, .int .i64 (x0.f_Peers.length : Int)), (9, .int .i64 i11)] (Wd w0 (rowE c_api_PeerChange 37 p12 c13 zs14 :: cellsE b2 (Cd.cs c_api_Request (((none : Option Addr), (0 : Nat)), zqG7_0)) 27 :: cellsE b1 (Cd.cs c_api_Request (g0_, x0)) 27 :: frzE w0 Z_ s_ :: G_)) Y) _ _ _) ?_ _ _ _ hq9 K Z_ s_ hM_ hz0 (nn 3) 0 ([] : List (G_api_PeerChange × S_api_PeerChange)) rfl all_nil
  ·clear K hF
   intro g ih i10 i11 x hF K Z_ s_ hM_ hz0 p12 c13 zs14 hz15 ha16
   refine at_round ?_
   refine sr ?_
   refine av rfl (r_ilss rfl rfl) ?_
   refine nwt [(1, _), (2, _), (3, _), (7, _), (8, _), (9, _), (10, _)] ⟨rfl, rfl, rfl, rfl, rfl, rfl, rfl, trivial⟩ ?_
   refine at_seq ?_
   rcases of_ite hF with ⟨h22, hF⟩ | ⟨h22, hF⟩
   ·refine at_cond_true rfl h22 ?_
    refine sn ?_
    refine at_seq ?_
    refine at_block ?_
    refine sr ?_
    obtain ⟨h23, hF⟩ := of_guard hF
    obtain ⟨zs27, hz28, hr29, hn30⟩ := id hz0
    obtain ⟨b25, o26, hp24⟩ := row_ptr (RowK.row hr29) (zidx hz28 h23)
    obtain ⟨g31, hg32⟩ := zget hz28 i11
    have hN33 : NK_api_PeerChange (KZ w0 Z_) s_ (g31, lget x0.f_Peers i11) := nz (N := NK_api_PeerChange (KZ w0 Z_)) hg32 hn30 (zidx hz28 h23)
    refine av rfl (r_idx Try.underlying25 Try.sizeOf37 rfl rfl h23 hp24) ?_
    refine av rfl (r_load_aggc (c := c_api_PeerChange) (z := (g31, lget x0.f_Peers i11)) Try.isAgg37 Try.sizeOf37 rfl (fun w1 hw => ncell (W := fun w1 => w1 = _) (fun w1 h => by subst h; exact Below.refl _ _) (RowK.row (RowK.mono hr29 (frz_mono (.s (.s (.s .z))) hw))) (zidx hz28 h23) hp24 hg32 _ rfl)) ?_
    refine at_alloc (cs := Cd.cs c_api_PeerChange (((none : Option Addr), (0 : Nat)), ({ f_Key := (Vector.replicate 32 (0 : Int) : (Vector Int 32)), f_Remove := false, f_Update := false, f_HasPsk := false, f_Psk := (Vector.replicate 32 (0 : Int) : (Vector Int 32)), f_HasEnd := false, f_End := zqG7_1, f_HasKeep := false, f_Keep := (0 : Int), f_Replace := false, f_Allowed := ([] : List S_api_Prefix) } : S_api_PeerChange))) Try.zeroValue37 rfl rfl ?_
    intro b34
    refine at_store (c := c_api_PeerChange) (z := (g31, lget x0.f_Peers i11)) .z (Lens.whole _ _) Try.sizeOf37 rfl rfl rfl ?_
    refine nwt [(1, _), (2, _), (3, _), (5, _), (7, _), (8, _), (9, _)] ⟨rfl, rfl, rfl, rfl, rfl, rfl, rfl, trivial⟩ ?_
    refine at_seq ?_
    refine sr ?_
    refine av rfl (r_fieldAddr (fo := 32) Try.underlying37 rfl rfl (fun w => ⟨_, Try.sizeOf4 w⟩) rfl) ?_
    refine av rfl (r_load_cell Try.isAgg4 rfl (lens_cell0 (c := cBool) (y := (lget x0.f_Peers i11).f_Remove) .z (c_api_PeerChange_f_Remove g31 (lget x0.f_Peers i11)) rfl)) ?_
    refine nwt [(1, _), (2, _), (3, _), (5, _), (7, _), (8, _), (9, _), (14, _)] ⟨rfl, rfl, rfl, rfl, rfl, rfl, rfl, rfl, trivial⟩ ?_
    rcases of_ite hF with ⟨h35, hF⟩ | ⟨h35, hF⟩
    ·refine at_cond_true rfl h35 ?_
     refine at_region ?_
     refine av rfl (r_fieldAddr (fo := 0) Try.underlying37 rfl rfl (fun w => ⟨_, Try.sizeOf23 w⟩) rfl) ?_
     refine av rfl (r_load_aggc (c := (cVec (cInt .u8) 32 (by decide))) (z := (lget x0.f_Peers i11).f_Key) Try.isAgg23 Try.sizeOf23 rfl (lens_cell .z (c_api_PeerChange_f_Key g31 (lget x0.f_Peers i11)))) ?_
     refine av rfl (r_build_struct (zs := Cd.cs c_api_PeerChange (((none : Option Addr), (0 : Nat)), ({ f_Key := (Vector.replicate 32 (0 : Int) : (Vector Int 32)), f_Remove := false, f_Update := false, f_HasPsk := false, f_Psk := (Vector.replicate 32 (0 : Int) : (Vector Int 32)), f_HasEnd := false, f_End := zqG7_1, f_HasKeep := false, f_Keep := (0 : Int), f_Replace := false, f_Allowed := ([] : List S_api_Prefix) } : S_api_PeerChange))) (cs := Cd.cs c_api_PeerChange (((none : Option Addr), (0 : Nat)), { { ({ f_Key := (Vector.replicate 32 (0 : Int) : (Vector Int 32)), f_Remove := false, f_Update := false, f_HasPsk := false, f_Psk := (Vector.replicate 32 (0 : Int) : (Vector Int 32)), f_HasEnd := false, f_End := zqG7_1, f_HasKeep := false, f_Keep := (0 : Int), f_Replace := false, f_Allowed := ([] : List S_api_Prefix) } : S_api_PeerChange) with f_Key := (lget x0.f_Peers i11).f_Key } with f_Remove := true })) Try.underlying37 Try.zeroValue37 rfl (places_api_PeerChange_37) rfl (fill_step (c := (cVec (cInt .u8) 32 (by decide))) (z := (lget x0.f_Peers i11).f_Key) rfl (c_api_PeerChange_f_Key ((none : Option Addr), (0 : Nat)) ({ f_Key := (Vector.replicate 32 (0 : Int) : (Vector Int 32)), f_Remove := false, f_Update := false, f_HasPsk := false, f_Psk := (Vector.replicate 32 (0 : Int) : (Vector Int 32)), f_HasEnd := false, f_End := zqG7_1, f_HasKeep := false, f_Keep := (0 : Int), f_Replace := false, f_Allowed := ([] : List S_api_Prefix) } : S_api_PeerChange)) rfl (fill_step (c := cBool) (z := true) rfl (c_api_PeerChange_f_Remove ((none : Option Addr), (0 : Nat)) ({ ({ f_Key := (Vector.replicate 32 (0 : Int) : (Vector Int 32)), f_Remove := false, f_Update := false, f_HasPsk := false, f_Psk := (Vector.replicate 32 (0 : Int) : (Vector Int 32)), f_HasEnd := false, f_End := zqG7_1, f_HasKeep := false, f_Keep := (0 : Int), f_Replace := false, f_Allowed := ([] : List S_api_Prefix) } : S_api_PeerChange) with f_Key := (lget x0.f_Peers i11).f_Key })) rfl rfl))) ?_
     refine at_store (c := c_api_PeerChange) (z := (((none : Option Addr), (0 : Nat)), { { ({ f_Key := (Vector.replicate 32 (0 : Int) : (Vector Int 32)), f_Remove := false, f_Update := false, f_HasPsk := false, f_Psk := (Vector.replicate 32 (0 : Int) : (Vector Int 32)), f_HasEnd := false, f_End := zqG7_1, f_HasKeep := false, f_Keep := (0 : Int), f_Replace := false, f_Allowed := ([] : List S_api_Prefix) } : S_api_PeerChange) with f_Key := (lget x0.f_Peers i11).f_Key } with f_Remove := true })) .z (Lens.whole _ _) Try.sizeOf37 rfl rfl rfl ?_
     refine nws [(1, _), (2, _), (3, _), (5, _), (7, _), (8, _), (9, _)] ⟨rfl, rfl, rfl, rfl, rfl, rfl, rfl, trivial⟩ ?_
     refine av rfl (r_fieldAddr (fo := 89) Try.underlying37 rfl rfl (fun w => ⟨_, Try.sizeOf35 w⟩) rfl) ?_
     refine av rfl (r_load_cell Try.isAgg35 rfl (lens_cell0 (c := cHd) (y := ⟨((none : Option Addr), (0 : Nat)).1, List.length (({ { ({ f_Key := (Vector.replicate 32 (0 : Int) : (Vector Int 32)), f_Remove := false, f_Update := false, f_HasPsk := false, f_Psk := (Vector.replicate 32 (0 : Int) : (Vector Int 32)), f_HasEnd := false, f_End := zqG7_1, f_HasKeep := false, f_Keep := (0 : Int), f_Replace := false, f_Allowed := ([] : List S_api_Prefix) } : S_api_PeerChange) with f_Key := (lget x0.f_Peers i11).f_Key } with f_Remove := true }).f_Allowed), ((none : Option Addr), (0 : Nat)).2⟩) .z (c_api_PeerChange_f_Allowed ((none : Option Addr), (0 : Nat)) ({ { ({ f_Key := (Vector.replicate 32 (0 : Int) : (Vector Int 32)), f_Remove := false, f_Update := false, f_HasPsk := false, f_Psk := (Vector.replicate 32 (0 : Int) : (Vector Int 32)), f_HasEnd := false, f_End := zqG7_1, f_HasKeep := false, f_Keep := (0 : Int), f_Replace := false, f_Allowed := ([] : List S_api_Prefix) } : S_api_PeerChange) with f_Key := (lget x0.f_Peers i11).f_Key } with f_Remove := true })) rfl)) ?_
     obtain ⟨t36, ht36, hF⟩ := of_bindM hF
     refine at_callO (c := c_api_Prefix) (e := 46) (ys := t36) (V := fun p cap => .slice p t36.length cap) Try.func61 rfl (by kernel_rfl) rfl rfl (fun w hw => slices_Clone_api_Prefix_ok _ _ _ _ ht36 w (Row.nil ..)) ?_
     intro p37 c38
     refine av rfl (r_fieldAddr (fo := 89) Try.underlying37 rfl rfl (fun w => ⟨_, Try.sizeOf35 w⟩) rfl) ?_
     refine at_store (c := cSv S_api_Prefix) (z := ((p37, c38), t36)) (.s .z) (c_api_PeerChange_f_Allowed_sv ((none : Option Addr), (0 : Nat)) ({ { ({ f_Key := (Vector.replicate 32 (0 : Int) : (Vector Int 32)), f_Remove := false, f_Update := false, f_HasPsk := false, f_Psk := (Vector.replicate 32 (0 : Int) : (Vector Int 32)), f_HasEnd := false, f_End := zqG7_1, f_HasKeep := false, f_Keep := (0 : Int), f_Replace := false, f_Allowed := ([] : List S_api_Prefix) } : S_api_PeerChange) with f_Key := (lget x0.f_Peers i11).f_Key } with f_Remove := true })) Try.sizeOf35 rfl rfl rfl ?_
     refine nwt [(1, _), (2, _), (3, _), (5, _), (7, _), (8, _), (9, _)] ⟨rfl, rfl, rfl, rfl, rfl, rfl, rfl, trivial⟩ ?_
     refine at_region ?_
     refine av rfl (r_move rfl) ?_
     refine av rfl (r_load_aggc (c := c_api_PeerChange) (z := ((p37, c38), { { { ({ f_Key := (Vector.replicate 32 (0 : Int) : (Vector Int 32)), f_Remove := false, f_Update := false, f_HasPsk := false, f_Psk := (Vector.replicate 32 (0 : Int) : (Vector Int 32)), f_HasEnd := false, f_End := zqG7_1, f_HasKeep := false, f_Keep := (0 : Int), f_Replace := false, f_Allowed := ([] : List S_api_Prefix) } : S_api_PeerChange) with f_Key := (lget x0.f_Peers i11).f_Key } with f_Remove := true } with f_Allowed := t36 })) Try.isAgg37 Try.sizeOf37 rfl (lens_cell (.s .z) (Lens.whole _ _))) ?_
     refine at_freeze (.s (.s (.s (.s .z)))) ?_
     intro Z_ s_ hm40 hk41
     replace hM_ := Mono.mono hM_ hm40
     replace hz0 := NK_api_Request.mono hz0 hm40
     replace ha16 := fun z hz => NK_api_PeerChange.mono (ha16 z hz) hm40
     replace hN33 := NK_api_PeerChange.mono hN33 hm40
     replace hr29 := RowK.mono hr29 hm40
     have hN39 : NK_api_PeerChange (KZ w0 Z_) s_ ((p37, c38), { { { ({ f_Key := (Vector.replicate 32 (0 : Int) : (Vector Int 32)), f_Remove := false, f_Update := false, f_HasPsk := false, f_Psk := (Vector.replicate 32 (0 : Int) : (Vector Int 32)), f_HasEnd := false, f_End := zqG7_1, f_HasKeep := false, f_Keep := (0 : Int), f_Replace := false, f_Allowed := ([] : List S_api_Prefix) } : S_api_PeerChange) with f_Key := (lget x0.f_Peers i11).f_Key } with f_Remove := true } with f_Allowed := t36 }) := hk41
     refine at_litL (c := c_api_PeerChange) ([(((none : Option Addr), (0 : Nat)), ({ f_Key := (Vector.replicate 32 (0 : Int) : (Vector Int 32)), f_Remove := false, f_Update := false, f_HasPsk := false, f_Psk := (Vector.replicate 32 (0 : Int) : (Vector Int 32)), f_HasEnd := false, f_End := zqG7_1, f_HasKeep := false, f_Keep := (0 : Int), f_Replace := false, f_Allowed := ([] : List S_api_Prefix) } : S_api_PeerChange))] : List (G_api_PeerChange × S_api_PeerChange)) ([((p37, c38), { { { ({ f_Key := (Vector.replicate 32 (0 : Int) : (Vector Int 32)), f_Remove := false, f_Update := false, f_HasPsk := false, f_Psk := (Vector.replicate 32 (0 : Int) : (Vector Int 32)), f_HasEnd := false, f_End := zqG7_1, f_HasKeep := false, f_Keep := (0 : Int), f_Replace := false, f_Allowed := ([] : List S_api_Prefix) } : S_api_PeerChange) with f_Key := (lget x0.f_Peers i11).f_Key } with f_Remove := true } with f_Allowed := t36 })] : List (G_api_PeerChange × S_api_PeerChange)) Try.underlying25 Try.sizeOf37 Try.zeroValue37 rfl rfl rfl (by kernel_rfl) (fill_step (c := c_api_PeerChange) (z := ((p37, c38), { { { ({ f_Key := (Vector.replicate 32 (0 : Int) : (Vector Int 32)), f_Remove := false, f_Update := false, f_HasPsk := false, f_Psk := (Vector.replicate 32 (0 : Int) : (Vector Int 32)), f_HasEnd := false, f_End := zqG7_1, f_HasKeep := false, f_Keep := (0 : Int), f_Replace := false, f_Allowed := ([] : List S_api_Prefix) } : S_api_PeerChange) with f_Key := (lget x0.f_Peers i11).f_Key } with f_Remove := true } with f_Allowed := t36 })) rfl (Lens.all c_api_PeerChange ([(((none : Option Addr), (0 : Nat)), ({ f_Key := (Vector.replicate 32 (0 : Int) : (Vector Int 32)), f_Remove := false, f_Update := false, f_HasPsk := false, f_Psk := (Vector.replicate 32 (0 : Int) : (Vector Int 32)), f_HasEnd := false, f_End := zqG7_1, f_HasKeep := false, f_Keep := (0 : Int), f_Replace := false, f_Allowed := ([] : List S_api_Prefix) } : S_api_PeerChange))] : List (G_api_PeerChange × S_api_PeerChange)) 0 (by decide)) rfl rfl) rfl ?_
     intro b42
     obtain ⟨h43, hF⟩ := of_guard hF
     refine at_appendN (z := .agg (Cd.cs c_api_PeerChange (((none : Option Addr), (0 : Nat)), ({ f_Key := (Vector.replicate 32 (0 : Int) : (Vector Int 32)), f_Remove := false, f_Update := false, f_HasPsk := false, f_Psk := (Vector.replicate 32 (0 : Int) : (Vector Int 32)), f_HasEnd := false, f_End := zqG7_1, f_HasKeep := false, f_Keep := (0 : Int), f_Replace := false, f_Allowed := ([] : List S_api_Prefix) } : S_api_PeerChange))).toArray) (c := c_api_PeerChange) (ys := ([{ { { ({ f_Key := (Vector.replicate 32 (0 : Int) : (Vector Int 32)), f_Remove := false, f_Update := false, f_HasPsk := false, f_Psk := (Vector.replicate 32 (0 : Int) : (Vector Int 32)), f_HasEnd := false, f_End := zqG7_1, f_HasKeep := false, f_Keep := (0 : Int), f_Replace := false, f_Allowed := ([] : List S_api_Prefix) } : S_api_PeerChange) with f_Key := (lget x0.f_Peers i11).f_Key } with f_Remove := true } with f_Allowed := t36 }] : List S_api_PeerChange)) (us := ([((p37, c38), { { { ({ f_Key := (Vector.replicate 32 (0 : Int) : (Vector Int 32)), f_Remove := false, f_Update := false, f_HasPsk := false, f_Psk := (Vector.replicate 32 (0 : Int) : (Vector Int 32)), f_HasEnd := false, f_End := zqG7_1, f_HasKeep := false, f_Keep := (0 : Int), f_Replace := false, f_Allowed := ([] : List S_api_Prefix) } : S_api_PeerChange) with f_Key := (lget x0.f_Peers i11).f_Key } with f_Remove := true } with f_Allowed := t36 })] : List (G_api_PeerChange × S_api_PeerChange))) (Φ := fun z => NK_api_PeerChange (KZ w0 Z_) s_ z) (.s (.s .z)) hz15 rfl ha16 (all_cons hN39 all_nil) Try.underlying25 infoG737 (by kernel_rfl) (by kernel_rfl) rfl rfl rfl rfl (fun _ hw => cells_src (hw.ok (Upd.mem .z))) (by kernel_rfl) h43 (app_small h43) rfl ?_
     intro p44 c45 zs48 hz46 ha47
     refine av rfl (r_assign rfl) ?_
     refine at_nil ?_
     refine at_drop (H := _) .z ?_
     refine at_drop (H := _) .z ?_
     refine at_weak [(1, _), (2, _), (3, _), (7, _), (8, _), (9, _)] ⟨rfl, rfl, rfl, rfl, rfl, rfl, trivial⟩ ?_
     refine at_blk_normal (at_then_normal ?_)
     refine at_region ?_
     refine av rfl (r_iadd rfl rfl) ?_
     refine av rfl (r_move rfl) ?_
     refine nwt [(1, _), (2, _), (3, _), (7, _), (8, _), (9, _)] ⟨rfl, rfl, rfl, rfl, rfl, rfl, trivial⟩ ?_
     exact at_weak_k (ih _ _ _ hF K Z_ s_ hM_ hz0 p44 c45 zs48 hz46 ha47) ⟨rfl, rfl, rfl, rfl, rfl, rfl, trivial⟩
    ·refine at_cond_false rfl h35 ?_
     refine sns ?_
     refine av rfl (r_fieldAddr (fo := 89) Try.underlying37 rfl rfl (fun w => ⟨_, Try.sizeOf35 w⟩) rfl) ?_
     refine av rfl (r_load_cell Try.isAgg35 rfl (lens_cell0 (c := cHd) (y := ⟨g31.1, List.length ((lget x0.f_Peers i11).f_Allowed), g31.2⟩) .z (c_api_PeerChange_f_Allowed g31 (lget x0.f_Peers i11)) rfl)) ?_
     obtain ⟨t49, ht49, hF⟩ := of_bindM hF
     refine at_callO (c := c_api_Prefix) (e := 46) (ys := t49) (V := fun p cap => .slice p t49.length cap) Try.func61 rfl (by kernel_rfl) rfl rfl (fun w hw => slices_Clone_api_Prefix_ok _ _ _ _ ht49 w (RowK.row (RowK.mono hN33 (frz_mono (.s (.s (.s (.s .z)))) hw)))) ?_
     intro p50 c51
     refine av rfl (r_fieldAddr (fo := 89) Try.underlying37 rfl rfl (fun w => ⟨_, Try.sizeOf35 w⟩) rfl) ?_
     refine at_store (c := cSv S_api_Prefix) (z := ((p50, c51), t49)) (.s .z) (c_api_PeerChange_f_Allowed_sv g31 (lget x0.f_Peers i11)) Try.sizeOf35 rfl rfl rfl ?_
     refine nwt [(1, _), (2, _), (3, _), (5, _), (7, _), (8, _), (9, _)] ⟨rfl, rfl, rfl, rfl, rfl, rfl, rfl, trivial⟩ ?_
     refine at_region ?_
     refine av rfl (r_move rfl) ?_
     refine av rfl (r_load_aggc (c := c_api_PeerChange) (z := ((p50, c51), { lget x0.f_Peers i11 with f_Allowed := t49 })) Try.isAgg37 Try.sizeOf37 rfl (lens_cell (.s .z) (Lens.whole _ _))) ?_
     refine at_freeze (.s (.s (.s (.s .z)))) ?_
     intro Z_ s_ hm53 hk54
     replace hM_ := Mono.mono hM_ hm53
     replace hz0 := NK_api_Request.mono hz0 hm53
     replace ha16 := fun z hz => NK_api_PeerChange.mono (ha16 z hz) hm53
     replace hN33 := NK_api_PeerChange.mono hN33 hm53
     replace hr29 := RowK.mono hr29 hm53
     have hN52 : NK_api_PeerChange (KZ w0 Z_) s_ ((p50, c51), { lget x0.f_Peers i11 with f_Allowed := t49 }) := hk54
     refine at_litL (c := c_api_PeerChange) ([(((none : Option Addr), (0 : Nat)), ({ f_Key := (Vector.replicate 32 (0 : Int) : (Vector Int 32)), f_Remove := false, f_Update := false, f_HasPsk := false, f_Psk := (Vector.replicate 32 (0 : Int) : (Vector Int 32)), f_HasEnd := false, f_End := zqG7_1, f_HasKeep := false, f_Keep := (0 : Int), f_Replace := false, f_Allowed := ([] : List S_api_Prefix) } : S_api_PeerChange))] : List (G_api_PeerChange × S_api_PeerChange)) ([((p50, c51), { lget x0.f_Peers i11 with f_Allowed := t49 })] : List (G_api_PeerChange × S_api_PeerChange)) Try.underlying25 Try.sizeOf37 Try.zeroValue37 rfl rfl rfl (by kernel_rfl) (fill_step (c := c_api_PeerChange) (z := ((p50, c51), { lget x0.f_Peers i11 with f_Allowed := t49 })) rfl (Lens.all c_api_PeerChange ([(((none : Option Addr), (0 : Nat)), ({ f_Key := (Vector.replicate 32 (0 : Int) : (Vector Int 32)), f_Remove := false, f_Update := false, f_HasPsk := false, f_Psk := (Vector.replicate 32 (0 : Int) : (Vector Int 32)), f_HasEnd := false, f_End := zqG7_1, f_HasKeep := false, f_Keep := (0 : Int), f_Replace := false, f_Allowed := ([] : List S_api_Prefix) } : S_api_PeerChange))] : List (G_api_PeerChange × S_api_PeerChange)) 0 (by decide)) rfl rfl) rfl ?_
     intro b55
     obtain ⟨h56, hF⟩ := of_guard hF
     refine at_appendN (z := .agg (Cd.cs c_api_PeerChange (((none : Option Addr), (0 : Nat)), ({ f_Key := (Vector.replicate 32 (0 : Int) : (Vector Int 32)), f_Remove := false, f_Update := false, f_HasPsk := false, f_Psk := (Vector.replicate 32 (0 : Int) : (Vector Int 32)), f_HasEnd := false, f_End := zqG7_1, f_HasKeep := false, f_Keep := (0 : Int), f_Replace := false, f_Allowed := ([] : List S_api_Prefix) } : S_api_PeerChange))).toArray) (c := c_api_PeerChange) (ys := ([{ lget x0.f_Peers i11 with f_Allowed := t49 }] : List S_api_PeerChange)) (us := ([((p50, c51), { lget x0.f_Peers i11 with f_Allowed := t49 })] : List (G_api_PeerChange × S_api_PeerChange))) (Φ := fun z => NK_api_PeerChange (KZ w0 Z_) s_ z) (.s (.s .z)) hz15 rfl ha16 (all_cons hN52 all_nil) Try.underlying25 infoG737 (by kernel_rfl) (by kernel_rfl) rfl rfl rfl rfl (fun _ hw => cells_src (hw.ok (Upd.mem .z))) (by kernel_rfl) h56 (app_small h56) rfl ?_
     intro p57 c58 zs61 hz59 ha60
     refine av rfl (r_assign rfl) ?_
     refine at_nil ?_
     refine at_drop (H := _) .z ?_
     refine at_drop (H := _) .z ?_
     refine at_weak [(1, _), (2, _), (3, _), (7, _), (8, _), (9, _)] ⟨rfl, rfl, rfl, rfl, rfl, rfl, trivial⟩ ?_
     refine at_blk_normal (at_then_normal ?_)
     refine at_region ?_
     refine av rfl (r_iadd rfl rfl) ?_
     refine av rfl (r_move rfl) ?_
     refine nwt [(1, _), (2, _), (3, _), (7, _), (8, _), (9, _)] ⟨rfl, rfl, rfl, rfl, rfl, rfl, trivial⟩ ?_
     exact at_weak_k (ih _ _ _ hF K Z_ s_ hM_ hz0 p57 c58 zs61 hz59 ha60) ⟨rfl, rfl, rfl, rfl, rfl, rfl, trivial⟩
   ·refine at_cond_false rfl h22 ?_
    refine at_exit ?_
    refine at_then_exit (at_then_exit ?_)
    obtain rfl := of_some hF
    exact at_weak_k (K Z_ s_ hM_ hz0 p12 c13 zs14 hz15 ha16) ⟨rfl, rfl, rfl, trivial⟩
 ·skip
  intro Z_ s_ hM_ hz0 p17 c18 zs19 hz20 ha21
  refine at_blk_same ?_
  refine at_then_normal ?_
  refine sr ?_
  refine av rfl (r_move rfl) ?_
  refine av rfl (r_fieldAddr (fo := 38) Try.underlying27 rfl rfl (fun w => ⟨_, Try.sizeOf25 w⟩) rfl) ?_
  refine at_store (c := cSv S_api_PeerChange) (z := ((p17, c18), q9)) (.s (.s .z)) (c_api_Request_f_Peers_sv g0_ x0) Try.sizeOf25 rfl rfl rfl ?_
  refine nws [(1, _), (2, _)] ⟨rfl, rfl, trivial⟩ ?_
  refine av rfl (r_load_aggc (c := c_api_Request) (z := ((p17, c18), { x0 with f_Peers := q9 })) Try.isAgg27 Try.sizeOf27 rfl (lens_cell (.s (.s .z)) (Lens.whole _ _))) ?_
  refine at_store (c := c_api_Request) (z := ((p17, c18), { x0 with f_Peers := q9 })) (.s .z) (Lens.whole _ _) Try.sizeOf27 rfl rfl rfl ?_
  refine at_nil ?_
  refine at_drop (H := _) (.s (.s .z)) ?_
  refine at_weak [(2, _)] ⟨rfl, trivial⟩ ?_
  refine at_then_normal ?_
  refine at_ret ?_
  refine at_freeze (.s .z) ?_
  intro Z_ s_ hm63 hk64
  replace hM_ := Mono.mono hM_ hm63
  replace hz0 := NK_api_Request.mono hz0 hm63
  replace ha21 := fun z hz => NK_api_PeerChange.mono (ha21 z hz) hm63
  have hK65 : NKR_api_PeerChange (KZ w0 Z_) s_ p17 c18 q9 := ⟨zs19, hz20, hk64, ha21⟩
  have hN62 : NK_api_Request (KZ w0 Z_) s_ ((p17, c18), { x0 with f_Peers := q9 }) := hK65
  have K := of_some hF
  subst K
  exact at_res1 rfl (res_cell (c := c_api_Request) (y := ((p17, c18), { x0 with f_Peers := q9 })) rfl .z (Lens.whole _ _) Try.isAgg27 Try.sizeOf27 (.inl rfl)) (fun w1 hw => ⟨Z_, s_, (p17, c18), hM_, rfl, hN62, hw.pop⟩)
def crawlwayref32_Normal.l0 (x0 : S_api_Request) (i11 : Int) (i12 : S_api_Request) : Option (S_api_Request) :=
  if (decide (i11 < (x0.f_Peers.length : Int))) = true then (if (0 : Int) ≤ i11 ∧ i11 < (x0.f_Peers.length : Int) then if ((lget x0.f_Peers i11).f_Remove) = true then (if (i12.f_Peers.length + 1) * 152 ≤ 140737488355328 then crawlwayref32_Normal.l0 x0 (wr .i64 (i11 + 1)) ({ i12 with f_Peers := i12.f_Peers ++ [{ { ({ f_Key := (Vector.replicate 32 (0 : Int) : (Vector Int 32)), f_Remove := false, f_Update := false, f_HasPsk := false, f_Psk := (Vector.replicate 32 (0 : Int) : (Vector Int 32)), f_HasEnd := false, f_End := ({ f_A := ({ f_V := (0 : Int), f_B := (Vector.replicate 16 (0 : Int) : (Vector Int 16)) } : S_api_Addr), f_Port := (0 : Int) } : S_api_Endpoint), f_HasKeep := false, f_Keep := (0 : Int), f_Replace := false, f_Allowed := ([] : List S_api_Prefix) } : S_api_PeerChange) with f_Key := (lget x0.f_Peers i11).f_Key } with f_Remove := true }] }) else none) else (if (i12.f_Peers.length + 1) * 152 ≤ 140737488355328 then crawlwayref32_Normal.l0 x0 (wr .i64 (i11 + 1)) ({ i12 with f_Peers := i12.f_Peers ++ [lget x0.f_Peers i11] }) else none) else none) else (some i12)
  partial_fixpoint
def crawlwayref32_Normal (x0 : S_api_Request) : Option (S_api_Request) :=
  crawlwayref32_Normal.l0 x0 0 ({ x0 with f_Peers := ([] : List S_api_PeerChange) }) >>= fun q10 => some q10
theorem crawlwayref32_Normal_ok {x0 : S_api_Request} {r : S_api_Request} (hF : crawlwayref32_Normal x0 = some r) : ∀ {w0 w : World} {G_ : List Ent} {Z_ : List Nat} {s_ : World} {g0_ : G_api_Request} (hz0 : NK_api_Request (KZ w0 Z_) s_ (g0_, x0)) (hw_ : Wd w0 (frzE w0 Z_ s_ :: G_) w),
    Calls Try.prog 21 #[.agg (Cd.cs c_api_Request (g0_, x0)).toArray] w (fun e w' => ∃ (Z' : List Nat) (s' : World) (z : G_api_Request), Mono (KZ w0 Z_) s_ (KZ w0 Z') s' ∧ e = .returned (.agg (Cd.cs c_api_Request (z, r)).toArray) ∧ (NK_api_Request (KZ w0 Z') s' (z, r)) ∧ Wd w0 (frzE w0 Z' s' :: G_) w') := by
 intro w0 w G_ Z_ s_ g0_ hz0 hw_
 unfold crawlwayref32_Normal at hF
 refine calls_enter (l := [.agg (Cd.cs c_api_Request (g0_, x0)).toArray]) Try.func21 rfl rfl rfl ?_
 refine at_enterF hw_ ?_
 clear hw_
 obtain ⟨Z0_, hZ0_⟩ : ∃ Z0_, Z0_ = Z_ := ⟨_, rfl⟩
 obtain ⟨s0_, hs0_⟩ : ∃ s0_, s0_ = s_ := ⟨_, rfl⟩
 have hM_ : Mono (KZ w0 Z0_) s0_ (KZ w0 Z_) s_ := by rw [hZ0_, hs0_]; exact Mono.refl _ _
 rw [← hZ0_, ← hs0_]
 rw [show frzE w0 Z0_ s0_ = frzE w0 Z_ s_ from by rw [hZ0_, hs0_]]
 refine at_weak [(0, _)] ⟨rfl, trivial⟩ ?_
 refine sr ?_
 refine at_box (cs := Cd.cs c_api_Request (g0_, x0)) rfl rfl rfl ?_
 intro b1
 refine at_alloc (cs := Cd.cs c_api_Request (((none : Option Addr), (0 : Nat)), zqG7_0)) Try.zeroValue27 rfl rfl ?_
 intro b2
 refine nws [(1, _), (2, _)] ⟨rfl, rfl, trivial⟩ ?_
 refine av rfl (r_load_aggc (c := c_api_Request) (z := (g0_, x0)) Try.isAgg27 Try.sizeOf27 rfl (lens_cell (.s .z) (Lens.whole _ _))) ?_
 refine at_alloc (cs := Cd.cs c_api_Request (((none : Option Addr), (0 : Nat)), zqG7_0)) Try.zeroValue27 rfl rfl ?_
 intro b3
 refine at_store (c := c_api_Request) (z := (g0_, x0)) .z (Lens.whole _ _) Try.sizeOf27 rfl rfl rfl ?_
 refine nws [(1, _), (2, _), (3, _)] ⟨rfl, rfl, rfl, trivial⟩ ?_
 refine av rfl (r_fieldAddr (fo := 38) Try.underlying27 rfl rfl (fun w => ⟨_, Try.sizeOf25 w⟩) rfl) ?_
 refine at_store (c := cSv S_api_PeerChange) (z := (((none : Option Addr), (0 : Nat)), ([] : List S_api_PeerChange))) .z (c_api_Request_f_Peers_sv g0_ x0) Try.sizeOf25 rfl rfl rfl ?_
 refine nwt [(1, _), (2, _), (3, _)] ⟨rfl, rfl, rfl, trivial⟩ ?_
 refine at_seq ?_
 refine sr ?_
 refine av rfl (r_assign rfl) ?_
 refine nwt [(1, _), (2, _), (3, _), (4, _)] ⟨rfl, rfl, rfl, rfl, trivial⟩ ?_
 refine at_block ?_
 refine at_own_nil c_api_PeerChange 37 ?_
 obtain ⟨q10, hq10, hF⟩ := of_bindM hF
 refine at_front (.s .z) ?_
 refine at_weak [(1, _), (2, _), (3, _), (4, _)] ⟨rfl, rfl, rfl, rfl, trivial⟩ ?_
 refine at_loop_n (B := 0) (A := fun Y => ∀ (p18 : Option Addr) (c19 : Nat) (zs20 : List (G_api_PeerChange × S_api_PeerChange)) (hz21 : List.map Prod.snd zs20 = q10.f_Peers) (ha22 : ∀ z ∈ zs20, NK_api_PeerChange (KZ w0 Z_) s_ z), At 32 [(2, .pointer (some ⟨b2, 0, none⟩)), (3, .pointer (some ⟨b3, 0, none⟩))] (Wd w0 (cellsE b3 (Cd.cs c_api_Request ((p18, c19), q10)) 27 :: rowE c_api_PeerChange 37 p18 c19 zs20 :: cellsE b2 (Cd.cs c_api_Request (((none : Option Addr), (0 : Nat)), zqG7_0)) 27 :: frzE w0 Z_ s_ :: G_)) Y) ?_ ?_
 ·intro K
  refine crawlwayref32_Normal.l0.partial_correctness x0 (motive := fun i11 i12 x => KN (fun Y => ∀ (p18 : Option Addr) (c19 : Nat) (zs20 : List (G_api_PeerChange × S_api_PeerChange)) (hz21 : List.map Prod.snd zs20 = x.f_Peers) (ha22 : ∀ z ∈ zs20, NK_api_PeerChange (KZ w0 Z_) s_ z), At 32 [(2, .pointer (some ⟨b2, 0, none⟩)), (3, .pointer (some ⟨b3, 0, none⟩))] (Wd w0 (cellsE b3 (Cd.cs c_api_Request ((p18, c19), x)) 27 :: rowE c_api_PeerChange 37 p18 c19 zs20 :: cellsE b2 (Cd.cs c_api_Request (((none : Option Addr), (0 : Nat)), zqG7_0)) 27 :: frzE w0 Z_ s_ :: G_)) Y) _ 0 → Round (fun Y => ∀ (p13 : Option Addr) (c14 : Nat) (zs15 : List (G_api_PeerChange × S_api_PeerChange)) (hz16 : List.map Prod.snd zs15 = (i12.f_Peers)) (ha17 : ∀ z ∈ zs15, NK_api_PeerChange (KZ w0 Z_) s_ z), At 32 [(1, .pointer (some ⟨b1, 0, none⟩)), (2, .pointer (some ⟨b2, 0, none⟩)), (3, .pointer (some ⟨b3, 0, none⟩)), (4, .int .i64 i11)] (Wd w0 (cellsE b3 (Cd.cs c_api_Request ((p13, c14), i12)) 27 :: rowE c_api_PeerChange 37 p13 c14 zs15 :: cellsE b2 (Cd.cs c_api_Request (((none : Option Addr), (0 : Nat)), zqG7_0)) 27 :: cellsE b1 (Cd.cs c_api_Request (g0_, x0)) 27 :: frzE w0 Z_ s_ :: G_)) Y) _ _ _) ?_ _ _ _ hq10 K (nn 4) 0 ([] : List (G_api_PeerChange × S_api_PeerChange)) rfl all_nil
  ·clear K hF
   intro g ih i11 i12 x hF K p13 c14 zs15 hz16 ha17
   refine at_round ?_
   refine at_seq ?_
   refine sr ?_
   refine av rfl (r_move rfl) ?_
   refine av rfl (r_fieldAddr (fo := 38) Try.underlying27 rfl rfl (fun w => ⟨_, Try.sizeOf25 w⟩) rfl) ?_
   refine av rfl (r_load_cell Try.isAgg25 rfl (lens_cell0 (c := cHd) (y := ⟨g0_.1, List.length x0.f_Peers, g0_.2⟩) (.s (.s (.s .z))) (c_api_Request_f_Peers g0_ x0) rfl)) ?_
   refine av rfl (r_len_sl Try.underlying25 rfl) ?_
   refine av rfl (r_ilss rfl rfl) ?_
   refine nwt [(1, _), (2, _), (3, _), (4, _), (12, _)] ⟨rfl, rfl, rfl, rfl, rfl, trivial⟩ ?_
   rcases of_ite hF with ⟨h23, hF⟩ | ⟨h23, hF⟩
   ·refine at_cond_true rfl h23 ?_
    refine sn ?_
    refine at_seq ?_
    refine at_block ?_
    refine sr ?_
    refine av rfl (r_fieldAddr (fo := 38) Try.underlying27 rfl rfl (fun w => ⟨_, Try.sizeOf25 w⟩) rfl) ?_
    refine av rfl (r_load_cell Try.isAgg25 rfl (lens_cell0 (c := cHd) (y := ⟨g0_.1, List.length x0.f_Peers, g0_.2⟩) (.s (.s (.s .z))) (c_api_Request_f_Peers g0_ x0) rfl)) ?_
    refine av rfl (r_move rfl) ?_
    obtain ⟨h24, hF⟩ := of_guard hF
    obtain ⟨zs28, hz29, hr30, hn31⟩ := id hz0
    obtain ⟨b26, o27, hp25⟩ := row_ptr (RowK.row hr30) (zidx hz29 h24)
    obtain ⟨g32, hg33⟩ := zget hz29 i11
    have hN34 : NK_api_PeerChange (KZ w0 Z_) s_ (g32, lget x0.f_Peers i11) := nz (N := NK_api_PeerChange (KZ w0 Z_)) hg33 hn31 (zidx hz29 h24)
    refine av rfl (r_idx Try.underlying25 Try.sizeOf37 rfl rfl h24 hp25) ?_
    refine av rfl (r_load_aggc (c := c_api_PeerChange) (z := (g32, lget x0.f_Peers i11)) Try.isAgg37 Try.sizeOf37 rfl (fun w1 hw => ncell (W := fun w1 => w1 = _) (fun w1 h => by subst h; exact Below.refl _ _) (RowK.row (RowK.mono hr30 (frz_mono (.s (.s (.s (.s .z)))) hw))) (zidx hz29 h24) hp25 hg33 _ rfl)) ?_
    refine at_alloc (cs := Cd.cs c_api_PeerChange (((none : Option Addr), (0 : Nat)), ({ f_Key := (Vector.replicate 32 (0 : Int) : (Vector Int 32)), f_Remove := false, f_Update := false, f_HasPsk := false, f_Psk := (Vector.replicate 32 (0 : Int) : (Vector Int 32)), f_HasEnd := false, f_End := zqG7_1, f_HasKeep := false, f_Keep := (0 : Int), f_Replace := false, f_Allowed := ([] : List S_api_Prefix) } : S_api_PeerChange))) Try.zeroValue37 rfl rfl ?_
    intro b35
    refine at_store (c := c_api_PeerChange) (z := (g32, lget x0.f_Peers i11)) .z (Lens.whole _ _) Try.sizeOf37 rfl rfl rfl ?_
    refine nwt [(1, _), (2, _), (3, _), (4, _), (5, _)] ⟨rfl, rfl, rfl, rfl, rfl, trivial⟩ ?_
    refine at_seq ?_
    refine sr ?_
    refine av rfl (r_fieldAddr (fo := 32) Try.underlying37 rfl rfl (fun w => ⟨_, Try.sizeOf4 w⟩) rfl) ?_
    refine av rfl (r_load_cell Try.isAgg4 rfl (lens_cell0 (c := cBool) (y := (lget x0.f_Peers i11).f_Remove) .z (c_api_PeerChange_f_Remove g32 (lget x0.f_Peers i11)) rfl)) ?_
    refine nwt [(1, _), (2, _), (3, _), (4, _), (5, _), (21, _)] ⟨rfl, rfl, rfl, rfl, rfl, rfl, trivial⟩ ?_
    rcases of_ite hF with ⟨h36, hF⟩ | ⟨h36, hF⟩
    ·refine at_cond_true rfl h36 ?_
     refine at_region ?_
     refine av rfl (r_fieldAddr (fo := 0) Try.underlying37 rfl rfl (fun w => ⟨_, Try.sizeOf23 w⟩) rfl) ?_
     refine av rfl (r_load_aggc (c := (cVec (cInt .u8) 32 (by decide))) (z := (lget x0.f_Peers i11).f_Key) Try.isAgg23 Try.sizeOf23 rfl (lens_cell .z (c_api_PeerChange_f_Key g32 (lget x0.f_Peers i11)))) ?_
     refine av rfl (r_build_struct (zs := Cd.cs c_api_PeerChange (((none : Option Addr), (0 : Nat)), ({ f_Key := (Vector.replicate 32 (0 : Int) : (Vector Int 32)), f_Remove := false, f_Update := false, f_HasPsk := false, f_Psk := (Vector.replicate 32 (0 : Int) : (Vector Int 32)), f_HasEnd := false, f_End := zqG7_1, f_HasKeep := false, f_Keep := (0 : Int), f_Replace := false, f_Allowed := ([] : List S_api_Prefix) } : S_api_PeerChange))) (cs := Cd.cs c_api_PeerChange (((none : Option Addr), (0 : Nat)), { { ({ f_Key := (Vector.replicate 32 (0 : Int) : (Vector Int 32)), f_Remove := false, f_Update := false, f_HasPsk := false, f_Psk := (Vector.replicate 32 (0 : Int) : (Vector Int 32)), f_HasEnd := false, f_End := zqG7_1, f_HasKeep := false, f_Keep := (0 : Int), f_Replace := false, f_Allowed := ([] : List S_api_Prefix) } : S_api_PeerChange) with f_Key := (lget x0.f_Peers i11).f_Key } with f_Remove := true })) Try.underlying37 Try.zeroValue37 rfl (places_api_PeerChange_37) rfl (fill_step (c := (cVec (cInt .u8) 32 (by decide))) (z := (lget x0.f_Peers i11).f_Key) rfl (c_api_PeerChange_f_Key ((none : Option Addr), (0 : Nat)) ({ f_Key := (Vector.replicate 32 (0 : Int) : (Vector Int 32)), f_Remove := false, f_Update := false, f_HasPsk := false, f_Psk := (Vector.replicate 32 (0 : Int) : (Vector Int 32)), f_HasEnd := false, f_End := zqG7_1, f_HasKeep := false, f_Keep := (0 : Int), f_Replace := false, f_Allowed := ([] : List S_api_Prefix) } : S_api_PeerChange)) rfl (fill_step (c := cBool) (z := true) rfl (c_api_PeerChange_f_Remove ((none : Option Addr), (0 : Nat)) ({ ({ f_Key := (Vector.replicate 32 (0 : Int) : (Vector Int 32)), f_Remove := false, f_Update := false, f_HasPsk := false, f_Psk := (Vector.replicate 32 (0 : Int) : (Vector Int 32)), f_HasEnd := false, f_End := zqG7_1, f_HasKeep := false, f_Keep := (0 : Int), f_Replace := false, f_Allowed := ([] : List S_api_Prefix) } : S_api_PeerChange) with f_Key := (lget x0.f_Peers i11).f_Key })) rfl rfl))) ?_
     refine at_store (c := c_api_PeerChange) (z := (((none : Option Addr), (0 : Nat)), { { ({ f_Key := (Vector.replicate 32 (0 : Int) : (Vector Int 32)), f_Remove := false, f_Update := false, f_HasPsk := false, f_Psk := (Vector.replicate 32 (0 : Int) : (Vector Int 32)), f_HasEnd := false, f_End := zqG7_1, f_HasKeep := false, f_Keep := (0 : Int), f_Replace := false, f_Allowed := ([] : List S_api_Prefix) } : S_api_PeerChange) with f_Key := (lget x0.f_Peers i11).f_Key } with f_Remove := true })) .z (Lens.whole _ _) Try.sizeOf37 rfl rfl rfl ?_
     refine nwt [(1, _), (2, _), (3, _), (4, _), (5, _)] ⟨rfl, rfl, rfl, rfl, rfl, trivial⟩ ?_
     refine at_region ?_
     refine av rfl (r_fieldAddr (fo := 38) Try.underlying27 rfl rfl (fun w => ⟨_, Try.sizeOf25 w⟩) rfl) ?_
     refine av rfl (r_load_cell Try.isAgg25 rfl (lens_cell0 (c := cHd) (y := ⟨(p13, c14).1, List.length i12.f_Peers, (p13, c14).2⟩) (.s .z) (c_api_Request_f_Peers (p13, c14) i12) rfl)) ?_
     refine av rfl (r_load_aggc (c := c_api_PeerChange) (z := (((none : Option Addr), (0 : Nat)), { { ({ f_Key := (Vector.replicate 32 (0 : Int) : (Vector Int 32)), f_Remove := false, f_Update := false, f_HasPsk := false, f_Psk := (Vector.replicate 32 (0 : Int) : (Vector Int 32)), f_HasEnd := false, f_End := zqG7_1, f_HasKeep := false, f_Keep := (0 : Int), f_Replace := false, f_Allowed := ([] : List S_api_Prefix) } : S_api_PeerChange) with f_Key := (lget x0.f_Peers i11).f_Key } with f_Remove := true })) Try.isAgg37 Try.sizeOf37 rfl (lens_cell .z (Lens.whole _ _))) ?_
     have hN37 : NK_api_PeerChange (KZ w0 Z_) s_ (((none : Option Addr), (0 : Nat)), { { ({ f_Key := (Vector.replicate 32 (0 : Int) : (Vector Int 32)), f_Remove := false, f_Update := false, f_HasPsk := false, f_Psk := (Vector.replicate 32 (0 : Int) : (Vector Int 32)), f_HasEnd := false, f_End := zqG7_1, f_HasKeep := false, f_Keep := (0 : Int), f_Replace := false, f_Allowed := ([] : List S_api_Prefix) } : S_api_PeerChange) with f_Key := (lget x0.f_Peers i11).f_Key } with f_Remove := true }) := RowK.nil ..
     refine at_litL (c := c_api_PeerChange) ([(((none : Option Addr), (0 : Nat)), ({ f_Key := (Vector.replicate 32 (0 : Int) : (Vector Int 32)), f_Remove := false, f_Update := false, f_HasPsk := false, f_Psk := (Vector.replicate 32 (0 : Int) : (Vector Int 32)), f_HasEnd := false, f_End := zqG7_1, f_HasKeep := false, f_Keep := (0 : Int), f_Replace := false, f_Allowed := ([] : List S_api_Prefix) } : S_api_PeerChange))] : List (G_api_PeerChange × S_api_PeerChange)) ([(((none : Option Addr), (0 : Nat)), { { ({ f_Key := (Vector.replicate 32 (0 : Int) : (Vector Int 32)), f_Remove := false, f_Update := false, f_HasPsk := false, f_Psk := (Vector.replicate 32 (0 : Int) : (Vector Int 32)), f_HasEnd := false, f_End := zqG7_1, f_HasKeep := false, f_Keep := (0 : Int), f_Replace := false, f_Allowed := ([] : List S_api_Prefix) } : S_api_PeerChange) with f_Key := (lget x0.f_Peers i11).f_Key } with f_Remove := true })] : List (G_api_PeerChange × S_api_PeerChange)) Try.underlying25 Try.sizeOf37 Try.zeroValue37 rfl rfl rfl (by kernel_rfl) (fill_step (c := c_api_PeerChange) (z := (((none : Option Addr), (0 : Nat)), { { ({ f_Key := (Vector.replicate 32 (0 : Int) : (Vector Int 32)), f_Remove := false, f_Update := false, f_HasPsk := false, f_Psk := (Vector.replicate 32 (0 : Int) : (Vector Int 32)), f_HasEnd := false, f_End := zqG7_1, f_HasKeep := false, f_Keep := (0 : Int), f_Replace := false, f_Allowed := ([] : List S_api_Prefix) } : S_api_PeerChange) with f_Key := (lget x0.f_Peers i11).f_Key } with f_Remove := true })) rfl (Lens.all c_api_PeerChange ([(((none : Option Addr), (0 : Nat)), ({ f_Key := (Vector.replicate 32 (0 : Int) : (Vector Int 32)), f_Remove := false, f_Update := false, f_HasPsk := false, f_Psk := (Vector.replicate 32 (0 : Int) : (Vector Int 32)), f_HasEnd := false, f_End := zqG7_1, f_HasKeep := false, f_Keep := (0 : Int), f_Replace := false, f_Allowed := ([] : List S_api_Prefix) } : S_api_PeerChange))] : List (G_api_PeerChange × S_api_PeerChange)) 0 (by decide)) rfl rfl) rfl ?_
     intro b38
     obtain ⟨h39, hF⟩ := of_guard hF
     refine at_appendN (z := .agg (Cd.cs c_api_PeerChange (((none : Option Addr), (0 : Nat)), ({ f_Key := (Vector.replicate 32 (0 : Int) : (Vector Int 32)), f_Remove := false, f_Update := false, f_HasPsk := false, f_Psk := (Vector.replicate 32 (0 : Int) : (Vector Int 32)), f_HasEnd := false, f_End := zqG7_1, f_HasKeep := false, f_Keep := (0 : Int), f_Replace := false, f_Allowed := ([] : List S_api_Prefix) } : S_api_PeerChange))).toArray) (c := c_api_PeerChange) (ys := ([{ { ({ f_Key := (Vector.replicate 32 (0 : Int) : (Vector Int 32)), f_Remove := false, f_Update := false, f_HasPsk := false, f_Psk := (Vector.replicate 32 (0 : Int) : (Vector Int 32)), f_HasEnd := false, f_End := zqG7_1, f_HasKeep := false, f_Keep := (0 : Int), f_Replace := false, f_Allowed := ([] : List S_api_Prefix) } : S_api_PeerChange) with f_Key := (lget x0.f_Peers i11).f_Key } with f_Remove := true }] : List S_api_PeerChange)) (us := ([(((none : Option Addr), (0 : Nat)), { { ({ f_Key := (Vector.replicate 32 (0 : Int) : (Vector Int 32)), f_Remove := false, f_Update := false, f_HasPsk := false, f_Psk := (Vector.replicate 32 (0 : Int) : (Vector Int 32)), f_HasEnd := false, f_End := zqG7_1, f_HasKeep := false, f_Keep := (0 : Int), f_Replace := false, f_Allowed := ([] : List S_api_Prefix) } : S_api_PeerChange) with f_Key := (lget x0.f_Peers i11).f_Key } with f_Remove := true })] : List (G_api_PeerChange × S_api_PeerChange))) (Φ := fun z => NK_api_PeerChange (KZ w0 Z_) s_ z) (.s (.s (.s .z))) hz16 rfl ha17 (all_cons hN37 all_nil) Try.underlying25 infoG737 (by kernel_rfl) (by kernel_rfl) rfl rfl rfl rfl (fun _ hw => cells_src (hw.ok (Upd.mem .z))) (by kernel_rfl) h39 (app_small h39) rfl ?_
     intro p40 c41 zs44 hz42 ha43
     refine av rfl (r_fieldAddr (fo := 38) Try.underlying27 rfl rfl (fun w => ⟨_, Try.sizeOf25 w⟩) rfl) ?_
     refine at_store (c := cSv S_api_PeerChange) (z := ((p40, c41), i12.f_Peers ++ [{ { ({ f_Key := (Vector.replicate 32 (0 : Int) : (Vector Int 32)), f_Remove := false, f_Update := false, f_HasPsk := false, f_Psk := (Vector.replicate 32 (0 : Int) : (Vector Int 32)), f_HasEnd := false, f_End := zqG7_1, f_HasKeep := false, f_Keep := (0 : Int), f_Replace := false, f_Allowed := ([] : List S_api_Prefix) } : S_api_PeerChange) with f_Key := (lget x0.f_Peers i11).f_Key } with f_Remove := true }])) (.s (.s .z)) (c_api_Request_f_Peers_sv (p13, c14) i12) Try.sizeOf25 rfl rfl rfl ?_
     refine at_nil ?_
     refine at_drop (H := _) .z ?_
     refine at_drop (H := _) .z ?_
     refine at_weak [(1, _), (2, _), (3, _), (4, _)] ⟨rfl, rfl, rfl, rfl, trivial⟩ ?_
     refine at_blk_normal (at_then_normal ?_)
     refine at_region ?_
     refine av rfl (r_move rfl) ?_
     refine av rfl (r_iadd rfl rfl) ?_
     refine av rfl (r_assign rfl) ?_
     refine nwt [(1, _), (2, _), (3, _), (4, _)] ⟨rfl, rfl, rfl, rfl, trivial⟩ ?_
     exact at_weak_k (ih _ _ _ hF K p40 c41 zs44 hz42 ha43) ⟨rfl, rfl, rfl, rfl, trivial⟩
    ·refine at_cond_false rfl h36 ?_
     refine sn ?_
     refine at_region ?_
     refine av rfl (r_fieldAddr (fo := 38) Try.underlying27 rfl rfl (fun w => ⟨_, Try.sizeOf25 w⟩) rfl) ?_
     refine av rfl (r_load_cell Try.isAgg25 rfl (lens_cell0 (c := cHd) (y := ⟨(p13, c14).1, List.length i12.f_Peers, (p13, c14).2⟩) (.s .z) (c_api_Request_f_Peers (p13, c14) i12) rfl)) ?_
     refine av rfl (r_load_aggc (c := c_api_PeerChange) (z := (g32, lget x0.f_Peers i11)) Try.isAgg37 Try.sizeOf37 rfl (lens_cell .z (Lens.whole _ _))) ?_
     refine at_litL (c := c_api_PeerChange) ([(((none : Option Addr), (0 : Nat)), ({ f_Key := (Vector.replicate 32 (0 : Int) : (Vector Int 32)), f_Remove := false, f_Update := false, f_HasPsk := false, f_Psk := (Vector.replicate 32 (0 : Int) : (Vector Int 32)), f_HasEnd := false, f_End := zqG7_1, f_HasKeep := false, f_Keep := (0 : Int), f_Replace := false, f_Allowed := ([] : List S_api_Prefix) } : S_api_PeerChange))] : List (G_api_PeerChange × S_api_PeerChange)) ([(g32, lget x0.f_Peers i11)] : List (G_api_PeerChange × S_api_PeerChange)) Try.underlying25 Try.sizeOf37 Try.zeroValue37 rfl rfl rfl (by kernel_rfl) (fill_step (c := c_api_PeerChange) (z := (g32, lget x0.f_Peers i11)) rfl (Lens.all c_api_PeerChange ([(((none : Option Addr), (0 : Nat)), ({ f_Key := (Vector.replicate 32 (0 : Int) : (Vector Int 32)), f_Remove := false, f_Update := false, f_HasPsk := false, f_Psk := (Vector.replicate 32 (0 : Int) : (Vector Int 32)), f_HasEnd := false, f_End := zqG7_1, f_HasKeep := false, f_Keep := (0 : Int), f_Replace := false, f_Allowed := ([] : List S_api_Prefix) } : S_api_PeerChange))] : List (G_api_PeerChange × S_api_PeerChange)) 0 (by decide)) rfl rfl) rfl ?_
     intro b45
     obtain ⟨h46, hF⟩ := of_guard hF
     refine at_appendN (z := .agg (Cd.cs c_api_PeerChange (((none : Option Addr), (0 : Nat)), ({ f_Key := (Vector.replicate 32 (0 : Int) : (Vector Int 32)), f_Remove := false, f_Update := false, f_HasPsk := false, f_Psk := (Vector.replicate 32 (0 : Int) : (Vector Int 32)), f_HasEnd := false, f_End := zqG7_1, f_HasKeep := false, f_Keep := (0 : Int), f_Replace := false, f_Allowed := ([] : List S_api_Prefix) } : S_api_PeerChange))).toArray) (c := c_api_PeerChange) (ys := ([lget x0.f_Peers i11] : List S_api_PeerChange)) (us := ([(g32, lget x0.f_Peers i11)] : List (G_api_PeerChange × S_api_PeerChange))) (Φ := fun z => NK_api_PeerChange (KZ w0 Z_) s_ z) (.s (.s (.s .z))) hz16 rfl ha17 (all_cons hN34 all_nil) Try.underlying25 infoG737 (by kernel_rfl) (by kernel_rfl) rfl rfl rfl rfl (fun _ hw => cells_src (hw.ok (Upd.mem .z))) (by kernel_rfl) h46 (app_small h46) rfl ?_
     intro p47 c48 zs51 hz49 ha50
     refine av rfl (r_fieldAddr (fo := 38) Try.underlying27 rfl rfl (fun w => ⟨_, Try.sizeOf25 w⟩) rfl) ?_
     refine at_store (c := cSv S_api_PeerChange) (z := ((p47, c48), i12.f_Peers ++ [lget x0.f_Peers i11])) (.s (.s .z)) (c_api_Request_f_Peers_sv (p13, c14) i12) Try.sizeOf25 rfl rfl rfl ?_
     refine at_nil ?_
     refine at_drop (H := _) .z ?_
     refine at_drop (H := _) .z ?_
     refine at_weak [(1, _), (2, _), (3, _), (4, _)] ⟨rfl, rfl, rfl, rfl, trivial⟩ ?_
     refine at_blk_normal (at_then_normal ?_)
     refine at_region ?_
     refine av rfl (r_move rfl) ?_
     refine av rfl (r_iadd rfl rfl) ?_
     refine av rfl (r_assign rfl) ?_
     refine nwt [(1, _), (2, _), (3, _), (4, _)] ⟨rfl, rfl, rfl, rfl, trivial⟩ ?_
     exact at_weak_k (ih _ _ _ hF K p47 c48 zs51 hz49 ha50) ⟨rfl, rfl, rfl, rfl, trivial⟩
   ·refine at_cond_false rfl h23 ?_
    refine at_exit ?_
    refine at_then_exit (at_then_exit ?_)
    refine at_drop (H := _) (.s (.s (.s .z))) ?_
    obtain rfl := of_some hF
    exact at_weak_k (K p13 c14 zs15 hz16 ha17) ⟨rfl, rfl, trivial⟩
 ·skip
  intro p18 c19 zs20 hz21 ha22
  refine at_blk_same ?_
  refine at_then_normal ?_
  refine sr ?_
  refine av rfl (r_load_aggc (c := c_api_Request) (z := ((p18, c19), q10)) Try.isAgg27 Try.sizeOf27 rfl (lens_cell .z (Lens.whole _ _))) ?_
  refine at_store (c := c_api_Request) (z := ((p18, c19), q10)) (.s (.s .z)) (Lens.whole _ _) Try.sizeOf27 rfl rfl rfl ?_
  refine at_nil ?_
  refine at_drop (H := _) .z ?_
  refine at_weak [(2, _)] ⟨rfl, trivial⟩ ?_
  refine at_then_normal ?_
  refine at_ret ?_
  refine at_freeze (.s .z) ?_
  intro Z_ s_ hm53 hk54
  replace hM_ := Mono.mono hM_ hm53
  replace hz0 := NK_api_Request.mono hz0 hm53
  replace ha22 := fun z hz => NK_api_PeerChange.mono (ha22 z hz) hm53
  have hK55 : NKR_api_PeerChange (KZ w0 Z_) s_ p18 c19 q10.f_Peers := ⟨zs20, hz21, hk54, ha22⟩
  have hN52 : NK_api_Request (KZ w0 Z_) s_ ((p18, c19), q10) := hK55
  have K := of_some hF
  subst K
  exact at_res1 rfl (res_cell (c := c_api_Request) (y := ((p18, c19), q10)) rfl .z (Lens.whole _ _) Try.isAgg27 Try.sizeOf27 (.inl rfl)) (fun w1 hw => ⟨Z_, s_, (p18, c19), hM_, rfl, hN52, hw.pop⟩)
end Go.Proofs.Ythccncpephpdjaa
namespace Go.Proofs.Ythccncpephpdjaa
open E Go.RowKit
def crawlwaylaw32_ChangeNormal (x0 : S_api_Request) : Option (Bool) :=
  crawlwayref32_Large x0 >>= fun t2 => if t2 = true then (crawlwaylaw32_alive >>= fun t4 => some t4) else (change_Normal x0 >>= fun t5 => crawlwayref32_Normal x0 >>= fun t10 => crawlwayref32_Same t5 t10 >>= fun t16 => if t16 = true then (change_Normal t5 >>= fun t18 => crawlwayref32_Same t18 t5 >>= fun t24 => if t24 = true then (crawlwayref32_Right x0 >>= fun t26 => if (!t26) = true then (crawlwaylaw32_alive >>= fun t28 => some t28) else (change_Right t5 >>= fun t30 => if t30 = true then (crawlwaylaw32_alive >>= fun t32 => some t32) else (some false))) else (some false)) else (some false))
set_option maxHeartbeats 3200000 in
theorem crawlwaylaw32_ChangeNormal_ok (g0_ : G_api_Request) (x0 : S_api_Request) (r : Bool) (hF : crawlwaylaw32_ChangeNormal x0 = some r) (w : World) (hn0 : N_api_Request w (g0_, x0)) :
    Calls Try.prog 4 #[.agg (Cd.cs c_api_Request (g0_, x0)).toArray] w (fun e w' => e = .returned (.bool r) ∧ Below w.heap.size w w') := by
 unfold crawlwaylaw32_ChangeNormal at hF
 refine calls_enter (l := [.agg (Cd.cs c_api_Request (g0_, x0)).toArray]) Try.func4 rfl rfl rfl ?_
 refine at_start ?_
 refine at_frz0 ?_
 intro Z_ s_ hB_
 have hz0 := NK_api_Request.mono (NK_api_Request.of hn0) hB_
 refine at_weak [(0, _)] ⟨rfl, trivial⟩ ?_
 refine sr ?_
 refine at_box (cs := Cd.cs c_api_Request (g0_, x0)) rfl rfl rfl ?_
 intro b1
 refine av rfl (r_assign rfl) ?_
 refine nwt [(1, _)] ⟨rfl, trivial⟩ ?_
 refine at_seq ?_
 refine sr ?_
 refine av rfl (r_load_aggc (c := c_api_Request) (z := (g0_, x0)) Try.isAgg27 Try.sizeOf27 rfl (lens_cell .z (Lens.whole _ _))) ?_
 obtain ⟨t2, ht2, hF⟩ := of_bindM hF
 refine at_callB Try.func13 rfl (by kernel_rfl) rfl rfl (fun w hw => crawlwayref32_Large_ok _ _ _ ht2 w (NK_api_Request.n (NK_api_Request.mono hz0 (frz_mono (.s .z) hw)))) ?_
 refine nwt [(1, _), (5, _)] ⟨rfl, rfl, trivial⟩ ?_
 rcases of_ite hF with ⟨h3, hF⟩ | ⟨h3, hF⟩
 ·refine at_cond_true rfl h3 ?_
  refine sr ?_
  obtain ⟨t4, ht4, hF⟩ := of_bindM hF
  refine at_callB Try.func14 rfl (by kernel_rfl) rfl rfl (fun w hw => crawlwaylaw32_alive_ok  _ ht4 w) ?_
  refine av rfl (r_assign rfl) ?_
  refine at_nil ?_
  refine at_drop (H := _) .z ?_
  refine at_weak [(2, _)] ⟨rfl, trivial⟩ ?_
  refine at_then_normal ?_
  refine rt ?_
  have K := of_some hF
  subst K
  exact at_return1 rfl rfl (fun w1 hw => ⟨rfl, hw.below⟩)
 ·refine at_cond_false rfl h3 ?_
  refine sns ?_
  refine av rfl (r_load_aggc (c := c_api_Request) (z := (g0_, x0)) Try.isAgg27 Try.sizeOf27 rfl (lens_cell .z (Lens.whole _ _))) ?_
  obtain ⟨t5, ht5, hF⟩ := of_bindM hF
  refine at_front (.s .z) ?_
  refine at_callZ (γ := G_api_Request) (V := fun z => .agg (Cd.cs c_api_Request (z, t5)).toArray) (Φ := fun K s z => NK_api_Request K s (z, t5)) Try.func19 rfl (by kernel_rfl) rfl rfl (fun w hw => change_Normal_ok ht5 hz0 hw) ?_
  intro Z_ s_ g7 hm6 hk8
  replace hz0 := NK_api_Request.mono hz0 hm6
  refine at_alloc (cs := Cd.cs c_api_Request (((none : Option Addr), (0 : Nat)), ({ f_HasPrivate := false, f_Private := (Vector.replicate 32 (0 : Int) : (Vector Int 32)), f_HasPort := false, f_Port := (0 : Int), f_HasMark := false, f_Mark := (0 : Int), f_Replace := false, f_Peers := ([] : List S_api_PeerChange) } : S_api_Request))) Try.zeroValue27 rfl rfl ?_
  intro b9
  refine at_store (c := c_api_Request) (z := (g7, t5)) .z (Lens.whole _ _) Try.sizeOf27 rfl rfl rfl ?_
  refine nwt [(1, _), (3, _)] ⟨rfl, rfl, trivial⟩ ?_
  refine at_seq ?_
  refine at_weak [(1, _), (3, _)] ⟨rfl, rfl, trivial⟩ ?_
  obtain ⟨t10, ht10, hF⟩ := of_bindM hF
  obtain ⟨t16, ht16, hF⟩ := of_bindM hF
  rcases of_ite hF with ⟨h17, hF⟩ | ⟨h17, hF⟩
  ·skip
   obtain ⟨t18, ht18, hF⟩ := of_bindM hF
   obtain ⟨t24, ht24, hF⟩ := of_bindM hF
   rcases of_ite hF with ⟨h25, hF⟩ | ⟨h25, hF⟩
   ·skip
    obtain ⟨t26, ht26, hF⟩ := of_bindM hF
    rcases of_ite hF with ⟨h27, hF⟩ | ⟨h27, hF⟩
    ·skip
     obtain ⟨t28, ht28, hF⟩ := of_bindM hF
     refine at_inv [.q 9 (fun g29 => .agg (Cd.cs c_api_Request (g7, t5)).toArray) [] 0 1, .q 10 (fun g29 => .agg (Cd.cs c_api_Request (g0_, x0)).toArray) [] 0 0, .al 0 11 (fun g29 => .agg (Cd.cs c_api_Request ((((g29 0).2.2.2.2.2.2 0)), t10)).toArray) [1], .q 12 (fun g29 => .bool t16) [0, 2] 1 1, .q 13 (fun g29 => .bool true) [3] 1 1, .q 14 (fun g29 => .agg (Cd.cs c_api_Request (g7, t5)).toArray) [4] 1 1, .al 1 15 (fun g29 => .agg (Cd.cs c_api_Request ((((g29 1).2.2.2.2.2.2 0)), t18)).toArray) [4, 5], .q 16 (fun g29 => .agg (Cd.cs c_api_Request (g7, t5)).toArray) [4] 1 2, .q 17 (fun g29 => .bool t24) [4, 6, 7] 2 2, .q 18 (fun g29 => .bool t24) [4, 8] 2 2, .q 19 (fun g29 => .bool true) [9] 2 2, .q 20 (fun g29 => .agg (Cd.cs c_api_Request (g0_, x0)).toArray) [10] 2 2, .q 21 (fun g29 => .bool t26) [10, 11] 2 2, .q 22 (fun g29 => .bool (!t26)) [10, 12] 2 2, .q 23 (fun g29 => .bool true) [10, 13] 2 2, .q 24 (fun g29 => undef) [14] 2 2, .q 25 (fun g29 => undef) [14, 15] 2 2, .q 26 (fun g29 => .bool true) [10, 14, 16] 2 2, .q 27 (fun g29 => .bool true) [10, 17] 2 2, .q 28 (fun g29 => .bool true) [18] 2 2, .q 29 (fun g29 => .bool t28) [19] 2 2, .q 30 (fun g29 => .bool t28) [19, 20] 2 2, .q 2 (fun g29 => .bool t28) [21] 2 2] (fun g29 s => match s with | 0 => (Wd w [cellsE b9 (Cd.cs c_api_Request (g7, t5)) 27, frzE w Z_ s_, cellsE b1 (Cd.cs c_api_Request (g0_, x0)) 27]) | 1 => (Wd w [factE (NK_api_Request (KZ w ((g29 0).2.2.2.2.1)) ((g29 0).2.2.2.2.2.1) ((((g29 0).2.2.2.2.2.2 0)), t10)), factE (NK_api_Request (KZ w ((g29 0).2.2.2.2.1)) ((g29 0).2.2.2.2.2.1) (g7, t5)), factE (NK_api_Request (KZ w ((g29 0).2.2.2.2.1)) ((g29 0).2.2.2.2.2.1) (g0_, x0)), frzE w ((g29 0).2.2.2.2.1) ((g29 0).2.2.2.2.2.1), cellsE b9 (Cd.cs c_api_Request (g7, t5)) 27, cellsE b1 (Cd.cs c_api_Request (g0_, x0)) 27]) | _ => (Wd w [factE (NK_api_Request (KZ w ((g29 1).2.2.2.2.1)) ((g29 1).2.2.2.2.2.1) ((((g29 1).2.2.2.2.2.2 0)), t18)), factE (NK_api_Request (KZ w ((g29 1).2.2.2.2.1)) ((g29 1).2.2.2.2.2.1) ((((g29 0).2.2.2.2.2.2 0)), t10)), factE (NK_api_Request (KZ w ((g29 1).2.2.2.2.1)) ((g29 1).2.2.2.2.2.1) (g7, t5)), factE (NK_api_Request (KZ w ((g29 1).2.2.2.2.1)) ((g29 1).2.2.2.2.2.1) (g0_, x0)), frzE w ((g29 1).2.2.2.2.1) ((g29 1).2.2.2.2.2.1), cellsE b9 (Cd.cs c_api_Request (g7, t5)) 27, cellsE b1 (Cd.cs c_api_Request (g0_, x0)) 27])) 2 (by kernel_rfl) (by kernel_rfl) (by kernel_rfl) (by kernel_rfl) (by kernel_rfl) ⟨fun _ _ _ => rfl, fun _ _ _ => rfl, fun g29 g2 h => by show (.agg (Cd.cs c_api_Request ((((g29 0).2.2.2.2.2.2 0)), t10)).toArray : Value) = .agg (Cd.cs c_api_Request ((((g2 0).2.2.2.2.2.2 0)), t10)).toArray; rw [h 0 (show 0 < 1 by decide)], fun _ _ _ => rfl, fun _ _ _ => rfl, fun _ _ _ => rfl, fun g29 g2 h => by show (.agg (Cd.cs c_api_Request ((((g29 1).2.2.2.2.2.2 0)), t18)).toArray : Value) = .agg (Cd.cs c_api_Request ((((g2 1).2.2.2.2.2.2 0)), t18)).toArray; rw [h 1 (show 1 < 2 by decide)], fun _ _ _ => rfl, fun _ _ _ => rfl, fun _ _ _ => rfl, fun _ _ _ => rfl, fun _ _ _ => rfl, fun _ _ _ => rfl, fun _ _ _ => rfl, fun _ _ _ => rfl, fun _ _ _ => rfl, fun _ _ _ => rfl, fun _ _ _ => rfl, fun _ _ _ => rfl, fun _ _ _ => rfl, fun _ _ _ => rfl, fun _ _ _ => rfl, fun _ _ _ => rfl, trivial⟩ (by kernel_rfl) (fun w_ h => ⟨fun _ => g3 0 none 0 none w_, h.drew⟩) ⟨?_, ?_, ?_, ?_, ?_, ?_, ?_, ?_, ?_, ?_, ?_, ?_, ?_, ?_, ?_, ?_, ?_, ?_, ?_, ?_, ?_, ?_, ?_, trivial⟩ ?_
     ·intro Lx g29 s K hl hh k
      show At 31 ((1, _) :: (3, _) :: Lx) _ _
      rcases (by omega : s = 0 ∨ s = 1) with rfl | rfl
      ·skip
       refine av rfl (r_load_aggc (c := c_api_Request) (z := (g7, t5)) Try.isAgg27 Try.sizeOf27 rfl (lens_cell .z (Lens.whole _ _))) ?_
       exact at_nil k
      ·skip
       refine av rfl (r_load_aggc (c := c_api_Request) (z := (g7, t5)) Try.isAgg27 Try.sizeOf27 rfl (lens_cell (.s (.s (.s (.s .z)))) (Lens.whole _ _))) ?_
       exact at_nil k
     ·intro Lx g29 s K hl hh k
      show At 31 ((1, _) :: (3, _) :: Lx) _ _
      obtain rfl : s = 0 := by omega
      refine av rfl (r_load_aggc (c := c_api_Request) (z := (g0_, x0)) Try.isAgg27 Try.sizeOf27 rfl (lens_cell (.s (.s .z)) (Lens.whole _ _))) ?_
      exact at_nil k
     ·intro Lx g29 K k
      show At 31 ((10, _) :: (1, _) :: (3, _) :: Lx) _ _
      refine at_front (.s .z) ?_
      refine at_callZ (γ := G_api_Request) (V := fun z => .agg (Cd.cs c_api_Request (z, t10)).toArray) (Φ := fun K s z => NK_api_Request K s (z, t10)) Try.func21 rfl (by kernel_rfl) rfl rfl (fun w hw => crawlwayref32_Normal_ok ht10 hz0 hw) ?_
      intro Z11 s12 g14 hm13 hk15
      replace hz0 := NK_api_Request.mono hz0 hm13
      replace hk8 := NK_api_Request.mono hk8 hm13
      refine at_fact hz0 ?_
      refine at_fact hk8 ?_
      refine at_fact hk15 ?_
      exact at_nil (k (0, none, 0, none, Z11, s12, fun i_ => match i_ with | 0 => g14 | _ => (none, 0)))
     ·intro Lx g29 s K hl hh k
      show At 31 ((9, _) :: (11, _) :: (1, _) :: (3, _) :: Lx) _ _
      obtain rfl : s = 1 := by omega
      refine at_pure (φ := NK_api_Request (KZ w ((g29 0).2.2.2.2.1)) ((g29 0).2.2.2.2.2.1) ((((g29 0).2.2.2.2.2.2 0)), t10)) (fun _ hw => hw.ok (Upd.mem .z)) ?_
      intro hk15
      refine at_pure (φ := NK_api_Request (KZ w ((g29 0).2.2.2.2.1)) ((g29 0).2.2.2.2.2.1) (g7, t5)) (fun _ hw => hw.ok (Upd.mem (.s .z))) ?_
      intro hk8
      refine at_pure (φ := NK_api_Request (KZ w ((g29 0).2.2.2.2.1)) ((g29 0).2.2.2.2.2.1) (g0_, x0)) (fun _ hw => hw.ok (Upd.mem (.s (.s .z)))) ?_
      intro hz0
      refine at_callB Try.func20 rfl (by kernel_rfl) rfl rfl (fun w hw => crawlwayref32_Same_ok _ _ _ _ _ ht16 w (NK_api_Request.n (NK_api_Request.mono hk8 (frz_mono (.s (.s (.s .z))) hw))) (NK_api_Request.n (NK_api_Request.mono hk15 (frz_mono (.s (.s (.s .z))) hw)))) ?_
      exact at_nil k
     ·intro Lx g29 s K hl hh k
      show At 31 ((12, _) :: (1, _) :: (3, _) :: Lx) _ _
      refine av rfl (r_move rfl) ?_
      exact at_nil (at_cast h17 k)
     ·intro Lx g29 s K hl hh k
      show At 31 ((13, _) :: (1, _) :: (3, _) :: Lx) _ _
      refine at_guard_yes rfl rfl rfl ?_
      obtain rfl : s = 1 := by omega
      refine av rfl (r_load_aggc (c := c_api_Request) (z := (g7, t5)) Try.isAgg27 Try.sizeOf27 rfl (lens_cell (.s (.s (.s (.s .z)))) (Lens.whole _ _))) ?_
      exact at_nil k
     ·intro Lx g29 K k
      show At 31 ((13, _) :: (14, _) :: (1, _) :: (3, _) :: Lx) _ _
      refine at_guard_yes rfl rfl rfl ?_
      refine at_pure (φ := NK_api_Request (KZ w ((g29 0).2.2.2.2.1)) ((g29 0).2.2.2.2.2.1) ((((g29 0).2.2.2.2.2.2 0)), t10)) (fun _ hw => hw.ok (Upd.mem .z)) ?_
      intro hk15
      refine at_pure (φ := NK_api_Request (KZ w ((g29 0).2.2.2.2.1)) ((g29 0).2.2.2.2.2.1) (g7, t5)) (fun _ hw => hw.ok (Upd.mem (.s .z))) ?_
      intro hk8
      refine at_pure (φ := NK_api_Request (KZ w ((g29 0).2.2.2.2.1)) ((g29 0).2.2.2.2.2.1) (g0_, x0)) (fun _ hw => hw.ok (Upd.mem (.s (.s .z)))) ?_
      intro hz0
      refine at_drop (H := _) .z ?_
      refine at_drop (H := _) .z ?_
      refine at_drop (H := _) .z ?_
      refine at_callZ (γ := G_api_Request) (V := fun z => .agg (Cd.cs c_api_Request (z, t18)).toArray) (Φ := fun K s z => NK_api_Request K s (z, t18)) Try.func19 rfl (by kernel_rfl) rfl rfl (fun w hw => change_Normal_ok ht18 hk8 hw) ?_
      intro Z19 s20 g22 hm21 hk23
      replace hz0 := NK_api_Request.mono hz0 hm21
      replace hk8 := NK_api_Request.mono hk8 hm21
      replace hk15 := NK_api_Request.mono hk15 hm21
      refine at_fact hz0 ?_
      refine at_fact hk8 ?_
      refine at_fact hk15 ?_
      refine at_fact hk23 ?_
      exact at_nil (k (0, none, 0, none, Z19, s20, fun i_ => match i_ with | 0 => g22 | _ => (none, 0)))
     ·intro Lx g29 s K hl hh k
      show At 31 ((13, _) :: (1, _) :: (3, _) :: Lx) _ _
      refine at_guard_yes rfl rfl rfl ?_
      rcases (by omega : s = 1 ∨ s = 2) with rfl | rfl
      ·skip
       refine av rfl (r_load_aggc (c := c_api_Request) (z := (g7, t5)) Try.isAgg27 Try.sizeOf27 rfl (lens_cell (.s (.s (.s (.s .z)))) (Lens.whole _ _))) ?_
       exact at_nil k
      ·skip
       refine av rfl (r_load_aggc (c := c_api_Request) (z := (g7, t5)) Try.isAgg27 Try.sizeOf27 rfl (lens_cell (.s (.s (.s (.s (.s .z))))) (Lens.whole _ _))) ?_
       exact at_nil k
     ·intro Lx g29 s K hl hh k
      show At 31 ((13, _) :: (15, _) :: (16, _) :: (1, _) :: (3, _) :: Lx) _ _
      refine at_guard_yes rfl rfl rfl ?_
      obtain rfl : s = 2 := by omega
      refine at_pure (φ := NK_api_Request (KZ w ((g29 1).2.2.2.2.1)) ((g29 1).2.2.2.2.2.1) ((((g29 1).2.2.2.2.2.2 0)), t18)) (fun _ hw => hw.ok (Upd.mem .z)) ?_
      intro hk23
      refine at_pure (φ := NK_api_Request (KZ w ((g29 1).2.2.2.2.1)) ((g29 1).2.2.2.2.2.1) ((((g29 0).2.2.2.2.2.2 0)), t10)) (fun _ hw => hw.ok (Upd.mem (.s .z))) ?_
      intro hk15
      refine at_pure (φ := NK_api_Request (KZ w ((g29 1).2.2.2.2.1)) ((g29 1).2.2.2.2.2.1) (g7, t5)) (fun _ hw => hw.ok (Upd.mem (.s (.s .z)))) ?_
      intro hk8
      refine at_pure (φ := NK_api_Request (KZ w ((g29 1).2.2.2.2.1)) ((g29 1).2.2.2.2.2.1) (g0_, x0)) (fun _ hw => hw.ok (Upd.mem (.s (.s (.s .z))))) ?_
      intro hz0
      refine at_callB Try.func20 rfl (by kernel_rfl) rfl rfl (fun w hw => crawlwayref32_Same_ok _ _ _ _ _ ht24 w (NK_api_Request.n (NK_api_Request.mono hk23 (frz_mono (.s (.s (.s (.s .z)))) hw))) (NK_api_Request.n (NK_api_Request.mono hk8 (frz_mono (.s (.s (.s (.s .z)))) hw)))) ?_
      exact at_nil k
     ·intro Lx g29 s K hl hh k
      show At 31 ((13, _) :: (17, _) :: (1, _) :: (3, _) :: Lx) _ _
      refine av rfl (r_pick rfl rfl rfl) ?_
      exact at_nil k
     ·intro Lx g29 s K hl hh k
      show At 31 ((18, _) :: (1, _) :: (3, _) :: Lx) _ _
      refine av rfl (r_move rfl) ?_
      exact at_nil (at_cast h25 k)
     ·intro Lx g29 s K hl hh k
      show At 31 ((19, _) :: (1, _) :: (3, _) :: Lx) _ _
      refine at_guard_yes rfl rfl rfl ?_
      obtain rfl : s = 2 := by omega
      refine av rfl (r_load_aggc (c := c_api_Request) (z := (g0_, x0)) Try.isAgg27 Try.sizeOf27 rfl (lens_cell (.s (.s (.s (.s (.s (.s .z)))))) (Lens.whole _ _))) ?_
      exact at_nil k
     ·intro Lx g29 s K hl hh k
      show At 31 ((19, _) :: (20, _) :: (1, _) :: (3, _) :: Lx) _ _
      refine at_guard_yes rfl rfl rfl ?_
      obtain rfl : s = 2 := by omega
      refine at_pure (φ := NK_api_Request (KZ w ((g29 1).2.2.2.2.1)) ((g29 1).2.2.2.2.2.1) ((((g29 1).2.2.2.2.2.2 0)), t18)) (fun _ hw => hw.ok (Upd.mem .z)) ?_
      intro hk23
      refine at_pure (φ := NK_api_Request (KZ w ((g29 1).2.2.2.2.1)) ((g29 1).2.2.2.2.2.1) ((((g29 0).2.2.2.2.2.2 0)), t10)) (fun _ hw => hw.ok (Upd.mem (.s .z))) ?_
      intro hk15
      refine at_pure (φ := NK_api_Request (KZ w ((g29 1).2.2.2.2.1)) ((g29 1).2.2.2.2.2.1) (g7, t5)) (fun _ hw => hw.ok (Upd.mem (.s (.s .z)))) ?_
      intro hk8
      refine at_pure (φ := NK_api_Request (KZ w ((g29 1).2.2.2.2.1)) ((g29 1).2.2.2.2.2.1) (g0_, x0)) (fun _ hw => hw.ok (Upd.mem (.s (.s (.s .z))))) ?_
      intro hz0
      refine at_callB Try.func18 rfl (by kernel_rfl) rfl rfl (fun w hw => crawlwayref32_Right_ok _ _ _ ht26 w (NK_api_Request.n (NK_api_Request.mono hz0 (frz_mono (.s (.s (.s (.s .z)))) hw)))) ?_
      exact at_nil k
     ·intro Lx g29 s K hl hh k
      show At 31 ((19, _) :: (21, _) :: (1, _) :: (3, _) :: Lx) _ _
      refine at_guard_yes rfl rfl rfl ?_
      refine av rfl (r_not rfl) ?_
      exact at_nil k
     ·intro Lx g29 s K hl hh k
      show At 31 ((19, _) :: (22, _) :: (1, _) :: (3, _) :: Lx) _ _
      refine at_guard_yes rfl rfl rfl ?_
      refine av rfl (r_move rfl) ?_
      exact at_nil (at_cast h27 k)
     ·intro Lx g29 s K hl hh k
      show At 31 ((23, _) :: (1, _) :: (3, _) :: Lx) _ _
      obtain rfl : s = 2 := by omega
      refine at_guard_no rfl rfl rfl rfl rfl ?_
      exact at_nil k
     ·intro Lx g29 s K hl hh k
      show At 31 ((23, _) :: (24, _) :: (1, _) :: (3, _) :: Lx) _ _
      obtain rfl : s = 2 := by omega
      refine at_guard_no rfl rfl rfl rfl rfl ?_
      exact at_nil k
     ·intro Lx g29 s K hl hh k
      show At 31 ((19, _) :: (23, _) :: (25, _) :: (1, _) :: (3, _) :: Lx) _ _
      refine at_guard_yes rfl rfl rfl ?_
      refine av rfl (r_pick rfl rfl rfl) ?_
      exact at_nil k
     ·intro Lx g29 s K hl hh k
      show At 31 ((19, _) :: (26, _) :: (1, _) :: (3, _) :: Lx) _ _
      refine av rfl (r_pick rfl rfl rfl) ?_
      exact at_nil k
     ·intro Lx g29 s K hl hh k
      show At 31 ((27, _) :: (1, _) :: (3, _) :: Lx) _ _
      refine av rfl (r_move rfl) ?_
      exact at_nil k
     ·intro Lx g29 s K hl hh k
      show At 31 ((28, _) :: (1, _) :: (3, _) :: Lx) _ _
      refine at_guard_yes rfl rfl rfl ?_
      obtain rfl : s = 2 := by omega
      refine at_pure (φ := NK_api_Request (KZ w ((g29 1).2.2.2.2.1)) ((g29 1).2.2.2.2.2.1) ((((g29 1).2.2.2.2.2.2 0)), t18)) (fun _ hw => hw.ok (Upd.mem .z)) ?_
      intro hk23
      refine at_pure (φ := NK_api_Request (KZ w ((g29 1).2.2.2.2.1)) ((g29 1).2.2.2.2.2.1) ((((g29 0).2.2.2.2.2.2 0)), t10)) (fun _ hw => hw.ok (Upd.mem (.s .z))) ?_
      intro hk15
      refine at_pure (φ := NK_api_Request (KZ w ((g29 1).2.2.2.2.1)) ((g29 1).2.2.2.2.2.1) (g7, t5)) (fun _ hw => hw.ok (Upd.mem (.s (.s .z)))) ?_
      intro hk8
      refine at_pure (φ := NK_api_Request (KZ w ((g29 1).2.2.2.2.1)) ((g29 1).2.2.2.2.2.1) (g0_, x0)) (fun _ hw => hw.ok (Upd.mem (.s (.s (.s .z))))) ?_
      intro hz0
      refine at_callB Try.func14 rfl (by kernel_rfl) rfl rfl (fun w hw => crawlwaylaw32_alive_ok  _ ht28 w) ?_
      exact at_nil k
     ·intro Lx g29 s K hl hh k
      show At 31 ((28, _) :: (29, _) :: (1, _) :: (3, _) :: Lx) _ _
      refine av rfl (r_pick rfl rfl rfl) ?_
      exact at_nil k
     ·intro Lx g29 s K hl hh k
      show At 31 ((30, _) :: (1, _) :: (3, _) :: Lx) _ _
      refine av rfl (r_assign rfl) ?_
      exact at_nil k
     intro g29
     show At 31 [(9, _), (10, _), (11, _), (12, _), (13, _), (14, _), (15, _), (16, _), (17, _), (18, _), (19, _), (20, _), (21, _), (22, _), (23, _), (24, _), (25, _), (26, _), (27, _), (28, _), (29, _), (30, _), (2, _), (1, _), (3, _)] _ _
     refine at_pure (φ := NK_api_Request (KZ w ((g29 1).2.2.2.2.1)) ((g29 1).2.2.2.2.2.1) ((((g29 1).2.2.2.2.2.2 0)), t18)) (fun _ hw => hw.ok (Upd.mem .z)) ?_
     intro hk23
     refine at_pure (φ := NK_api_Request (KZ w ((g29 1).2.2.2.2.1)) ((g29 1).2.2.2.2.2.1) ((((g29 0).2.2.2.2.2.2 0)), t10)) (fun _ hw => hw.ok (Upd.mem (.s .z))) ?_
     intro hk15
     refine at_pure (φ := NK_api_Request (KZ w ((g29 1).2.2.2.2.1)) ((g29 1).2.2.2.2.2.1) (g7, t5)) (fun _ hw => hw.ok (Upd.mem (.s (.s .z)))) ?_
     intro hk8
     refine at_pure (φ := NK_api_Request (KZ w ((g29 1).2.2.2.2.1)) ((g29 1).2.2.2.2.2.1) (g0_, x0)) (fun _ hw => hw.ok (Upd.mem (.s (.s (.s .z))))) ?_
     intro hz0
     refine at_drop (H := _) .z ?_
     refine at_drop (H := _) .z ?_
     refine at_drop (H := _) .z ?_
     refine at_drop (H := _) .z ?_
     refine at_drop (H := _) (.s .z) ?_
     refine at_drop (H := _) (.s .z) ?_
     refine at_weak [(2, _)] ⟨rfl, trivial⟩ ?_
     refine at_then_normal ?_
     refine at_ret ?_
     have K := of_some hF
     subst K
     exact at_return1 rfl rfl (fun w1 hw => ⟨rfl, hw.below⟩)
    ·skip
     obtain ⟨t30, ht30, hF⟩ := of_bindM hF
     rcases of_ite hF with ⟨h31, hF⟩ | ⟨h31, hF⟩
     ·skip
      obtain ⟨t32, ht32, hF⟩ := of_bindM hF
      refine at_inv [.q 9 (fun g33 => .agg (Cd.cs c_api_Request (g7, t5)).toArray) [] 0 1, .q 10 (fun g33 => .agg (Cd.cs c_api_Request (g0_, x0)).toArray) [] 0 0, .al 0 11 (fun g33 => .agg (Cd.cs c_api_Request ((((g33 0).2.2.2.2.2.2 0)), t10)).toArray) [1], .q 12 (fun g33 => .bool t16) [0, 2] 1 1, .q 13 (fun g33 => .bool true) [3] 1 1, .q 14 (fun g33 => .agg (Cd.cs c_api_Request (g7, t5)).toArray) [4] 1 1, .al 1 15 (fun g33 => .agg (Cd.cs c_api_Request ((((g33 1).2.2.2.2.2.2 0)), t18)).toArray) [4, 5], .q 16 (fun g33 => .agg (Cd.cs c_api_Request (g7, t5)).toArray) [4] 1 2, .q 17 (fun g33 => .bool t24) [4, 6, 7] 2 2, .q 18 (fun g33 => .bool t24) [4, 8] 2 2, .q 19 (fun g33 => .bool true) [9] 2 2, .q 20 (fun g33 => .agg (Cd.cs c_api_Request (g0_, x0)).toArray) [10] 2 2, .q 21 (fun g33 => .bool t26) [10, 11] 2 2, .q 22 (fun g33 => .bool (!t26)) [10, 12] 2 2, .q 23 (fun g33 => .bool false) [10, 13] 2 2, .q 24 (fun g33 => .agg (Cd.cs c_api_Request (g7, t5)).toArray) [14] 2 2, .q 25 (fun g33 => .bool t30) [14, 15] 2 2, .q 26 (fun g33 => .bool t30) [10, 14, 16] 2 2, .q 27 (fun g33 => .bool t30) [10, 17] 2 2, .q 28 (fun g33 => .bool true) [18] 2 2, .q 29 (fun g33 => .bool t32) [19] 2 2, .q 30 (fun g33 => .bool t32) [19, 20] 2 2, .q 2 (fun g33 => .bool t32) [21] 2 2] (fun g33 s => match s with | 0 => (Wd w [cellsE b9 (Cd.cs c_api_Request (g7, t5)) 27, frzE w Z_ s_, cellsE b1 (Cd.cs c_api_Request (g0_, x0)) 27]) | 1 => (Wd w [factE (NK_api_Request (KZ w ((g33 0).2.2.2.2.1)) ((g33 0).2.2.2.2.2.1) ((((g33 0).2.2.2.2.2.2 0)), t10)), factE (NK_api_Request (KZ w ((g33 0).2.2.2.2.1)) ((g33 0).2.2.2.2.2.1) (g7, t5)), factE (NK_api_Request (KZ w ((g33 0).2.2.2.2.1)) ((g33 0).2.2.2.2.2.1) (g0_, x0)), frzE w ((g33 0).2.2.2.2.1) ((g33 0).2.2.2.2.2.1), cellsE b9 (Cd.cs c_api_Request (g7, t5)) 27, cellsE b1 (Cd.cs c_api_Request (g0_, x0)) 27]) | _ => (Wd w [factE (NK_api_Request (KZ w ((g33 1).2.2.2.2.1)) ((g33 1).2.2.2.2.2.1) ((((g33 1).2.2.2.2.2.2 0)), t18)), factE (NK_api_Request (KZ w ((g33 1).2.2.2.2.1)) ((g33 1).2.2.2.2.2.1) ((((g33 0).2.2.2.2.2.2 0)), t10)), factE (NK_api_Request (KZ w ((g33 1).2.2.2.2.1)) ((g33 1).2.2.2.2.2.1) (g7, t5)), factE (NK_api_Request (KZ w ((g33 1).2.2.2.2.1)) ((g33 1).2.2.2.2.2.1) (g0_, x0)), frzE w ((g33 1).2.2.2.2.1) ((g33 1).2.2.2.2.2.1), cellsE b9 (Cd.cs c_api_Request (g7, t5)) 27, cellsE b1 (Cd.cs c_api_Request (g0_, x0)) 27])) 2 (by kernel_rfl) (by kernel_rfl) (by kernel_rfl) (by kernel_rfl) (by kernel_rfl) ⟨fun _ _ _ => rfl, fun _ _ _ => rfl, fun g33 g2 h => by show (.agg (Cd.cs c_api_Request ((((g33 0).2.2.2.2.2.2 0)), t10)).toArray : Value) = .agg (Cd.cs c_api_Request ((((g2 0).2.2.2.2.2.2 0)), t10)).toArray; rw [h 0 (show 0 < 1 by decide)], fun _ _ _ => rfl, fun _ _ _ => rfl, fun _ _ _ => rfl, fun g33 g2 h => by show (.agg (Cd.cs c_api_Request ((((g33 1).2.2.2.2.2.2 0)), t18)).toArray : Value) = .agg (Cd.cs c_api_Request ((((g2 1).2.2.2.2.2.2 0)), t18)).toArray; rw [h 1 (show 1 < 2 by decide)], fun _ _ _ => rfl, fun _ _ _ => rfl, fun _ _ _ => rfl, fun _ _ _ => rfl, fun _ _ _ => rfl, fun _ _ _ => rfl, fun _ _ _ => rfl, fun _ _ _ => rfl, fun _ _ _ => rfl, fun _ _ _ => rfl, fun _ _ _ => rfl, fun _ _ _ => rfl, fun _ _ _ => rfl, fun _ _ _ => rfl, fun _ _ _ => rfl, fun _ _ _ => rfl, trivial⟩ (by kernel_rfl) (fun w_ h => ⟨fun _ => g3 0 none 0 none w_, h.drew⟩) ⟨?_, ?_, ?_, ?_, ?_, ?_, ?_, ?_, ?_, ?_, ?_, ?_, ?_, ?_, ?_, ?_, ?_, ?_, ?_, ?_, ?_, ?_, ?_, trivial⟩ ?_
      ·intro Lx g33 s K hl hh k
       show At 31 ((1, _) :: (3, _) :: Lx) _ _
       rcases (by omega : s = 0 ∨ s = 1) with rfl | rfl
       ·skip
        refine av rfl (r_load_aggc (c := c_api_Request) (z := (g7, t5)) Try.isAgg27 Try.sizeOf27 rfl (lens_cell .z (Lens.whole _ _))) ?_
        exact at_nil k
       ·skip
        refine av rfl (r_load_aggc (c := c_api_Request) (z := (g7, t5)) Try.isAgg27 Try.sizeOf27 rfl (lens_cell (.s (.s (.s (.s .z)))) (Lens.whole _ _))) ?_
        exact at_nil k
      ·intro Lx g33 s K hl hh k
       show At 31 ((1, _) :: (3, _) :: Lx) _ _
       obtain rfl : s = 0 := by omega
       refine av rfl (r_load_aggc (c := c_api_Request) (z := (g0_, x0)) Try.isAgg27 Try.sizeOf27 rfl (lens_cell (.s (.s .z)) (Lens.whole _ _))) ?_
       exact at_nil k
      ·intro Lx g33 K k
       show At 31 ((10, _) :: (1, _) :: (3, _) :: Lx) _ _
       refine at_front (.s .z) ?_
       refine at_callZ (γ := G_api_Request) (V := fun z => .agg (Cd.cs c_api_Request (z, t10)).toArray) (Φ := fun K s z => NK_api_Request K s (z, t10)) Try.func21 rfl (by kernel_rfl) rfl rfl (fun w hw => crawlwayref32_Normal_ok ht10 hz0 hw) ?_
       intro Z11 s12 g14 hm13 hk15
       replace hz0 := NK_api_Request.mono hz0 hm13
       replace hk8 := NK_api_Request.mono hk8 hm13
       refine at_fact hz0 ?_
       refine at_fact hk8 ?_
       refine at_fact hk15 ?_
       exact at_nil (k (0, none, 0, none, Z11, s12, fun i_ => match i_ with | 0 => g14 | _ => (none, 0)))
      ·intro Lx g33 s K hl hh k
       show At 31 ((9, _) :: (11, _) :: (1, _) :: (3, _) :: Lx) _ _
       obtain rfl : s = 1 := by omega
       refine at_pure (φ := NK_api_Request (KZ w ((g33 0).2.2.2.2.1)) ((g33 0).2.2.2.2.2.1) ((((g33 0).2.2.2.2.2.2 0)), t10)) (fun _ hw => hw.ok (Upd.mem .z)) ?_
       intro hk15
       refine at_pure (φ := NK_api_Request (KZ w ((g33 0).2.2.2.2.1)) ((g33 0).2.2.2.2.2.1) (g7, t5)) (fun _ hw => hw.ok (Upd.mem (.s .z))) ?_
       intro hk8
       refine at_pure (φ := NK_api_Request (KZ w ((g33 0).2.2.2.2.1)) ((g33 0).2.2.2.2.2.1) (g0_, x0)) (fun _ hw => hw.ok (Upd.mem (.s (.s .z)))) ?_
       intro hz0
       refine at_callB Try.func20 rfl (by kernel_rfl) rfl rfl (fun w hw => crawlwayref32_Same_ok _ _ _ _ _ ht16 w (NK_api_Request.n (NK_api_Request.mono hk8 (frz_mono (.s (.s (.s .z))) hw))) (NK_api_Request.n (NK_api_Request.mono hk15 (frz_mono (.s (.s (.s .z))) hw)))) ?_
       exact at_nil k
      ·intro Lx g33 s K hl hh k
       show At 31 ((12, _) :: (1, _) :: (3, _) :: Lx) _ _
       refine av rfl (r_move rfl) ?_
       exact at_nil (at_cast h17 k)
      ·intro Lx g33 s K hl hh k
       show At 31 ((13, _) :: (1, _) :: (3, _) :: Lx) _ _
       refine at_guard_yes rfl rfl rfl ?_
       obtain rfl : s = 1 := by omega
       refine av rfl (r_load_aggc (c := c_api_Request) (z := (g7, t5)) Try.isAgg27 Try.sizeOf27 rfl (lens_cell (.s (.s (.s (.s .z)))) (Lens.whole _ _))) ?_
       exact at_nil k
      ·intro Lx g33 K k
       show At 31 ((13, _) :: (14, _) :: (1, _) :: (3, _) :: Lx) _ _
       refine at_guard_yes rfl rfl rfl ?_
       refine at_pure (φ := NK_api_Request (KZ w ((g33 0).2.2.2.2.1)) ((g33 0).2.2.2.2.2.1) ((((g33 0).2.2.2.2.2.2 0)), t10)) (fun _ hw => hw.ok (Upd.mem .z)) ?_
       intro hk15
       refine at_pure (φ := NK_api_Request (KZ w ((g33 0).2.2.2.2.1)) ((g33 0).2.2.2.2.2.1) (g7, t5)) (fun _ hw => hw.ok (Upd.mem (.s .z))) ?_
       intro hk8
       refine at_pure (φ := NK_api_Request (KZ w ((g33 0).2.2.2.2.1)) ((g33 0).2.2.2.2.2.1) (g0_, x0)) (fun _ hw => hw.ok (Upd.mem (.s (.s .z)))) ?_
       intro hz0
       refine at_drop (H := _) .z ?_
       refine at_drop (H := _) .z ?_
       refine at_drop (H := _) .z ?_
       refine at_callZ (γ := G_api_Request) (V := fun z => .agg (Cd.cs c_api_Request (z, t18)).toArray) (Φ := fun K s z => NK_api_Request K s (z, t18)) Try.func19 rfl (by kernel_rfl) rfl rfl (fun w hw => change_Normal_ok ht18 hk8 hw) ?_
       intro Z19 s20 g22 hm21 hk23
       replace hz0 := NK_api_Request.mono hz0 hm21
       replace hk8 := NK_api_Request.mono hk8 hm21
       replace hk15 := NK_api_Request.mono hk15 hm21
       refine at_fact hz0 ?_
       refine at_fact hk8 ?_
       refine at_fact hk15 ?_
       refine at_fact hk23 ?_
       exact at_nil (k (0, none, 0, none, Z19, s20, fun i_ => match i_ with | 0 => g22 | _ => (none, 0)))
      ·intro Lx g33 s K hl hh k
       show At 31 ((13, _) :: (1, _) :: (3, _) :: Lx) _ _
       refine at_guard_yes rfl rfl rfl ?_
       rcases (by omega : s = 1 ∨ s = 2) with rfl | rfl
       ·skip
        refine av rfl (r_load_aggc (c := c_api_Request) (z := (g7, t5)) Try.isAgg27 Try.sizeOf27 rfl (lens_cell (.s (.s (.s (.s .z)))) (Lens.whole _ _))) ?_
        exact at_nil k
       ·skip
        refine av rfl (r_load_aggc (c := c_api_Request) (z := (g7, t5)) Try.isAgg27 Try.sizeOf27 rfl (lens_cell (.s (.s (.s (.s (.s .z))))) (Lens.whole _ _))) ?_
        exact at_nil k
      ·intro Lx g33 s K hl hh k
       show At 31 ((13, _) :: (15, _) :: (16, _) :: (1, _) :: (3, _) :: Lx) _ _
       refine at_guard_yes rfl rfl rfl ?_
       obtain rfl : s = 2 := by omega
       refine at_pure (φ := NK_api_Request (KZ w ((g33 1).2.2.2.2.1)) ((g33 1).2.2.2.2.2.1) ((((g33 1).2.2.2.2.2.2 0)), t18)) (fun _ hw => hw.ok (Upd.mem .z)) ?_
       intro hk23
       refine at_pure (φ := NK_api_Request (KZ w ((g33 1).2.2.2.2.1)) ((g33 1).2.2.2.2.2.1) ((((g33 0).2.2.2.2.2.2 0)), t10)) (fun _ hw => hw.ok (Upd.mem (.s .z))) ?_
       intro hk15
       refine at_pure (φ := NK_api_Request (KZ w ((g33 1).2.2.2.2.1)) ((g33 1).2.2.2.2.2.1) (g7, t5)) (fun _ hw => hw.ok (Upd.mem (.s (.s .z)))) ?_
       intro hk8
       refine at_pure (φ := NK_api_Request (KZ w ((g33 1).2.2.2.2.1)) ((g33 1).2.2.2.2.2.1) (g0_, x0)) (fun _ hw => hw.ok (Upd.mem (.s (.s (.s .z))))) ?_
       intro hz0
       refine at_callB Try.func20 rfl (by kernel_rfl) rfl rfl (fun w hw => crawlwayref32_Same_ok _ _ _ _ _ ht24 w (NK_api_Request.n (NK_api_Request.mono hk23 (frz_mono (.s (.s (.s (.s .z)))) hw))) (NK_api_Request.n (NK_api_Request.mono hk8 (frz_mono (.s (.s (.s (.s .z)))) hw)))) ?_
       exact at_nil k
      ·intro Lx g33 s K hl hh k
       show At 31 ((13, _) :: (17, _) :: (1, _) :: (3, _) :: Lx) _ _
       refine av rfl (r_pick rfl rfl rfl) ?_
       exact at_nil k
      ·intro Lx g33 s K hl hh k
       show At 31 ((18, _) :: (1, _) :: (3, _) :: Lx) _ _
       refine av rfl (r_move rfl) ?_
       exact at_nil (at_cast h25 k)
      ·intro Lx g33 s K hl hh k
       show At 31 ((19, _) :: (1, _) :: (3, _) :: Lx) _ _
       refine at_guard_yes rfl rfl rfl ?_
       obtain rfl : s = 2 := by omega
       refine av rfl (r_load_aggc (c := c_api_Request) (z := (g0_, x0)) Try.isAgg27 Try.sizeOf27 rfl (lens_cell (.s (.s (.s (.s (.s (.s .z)))))) (Lens.whole _ _))) ?_
       exact at_nil k
      ·intro Lx g33 s K hl hh k
       show At 31 ((19, _) :: (20, _) :: (1, _) :: (3, _) :: Lx) _ _
       refine at_guard_yes rfl rfl rfl ?_
       obtain rfl : s = 2 := by omega
       refine at_pure (φ := NK_api_Request (KZ w ((g33 1).2.2.2.2.1)) ((g33 1).2.2.2.2.2.1) ((((g33 1).2.2.2.2.2.2 0)), t18)) (fun _ hw => hw.ok (Upd.mem .z)) ?_
       intro hk23
       refine at_pure (φ := NK_api_Request (KZ w ((g33 1).2.2.2.2.1)) ((g33 1).2.2.2.2.2.1) ((((g33 0).2.2.2.2.2.2 0)), t10)) (fun _ hw => hw.ok (Upd.mem (.s .z))) ?_
       intro hk15
       refine at_pure (φ := NK_api_Request (KZ w ((g33 1).2.2.2.2.1)) ((g33 1).2.2.2.2.2.1) (g7, t5)) (fun _ hw => hw.ok (Upd.mem (.s (.s .z)))) ?_
       intro hk8
       refine at_pure (φ := NK_api_Request (KZ w ((g33 1).2.2.2.2.1)) ((g33 1).2.2.2.2.2.1) (g0_, x0)) (fun _ hw => hw.ok (Upd.mem (.s (.s (.s .z))))) ?_
       intro hz0
       refine at_callB Try.func18 rfl (by kernel_rfl) rfl rfl (fun w hw => crawlwayref32_Right_ok _ _ _ ht26 w (NK_api_Request.n (NK_api_Request.mono hz0 (frz_mono (.s (.s (.s (.s .z)))) hw)))) ?_
       exact at_nil k
      ·intro Lx g33 s K hl hh k
       show At 31 ((19, _) :: (21, _) :: (1, _) :: (3, _) :: Lx) _ _
       refine at_guard_yes rfl rfl rfl ?_
       refine av rfl (r_not rfl) ?_
       exact at_nil k
      ·intro Lx g33 s K hl hh k
       show At 31 ((19, _) :: (22, _) :: (1, _) :: (3, _) :: Lx) _ _
       refine at_guard_yes rfl rfl rfl ?_
       refine av rfl (r_move rfl) ?_
       exact at_nil (at_cast h27 k)
      ·intro Lx g33 s K hl hh k
       show At 31 ((23, _) :: (1, _) :: (3, _) :: Lx) _ _
       refine at_guard_yes rfl rfl rfl ?_
       obtain rfl : s = 2 := by omega
       refine av rfl (r_load_aggc (c := c_api_Request) (z := (g7, t5)) Try.isAgg27 Try.sizeOf27 rfl (lens_cell (.s (.s (.s (.s (.s .z))))) (Lens.whole _ _))) ?_
       exact at_nil k
      ·intro Lx g33 s K hl hh k
       show At 31 ((23, _) :: (24, _) :: (1, _) :: (3, _) :: Lx) _ _
       refine at_guard_yes rfl rfl rfl ?_
       obtain rfl : s = 2 := by omega
       refine at_pure (φ := NK_api_Request (KZ w ((g33 1).2.2.2.2.1)) ((g33 1).2.2.2.2.2.1) ((((g33 1).2.2.2.2.2.2 0)), t18)) (fun _ hw => hw.ok (Upd.mem .z)) ?_
       intro hk23
       refine at_pure (φ := NK_api_Request (KZ w ((g33 1).2.2.2.2.1)) ((g33 1).2.2.2.2.2.1) ((((g33 0).2.2.2.2.2.2 0)), t10)) (fun _ hw => hw.ok (Upd.mem (.s .z))) ?_
       intro hk15
       refine at_pure (φ := NK_api_Request (KZ w ((g33 1).2.2.2.2.1)) ((g33 1).2.2.2.2.2.1) (g7, t5)) (fun _ hw => hw.ok (Upd.mem (.s (.s .z)))) ?_
       intro hk8
       refine at_pure (φ := NK_api_Request (KZ w ((g33 1).2.2.2.2.1)) ((g33 1).2.2.2.2.2.1) (g0_, x0)) (fun _ hw => hw.ok (Upd.mem (.s (.s (.s .z))))) ?_
       intro hz0
       refine at_callB Try.func17 rfl (by kernel_rfl) rfl rfl (fun w hw => change_Right_ok _ _ _ ht30 w (NK_api_Request.n (NK_api_Request.mono hk8 (frz_mono (.s (.s (.s (.s .z)))) hw)))) ?_
       exact at_nil k
      ·intro Lx g33 s K hl hh k
       show At 31 ((19, _) :: (23, _) :: (25, _) :: (1, _) :: (3, _) :: Lx) _ _
       refine at_guard_yes rfl rfl rfl ?_
       refine av rfl (r_pick rfl rfl rfl) ?_
       exact at_nil k
      ·intro Lx g33 s K hl hh k
       show At 31 ((19, _) :: (26, _) :: (1, _) :: (3, _) :: Lx) _ _
       refine av rfl (r_pick rfl rfl rfl) ?_
       exact at_nil k
      ·intro Lx g33 s K hl hh k
       show At 31 ((27, _) :: (1, _) :: (3, _) :: Lx) _ _
       refine av rfl (r_move rfl) ?_
       exact at_nil (at_cast h31 k)
      ·intro Lx g33 s K hl hh k
       show At 31 ((28, _) :: (1, _) :: (3, _) :: Lx) _ _
       refine at_guard_yes rfl rfl rfl ?_
       obtain rfl : s = 2 := by omega
       refine at_pure (φ := NK_api_Request (KZ w ((g33 1).2.2.2.2.1)) ((g33 1).2.2.2.2.2.1) ((((g33 1).2.2.2.2.2.2 0)), t18)) (fun _ hw => hw.ok (Upd.mem .z)) ?_
       intro hk23
       refine at_pure (φ := NK_api_Request (KZ w ((g33 1).2.2.2.2.1)) ((g33 1).2.2.2.2.2.1) ((((g33 0).2.2.2.2.2.2 0)), t10)) (fun _ hw => hw.ok (Upd.mem (.s .z))) ?_
       intro hk15
       refine at_pure (φ := NK_api_Request (KZ w ((g33 1).2.2.2.2.1)) ((g33 1).2.2.2.2.2.1) (g7, t5)) (fun _ hw => hw.ok (Upd.mem (.s (.s .z)))) ?_
       intro hk8
       refine at_pure (φ := NK_api_Request (KZ w ((g33 1).2.2.2.2.1)) ((g33 1).2.2.2.2.2.1) (g0_, x0)) (fun _ hw => hw.ok (Upd.mem (.s (.s (.s .z))))) ?_
       intro hz0
       refine at_callB Try.func14 rfl (by kernel_rfl) rfl rfl (fun w hw => crawlwaylaw32_alive_ok  _ ht32 w) ?_
       exact at_nil k
      ·intro Lx g33 s K hl hh k
       show At 31 ((28, _) :: (29, _) :: (1, _) :: (3, _) :: Lx) _ _
       refine av rfl (r_pick rfl rfl rfl) ?_
       exact at_nil k
      ·intro Lx g33 s K hl hh k
       show At 31 ((30, _) :: (1, _) :: (3, _) :: Lx) _ _
       refine av rfl (r_assign rfl) ?_
       exact at_nil k
      intro g33
      show At 31 [(9, _), (10, _), (11, _), (12, _), (13, _), (14, _), (15, _), (16, _), (17, _), (18, _), (19, _), (20, _), (21, _), (22, _), (23, _), (24, _), (25, _), (26, _), (27, _), (28, _), (29, _), (30, _), (2, _), (1, _), (3, _)] _ _
      refine at_pure (φ := NK_api_Request (KZ w ((g33 1).2.2.2.2.1)) ((g33 1).2.2.2.2.2.1) ((((g33 1).2.2.2.2.2.2 0)), t18)) (fun _ hw => hw.ok (Upd.mem .z)) ?_
      intro hk23
      refine at_pure (φ := NK_api_Request (KZ w ((g33 1).2.2.2.2.1)) ((g33 1).2.2.2.2.2.1) ((((g33 0).2.2.2.2.2.2 0)), t10)) (fun _ hw => hw.ok (Upd.mem (.s .z))) ?_
      intro hk15
      refine at_pure (φ := NK_api_Request (KZ w ((g33 1).2.2.2.2.1)) ((g33 1).2.2.2.2.2.1) (g7, t5)) (fun _ hw => hw.ok (Upd.mem (.s (.s .z)))) ?_
      intro hk8
      refine at_pure (φ := NK_api_Request (KZ w ((g33 1).2.2.2.2.1)) ((g33 1).2.2.2.2.2.1) (g0_, x0)) (fun _ hw => hw.ok (Upd.mem (.s (.s (.s .z))))) ?_
      intro hz0
      refine at_drop (H := _) .z ?_
      refine at_drop (H := _) .z ?_
      refine at_drop (H := _) .z ?_
      refine at_drop (H := _) .z ?_
      refine at_drop (H := _) (.s .z) ?_
      refine at_drop (H := _) (.s .z) ?_
      refine at_weak [(2, _)] ⟨rfl, trivial⟩ ?_
      refine at_then_normal ?_
      refine at_ret ?_
      have K := of_some hF
      subst K
      exact at_return1 rfl rfl (fun w1 hw => ⟨rfl, hw.below⟩)
     ·skip
      refine at_inv [.q 9 (fun g34 => .agg (Cd.cs c_api_Request (g7, t5)).toArray) [] 0 1, .q 10 (fun g34 => .agg (Cd.cs c_api_Request (g0_, x0)).toArray) [] 0 0, .al 0 11 (fun g34 => .agg (Cd.cs c_api_Request ((((g34 0).2.2.2.2.2.2 0)), t10)).toArray) [1], .q 12 (fun g34 => .bool t16) [0, 2] 1 1, .q 13 (fun g34 => .bool true) [3] 1 1, .q 14 (fun g34 => .agg (Cd.cs c_api_Request (g7, t5)).toArray) [4] 1 1, .al 1 15 (fun g34 => .agg (Cd.cs c_api_Request ((((g34 1).2.2.2.2.2.2 0)), t18)).toArray) [4, 5], .q 16 (fun g34 => .agg (Cd.cs c_api_Request (g7, t5)).toArray) [4] 1 2, .q 17 (fun g34 => .bool t24) [4, 6, 7] 2 2, .q 18 (fun g34 => .bool t24) [4, 8] 2 2, .q 19 (fun g34 => .bool true) [9] 2 2, .q 20 (fun g34 => .agg (Cd.cs c_api_Request (g0_, x0)).toArray) [10] 2 2, .q 21 (fun g34 => .bool t26) [10, 11] 2 2, .q 22 (fun g34 => .bool (!t26)) [10, 12] 2 2, .q 23 (fun g34 => .bool false) [10, 13] 2 2, .q 24 (fun g34 => .agg (Cd.cs c_api_Request (g7, t5)).toArray) [14] 2 2, .q 25 (fun g34 => .bool t30) [14, 15] 2 2, .q 26 (fun g34 => .bool t30) [10, 14, 16] 2 2, .q 27 (fun g34 => .bool t30) [10, 17] 2 2, .q 28 (fun g34 => .bool false) [18] 2 2, .q 29 (fun g34 => undef) [19] 2 2, .q 30 (fun g34 => .bool false) [19, 20] 2 2, .q 2 (fun g34 => .bool false) [21] 2 2] (fun g34 s => match s with | 0 => (Wd w [cellsE b9 (Cd.cs c_api_Request (g7, t5)) 27, frzE w Z_ s_, cellsE b1 (Cd.cs c_api_Request (g0_, x0)) 27]) | 1 => (Wd w [factE (NK_api_Request (KZ w ((g34 0).2.2.2.2.1)) ((g34 0).2.2.2.2.2.1) ((((g34 0).2.2.2.2.2.2 0)), t10)), factE (NK_api_Request (KZ w ((g34 0).2.2.2.2.1)) ((g34 0).2.2.2.2.2.1) (g7, t5)), factE (NK_api_Request (KZ w ((g34 0).2.2.2.2.1)) ((g34 0).2.2.2.2.2.1) (g0_, x0)), frzE w ((g34 0).2.2.2.2.1) ((g34 0).2.2.2.2.2.1), cellsE b9 (Cd.cs c_api_Request (g7, t5)) 27, cellsE b1 (Cd.cs c_api_Request (g0_, x0)) 27]) | _ => (Wd w [factE (NK_api_Request (KZ w ((g34 1).2.2.2.2.1)) ((g34 1).2.2.2.2.2.1) ((((g34 1).2.2.2.2.2.2 0)), t18)), factE (NK_api_Request (KZ w ((g34 1).2.2.2.2.1)) ((g34 1).2.2.2.2.2.1) ((((g34 0).2.2.2.2.2.2 0)), t10)), factE (NK_api_Request (KZ w ((g34 1).2.2.2.2.1)) ((g34 1).2.2.2.2.2.1) (g7, t5)), factE (NK_api_Request (KZ w ((g34 1).2.2.2.2.1)) ((g34 1).2.2.2.2.2.1) (g0_, x0)), frzE w ((g34 1).2.2.2.2.1) ((g34 1).2.2.2.2.2.1), cellsE b9 (Cd.cs c_api_Request (g7, t5)) 27, cellsE b1 (Cd.cs c_api_Request (g0_, x0)) 27])) 2 (by kernel_rfl) (by kernel_rfl) (by kernel_rfl) (by kernel_rfl) (by kernel_rfl) ⟨fun _ _ _ => rfl, fun _ _ _ => rfl, fun g34 g2 h => by show (.agg (Cd.cs c_api_Request ((((g34 0).2.2.2.2.2.2 0)), t10)).toArray : Value) = .agg (Cd.cs c_api_Request ((((g2 0).2.2.2.2.2.2 0)), t10)).toArray; rw [h 0 (show 0 < 1 by decide)], fun _ _ _ => rfl, fun _ _ _ => rfl, fun _ _ _ => rfl, fun g34 g2 h => by show (.agg (Cd.cs c_api_Request ((((g34 1).2.2.2.2.2.2 0)), t18)).toArray : Value) = .agg (Cd.cs c_api_Request ((((g2 1).2.2.2.2.2.2 0)), t18)).toArray; rw [h 1 (show 1 < 2 by decide)], fun _ _ _ => rfl, fun _ _ _ => rfl, fun _ _ _ => rfl, fun _ _ _ => rfl, fun _ _ _ => rfl, fun _ _ _ => rfl, fun _ _ _ => rfl, fun _ _ _ => rfl, fun _ _ _ => rfl, fun _ _ _ => rfl, fun _ _ _ => rfl, fun _ _ _ => rfl, fun _ _ _ => rfl, fun _ _ _ => rfl, fun _ _ _ => rfl, fun _ _ _ => rfl, trivial⟩ (by kernel_rfl) (fun w_ h => ⟨fun _ => g3 0 none 0 none w_, h.drew⟩) ⟨?_, ?_, ?_, ?_, ?_, ?_, ?_, ?_, ?_, ?_, ?_, ?_, ?_, ?_, ?_, ?_, ?_, ?_, ?_, ?_, ?_, ?_, ?_, trivial⟩ ?_
      ·intro Lx g34 s K hl hh k
       show At 31 ((1, _) :: (3, _) :: Lx) _ _
       rcases (by omega : s = 0 ∨ s = 1) with rfl | rfl
       ·skip
        refine av rfl (r_load_aggc (c := c_api_Request) (z := (g7, t5)) Try.isAgg27 Try.sizeOf27 rfl (lens_cell .z (Lens.whole _ _))) ?_
        exact at_nil k
       ·skip
        refine av rfl (r_load_aggc (c := c_api_Request) (z := (g7, t5)) Try.isAgg27 Try.sizeOf27 rfl (lens_cell (.s (.s (.s (.s .z)))) (Lens.whole _ _))) ?_
        exact at_nil k
      ·intro Lx g34 s K hl hh k
       show At 31 ((1, _) :: (3, _) :: Lx) _ _
       obtain rfl : s = 0 := by omega
       refine av rfl (r_load_aggc (c := c_api_Request) (z := (g0_, x0)) Try.isAgg27 Try.sizeOf27 rfl (lens_cell (.s (.s .z)) (Lens.whole _ _))) ?_
       exact at_nil k
      ·intro Lx g34 K k
       show At 31 ((10, _) :: (1, _) :: (3, _) :: Lx) _ _
       refine at_front (.s .z) ?_
       refine at_callZ (γ := G_api_Request) (V := fun z => .agg (Cd.cs c_api_Request (z, t10)).toArray) (Φ := fun K s z => NK_api_Request K s (z, t10)) Try.func21 rfl (by kernel_rfl) rfl rfl (fun w hw => crawlwayref32_Normal_ok ht10 hz0 hw) ?_
       intro Z11 s12 g14 hm13 hk15
       replace hz0 := NK_api_Request.mono hz0 hm13
       replace hk8 := NK_api_Request.mono hk8 hm13
       refine at_fact hz0 ?_
       refine at_fact hk8 ?_
       refine at_fact hk15 ?_
       exact at_nil (k (0, none, 0, none, Z11, s12, fun i_ => match i_ with | 0 => g14 | _ => (none, 0)))
      ·intro Lx g34 s K hl hh k
       show At 31 ((9, _) :: (11, _) :: (1, _) :: (3, _) :: Lx) _ _
       obtain rfl : s = 1 := by omega
       refine at_pure (φ := NK_api_Request (KZ w ((g34 0).2.2.2.2.1)) ((g34 0).2.2.2.2.2.1) ((((g34 0).2.2.2.2.2.2 0)), t10)) (fun _ hw => hw.ok (Upd.mem .z)) ?_
       intro hk15
       refine at_pure (φ := NK_api_Request (KZ w ((g34 0).2.2.2.2.1)) ((g34 0).2.2.2.2.2.1) (g7, t5)) (fun _ hw => hw.ok (Upd.mem (.s .z))) ?_
       intro hk8
       refine at_pure (φ := NK_api_Request (KZ w ((g34 0).2.2.2.2.1)) ((g34 0).2.2.2.2.2.1) (g0_, x0)) (fun _ hw => hw.ok (Upd.mem (.s (.s .z)))) ?_
       intro hz0
       refine at_callB Try.func20 rfl (by kernel_rfl) rfl rfl (fun w hw => crawlwayref32_Same_ok _ _ _ _ _ ht16 w (NK_api_Request.n (NK_api_Request.mono hk8 (frz_mono (.s (.s (.s .z))) hw))) (NK_api_Request.n (NK_api_Request.mono hk15 (frz_mono (.s (.s (.s .z))) hw)))) ?_
       exact at_nil k
      ·intro Lx g34 s K hl hh k
       show At 31 ((12, _) :: (1, _) :: (3, _) :: Lx) _ _
       refine av rfl (r_move rfl) ?_
       exact at_nil (at_cast h17 k)
      ·intro Lx g34 s K hl hh k
       show At 31 ((13, _) :: (1, _) :: (3, _) :: Lx) _ _
       refine at_guard_yes rfl rfl rfl ?_
       obtain rfl : s = 1 := by omega
       refine av rfl (r_load_aggc (c := c_api_Request) (z := (g7, t5)) Try.isAgg27 Try.sizeOf27 rfl (lens_cell (.s (.s (.s (.s .z)))) (Lens.whole _ _))) ?_
       exact at_nil k
      ·intro Lx g34 K k
       show At 31 ((13, _) :: (14, _) :: (1, _) :: (3, _) :: Lx) _ _
       refine at_guard_yes rfl rfl rfl ?_
       refine at_pure (φ := NK_api_Request (KZ w ((g34 0).2.2.2.2.1)) ((g34 0).2.2.2.2.2.1) ((((g34 0).2.2.2.2.2.2 0)), t10)) (fun _ hw => hw.ok (Upd.mem .z)) ?_
       intro hk15
       refine at_pure (φ := NK_api_Request (KZ w ((g34 0).2.2.2.2.1)) ((g34 0).2.2.2.2.2.1) (g7, t5)) (fun _ hw => hw.ok (Upd.mem (.s .z))) ?_
       intro hk8
       refine at_pure (φ := NK_api_Request (KZ w ((g34 0).2.2.2.2.1)) ((g34 0).2.2.2.2.2.1) (g0_, x0)) (fun _ hw => hw.ok (Upd.mem (.s (.s .z)))) ?_
       intro hz0
       refine at_drop (H := _) .z ?_
       refine at_drop (H := _) .z ?_
       refine at_drop (H := _) .z ?_
       refine at_callZ (γ := G_api_Request) (V := fun z => .agg (Cd.cs c_api_Request (z, t18)).toArray) (Φ := fun K s z => NK_api_Request K s (z, t18)) Try.func19 rfl (by kernel_rfl) rfl rfl (fun w hw => change_Normal_ok ht18 hk8 hw) ?_
       intro Z19 s20 g22 hm21 hk23
       replace hz0 := NK_api_Request.mono hz0 hm21
       replace hk8 := NK_api_Request.mono hk8 hm21
       replace hk15 := NK_api_Request.mono hk15 hm21
       refine at_fact hz0 ?_
       refine at_fact hk8 ?_
       refine at_fact hk15 ?_
       refine at_fact hk23 ?_
       exact at_nil (k (0, none, 0, none, Z19, s20, fun i_ => match i_ with | 0 => g22 | _ => (none, 0)))
      ·intro Lx g34 s K hl hh k
       show At 31 ((13, _) :: (1, _) :: (3, _) :: Lx) _ _
       refine at_guard_yes rfl rfl rfl ?_
       rcases (by omega : s = 1 ∨ s = 2) with rfl | rfl
       ·skip
        refine av rfl (r_load_aggc (c := c_api_Request) (z := (g7, t5)) Try.isAgg27 Try.sizeOf27 rfl (lens_cell (.s (.s (.s (.s .z)))) (Lens.whole _ _))) ?_
        exact at_nil k
       ·skip
        refine av rfl (r_load_aggc (c := c_api_Request) (z := (g7, t5)) Try.isAgg27 Try.sizeOf27 rfl (lens_cell (.s (.s (.s (.s (.s .z))))) (Lens.whole _ _))) ?_
        exact at_nil k
      ·intro Lx g34 s K hl hh k
       show At 31 ((13, _) :: (15, _) :: (16, _) :: (1, _) :: (3, _) :: Lx) _ _
       refine at_guard_yes rfl rfl rfl ?_
       obtain rfl : s = 2 := by omega
       refine at_pure (φ := NK_api_Request (KZ w ((g34 1).2.2.2.2.1)) ((g34 1).2.2.2.2.2.1) ((((g34 1).2.2.2.2.2.2 0)), t18)) (fun _ hw => hw.ok (Upd.mem .z)) ?_
       intro hk23
       refine at_pure (φ := NK_api_Request (KZ w ((g34 1).2.2.2.2.1)) ((g34 1).2.2.2.2.2.1) ((((g34 0).2.2.2.2.2.2 0)), t10)) (fun _ hw => hw.ok (Upd.mem (.s .z))) ?_
       intro hk15
       refine at_pure (φ := NK_api_Request (KZ w ((g34 1).2.2.2.2.1)) ((g34 1).2.2.2.2.2.1) (g7, t5)) (fun _ hw => hw.ok (Upd.mem (.s (.s .z)))) ?_
       intro hk8
       refine at_pure (φ := NK_api_Request (KZ w ((g34 1).2.2.2.2.1)) ((g34 1).2.2.2.2.2.1) (g0_, x0)) (fun _ hw => hw.ok (Upd.mem (.s (.s (.s .z))))) ?_
       intro hz0
       refine at_callB Try.func20 rfl (by kernel_rfl) rfl rfl (fun w hw => crawlwayref32_Same_ok _ _ _ _ _ ht24 w (NK_api_Request.n (NK_api_Request.mono hk23 (frz_mono (.s (.s (.s (.s .z)))) hw))) (NK_api_Request.n (NK_api_Request.mono hk8 (frz_mono (.s (.s (.s (.s .z)))) hw)))) ?_
       exact at_nil k
      ·intro Lx g34 s K hl hh k
       show At 31 ((13, _) :: (17, _) :: (1, _) :: (3, _) :: Lx) _ _
       refine av rfl (r_pick rfl rfl rfl) ?_
       exact at_nil k
      ·intro Lx g34 s K hl hh k
       show At 31 ((18, _) :: (1, _) :: (3, _) :: Lx) _ _
       refine av rfl (r_move rfl) ?_
       exact at_nil (at_cast h25 k)
      ·intro Lx g34 s K hl hh k
       show At 31 ((19, _) :: (1, _) :: (3, _) :: Lx) _ _
       refine at_guard_yes rfl rfl rfl ?_
       obtain rfl : s = 2 := by omega
       refine av rfl (r_load_aggc (c := c_api_Request) (z := (g0_, x0)) Try.isAgg27 Try.sizeOf27 rfl (lens_cell (.s (.s (.s (.s (.s (.s .z)))))) (Lens.whole _ _))) ?_
       exact at_nil k
      ·intro Lx g34 s K hl hh k
       show At 31 ((19, _) :: (20, _) :: (1, _) :: (3, _) :: Lx) _ _
       refine at_guard_yes rfl rfl rfl ?_
       obtain rfl : s = 2 := by omega
       refine at_pure (φ := NK_api_Request (KZ w ((g34 1).2.2.2.2.1)) ((g34 1).2.2.2.2.2.1) ((((g34 1).2.2.2.2.2.2 0)), t18)) (fun _ hw => hw.ok (Upd.mem .z)) ?_
       intro hk23
       refine at_pure (φ := NK_api_Request (KZ w ((g34 1).2.2.2.2.1)) ((g34 1).2.2.2.2.2.1) ((((g34 0).2.2.2.2.2.2 0)), t10)) (fun _ hw => hw.ok (Upd.mem (.s .z))) ?_
       intro hk15
       refine at_pure (φ := NK_api_Request (KZ w ((g34 1).2.2.2.2.1)) ((g34 1).2.2.2.2.2.1) (g7, t5)) (fun _ hw => hw.ok (Upd.mem (.s (.s .z)))) ?_
       intro hk8
       refine at_pure (φ := NK_api_Request (KZ w ((g34 1).2.2.2.2.1)) ((g34 1).2.2.2.2.2.1) (g0_, x0)) (fun _ hw => hw.ok (Upd.mem (.s (.s (.s .z))))) ?_
       intro hz0
       refine at_callB Try.func18 rfl (by kernel_rfl) rfl rfl (fun w hw => crawlwayref32_Right_ok _ _ _ ht26 w (NK_api_Request.n (NK_api_Request.mono hz0 (frz_mono (.s (.s (.s (.s .z)))) hw)))) ?_
       exact at_nil k
      ·intro Lx g34 s K hl hh k
       show At 31 ((19, _) :: (21, _) :: (1, _) :: (3, _) :: Lx) _ _
       refine at_guard_yes rfl rfl rfl ?_
       refine av rfl (r_not rfl) ?_
       exact at_nil k
      ·intro Lx g34 s K hl hh k
       show At 31 ((19, _) :: (22, _) :: (1, _) :: (3, _) :: Lx) _ _
       refine at_guard_yes rfl rfl rfl ?_
       refine av rfl (r_move rfl) ?_
       exact at_nil (at_cast h27 k)
      ·intro Lx g34 s K hl hh k
       show At 31 ((23, _) :: (1, _) :: (3, _) :: Lx) _ _
       refine at_guard_yes rfl rfl rfl ?_
       obtain rfl : s = 2 := by omega
       refine av rfl (r_load_aggc (c := c_api_Request) (z := (g7, t5)) Try.isAgg27 Try.sizeOf27 rfl (lens_cell (.s (.s (.s (.s (.s .z))))) (Lens.whole _ _))) ?_
       exact at_nil k
      ·intro Lx g34 s K hl hh k
       show At 31 ((23, _) :: (24, _) :: (1, _) :: (3, _) :: Lx) _ _
       refine at_guard_yes rfl rfl rfl ?_
       obtain rfl : s = 2 := by omega
       refine at_pure (φ := NK_api_Request (KZ w ((g34 1).2.2.2.2.1)) ((g34 1).2.2.2.2.2.1) ((((g34 1).2.2.2.2.2.2 0)), t18)) (fun _ hw => hw.ok (Upd.mem .z)) ?_
       intro hk23
       refine at_pure (φ := NK_api_Request (KZ w ((g34 1).2.2.2.2.1)) ((g34 1).2.2.2.2.2.1) ((((g34 0).2.2.2.2.2.2 0)), t10)) (fun _ hw => hw.ok (Upd.mem (.s .z))) ?_
       intro hk15
       refine at_pure (φ := NK_api_Request (KZ w ((g34 1).2.2.2.2.1)) ((g34 1).2.2.2.2.2.1) (g7, t5)) (fun _ hw => hw.ok (Upd.mem (.s (.s .z)))) ?_
       intro hk8
       refine at_pure (φ := NK_api_Request (KZ w ((g34 1).2.2.2.2.1)) ((g34 1).2.2.2.2.2.1) (g0_, x0)) (fun _ hw => hw.ok (Upd.mem (.s (.s (.s .z))))) ?_
       intro hz0
       refine at_callB Try.func17 rfl (by kernel_rfl) rfl rfl (fun w hw => change_Right_ok _ _ _ ht30 w (NK_api_Request.n (NK_api_Request.mono hk8 (frz_mono (.s (.s (.s (.s .z)))) hw)))) ?_
       exact at_nil k
      ·intro Lx g34 s K hl hh k
       show At 31 ((19, _) :: (23, _) :: (25, _) :: (1, _) :: (3, _) :: Lx) _ _
       refine at_guard_yes rfl rfl rfl ?_
       refine av rfl (r_pick rfl rfl rfl) ?_
       exact at_nil k
      ·intro Lx g34 s K hl hh k
       show At 31 ((19, _) :: (26, _) :: (1, _) :: (3, _) :: Lx) _ _
       refine av rfl (r_pick rfl rfl rfl) ?_
       exact at_nil k
      ·intro Lx g34 s K hl hh k
       show At 31 ((27, _) :: (1, _) :: (3, _) :: Lx) _ _
       refine av rfl (r_move rfl) ?_
       exact at_nil (at_cast h31 k)
      ·intro Lx g34 s K hl hh k
       show At 31 ((28, _) :: (1, _) :: (3, _) :: Lx) _ _
       obtain rfl : s = 2 := by omega
       refine at_guard_no rfl rfl rfl rfl rfl ?_
       exact at_nil k
      ·intro Lx g34 s K hl hh k
       show At 31 ((28, _) :: (29, _) :: (1, _) :: (3, _) :: Lx) _ _
       refine av rfl (r_pick rfl rfl rfl) ?_
       exact at_nil k
      ·intro Lx g34 s K hl hh k
       show At 31 ((30, _) :: (1, _) :: (3, _) :: Lx) _ _
       refine av rfl (r_assign rfl) ?_
       exact at_nil k
      intro g34
      show At 31 [(9, _), (10, _), (11, _), (12, _), (13, _), (14, _), (15, _), (16, _), (17, _), (18, _), (19, _), (20, _), (21, _), (22, _), (23, _), (24, _), (25, _), (26, _), (27, _), (28, _), (29, _), (30, _), (2, _), (1, _), (3, _)] _ _
      refine at_pure (φ := NK_api_Request (KZ w ((g34 1).2.2.2.2.1)) ((g34 1).2.2.2.2.2.1) ((((g34 1).2.2.2.2.2.2 0)), t18)) (fun _ hw => hw.ok (Upd.mem .z)) ?_
      intro hk23
      refine at_pure (φ := NK_api_Request (KZ w ((g34 1).2.2.2.2.1)) ((g34 1).2.2.2.2.2.1) ((((g34 0).2.2.2.2.2.2 0)), t10)) (fun _ hw => hw.ok (Upd.mem (.s .z))) ?_
      intro hk15
      refine at_pure (φ := NK_api_Request (KZ w ((g34 1).2.2.2.2.1)) ((g34 1).2.2.2.2.2.1) (g7, t5)) (fun _ hw => hw.ok (Upd.mem (.s (.s .z)))) ?_
      intro hk8
      refine at_pure (φ := NK_api_Request (KZ w ((g34 1).2.2.2.2.1)) ((g34 1).2.2.2.2.2.1) (g0_, x0)) (fun _ hw => hw.ok (Upd.mem (.s (.s (.s .z))))) ?_
      intro hz0
      refine at_drop (H := _) .z ?_
      refine at_drop (H := _) .z ?_
      refine at_drop (H := _) .z ?_
      refine at_drop (H := _) .z ?_
      refine at_drop (H := _) (.s .z) ?_
      refine at_drop (H := _) (.s .z) ?_
      refine at_weak [(2, _)] ⟨rfl, trivial⟩ ?_
      refine at_then_normal ?_
      refine at_ret ?_
      have K := of_some hF
      subst K
      exact at_return1 rfl rfl (fun w1 hw => ⟨rfl, hw.below⟩)
   ·skip
    refine at_inv [.q 9 (fun g35 => .agg (Cd.cs c_api_Request (g7, t5)).toArray) [] 0 1, .q 10 (fun g35 => .agg (Cd.cs c_api_Request (g0_, x0)).toArray) [] 0 0, .al 0 11 (fun g35 => .agg (Cd.cs c_api_Request ((((g35 0).2.2.2.2.2.2 0)), t10)).toArray) [1], .q 12 (fun g35 => .bool t16) [0, 2] 1 1, .q 13 (fun g35 => .bool true) [3] 1 1, .q 14 (fun g35 => .agg (Cd.cs c_api_Request (g7, t5)).toArray) [4] 1 1, .al 1 15 (fun g35 => .agg (Cd.cs c_api_Request ((((g35 1).2.2.2.2.2.2 0)), t18)).toArray) [4, 5], .q 16 (fun g35 => .agg (Cd.cs c_api_Request (g7, t5)).toArray) [4] 1 2, .q 17 (fun g35 => .bool t24) [4, 6, 7] 2 2, .q 18 (fun g35 => .bool t24) [4, 8] 2 2, .q 19 (fun g35 => .bool false) [9] 2 2, .q 20 (fun g35 => undef) [10] 2 2, .q 21 (fun g35 => undef) [10, 11] 2 2, .q 22 (fun g35 => undef) [10, 12] 2 2, .q 23 (fun g35 => undef) [10, 13] 2 2, .q 24 (fun g35 => undef) [14] 2 2, .q 25 (fun g35 => undef) [14, 15] 2 2, .q 26 (fun g35 => undef) [10, 14, 16] 2 2, .q 27 (fun g35 => .bool false) [10, 17] 2 2, .q 28 (fun g35 => .bool false) [18] 2 2, .q 29 (fun g35 => undef) [19] 2 2, .q 30 (fun g35 => .bool false) [19, 20] 2 2, .q 2 (fun g35 => .bool false) [21] 2 2] (fun g35 s => match s with | 0 => (Wd w [cellsE b9 (Cd.cs c_api_Request (g7, t5)) 27, frzE w Z_ s_, cellsE b1 (Cd.cs c_api_Request (g0_, x0)) 27]) | 1 => (Wd w [factE (NK_api_Request (KZ w ((g35 0).2.2.2.2.1)) ((g35 0).2.2.2.2.2.1) ((((g35 0).2.2.2.2.2.2 0)), t10)), factE (NK_api_Request (KZ w ((g35 0).2.2.2.2.1)) ((g35 0).2.2.2.2.2.1) (g7, t5)), factE (NK_api_Request (KZ w ((g35 0).2.2.2.2.1)) ((g35 0).2.2.2.2.2.1) (g0_, x0)), frzE w ((g35 0).2.2.2.2.1) ((g35 0).2.2.2.2.2.1), cellsE b9 (Cd.cs c_api_Request (g7, t5)) 27, cellsE b1 (Cd.cs c_api_Request (g0_, x0)) 27]) | _ => (Wd w [factE (NK_api_Request (KZ w ((g35 1).2.2.2.2.1)) ((g35 1).2.2.2.2.2.1) ((((g35 1).2.2.2.2.2.2 0)), t18)), factE (NK_api_Request (KZ w ((g35 1).2.2.2.2.1)) ((g35 1).2.2.2.2.2.1) ((((g35 0).2.2.2.2.2.2 0)), t10)), factE (NK_api_Request (KZ w ((g35 1).2.2.2.2.1)) ((g35 1).2.2.2.2.2.1) (g7, t5)), factE (NK_api_Request (KZ w ((g35 1).2.2.2.2.1)) ((g35 1).2.2.2.2.2.1) (g0_, x0)), frzE w ((g35 1).2.2.2.2.1) ((g35 1).2.2.2.2.2.1), cellsE b9 (Cd.cs c_api_Request (g7, t5)) 27, cellsE b1 (Cd.cs c_api_Request (g0_, x0)) 27])) 2 (by kernel_rfl) (by kernel_rfl) (by kernel_rfl) (by kernel_rfl) (by kernel_rfl) ⟨fun _ _ _ => rfl, fun _ _ _ => rfl, fun g35 g2 h => by show (.agg (Cd.cs c_api_Request ((((g35 0).2.2.2.2.2.2 0)), t10)).toArray : Value) = .agg (Cd.cs c_api_Request ((((g2 0).2.2.2.2.2.2 0)), t10)).toArray; rw [h 0 (show 0 < 1 by decide)], fun _ _ _ => rfl, fun _ _ _ => rfl, fun _ _ _ => rfl, fun g35 g2 h => by show (.agg (Cd.cs c_api_Request ((((g35 1).2.2.2.2.2.2 0)), t18)).toArray : Value) = .agg (Cd.cs c_api_Request ((((g2 1).2.2.2.2.2.2 0)), t18)).toArray; rw [h 1 (show 1 < 2 by decide)], fun _ _ _ => rfl, fun _ _ _ => rfl, fun _ _ _ => rfl, fun _ _ _ => rfl, fun _ _ _ => rfl, fun _ _ _ => rfl, fun _ _ _ => rfl, fun _ _ _ => rfl, fun _ _ _ => rfl, fun _ _ _ => rfl, fun _ _ _ => rfl, fun _ _ _ => rfl, fun _ _ _ => rfl, fun _ _ _ => rfl, fun _ _ _ => rfl, fun _ _ _ => rfl, trivial⟩ (by kernel_rfl) (fun w_ h => ⟨fun _ => g3 0 none 0 none w_, h.drew⟩) ⟨?_, ?_, ?_, ?_, ?_, ?_, ?_, ?_, ?_, ?_, ?_, ?_, ?_, ?_, ?_, ?_, ?_, ?_, ?_, ?_, ?_, ?_, ?_, trivial⟩ ?_
    ·intro Lx g35 s K hl hh k
     show At 31 ((1, _) :: (3, _) :: Lx) _ _
     rcases (by omega : s = 0 ∨ s = 1) with rfl | rfl
     ·skip
      refine av rfl (r_load_aggc (c := c_api_Request) (z := (g7, t5)) Try.isAgg27 Try.sizeOf27 rfl (lens_cell .z (Lens.whole _ _))) ?_
      exact at_nil k
     ·skip
      refine av rfl (r_load_aggc (c := c_api_Request) (z := (g7, t5)) Try.isAgg27 Try.sizeOf27 rfl (lens_cell (.s (.s (.s (.s .z)))) (Lens.whole _ _))) ?_
      exact at_nil k
    ·intro Lx g35 s K hl hh k
     show At 31 ((1, _) :: (3, _) :: Lx) _ _
     obtain rfl : s = 0 := by omega
     refine av rfl (r_load_aggc (c := c_api_Request) (z := (g0_, x0)) Try.isAgg27 Try.sizeOf27 rfl (lens_cell (.s (.s .z)) (Lens.whole _ _))) ?_
     exact at_nil k
    ·intro Lx g35 K k
     show At 31 ((10, _) :: (1, _) :: (3, _) :: Lx) _ _
     refine at_front (.s .z) ?_
     refine at_callZ (γ := G_api_Request) (V := fun z => .agg (Cd.cs c_api_Request (z, t10)).toArray) (Φ := fun K s z => NK_api_Request K s (z, t10)) Try.func21 rfl (by kernel_rfl) rfl rfl (fun w hw => crawlwayref32_Normal_ok ht10 hz0 hw) ?_
     intro Z11 s12 g14 hm13 hk15
     replace hz0 := NK_api_Request.mono hz0 hm13
     replace hk8 := NK_api_Request.mono hk8 hm13
     refine at_fact hz0 ?_
     refine at_fact hk8 ?_
     refine at_fact hk15 ?_
     exact at_nil (k (0, none, 0, none, Z11, s12, fun i_ => match i_ with | 0 => g14 | _ => (none, 0)))
    ·intro Lx g35 s K hl hh k
     show At 31 ((9, _) :: (11, _) :: (1, _) :: (3, _) :: Lx) _ _
     obtain rfl : s = 1 := by omega
     refine at_pure (φ := NK_api_Request (KZ w ((g35 0).2.2.2.2.1)) ((g35 0).2.2.2.2.2.1) ((((g35 0).2.2.2.2.2.2 0)), t10)) (fun _ hw => hw.ok (Upd.mem .z)) ?_
     intro hk15
     refine at_pure (φ := NK_api_Request (KZ w ((g35 0).2.2.2.2.1)) ((g35 0).2.2.2.2.2.1) (g7, t5)) (fun _ hw => hw.ok (Upd.mem (.s .z))) ?_
     intro hk8
     refine at_pure (φ := NK_api_Request (KZ w ((g35 0).2.2.2.2.1)) ((g35 0).2.2.2.2.2.1) (g0_, x0)) (fun _ hw => hw.ok (Upd.mem (.s (.s .z)))) ?_
     intro hz0
     refine at_callB Try.func20 rfl (by kernel_rfl) rfl rfl (fun w hw => crawlwayref32_Same_ok _ _ _ _ _ ht16 w (NK_api_Request.n (NK_api_Request.mono hk8 (frz_mono (.s (.s (.s .z))) hw))) (NK_api_Request.n (NK_api_Request.mono hk15 (frz_mono (.s (.s (.s .z))) hw)))) ?_
     exact at_nil k
    ·intro Lx g35 s K hl hh k
     show At 31 ((12, _) :: (1, _) :: (3, _) :: Lx) _ _
     refine av rfl (r_move rfl) ?_
     exact at_nil (at_cast h17 k)
    ·intro Lx g35 s K hl hh k
     show At 31 ((13, _) :: (1, _) :: (3, _) :: Lx) _ _
     refine at_guard_yes rfl rfl rfl ?_
     obtain rfl : s = 1 := by omega
     refine av rfl (r_load_aggc (c := c_api_Request) (z := (g7, t5)) Try.isAgg27 Try.sizeOf27 rfl (lens_cell (.s (.s (.s (.s .z)))) (Lens.whole _ _))) ?_
     exact at_nil k
    ·intro Lx g35 K k
     show At 31 ((13, _) :: (14, _) :: (1, _) :: (3, _) :: Lx) _ _
     refine at_guard_yes rfl rfl rfl ?_
     refine at_pure (φ := NK_api_Request (KZ w ((g35 0).2.2.2.2.1)) ((g35 0).2.2.2.2.2.1) ((((g35 0).2.2.2.2.2.2 0)), t10)) (fun _ hw => hw.ok (Upd.mem .z)) ?_
     intro hk15
     refine at_pure (φ := NK_api_Request (KZ w ((g35 0).2.2.2.2.1)) ((g35 0).2.2.2.2.2.1) (g7, t5)) (fun _ hw => hw.ok (Upd.mem (.s .z))) ?_
     intro hk8
     refine at_pure (φ := NK_api_Request (KZ w ((g35 0).2.2.2.2.1)) ((g35 0).2.2.2.2.2.1) (g0_, x0)) (fun _ hw => hw.ok (Upd.mem (.s (.s .z)))) ?_
     intro hz0
     refine at_drop (H := _) .z ?_
     refine at_drop (H := _) .z ?_
     refine at_drop (H := _) .z ?_
     refine at_callZ (γ := G_api_Request) (V := fun z => .agg (Cd.cs c_api_Request (z, t18)).toArray) (Φ := fun K s z => NK_api_Request K s (z, t18)) Try.func19 rfl (by kernel_rfl) rfl rfl (fun w hw => change_Normal_ok ht18 hk8 hw) ?_
     intro Z19 s20 g22 hm21 hk23
     replace hz0 := NK_api_Request.mono hz0 hm21
     replace hk8 := NK_api_Request.mono hk8 hm21
     replace hk15 := NK_api_Request.mono hk15 hm21
     refine at_fact hz0 ?_
     refine at_fact hk8 ?_
     refine at_fact hk15 ?_
     refine at_fact hk23 ?_
     exact at_nil (k (0, none, 0, none, Z19, s20, fun i_ => match i_ with | 0 => g22 | _ => (none, 0)))
    ·intro Lx g35 s K hl hh k
     show At 31 ((13, _) :: (1, _) :: (3, _) :: Lx) _ _
     refine at_guard_yes rfl rfl rfl ?_
     rcases (by omega : s = 1 ∨ s = 2) with rfl | rfl
     ·skip
      refine av rfl (r_load_aggc (c := c_api_Request) (z := (g7, t5)) Try.isAgg27 Try.sizeOf27 rfl (lens_cell (.s (.s (.s (.s .z)))) (Lens.whole _ _))) ?_
      exact at_nil k
     ·skip
      refine av rfl (r_load_aggc (c := c_api_Request) (z := (g7, t5)) Try.isAgg27 Try.sizeOf27 rfl (lens_cell (.s (.s (.s (.s (.s .z))))) (Lens.whole _ _))) ?_
      exact at_nil k
    ·intro Lx g35 s K hl hh k
     show At 31 ((13, _) :: (15, _) :: (16, _) :: (1, _) :: (3, _) :: Lx) _ _
     refine at_guard_yes rfl rfl rfl ?_
     obtain rfl : s = 2 := by omega
     refine at_pure (φ := NK_api_Request (KZ w ((g35 1).2.2.2.2.1)) ((g35 1).2.2.2.2.2.1) ((((g35 1).2.2.2.2.2.2 0)), t18)) (fun _ hw => hw.ok (Upd.mem .z)) ?_
     intro hk23
     refine at_pure (φ := NK_api_Request (KZ w ((g35 1).2.2.2.2.1)) ((g35 1).2.2.2.2.2.1) ((((g35 0).2.2.2.2.2.2 0)), t10)) (fun _ hw => hw.ok (Upd.mem (.s .z))) ?_
     intro hk15
     refine at_pure (φ := NK_api_Request (KZ w ((g35 1).2.2.2.2.1)) ((g35 1).2.2.2.2.2.1) (g7, t5)) (fun _ hw => hw.ok (Upd.mem (.s (.s .z)))) ?_
     intro hk8
     refine at_pure (φ := NK_api_Request (KZ w ((g35 1).2.2.2.2.1)) ((g35 1).2.2.2.2.2.1) (g0_, x0)) (fun _ hw => hw.ok (Upd.mem (.s (.s (.s .z))))) ?_
     intro hz0
     refine at_callB Try.func20 rfl (by kernel_rfl) rfl rfl (fun w hw => crawlwayref32_Same_ok _ _ _ _ _ ht24 w (NK_api_Request.n (NK_api_Request.mono hk23 (frz_mono (.s (.s (.s (.s .z)))) hw))) (NK_api_Request.n (NK_api_Request.mono hk8 (frz_mono (.s (.s (.s (.s .z)))) hw)))) ?_
     exact at_nil k
    ·intro Lx g35 s K hl hh k
     show At 31 ((13, _) :: (17, _) :: (1, _) :: (3, _) :: Lx) _ _
     refine av rfl (r_pick rfl rfl rfl) ?_
     exact at_nil k
    ·intro Lx g35 s K hl hh k
     show At 31 ((18, _) :: (1, _) :: (3, _) :: Lx) _ _
     refine av rfl (r_move rfl) ?_
     exact at_nil (at_cast h25 k)
    ·intro Lx g35 s K hl hh k
     show At 31 ((19, _) :: (1, _) :: (3, _) :: Lx) _ _
     obtain rfl : s = 2 := by omega
     refine at_guard_no rfl rfl rfl rfl rfl ?_
     exact at_nil k
    ·intro Lx g35 s K hl hh k
     show At 31 ((19, _) :: (20, _) :: (1, _) :: (3, _) :: Lx) _ _
     obtain rfl : s = 2 := by omega
     refine at_guard_no rfl rfl rfl rfl rfl ?_
     exact at_nil k
    ·intro Lx g35 s K hl hh k
     show At 31 ((19, _) :: (21, _) :: (1, _) :: (3, _) :: Lx) _ _
     refine at_guard_no rfl rfl rfl rfl rfl ?_
     exact at_nil k
    ·intro Lx g35 s K hl hh k
     show At 31 ((19, _) :: (22, _) :: (1, _) :: (3, _) :: Lx) _ _
     refine at_guard_no rfl rfl rfl rfl rfl ?_
     exact at_nil k
    ·intro Lx g35 s K hl hh k
     show At 31 ((23, _) :: (1, _) :: (3, _) :: Lx) _ _
     obtain rfl : s = 2 := by omega
     refine at_guard_undef rfl rfl rfl rfl ?_
     exact at_nil k
    ·intro Lx g35 s K hl hh k
     show At 31 ((23, _) :: (24, _) :: (1, _) :: (3, _) :: Lx) _ _
     obtain rfl : s = 2 := by omega
     refine at_guard_undef rfl rfl rfl rfl ?_
     exact at_nil k
    ·intro Lx g35 s K hl hh k
     show At 31 ((19, _) :: (23, _) :: (25, _) :: (1, _) :: (3, _) :: Lx) _ _
     refine at_guard_no rfl rfl rfl rfl rfl ?_
     exact at_nil k
    ·intro Lx g35 s K hl hh k
     show At 31 ((19, _) :: (26, _) :: (1, _) :: (3, _) :: Lx) _ _
     refine av rfl (r_pick rfl rfl rfl) ?_
     exact at_nil k
    ·intro Lx g35 s K hl hh k
     show At 31 ((27, _) :: (1, _) :: (3, _) :: Lx) _ _
     refine av rfl (r_move rfl) ?_
     exact at_nil k
    ·intro Lx g35 s K hl hh k
     show At 31 ((28, _) :: (1, _) :: (3, _) :: Lx) _ _
     obtain rfl : s = 2 := by omega
     refine at_guard_no rfl rfl rfl rfl rfl ?_
     exact at_nil k
    ·intro Lx g35 s K hl hh k
     show At 31 ((28, _) :: (29, _) :: (1, _) :: (3, _) :: Lx) _ _
     refine av rfl (r_pick rfl rfl rfl) ?_
     exact at_nil k
    ·intro Lx g35 s K hl hh k
     show At 31 ((30, _) :: (1, _) :: (3, _) :: Lx) _ _
     refine av rfl (r_assign rfl) ?_
     exact at_nil k
    intro g35
    show At 31 [(9, _), (10, _), (11, _), (12, _), (13, _), (14, _), (15, _), (16, _), (17, _), (18, _), (19, _), (20, _), (21, _), (22, _), (23, _), (24, _), (25, _), (26, _), (27, _), (28, _), (29, _), (30, _), (2, _), (1, _), (3, _)] _ _
    refine at_pure (φ := NK_api_Request (KZ w ((g35 1).2.2.2.2.1)) ((g35 1).2.2.2.2.2.1) ((((g35 1).2.2.2.2.2.2 0)), t18)) (fun _ hw => hw.ok (Upd.mem .z)) ?_
    intro hk23
    refine at_pure (φ := NK_api_Request (KZ w ((g35 1).2.2.2.2.1)) ((g35 1).2.2.2.2.2.1) ((((g35 0).2.2.2.2.2.2 0)), t10)) (fun _ hw => hw.ok (Upd.mem (.s .z))) ?_
    intro hk15
    refine at_pure (φ := NK_api_Request (KZ w ((g35 1).2.2.2.2.1)) ((g35 1).2.2.2.2.2.1) (g7, t5)) (fun _ hw => hw.ok (Upd.mem (.s (.s .z)))) ?_
    intro hk8
    refine at_pure (φ := NK_api_Request (KZ w ((g35 1).2.2.2.2.1)) ((g35 1).2.2.2.2.2.1) (g0_, x0)) (fun _ hw => hw.ok (Upd.mem (.s (.s (.s .z))))) ?_
    intro hz0
    refine at_drop (H := _) .z ?_
    refine at_drop (H := _) .z ?_
    refine at_drop (H := _) .z ?_
    refine at_drop (H := _) .z ?_
    refine at_drop (H := _) (.s .z) ?_
    refine at_drop (H := _) (.s .z) ?_
    refine at_weak [(2, _)] ⟨rfl, trivial⟩ ?_
    refine at_then_normal ?_
    refine at_ret ?_
    have K := of_some hF
    subst K
    exact at_return1 rfl rfl (fun w1 hw => ⟨rfl, hw.below⟩)
  ·skip
   refine at_inv [.q 9 (fun g36 => .agg (Cd.cs c_api_Request (g7, t5)).toArray) [] 0 1, .q 10 (fun g36 => .agg (Cd.cs c_api_Request (g0_, x0)).toArray) [] 0 0, .al 0 11 (fun g36 => .agg (Cd.cs c_api_Request ((((g36 0).2.2.2.2.2.2 0)), t10)).toArray) [1], .q 12 (fun g36 => .bool t16) [0, 2] 1 1, .q 13 (fun g36 => .bool false) [3] 1 1, .q 14 (fun g36 => undef) [4] 1 1, .q 15 (fun g36 => undef) [4, 5] 1 1, .q 16 (fun g36 => undef) [4] 1 1, .q 17 (fun g36 => undef) [4, 6, 7] 1 1, .q 18 (fun g36 => .bool false) [4, 8] 1 1, .q 19 (fun g36 => .bool false) [9] 1 1, .q 20 (fun g36 => undef) [10] 1 1, .q 21 (fun g36 => undef) [10, 11] 1 1, .q 22 (fun g36 => undef) [10, 12] 1 1, .q 23 (fun g36 => undef) [10, 13] 1 1, .q 24 (fun g36 => undef) [14] 0 1, .q 25 (fun g36 => undef) [14, 15] 0 1, .q 26 (fun g36 => undef) [10, 14, 16] 1 1, .q 27 (fun g36 => .bool false) [10, 17] 1 1, .q 28 (fun g36 => .bool false) [18] 0 1, .q 29 (fun g36 => undef) [19] 0 1, .q 30 (fun g36 => .bool false) [19, 20] 0 1, .q 2 (fun g36 => .bool false) [21] 1 1] (fun g36 s => match s with | 0 => (Wd w [cellsE b9 (Cd.cs c_api_Request (g7, t5)) 27, frzE w Z_ s_, cellsE b1 (Cd.cs c_api_Request (g0_, x0)) 27]) | _ => (Wd w [factE (NK_api_Request (KZ w ((g36 0).2.2.2.2.1)) ((g36 0).2.2.2.2.2.1) ((((g36 0).2.2.2.2.2.2 0)), t10)), factE (NK_api_Request (KZ w ((g36 0).2.2.2.2.1)) ((g36 0).2.2.2.2.2.1) (g7, t5)), factE (NK_api_Request (KZ w ((g36 0).2.2.2.2.1)) ((g36 0).2.2.2.2.2.1) (g0_, x0)), frzE w ((g36 0).2.2.2.2.1) ((g36 0).2.2.2.2.2.1), cellsE b9 (Cd.cs c_api_Request (g7, t5)) 27, cellsE b1 (Cd.cs c_api_Request (g0_, x0)) 27])) 1 (by kernel_rfl) (by kernel_rfl) (by kernel_rfl) (by kernel_rfl) (by kernel_rfl) ⟨fun _ _ _ => rfl, fun _ _ _ => rfl, fun g36 g2 h => by show (.agg (Cd.cs c_api_Request ((((g36 0).2.2.2.2.2.2 0)), t10)).toArray : Value) = .agg (Cd.cs c_api_Request ((((g2 0).2.2.2.2.2.2 0)), t10)).toArray; rw [h 0 (show 0 < 1 by decide)], fun _ _ _ => rfl, fun _ _ _ => rfl, fun _ _ _ => rfl, fun _ _ _ => rfl, fun _ _ _ => rfl, fun _ _ _ => rfl, fun _ _ _ => rfl, fun _ _ _ => rfl, fun _ _ _ => rfl, fun _ _ _ => rfl, fun _ _ _ => rfl, fun _ _ _ => rfl, fun _ _ _ => rfl, fun _ _ _ => rfl, fun _ _ _ => rfl, fun _ _ _ => rfl, fun _ _ _ => rfl, fun _ _ _ => rfl, fun _ _ _ => rfl, fun _ _ _ => rfl, trivial⟩ (by kernel_rfl) (fun w_ h => ⟨fun _ => g3 0 none 0 none w_, h.drew⟩) ⟨?_, ?_, ?_, ?_, ?_, ?_, ?_, ?_, ?_, ?_, ?_, ?_, ?_, ?_, ?_, ?_, ?_, ?_, ?_, ?_, ?_, ?_, ?_, trivial⟩ ?_
   ·intro Lx g36 s K hl hh k
    show At 31 ((1, _) :: (3, _) :: Lx) _ _
    rcases (by omega : s = 0 ∨ s = 1) with rfl | rfl
    ·skip
     refine av rfl (r_load_aggc (c := c_api_Request) (z := (g7, t5)) Try.isAgg27 Try.sizeOf27 rfl (lens_cell .z (Lens.whole _ _))) ?_
     exact at_nil k
    ·skip
     refine av rfl (r_load_aggc (c := c_api_Request) (z := (g7, t5)) Try.isAgg27 Try.sizeOf27 rfl (lens_cell (.s (.s (.s (.s .z)))) (Lens.whole _ _))) ?_
     exact at_nil k
   ·intro Lx g36 s K hl hh k
    show At 31 ((1, _) :: (3, _) :: Lx) _ _
    obtain rfl : s = 0 := by omega
    refine av rfl (r_load_aggc (c := c_api_Request) (z := (g0_, x0)) Try.isAgg27 Try.sizeOf27 rfl (lens_cell (.s (.s .z)) (Lens.whole _ _))) ?_
    exact at_nil k
   ·intro Lx g36 K k
    show At 31 ((10, _) :: (1, _) :: (3, _) :: Lx) _ _
    refine at_front (.s .z) ?_
    refine at_callZ (γ := G_api_Request) (V := fun z => .agg (Cd.cs c_api_Request (z, t10)).toArray) (Φ := fun K s z => NK_api_Request K s (z, t10)) Try.func21 rfl (by kernel_rfl) rfl rfl (fun w hw => crawlwayref32_Normal_ok ht10 hz0 hw) ?_
    intro Z11 s12 g14 hm13 hk15
    replace hz0 := NK_api_Request.mono hz0 hm13
    replace hk8 := NK_api_Request.mono hk8 hm13
    refine at_fact hz0 ?_
    refine at_fact hk8 ?_
    refine at_fact hk15 ?_
    exact at_nil (k (0, none, 0, none, Z11, s12, fun i_ => match i_ with | 0 => g14 | _ => (none, 0)))
   ·intro Lx g36 s K hl hh k
    show At 31 ((9, _) :: (11, _) :: (1, _) :: (3, _) :: Lx) _ _
    obtain rfl : s = 1 := by omega
    refine at_pure (φ := NK_api_Request (KZ w ((g36 0).2.2.2.2.1)) ((g36 0).2.2.2.2.2.1) ((((g36 0).2.2.2.2.2.2 0)), t10)) (fun _ hw => hw.ok (Upd.mem .z)) ?_
    intro hk15
    refine at_pure (φ := NK_api_Request (KZ w ((g36 0).2.2.2.2.1)) ((g36 0).2.2.2.2.2.1) (g7, t5)) (fun _ hw => hw.ok (Upd.mem (.s .z))) ?_
    intro hk8
    refine at_pure (φ := NK_api_Request (KZ w ((g36 0).2.2.2.2.1)) ((g36 0).2.2.2.2.2.1) (g0_, x0)) (fun _ hw => hw.ok (Upd.mem (.s (.s .z)))) ?_
    intro hz0
    refine at_callB Try.func20 rfl (by kernel_rfl) rfl rfl (fun w hw => crawlwayref32_Same_ok _ _ _ _ _ ht16 w (NK_api_Request.n (NK_api_Request.mono hk8 (frz_mono (.s (.s (.s .z))) hw))) (NK_api_Request.n (NK_api_Request.mono hk15 (frz_mono (.s (.s (.s .z))) hw)))) ?_
    exact at_nil k
   ·intro Lx g36 s K hl hh k
    show At 31 ((12, _) :: (1, _) :: (3, _) :: Lx) _ _
    refine av rfl (r_move rfl) ?_
    exact at_nil (at_cast h17 k)
   ·intro Lx g36 s K hl hh k
    show At 31 ((13, _) :: (1, _) :: (3, _) :: Lx) _ _
    obtain rfl : s = 1 := by omega
    refine at_guard_no rfl rfl rfl rfl rfl ?_
    exact at_nil k
   ·intro Lx g36 s K hl hh k
    show At 31 ((13, _) :: (14, _) :: (1, _) :: (3, _) :: Lx) _ _
    obtain rfl : s = 1 := by omega
    refine at_guard_no rfl rfl rfl rfl rfl ?_
    exact at_nil k
   ·intro Lx g36 s K hl hh k
    show At 31 ((13, _) :: (1, _) :: (3, _) :: Lx) _ _
    obtain rfl : s = 1 := by omega
    refine at_guard_no rfl rfl rfl rfl rfl ?_
    exact at_nil k
   ·intro Lx g36 s K hl hh k
    show At 31 ((13, _) :: (15, _) :: (16, _) :: (1, _) :: (3, _) :: Lx) _ _
    obtain rfl : s = 1 := by omega
    refine at_guard_no rfl rfl rfl rfl rfl ?_
    exact at_nil k
   ·intro Lx g36 s K hl hh k
    show At 31 ((13, _) :: (17, _) :: (1, _) :: (3, _) :: Lx) _ _
    refine av rfl (r_pick rfl rfl rfl) ?_
    exact at_nil k
   ·intro Lx g36 s K hl hh k
    show At 31 ((18, _) :: (1, _) :: (3, _) :: Lx) _ _
    refine av rfl (r_move rfl) ?_
    exact at_nil k
   ·intro Lx g36 s K hl hh k
    show At 31 ((19, _) :: (1, _) :: (3, _) :: Lx) _ _
    obtain rfl : s = 1 := by omega
    refine at_guard_no rfl rfl rfl rfl rfl ?_
    exact at_nil k
   ·intro Lx g36 s K hl hh k
    show At 31 ((19, _) :: (20, _) :: (1, _) :: (3, _) :: Lx) _ _
    obtain rfl : s = 1 := by omega
    refine at_guard_no rfl rfl rfl rfl rfl ?_
    exact at_nil k
   ·intro Lx g36 s K hl hh k
    show At 31 ((19, _) :: (21, _) :: (1, _) :: (3, _) :: Lx) _ _
    refine at_guard_no rfl rfl rfl rfl rfl ?_
    exact at_nil k
   ·intro Lx g36 s K hl hh k
    show At 31 ((19, _) :: (22, _) :: (1, _) :: (3, _) :: Lx) _ _
    refine at_guard_no rfl rfl rfl rfl rfl ?_
    exact at_nil k
   ·intro Lx g36 s K hl hh k
    show At 31 ((23, _) :: (1, _) :: (3, _) :: Lx) _ _
    rcases (by omega : s = 0 ∨ s = 1) with rfl | rfl
    ·skip
     refine at_guard_undef rfl rfl rfl rfl ?_
     exact at_nil k
    ·skip
     refine at_guard_undef rfl rfl rfl rfl ?_
     exact at_nil k
   ·intro Lx g36 s K hl hh k
    show At 31 ((23, _) :: (24, _) :: (1, _) :: (3, _) :: Lx) _ _
    rcases (by omega : s = 0 ∨ s = 1) with rfl | rfl
    ·skip
     refine at_guard_undef rfl rfl rfl rfl ?_
     exact at_nil k
    ·skip
     refine at_guard_undef rfl rfl rfl rfl ?_
     exact at_nil k
   ·intro Lx g36 s K hl hh k
    show At 31 ((19, _) :: (23, _) :: (25, _) :: (1, _) :: (3, _) :: Lx) _ _
    refine at_guard_no rfl rfl rfl rfl rfl ?_
    exact at_nil k
   ·intro Lx g36 s K hl hh k
    show At 31 ((19, _) :: (26, _) :: (1, _) :: (3, _) :: Lx) _ _
    refine av rfl (r_pick rfl rfl rfl) ?_
    exact at_nil k
   ·intro Lx g36 s K hl hh k
    show At 31 ((27, _) :: (1, _) :: (3, _) :: Lx) _ _
    refine av rfl (r_move rfl) ?_
    exact at_nil k
   ·intro Lx g36 s K hl hh k
    show At 31 ((28, _) :: (1, _) :: (3, _) :: Lx) _ _
    rcases (by omega : s = 0 ∨ s = 1) with rfl | rfl
    ·skip
     refine at_guard_no rfl rfl rfl rfl rfl ?_
     exact at_nil k
    ·skip
     refine at_guard_no rfl rfl rfl rfl rfl ?_
     exact at_nil k
   ·intro Lx g36 s K hl hh k
    show At 31 ((28, _) :: (29, _) :: (1, _) :: (3, _) :: Lx) _ _
    refine av rfl (r_pick rfl rfl rfl) ?_
    exact at_nil k
   ·intro Lx g36 s K hl hh k
    show At 31 ((30, _) :: (1, _) :: (3, _) :: Lx) _ _
    refine av rfl (r_assign rfl) ?_
    exact at_nil k
   intro g36
   show At 31 [(9, _), (10, _), (11, _), (12, _), (13, _), (14, _), (15, _), (16, _), (17, _), (18, _), (19, _), (20, _), (21, _), (22, _), (23, _), (24, _), (25, _), (26, _), (27, _), (28, _), (29, _), (30, _), (2, _), (1, _), (3, _)] _ _
   refine at_pure (φ := NK_api_Request (KZ w ((g36 0).2.2.2.2.1)) ((g36 0).2.2.2.2.2.1) ((((g36 0).2.2.2.2.2.2 0)), t10)) (fun _ hw => hw.ok (Upd.mem .z)) ?_
   intro hk15
   refine at_pure (φ := NK_api_Request (KZ w ((g36 0).2.2.2.2.1)) ((g36 0).2.2.2.2.2.1) (g7, t5)) (fun _ hw => hw.ok (Upd.mem (.s .z))) ?_
   intro hk8
   refine at_pure (φ := NK_api_Request (KZ w ((g36 0).2.2.2.2.1)) ((g36 0).2.2.2.2.2.1) (g0_, x0)) (fun _ hw => hw.ok (Upd.mem (.s (.s .z)))) ?_
   intro hz0
   refine at_drop (H := _) .z ?_
   refine at_drop (H := _) .z ?_
   refine at_drop (H := _) .z ?_
   refine at_drop (H := _) (.s .z) ?_
   refine at_drop (H := _) (.s .z) ?_
   refine at_weak [(2, _)] ⟨rfl, trivial⟩ ?_
   refine at_then_normal ?_
   refine at_ret ?_
   have K := of_some hF
   subst K
   exact at_return1 rfl rfl (fun w1 hw => ⟨rfl, hw.below⟩)
end Go.Proofs.Ythccncpephpdjaa
namespace Go.Proofs.Ythccncpephpdjaa.Adr
open E Go.RowKit
def vb (l : List UInt8) : Vector Int 16 := lvec 16 (ob l)
theorem vb_toList {l : List UInt8} (h : l.length = 16) : (vb l).toList = ob l := by
  unfold vb
  rw [lvec_toList 16 (ob l) (by rw [ob_length]; omega), List.take_of_length_le (by rw [ob_length]; omega)]
theorem vb_of {v : Vector Int 16} {l : List UInt8} (h : v.toList = ob l) : v = vb l := by
  have hl : l.length = 16 := by have := congrArg List.length h; rw [ob_length] at this; simpa using this.symm
  apply Vector.toList_inj.1
  rw [vb_toList hl, h]
theorem vb_inj {l k : List UInt8} (hl : l.length = 16) (hk : k.length = 16) : vb l = vb k ↔ l = k := by
  constructor
  · intro h
    have := congrArg Vector.toList h
    rw [vb_toList hl, vb_toList hk] at this
    exact ob_inj this
  · intro h; rw [h]
def mkA (V : Int) (l : List UInt8) : S_api_Addr := { f_V := V, f_B := vb l }
theorem exists_mkA (a : S_api_Addr) (h : ok_api_Addr a) : ∃ V l, a = mkA V l ∧ l.length = 16 ∧ (Lit.int .i64 V).wf = true := by
  obtain ⟨l, hl⟩ := exists_ob a.f_B.toList h.2
  have hlen : l.length = 16 := by have := congrArg List.length hl; rw [ob_length] at this; simpa using this.symm
  refine ⟨a.f_V, l, ?_, hlen, h.1⟩
  cases a with | mk V B =>
  show S_api_Addr.mk V B = S_api_Addr.mk V (vb l)
  have hB : B = vb l := vb_of hl
  rw [hB]
theorem mkA_inj {V W : Int} {l k : List UInt8} (hl : l.length = 16) (hk : k.length = 16) : mkA V l = mkA W k ↔ V = W ∧ l = k := by
  unfold mkA
  rw [S_api_Addr.mk.injEq, vb_inj hl hk]
def bg (l : List UInt8) (i : Nat) : Nat := (l.getD i 0).toNat
theorem bg_lt (l : List UInt8) (i : Nat) : bg l i < 256 := (l.getD i 0).toNat_lt
theorem bg_get {l : List UInt8} {i : Nat} {c : UInt8} (h : l[i]? = some c) : bg l i = c.toNat := by
  unfold bg; rw [List.getD_eq_getElem?_getD, h]; rfl
theorem vget_vb {l : List UInt8} (hl : l.length = 16) (i : Nat) (hi : i < 16) : vget (vb l) (i : Int) = (bg l i : Int) := by
  unfold vget
  rw [vb_toList hl, Int.toNat_natCast]
  have hc : l[i]? = some l[i] := List.getElem?_eq_getElem (by omega)
  rw [bg_get hc, List.getD_eq_getElem?_getD]
  unfold ob
  rw [List.getElem?_map, hc]; rfl
theorem vset_vb {l : List UInt8} (hl : l.length = 16) (i : Nat) (c : UInt8) : vset (vb l) (i : Int) (c.toNat : Int) = vb (l.set i c) := by
  apply Vector.toList_inj.1
  rw [vset_toList, vb_toList hl, vb_toList (by simpa using hl), Int.toNat_natCast]
  unfold ob
  rw [List.map_set]
theorem zero_vb : (Vector.replicate 16 (0 : Int) : Vector Int 16) = vb (List.replicate 16 0) := by
  apply vb_of
  rfl
theorem zero_mkA : ({ f_V := (0 : Int), f_B := (Vector.replicate 16 (0 : Int) : (Vector Int 16)) } : S_api_Addr) = mkA 0 (List.replicate 16 0) := by
  unfold mkA; rw [zero_vb]
theorem ob_take (l : List UInt8) (n : Nat) : (ob l).take n = ob (l.take n) := by unfold ob; rw [List.map_take]
theorem lsub_ob (l : List UInt8) (n : Nat) : lsub (ob l) 0 (n : Int) = ob (l.take n) := by
  unfold lsub
  rw [Int.toNat_natCast, show (0 : Int).toNat = 0 from rfl, List.drop_zero, ob_take]
def fourL (m : List UInt8) : List UInt8 := m ++ List.replicate 12 0
theorem fourL_len {m : List UInt8} (h : m.length = 4) : (fourL m).length = 16 := by simp [fourL, h]
theorem four_eq (v : Vector Int 4) (m : List UInt8) (h : v.toList = ob m) : addr_Four v = some (mkA 4 (fourL m)) := by
  have hm : m.length = 4 := by have := congrArg List.length h; rw [ob_length] at this; simpa using this.symm
  unfold addr_Four mkA
  refine congrArg some ?_
  show S_api_Addr.mk 4 _ = S_api_Addr.mk 4 _
  congr 1
  apply vb_of
  show (vcopy (Vector.replicate 16 (0 : Int)) (Int.toNat 0) (List.take (Int.toNat (16 - 0)) v.toList)).toList = _
  rw [h, show Int.toNat (16 - 0) = 16 from rfl, List.take_of_length_le (by rw [ob_length]; omega), show Int.toNat 0 = 0 from rfl, vcopy_toList _ _ _ (by rw [ob_length]; omega)]
  rw [List.take_zero, List.nil_append, Nat.zero_add, ob_length, hm]
  unfold fourL
  rw [ob_append]; rfl
theorem take4 {l : List UInt8} (hl : l.length = 16) : (lvec 4 (lsub (vb l).toList 0 4)).toList = ob (l.take 4) := by
  have e : lsub (vb l).toList 0 4 = ob (l.take 4) := by rw [vb_toList hl]; exact lsub_ob l 4
  rw [e, lvec_toList 4 _ (by rw [ob_length]; simp; omega), List.take_of_length_le (by rw [ob_length]; simp; omega)]
theorem take4_len {l : List UInt8} (hl : l.length = 16) : 4 ≤ (lsub (vb l).toList 0 4).length := by
  have e : lsub (vb l).toList 0 4 = ob (l.take 4) := by rw [vb_toList hl]; exact lsub_ob l 4
  rw [e, ob_length]; simp; omega
def low (l : List UInt8) : Bool := (l.drop 4).all (· == 0)
def rightL (V : Int) (l : List UInt8) : Bool := V == 6 || (V == 4 && low l)
theorem all_zero : ∀ (k : List UInt8), k.all (· == 0) = true ↔ k = List.replicate k.length 0
  | [] => by simp
  | c :: r => by
    rw [List.all_cons, Bool.and_eq_true, all_zero r, List.length_cons, List.replicate_succ, List.cons.injEq, beq_iff_eq]
theorem low_iff {l : List UInt8} (hl : l.length = 16) : low l = true ↔ l = fourL (l.take 4) := by
  unfold low fourL
  rw [all_zero]
  have h12 : (l.drop 4).length = 12 := by simp; omega
  rw [h12]
  constructor
  · intro h
    rw [← h]; exact (List.take_append_drop 4 l).symm
  · intro h
    have h1 : l.drop 4 = (l.take 4 ++ List.replicate 12 0).drop 4 := congrArg (List.drop 4) h
    rw [h1]
    exact List.drop_left' (by simp; omega)
theorem right_code {V : Int} {l : List UInt8} (hl : l.length = 16) : addr_Right (mkA V l) = some (rightL V l) := by
  unfold addr_Right rightL
  show (if (V == 6) = true then some true else (if (V == 4) = true then (if 4 ≤ (lsub (vb l).toList 0 4).length then addr_Four (lvec 4 (lsub (vb l).toList 0 4)) >>= fun t8 => some (decide (mkA V l = t8)) else none) else some false)) = _
  cases h6 : (V == 6)
  · cases h4 : (V == 4)
    · rfl
    · have hV : V = 4 := by simpa using h4
      rw [if_neg Bool.false_ne_true, if_pos rfl, if_pos (take4_len hl), four_eq _ _ (take4 hl), bindM_some]
      congr 1
      rw [Bool.false_or, Bool.true_and, Bool.eq_iff_iff, decide_eq_true_eq, mkA_inj hl (fourL_len (by simp; omega)), low_iff hl]
      exact ⟨fun h => h.2, fun h => ⟨hV, h⟩⟩
  · rfl
theorem right_loop {V : Int} {l : List UInt8} (hl : l.length = 16) : ∀ (k i : Nat), i + k = 16 → crawlwayref10_Right.l0 (mkA V l) (i : Int) = some (if (l.drop i).all (· == 0) = true then .nx () else .ret false) := by
  intro k
  induction k with
  | zero =>
    intro i hi
    have hz : decide ((i : Int) < 16) = false := decide_eq_false (by omega)
    rw [crawlwayref10_Right.l0.eq_def, hz, List.drop_eq_nil_of_le (by omega)]; rfl
  | succ k ih =>
    intro i hi
    have hz : decide ((i : Int) < 16) = true := decide_eq_true (by omega)
    obtain ⟨c, hc, hd⟩ := drop_get l i (by omega)
    have hg : (0 : Int) ≤ (i : Int) ∧ (i : Int) < 16 := by omega
    rw [crawlwayref10_Right.l0.eq_def, hz, if_pos rfl, if_pos hg, hd, List.all_cons]
    show (if (vget (vb l) (i : Int) != 0) = true then _ else _) = _
    rw [vget_vb hl i (by omega), bg_get hc]
    by_cases h0 : c = 0
    · subst h0
      have e1 : (((0 : UInt8).toNat : Int) != 0) = false := rfl
      rw [e1, if_neg Bool.false_ne_true, wr_i64 (by omega) (by omega), show ((i : Int) + 1) = ((i + 1 : Nat) : Int) by omega, ih (i + 1) (by omega)]
      rw [show ((0 : UInt8) == 0) = true from rfl, Bool.true_and]
    · have hne : c.toNat ≠ 0 := fun e => h0 (UInt8.toNat.inj e)
      have e1 : ((c.toNat : Int) != 0) = true := by rw [bne_iff_ne]; omega
      have e2 : (c == 0) = false := by rw [beq_eq_false_iff_ne]; exact h0
      rw [e1, if_pos rfl, e2, Bool.false_and]; rfl
theorem right_ref {V : Int} {l : List UInt8} (hl : l.length = 16) : crawlwayref10_Right (mkA V l) = some (rightL V l) := by
  unfold crawlwayref10_Right rightL
  have h := right_loop (V := V) hl 12 4 rfl
  rw [show ((4 : Nat) : Int) = 4 from rfl] at h
  rw [h]
  show (if (V == 6) = true then some true else _) = _
  cases h6 : (V == 6)
  · rw [if_neg Bool.false_ne_true, bindM_some]
    unfold low
    by_cases hz : (l.drop 4).all (· == 0) = true
    · rw [if_pos hz, hz]
      show some (V == 4) = _
      rw [Bool.false_or, Bool.and_true]
    · rw [if_neg hz]
      have : (l.drop 4).all (· == 0) = false := by simpa using hz
      rw [this, Bool.and_false]; rfl
  · rfl
def widthL (V : Int) (l : List UInt8) : Nat := if rightL V l = true then (if V = 4 then 32 else 128) else 0
theorem width_code {V : Int} {l : List UInt8} (hl : l.length = 16) : addr_Width (mkA V l) = some ((widthL V l : Nat) : Int) := by
  unfold addr_Width widthL
  rw [right_code hl, bindM_some]
  cases rightL V l
  · rfl
  · show (if (V == 4) = true then some (32 : Int) else some 128) = _
    by_cases h : V = 4
    · rw [if_pos (by simpa using h), if_pos rfl, if_pos h]; rfl
    · rw [if_neg (by simpa using h), if_pos rfl, if_neg h]; rfl
theorem right_cases {V : Int} {l : List UInt8} (h : rightL V l = true) : V = 6 ∨ (V = 4 ∧ low l = true) := by
  unfold rightL at h
  rw [Bool.or_eq_true, Bool.and_eq_true, beq_iff_eq, beq_iff_eq] at h
  exact h
theorem width_le {V : Int} {l : List UInt8} : widthL V l ≤ 128 := by
  unfold widthL; split <;> (try split) <;> omega
end Go.Proofs.Ythccncpephpdjaa.Adr
namespace Go.Proofs.Ythccncpephpdjaa.Adr
open E Go.RowKit
theorem width_ref {V : Int} {l : List UInt8} (hl : l.length = 16) : crawlwayref10_Width (mkA V l) = some ((widthL V l : Nat) : Int) := by
  unfold crawlwayref10_Width widthL
  rw [right_ref hl, bindM_some]
  cases rightL V l
  · rfl
  · show (if (V == 4) = true then some (32 : Int) else some 128) = _
    by_cases h : V = 4
    · rw [if_pos (by simpa using h), if_pos rfl, if_pos h]; rfl
    · rw [if_neg (by simpa using h), if_pos rfl, if_neg h]; rfl
def mb (b : UInt8) (k : Nat) : UInt8 := UInt8.ofNat (b.toNat - b.toNat % 2 ^ (8 - k))
theorem mb_fin : ∀ (b : Fin 256) (k : Fin 9), iand .u8 ((b.val : Nat) : Int) (ishl .u8 255 ((8 - k.val : Nat) : Int)) = ((b.val - b.val % 2 ^ (8 - k.val) : Nat) : Int) := by decide +kernel
theorem mb_toNat (b : UInt8) (k : Nat) : (mb b k).toNat = b.toNat - b.toNat % 2 ^ (8 - k) := by
  unfold mb
  have := b.toNat_lt
  rw [UInt8.toNat_ofNat', Nat.mod_eq_of_lt (by omega)]
theorem mb_code (b : UInt8) (k : Nat) (hk : k ≤ 8) : iand .u8 (b.toNat : Int) (ishl .u8 255 ((8 - k : Nat) : Int)) = ((mb b k).toNat : Int) := by
  rw [mb_toNat]
  exact mb_fin ⟨b.toNat, b.toNat_lt⟩ ⟨k, by omega⟩
theorem mb_zero (b : UInt8) : mb b 0 = 0 := by
  apply UInt8.toNat.inj
  have := b.toNat_lt
  rw [mb_toNat, show 2 ^ (8 - 0) = 256 from rfl, Nat.mod_eq_of_lt (by omega), Nat.sub_self]; rfl
theorem mb_of_zero (k : Nat) : mb 0 k = 0 := by
  apply UInt8.toNat.inj
  rw [mb_toNat, show (0 : UInt8).toNat = 0 from rfl, Nat.zero_mod]
theorem mb_step_fin : ∀ (b : Fin 256) (k : Fin 8), b.val - b.val % 2 ^ (8 - (k.val + 1)) = b.val - b.val % 2 ^ (8 - k.val) + (b.val / 2 ^ (7 - k.val) % 2) * (128 / 2 ^ k.val) := by decide +kernel
theorem mb_step (b : UInt8) (k : Nat) (hk : k < 8) : (mb b (k + 1)).toNat = (mb b k).toNat + (b.toNat / 2 ^ (7 - k) % 2) * (128 / 2 ^ k) := by
  rw [mb_toNat, mb_toNat]
  exact mb_step_fin ⟨b.toNat, b.toNat_lt⟩ ⟨k, hk⟩
/-- How many of a byte's first bits stay. -/
def lft (bits : Int) (q : Nat) : Nat := (min (max (bits - 8 * (q : Int)) 0) 8).toNat
theorem lft_le (bits : Int) (q : Nat) : lft bits q ≤ 8 := by unfold lft; omega
def mfull (l : List UInt8) (bits : Int) : List UInt8 := l.mapIdx fun q b => mb b (lft bits q)
theorem mfull_len (l : List UInt8) (bits : Int) : (mfull l bits).length = l.length := by simp [mfull]
theorem mfull_get (l : List UInt8) (bits : Int) (i : Nat) : (mfull l bits)[i]? = (l[i]?).map fun b => mb b (lft bits i) := by
  unfold mfull; rw [List.getElem?_mapIdx]
theorem set_step {α : Type} (A l : List α) (i : Nat) (x : α) (hA : A.length = l.length) (hx : A[i]? = some x) : (A.take i ++ l.drop i).set i x = A.take (i + 1) ++ l.drop (i + 1) := by
  have hi : i < A.length := (List.getElem?_eq_some_iff.1 hx).1
  apply List.ext_getElem?
  intro j
  have h1 : (A.take i).length = i := by simp; omega
  have h2 : (A.take (i + 1)).length = i + 1 := by simp; omega
  rw [List.getElem?_set]
  by_cases hj : i = j
  · subst hj
    have hl : i < (A.take i ++ l.drop i).length := by simp; omega
    rw [if_pos rfl, if_pos hl, List.getElem?_append_left (by omega), List.getElem?_take, if_pos (by omega), hx]
  · rw [if_neg hj]
    by_cases hlt : j < i
    · rw [List.getElem?_append_left (by omega), List.getElem?_append_left (by omega), List.getElem?_take, List.getElem?_take, if_pos hlt, if_pos (by omega)]
    · rw [List.getElem?_append_right (by omega), List.getElem?_append_right (by omega), List.getElem?_drop, List.getElem?_drop, h1, h2]
      congr 1; omega
theorem lft_code (bits : Int) (hb : -9223372036854775808 ≤ bits ∧ bits < 9223372036854775808) (i : Nat) (hi : i < 16) (h0 : ¬ bits < 0) :
    (if 8 < (if wr .i64 (bits - (wr .i64 (8 * (i : Int)))) < 0 then 0 else wr .i64 (bits - (wr .i64 (8 * (i : Int))))) then 8 else (if wr .i64 (bits - (wr .i64 (8 * (i : Int)))) < 0 then 0 else wr .i64 (bits - (wr .i64 (8 * (i : Int)))))) = ((lft bits i : Nat) : Int) := by
  have e1 : wr .i64 (8 * (i : Int)) = 8 * (i : Int) := wr_i64 (by omega) (by omega)
  rw [e1, wr_i64 (by omega) (by omega)]
  unfold lft
  by_cases h1 : bits - 8 * (i : Int) < 0
  · rw [if_pos h1]; split <;> omega
  · rw [if_neg h1]; split <;> omega
theorem mask_loop (V bits : Int) (l : List UInt8) (hl : l.length = 16) (hb : -9223372036854775808 ≤ bits ∧ bits < 9223372036854775808) : ∀ (k i : Nat), i + k = 16 →
    addr_Mask.l0 bits (i : Int) (mkA V ((mfull l bits).take i ++ l.drop i)) = some (mkA V (mfull l bits)) := by
  have hml := mfull_len l bits
  intro k
  induction k with
  | zero =>
    intro i hi
    have hz : decide ((i : Int) < 16) = false := decide_eq_false (by omega)
    rw [addr_Mask.l0.eq_def, hz, if_neg Bool.false_ne_true, List.drop_eq_nil_of_le (by omega), List.append_nil, List.take_of_length_le (by omega)]
  | succ k ih =>
    intro i hi
    have hz : decide ((i : Int) < 16) = true := decide_eq_true (by omega)
    have hc : l[i]? = some l[i] := List.getElem?_eq_getElem (by omega)
    generalize hcc : l[i] = c at hc
    have hAlen : ((mfull l bits).take i ++ l.drop i).length = 16 := by simp; omega
    have hAi : ((mfull l bits).take i ++ l.drop i)[i]? = some c := by
      rw [List.getElem?_append_right (by simp; omega), List.getElem?_drop]
      have : i + (i - ((mfull l bits).take i).length) = i := by simp; omega
      rw [this, hc]
    have hg : (0 : Int) ≤ (i : Int) ∧ (i : Int) < 16 := by omega
    have hv : vget (vb ((mfull l bits).take i ++ l.drop i)) (i : Int) = (c.toNat : Int) := by rw [vget_vb hAlen i (by omega), bg_get hAi]
    have hstep := set_step (mfull l bits) l i (mb c (lft bits i)) hml (by rw [mfull_get, hc]; rfl)
    have hle := lft_le bits i
    have hset : ∀ s : Int, s = ((8 - lft bits i : Nat) : Int) → ({ mkA V ((mfull l bits).take i ++ l.drop i) with f_B := vset (vb ((mfull l bits).take i ++ l.drop i)) (i : Int) (iand .u8 (vget (vb ((mfull l bits).take i ++ l.drop i)) (i : Int)) (ishl .u8 255 s)) } : S_api_Addr) =
        mkA V ((mfull l bits).take (i + 1) ++ l.drop (i + 1)) := fun s hs => by
      rw [hs, hv, mb_code c _ hle, vset_vb hAlen, hstep]; rfl
    have e8 : wr .u64 (wr .i64 (8 - ((lft bits i : Nat) : Int))) = ((8 - lft bits i : Nat) : Int) := by
      rw [wr_i64 (by omega) (by omega), wr_u64 (by omega) (by omega)]; omega
    have hn : (0 : Int) ≤ ((8 - lft bits i : Nat) : Int) := by omega
    have hi1 : wr .i64 ((i : Int) + 1) = ((i + 1 : Nat) : Int) := by rw [wr_i64 (by omega) (by omega)]; omega
    rw [addr_Mask.l0.eq_def, hz, if_pos rfl]
    by_cases h0 : bits < 0
    · have hl0 : lft bits i = 0 := by unfold lft; omega
      have e80 : wr .u64 (wr .i64 (8 - 0)) = ((8 - lft bits i : Nat) : Int) := by rw [hl0]; rfl
      rw [if_pos (decide_eq_true h0), if_pos hg, e80, if_pos hn, if_pos hg, hi1]
      have := hset _ rfl
      rw [show (mkA V ((mfull l bits).take i ++ l.drop i)).f_B = vb ((mfull l bits).take i ++ l.drop i) from rfl, this]
      exact ih (i + 1) (by omega)
    · rw [if_neg (by rw [decide_eq_true_eq]; exact h0), if_pos hg, lft_code bits hb i (by omega) h0, e8, if_pos hn, if_pos hg, hi1]
      have := hset _ rfl
      rw [show (mkA V ((mfull l bits).take i ++ l.drop i)).f_B = vb ((mfull l bits).take i ++ l.drop i) from rfl, this]
      exact ih (i + 1) (by omega)
def maskA (V : Int) (l : List UInt8) (bits : Int) : S_api_Addr := if rightL V l = true then mkA V (mfull l bits) else mkA 0 (List.replicate 16 0)
theorem mask_code {V bits : Int} {l : List UInt8} (hl : l.length = 16) (hb : -9223372036854775808 ≤ bits ∧ bits < 9223372036854775808) : addr_Mask (mkA V l) bits = some (maskA V l bits) := by
  unfold addr_Mask maskA
  rw [right_code hl, bindM_some]
  cases rightL V l
  · show some _ = _
    rw [zero_mkA]; rfl
  · have h := mask_loop V bits l hl hb 16 0 rfl
    rw [List.take_zero, List.nil_append, List.drop_zero, show ((0 : Nat) : Int) = 0 from rfl] at h
    show (addr_Mask.l0 bits 0 (mkA V l) >>= fun q5 => some q5) = _
    rw [h]; rfl
def bit (l : List UInt8) (i : Nat) : Nat := bg l (i / 8) / 2 ^ (7 - i % 8) % 2
theorem digit_loop (i : Nat) (hi : i < 9223372036854775808) : ∀ (k n : Nat), n < 256 → i % 8 + k ≤ 7 → crawlwayref10_digit.l0 (i : Int) (n : Int) ((i % 8 + k : Nat) : Int) = some ((n / 2 ^ k : Nat) : Int) := by
  intro k
  have hm : Int.tmod (i : Int) 8 = ((i % 8 : Nat) : Int) := by rw [Int.tmod_eq_emod_of_nonneg (by omega)]; omega
  induction k with
  | zero =>
    intro n hn hk
    rw [crawlwayref10_digit.l0.eq_def, hm, if_neg (by rw [decide_eq_true_eq]; omega), Nat.pow_zero, Nat.div_one]
  | succ k ih =>
    intro n hn hk
    have e1 : wr .i64 (Int.tdiv (n : Int) 2) = ((n / 2 : Nat) : Int) := by
      have : Int.tdiv (n : Int) 2 = ((n / 2 : Nat) : Int) := by rw [Int.tdiv_eq_ediv_of_nonneg (by omega)]; omega
      rw [this, wr_i64 (by omega) (by omega)]
    have e2 : wr .i64 (((i % 8 + (k + 1) : Nat) : Int) - 1) = ((i % 8 + k : Nat) : Int) := by rw [wr_i64 (by omega) (by omega)]; omega
    rw [crawlwayref10_digit.l0.eq_def, hm, if_pos (decide_eq_true (by omega)), e1, e2, ih (n / 2) (by omega) (by omega), Nat.div_div_eq_div_mul]
    rw [Nat.pow_succ, Nat.mul_comm]
theorem digit_ref {V : Int} {l : List UInt8} (hl : l.length = 16) (i : Nat) (hi : i < 128) : crawlwayref10_digit (mkA V l) (i : Int) = some ((bit l i : Nat) : Int) := by
  have hd : wr .i64 (Int.tdiv (i : Int) 8) = ((i / 8 : Nat) : Int) := by
    have : Int.tdiv (i : Int) 8 = ((i / 8 : Nat) : Int) := by rw [Int.tdiv_eq_ediv_of_nonneg (by omega)]; omega
    rw [this, wr_i64 (by omega) (by omega)]
  have hb := bg_lt l (i / 8)
  unfold crawlwayref10_digit
  rw [hd, if_pos (by omega)]
  show (crawlwayref10_digit.l0 (i : Int) (wr .i64 (vget (vb l) ((i / 8 : Nat) : Int))) 7 >>= fun q3 => some (Int.tmod q3 2)) = _
  rw [vget_vb hl _ (by omega), wr_i64 (by omega) (by omega)]
  have h := digit_loop i (by omega) (7 - i % 8) (bg l (i / 8)) hb (by omega)
  rw [show i % 8 + (7 - i % 8) = 7 by omega, show ((7 : Nat) : Int) = 7 from rfl] at h
  rw [h, bindM_some]
  unfold bit
  refine congrArg some ?_
  have := Int.tmod_eq_emod_of_nonneg (a := ((bg l (i / 8) / 2 ^ (7 - i % 8) : Nat) : Int)) (b := 2) (Int.natCast_nonneg _)
  rw [this]; exact (Int.natCast_emod _ 2).symm
theorem bit_lt (l : List UInt8) (i : Nat) : bit l i < 2 := Nat.mod_lt _ (by omega)
def lftN (t q : Nat) : Nat := min (t - 8 * q) 8
def refm (l : List UInt8) (t : Nat) : List UInt8 := l.mapIdx fun q b => mb b (lftN t q)
theorem refm_len (l : List UInt8) (t : Nat) : (refm l t).length = l.length := by simp [refm]
theorem refm_get (l : List UInt8) (t i : Nat) : (refm l t)[i]? = (l[i]?).map fun b => mb b (lftN t i) := by
  unfold refm; rw [List.getElem?_mapIdx]
theorem refm_step (l : List UInt8) (hl : l.length = 16) (i : Nat) (hi : i < 128) : refm l (i + 1) = (refm l i).set (i / 8) (mb (l.getD (i / 8) 0) (i % 8 + 1)) := by
  apply List.ext_getElem?
  intro j
  rw [List.getElem?_set, refm_get, refm_get]
  by_cases hj : i / 8 = j
  · subst hj
    have hlt : i / 8 < (refm l i).length := by rw [refm_len]; omega
    have hc : l[i / 8]? = some l[i / 8] := List.getElem?_eq_getElem (by omega)
    have e : lftN (i + 1) (i / 8) = i % 8 + 1 := by unfold lftN; omega
    rw [if_pos rfl, if_pos hlt, hc, List.getD_eq_getElem?_getD, hc, e]; rfl
  · rw [if_neg hj]
    have : lftN (i + 1) j = lftN i j := by unfold lftN; omega
    rw [this]
theorem refMask_l1 (i : Nat) (hi : i < 9223372036854775808) : ∀ (k j n : Nat), n < 256 → j + k = i % 8 → crawlwayref10_Mask.l1 (i : Int) (n : Int) (j : Int) = some ((n / 2 ^ k : Nat) : Int) := by
  intro k
  have hm : Int.tmod (i : Int) 8 = ((i % 8 : Nat) : Int) := by rw [Int.tmod_eq_emod_of_nonneg (by omega)]; omega
  induction k with
  | zero =>
    intro j n hn hk
    rw [crawlwayref10_Mask.l1.eq_def, hm, if_neg (by rw [decide_eq_true_eq]; omega), Nat.pow_zero, Nat.div_one]
  | succ k ih =>
    intro j n hn hk
    have e1 : wr .i64 (Int.tdiv (n : Int) 2) = ((n / 2 : Nat) : Int) := by
      have : Int.tdiv (n : Int) 2 = ((n / 2 : Nat) : Int) := by rw [Int.tdiv_eq_ediv_of_nonneg (by omega)]; omega
      rw [this, wr_i64 (by omega) (by omega)]
    have e2 : wr .i64 ((j : Int) + 1) = ((j + 1 : Nat) : Int) := by rw [wr_i64 (by omega) (by omega)]; omega
    rw [crawlwayref10_Mask.l1.eq_def, hm, if_pos (decide_eq_true (by omega)), e1, e2, ih (j + 1) (n / 2) (by omega) (by omega), Nat.div_div_eq_div_mul]
    rw [Nat.pow_succ, Nat.mul_comm]
theorem refMask_loop (V bits : Int) (l : List UInt8) (hl : l.length = 16) (w : Nat) (hw : w ≤ 128) : ∀ (k i : Nat), i + k = min w bits.toNat →
    crawlwayref10_Mask.l0 (mkA V l) bits (w : Int) (i : Int) (mkA V (refm l i)) = some (mkA V (refm l (min w bits.toNat))) := by
  intro k
  induction k with
  | zero =>
    intro i hi
    rw [crawlwayref10_Mask.l0.eq_def]
    by_cases h1 : i < w
    · have hb : decide ((i : Int) < bits) = false := decide_eq_false (by omega)
      rw [if_pos (decide_eq_true (by omega)), hb, if_neg Bool.false_ne_true, show i = min w bits.toNat by omega]
    · rw [if_neg (by rw [decide_eq_true_eq]; omega), show i = min w bits.toNat by omega]
  | succ k ih =>
    intro i hi
    have hi128 : i < 128 := by omega
    have hd : wr .i64 (Int.tdiv (i : Int) 8) = ((i / 8 : Nat) : Int) := by
      have : Int.tdiv (i : Int) 8 = ((i / 8 : Nat) : Int) := by rw [Int.tdiv_eq_ediv_of_nonneg (by omega)]; omega
      rw [this, wr_i64 (by omega) (by omega)]
    have hi1 : wr .i64 ((i : Int) + 1) = ((i + 1 : Nat) : Int) := by rw [wr_i64 (by omega) (by omega)]; omega
    have hl1 := refMask_l1 i (by omega) (i % 8) 0 128 (by omega) (by omega)
    rw [show ((128 : Nat) : Int) = 128 from rfl, show ((0 : Nat) : Int) = 0 from rfl] at hl1
    have hc : l[i / 8]? = some l[i / 8] := List.getElem?_eq_getElem (by omega)
    generalize hcc : l[i / 8] = c at hc
    have hgd : l.getD (i / 8) 0 = c := by rw [List.getD_eq_getElem?_getD, hc]; rfl
    have hbit : bit l i = c.toNat / 2 ^ (7 - i % 8) % 2 := by unfold bit; rw [bg_get hc]
    have hst := mb_step c (i % 8) (by omega)
    have hlt := (mb c (i % 8 + 1)).toNat_lt
    have hrl : (refm l i).length = 16 := by rw [refm_len]; exact hl
    have hri : (refm l i)[i / 8]? = some (mb c (i % 8)) := by
      have e : lftN i (i / 8) = i % 8 := by unfold lftN; omega
      rw [refm_get, hc, e]; rfl
    have hstep := refm_step l hl i hi128
    rw [hgd] at hstep
    rw [crawlwayref10_Mask.l0.eq_def, if_pos (decide_eq_true (by omega)), if_pos (decide_eq_true (by omega)), digit_ref hl i hi128, bindM_some, hl1, bindM_some, hd, hi1]
    by_cases hb : bit l i = 1
    · have hbb : (((bit l i : Nat) : Int) == 1) = true := by rw [hb]; rfl
      rw [hbb, if_pos rfl, if_pos (by omega), if_pos (by omega)]
      have hset : ({ mkA V (refm l i) with f_B := vset (mkA V (refm l i)).f_B ((i / 8 : Nat) : Int) (wr .u8 ((vget (mkA V (refm l i)).f_B ((i / 8 : Nat) : Int)) + (wr .u8 ((128 / 2 ^ (i % 8) : Nat) : Int)))) } : S_api_Addr) = mkA V (refm l (i + 1)) := by
        show S_api_Addr.mk V (vset (vb (refm l i)) ((i / 8 : Nat) : Int) (wr .u8 ((vget (vb (refm l i)) ((i / 8 : Nat) : Int)) + (wr .u8 ((128 / 2 ^ (i % 8) : Nat) : Int))))) = _
        have hq : 128 / 2 ^ (i % 8) < 256 := Nat.lt_of_le_of_lt (Nat.div_le_self _ _) (by omega)
        have e6 : wr .u8 ((128 / 2 ^ (i % 8) : Nat) : Int) = ((128 / 2 ^ (i % 8) : Nat) : Int) := by
          generalize 128 / 2 ^ (i % 8) = z at hq
          exact wr_u8 (by omega) (by omega)
        rw [vget_vb hrl _ (by omega), bg_get hri, e6]
        have e5 : wr .u8 (((mb c (i % 8)).toNat : Int) + ((128 / 2 ^ (i % 8) : Nat) : Int)) = ((mb c (i % 8 + 1)).toNat : Int) := by
          rw [hst, ← hbit, hb, Nat.one_mul] at hlt
          rw [hst, ← hbit, hb, Nat.one_mul]
          generalize 128 / 2 ^ (i % 8) = z at hlt
          rw [wr_u8 (by omega) (by omega)]; omega
        rw [e5, vset_vb hrl, ← hstep]; rfl
      rw [hset]
      exact ih (i + 1) (by omega)
    · have h0 : bit l i = 0 := by have := bit_lt l i; omega
      have hbb : (((bit l i : Nat) : Int) == 1) = false := by rw [h0]; rfl
      rw [hbb, if_neg Bool.false_ne_true]
      have : refm l (i + 1) = refm l i := by
        rw [hstep]
        have e6 : mb c (i % 8 + 1) = mb c (i % 8) := by
          apply UInt8.toNat.inj
          rw [hst, ← hbit, h0]; omega
        rw [e6]
        apply List.ext_getElem?
        intro j
        rw [List.getElem?_set]
        by_cases hj : i / 8 = j
        · subst hj; rw [if_pos rfl, if_pos (by omega), hri]
        · rw [if_neg hj]
      rw [← this]
      exact ih (i + 1) (by omega)
theorem refm_zero (l : List UInt8) (hl : l.length = 16) : refm l 0 = List.replicate 16 0 := by
  apply List.ext_getElem?
  intro j
  rw [refm_get]
  by_cases hj : j < 16
  · have hc : l[j]? = some l[j] := List.getElem?_eq_getElem (by omega)
    rw [hc, List.getElem?_replicate, if_pos hj]
    have e : lftN 0 j = 0 := by unfold lftN; omega
    rw [e]
    exact congrArg some (mb_zero _)
  · rw [List.getElem?_eq_none (by omega), List.getElem?_eq_none (by simp; omega)]; rfl
theorem refm_full {V bits : Int} {l : List UInt8} (hl : l.length = 16) (hr : rightL V l = true) : refm l (min (widthL V l) bits.toNat) = mfull l bits := by
  apply List.ext_getElem?
  intro j
  rw [refm_get, mfull_get]
  by_cases hj : j < 16
  · have hc : l[j]? = some l[j] := List.getElem?_eq_getElem (by omega)
    rw [hc]
    show some _ = some _
    congr 1
    rcases right_cases hr with h6 | ⟨h4, hlow⟩
    · have hw : widthL V l = 128 := by unfold widthL; rw [if_pos hr, if_neg (by omega)]
      have : lftN (min (widthL V l) bits.toNat) j = lft bits j := by rw [hw]; unfold lftN lft; omega
      rw [this]
    · have hw : widthL V l = 32 := by unfold widthL; rw [if_pos hr, if_pos h4]
      by_cases hj4 : j < 4
      · have : lftN (min (widthL V l) bits.toNat) j = lft bits j := by rw [hw]; unfold lftN lft; omega
        rw [this]
      · have hz : l[j] = 0 := by
          have h1 := (low_iff hl).1 hlow
          have h2 : l[j]? = some 0 := by
            rw [h1]; unfold fourL
            rw [List.getElem?_append_right (by simp; omega), List.getElem?_replicate, if_pos (by simp; omega)]
          rw [hc] at h2; exact Option.some.inj h2
        rw [hz]
        exact (mb_of_zero _).trans (mb_of_zero _).symm
  · rw [List.getElem?_eq_none (by omega)]; rfl
theorem mask_ref {V bits : Int} {l : List UInt8} (hl : l.length = 16) : crawlwayref10_Mask (mkA V l) bits = some (maskA V l bits) := by
  unfold crawlwayref10_Mask maskA
  rw [right_ref hl, bindM_some]
  cases hr : rightL V l
  · show some _ = _
    rw [zero_mkA]; rfl
  · have h := refMask_loop V bits l hl (widthL V l) width_le (min (widthL V l) bits.toNat) 0 (by omega)
    rw [refm_zero l hl, show ((0 : Nat) : Int) = 0 from rfl, refm_full hl hr] at h
    show (crawlwayref10_Width (mkA V l) >>= fun t6 => crawlwayref10_Mask.l0 (mkA V l) bits t6 0 (S_api_Addr.mk V (Vector.replicate 16 (0 : Int))) >>= fun q7 => some q7) = _
    rw [width_ref hl, bindM_some, zero_vb]
    show (crawlwayref10_Mask.l0 (mkA V l) bits _ 0 (mkA V (List.replicate 16 0)) >>= fun q7 => some q7) = _
    rw [h]; rfl
end Go.Proofs.Ythccncpephpdjaa.Adr
namespace Go.Proofs.Ythccncpephpdjaa.Cid
open E Go.RowKit
open Adr
def mkP (A : S_api_Addr) (b : Int) : S_api_Prefix := { f_A := A, f_Bits := b }
def zP : S_api_Prefix := { f_A := ({ f_V := (0 : Int), f_B := (Vector.replicate 16 (0 : Int) : (Vector Int 16)) } : S_api_Addr), f_Bits := (0 : Int) }
theorem exists_mkP (a : S_api_Prefix) (h : ok_api_Prefix a) : ∃ V l b, a = mkP (mkA V l) b ∧ l.length = 16 ∧ (Lit.int .i64 b).wf = true := by
  obtain ⟨V, l, hA, hl, _⟩ := exists_mkA a.f_A h.1
  refine ⟨V, l, a.f_Bits, ?_, hl, h.2⟩
  cases a with | mk A n =>
  simp only at hA
  subst hA; rfl
theorem mkP_inj {V W : Int} {l k : List UInt8} {b c : Int} (hl : l.length = 16) (hk : k.length = 16) : mkP (mkA V l) b = mkP (mkA W k) c ↔ (V = W ∧ l = k) ∧ b = c := by
  unfold mkP
  rw [S_api_Prefix.mk.injEq, mkA_inj hl hk]
def fits (V : Int) (l : List UInt8) (b : Int) : Bool := rightL V l && (decide (0 ≤ b) && decide (b ≤ (widthL V l : Int)))
theorem fits_iff {V : Int} {l : List UInt8} {b : Int} : fits V l b = true ↔ rightL V l = true ∧ 0 ≤ b ∧ b ≤ (widthL V l : Int) := by
  unfold fits
  simp only [Bool.and_eq_true, decide_eq_true_eq]
def ofP (V : Int) (l : List UInt8) (b : Int) : S_api_Prefix × Int := if rightL V l = true then (if fits V l b = true then (mkP (mkA V (mfull l b)) b, 0) else (zP, 6)) else (zP, 1)
theorem of_code {V b : Int} {l : List UInt8} (hl : l.length = 16) : cidr_Of (mkA V l) b = some (ofP V l b) := by
  unfold cidr_Of ofP
  rw [right_code hl, bindM_some]
  have hw := width_le (V := V) (l := l)
  cases hr : rightL V l with
  | false => rfl
  | true =>
    rw [if_neg (show ¬ (!true) = true by decide), if_pos rfl]
    by_cases h0 : b < 0
    · have hf : ¬ fits V l b = true := fun h => by have := (fits_iff.1 h).2.1; omega
      rw [if_pos (decide_eq_true h0), if_neg hf]; rfl
    · rw [if_neg (by rw [decide_eq_true_eq]; exact h0), width_code hl, bindM_some]
      by_cases h1 : b > (widthL V l : Int)
      · have hf : ¬ fits V l b = true := fun h => by have := (fits_iff.1 h).2.2; omega
        rw [if_pos (decide_eq_true h1), if_neg hf]; rfl
      · have hf : fits V l b = true := fits_iff.2 ⟨hr, by omega, by omega⟩
        rw [if_neg (by rw [decide_eq_true_eq]; exact h1), mask_code hl (by omega), bindM_some, if_pos hf]
        unfold maskA
        rw [if_pos hr]; rfl
def rightP (V : Int) (l : List UInt8) (b : Int) : Bool := fits V l b && decide (mfull l b = l)
theorem mlen {l : List UInt8} (hl : l.length = 16) (b : Int) : (mfull l b).length = 16 := by rw [mfull_len, hl]
theorem cright_code {V b : Int} {l : List UInt8} (hl : l.length = 16) : cidr_Right (mkP (mkA V l) b) = some (rightP V l b) := by
  unfold cidr_Right
  show (cidr_Of (mkA V l) b >>= fun t2 => if (t2.2 == 0) = true then some (decide (t2.1 = mkP (mkA V l) b)) else some false) = _
  rw [of_code hl, bindM_some]
  unfold ofP rightP
  cases hr : rightL V l with
  | false =>
    have hf : fits V l b = false := by unfold fits; rw [hr]; rfl
    rw [hf]; rfl
  | true =>
    rw [if_pos rfl]
    cases hf : fits V l b with
    | false => rfl
    | true =>
      rw [if_pos rfl]
      show (if ((0 : Int) == 0) = true then some (decide (mkP (mkA V (mfull l b)) b = mkP (mkA V l) b)) else some false) = _
      rw [if_pos (by rfl), Bool.true_and]
      refine congrArg some ?_
      rw [decide_eq_decide, mkP_inj (mlen hl b) hl]
      exact ⟨fun h => h.1.2, fun h => ⟨⟨rfl, h⟩, rfl⟩⟩
theorem cright_ref {V b : Int} {l : List UInt8} (hl : l.length = 16) : crawlwayref11_Right (mkP (mkA V l) b) = some (rightP V l b) := by
  unfold crawlwayref11_Right rightP
  show (crawlwayref10_Right (mkA V l) >>= fun t2 => if (!t2) = true then some false else (if decide (b < 0) = true then some false else (crawlwayref10_Width (mkA V l) >>= fun t5 => if decide (b > t5) = true then some false else (crawlwayref10_Mask (mkA V l) b >>= fun t7 => some (decide (mkA V l = t7)))))) = _
  rw [right_ref hl, bindM_some]
  cases hr : rightL V l with
  | false =>
    have hf : fits V l b = false := by unfold fits; rw [hr]; rfl
    rw [hf]; rfl
  | true =>
    rw [if_neg (show ¬ (!true) = true by decide)]
    by_cases h0 : b < 0
    · have hf : fits V l b = false := by cases h : fits V l b with | false => rfl | true => have := (fits_iff.1 h).2.1; omega
      rw [if_pos (decide_eq_true h0), hf]; rfl
    · rw [if_neg (by rw [decide_eq_true_eq]; exact h0), width_ref hl, bindM_some]
      by_cases h1 : b > (widthL V l : Int)
      · have hf : fits V l b = false := by cases h : fits V l b with | false => rfl | true => have := (fits_iff.1 h).2.2; omega
        rw [if_pos (decide_eq_true h1), hf]; rfl
      · have hf : fits V l b = true := fits_iff.2 ⟨hr, by omega, by omega⟩
        rw [if_neg (by rw [decide_eq_true_eq]; exact h1), mask_ref hl, bindM_some, hf, Bool.true_and]
        unfold maskA
        rw [if_pos hr]
        refine congrArg some ?_
        rw [decide_eq_decide, mkA_inj hl (mlen hl b)]
        exact ⟨fun h => h.2.symm, fun h => ⟨rfl, h.symm⟩⟩
end Go.Proofs.Ythccncpephpdjaa.Cid
namespace Go.Proofs.Ythccncpephpdjaa
open E Go.RowKit
def crawlwaylaw32_ChangeRight.l0 (x0 : S_api_Request) (i6 : Int) : Option (Ctl (Bool) (Unit)) :=
  if (decide (i6 < (x0.f_Peers.length : Int))) = true then (if (0 : Int) ≤ i6 ∧ i6 < (x0.f_Peers.length : Int) then change_RightPeer (lget x0.f_Peers i6) >>= fun t19 => crawlwayref32_RightPeer (lget x0.f_Peers i6) >>= fun t20 => if (t19 != t20) = true then (some (.ret false)) else (crawlwaylaw32_ChangeRight.l0 x0 (wr .i64 (i6 + 1))) else none) else (some (.nx ()))
  partial_fixpoint
def crawlwaylaw32_ChangeRight (x0 : S_api_Request) : Option (Bool) :=
  crawlwayref32_Large x0 >>= fun t2 => if t2 = true then (crawlwaylaw32_alive >>= fun t4 => some t4) else (crawlwaylaw32_ChangeRight.l0 x0 0 >>= fun q5 => match q5 with | .ret r' => some r' | .nx sq5 => (change_Right x0 >>= fun t22 => crawlwayref32_Right x0 >>= fun t23 => if (t22 == t23) = true then (crawlwaylaw32_alive >>= fun t25 => some t25) else (some false)))
end Go.Proofs.Ythccncpephpdjaa
namespace Go.Proofs.Ythccncpephpdjaa.Chg
open E Go.RowKit
open Adr Cid
theorem wr_i (i : Nat) (h : i < 1000000) : wr .i64 ((i : Int) + 1) = ((i + 1 : Nat) : Int) := by rw [wr_i64 (by omega) (by omega)]; omega
theorem lget_at {α : Type} [Inhabited α] (l : List α) (i : Nat) (h : i < l.length) : lget l (i : Int) = l[i] := by
  unfold lget
  rw [Int.toNat_natCast, List.getD_eq_getElem?_getD, List.getElem?_eq_getElem h]; rfl
theorem drop_at {α : Type} [Inhabited α] (l : List α) (i : Nat) (h : i < l.length) : l.drop i = lget l (i : Int) :: l.drop (i + 1) := by
  rw [lget_at l i h]; exact List.drop_eq_getElem_cons h
theorem lget_mem {α : Type} [Inhabited α] (l : List α) (i : Nat) (h : i < l.length) : lget l (i : Int) ∈ l := by
  rw [lget_at l i h]; exact List.getElem_mem h
section
variable {α : Type} [Inhabited α] {l : List α} {φ : α → Bool} {f : α → Option Bool}
theorem loop_idx (hl : l.length < 100000) (hf : ∀ x ∈ l, f x = some (φ x)) {L : Int → Option (Ctl Int Unit)}
    (hL : ∀ i : Int, L i = if (decide (i < (l.length : Int))) = true then (if (0 : Int) ≤ i ∧ i < (l.length : Int) then f (lget l i) >>= fun t => if t = true then (some (.ret i)) else L (wr .i64 (i + 1)) else none) else some (.nx ())) :
    ∀ (k i : Nat), i + k = l.length → if (l.drop i).any φ = true then ∃ j : Nat, L (i : Int) = some (.ret (j : Int)) else L (i : Int) = some (.nx ())
  | 0, i, h => by
    rw [List.drop_eq_nil_of_le (by omega), List.any_nil, if_neg Bool.false_ne_true, hL, decide_eq_false (by omega), if_neg Bool.false_ne_true]
  | k + 1, i, h => by
    have ih := loop_idx hl hf hL k (i + 1) (by omega)
    rw [drop_at l i (by omega), List.any_cons]
    have e : L (i : Int) = if φ (lget l (i : Int)) = true then (some (.ret (i : Int))) else L (((i + 1 : Nat) : Int)) := by
      rw [hL, decide_eq_true (by omega : (i : Int) < (l.length : Int)), if_pos rfl, if_pos (by omega), hf _ (lget_mem l i (by omega)), bindM_some, wr_i i (by omega)]
    cases hφ : φ (lget l (i : Int))
    · rw [hφ, if_neg Bool.false_ne_true] at e
      rw [Bool.false_or, e]; exact ih
    · rw [hφ, if_pos rfl] at e
      rw [Bool.true_or, if_pos rfl]
      exact ⟨i, e⟩
theorem loop_all (hl : l.length < 100000) (hf : ∀ x ∈ l, f x = some (φ x)) {L : Int → Option (Ctl Bool Unit)}
    (hL : ∀ i : Int, L i = if (decide (i < (l.length : Int))) = true then (if (0 : Int) ≤ i ∧ i < (l.length : Int) then f (lget l i) >>= fun t => if (!t) = true then (some (.ret false)) else L (wr .i64 (i + 1)) else none) else some (.nx ())) :
    ∀ (k i : Nat), i + k = l.length → L (i : Int) = some (if (l.drop i).all φ = true then .nx () else .ret false)
  | 0, i, h => by
    rw [List.drop_eq_nil_of_le (by omega), List.all_nil, if_pos rfl, hL, decide_eq_false (by omega), if_neg Bool.false_ne_true]
  | k + 1, i, h => by
    have ih := loop_all hl hf hL k (i + 1) (by omega)
    rw [drop_at l i (by omega), List.all_cons, hL, decide_eq_true (by omega : (i : Int) < (l.length : Int)), if_pos rfl, if_pos (by omega), hf _ (lget_mem l i (by omega)), bindM_some, wr_i i (by omega)]
    cases hφ : φ (lget l (i : Int))
    · rfl
    · rw [Bool.true_and, ← ih]; rfl
theorem all0 (hl : l.length < 100000) (hf : ∀ x ∈ l, f x = some (φ x)) {L : Int → Option (Ctl Bool Unit)}
    (hL : ∀ i : Int, L i = if (decide (i < (l.length : Int))) = true then (if (0 : Int) ≤ i ∧ i < (l.length : Int) then f (lget l i) >>= fun t => if (!t) = true then (some (.ret false)) else L (wr .i64 (i + 1)) else none) else some (.nx ())) :
    L 0 = some (if l.all φ = true then .nx () else .ret false) := loop_all hl hf hL l.length 0 (by omega)
theorem loop_same (hl : l.length < 100000) {m : List α} (hlm : l.length = m.length) {g : α → α → Option Bool} {ψ : α → α → Bool} (hg : ∀ x ∈ l, ∀ y ∈ m, g x y = some (ψ x y)) (hψ : ∀ x y, ψ x y = true ↔ x = y) {L : Int → Option (Ctl Bool Unit)}
    (hL : ∀ i : Int, L i = if (decide (i < (l.length : Int))) = true then (if (0 : Int) ≤ i ∧ i < (l.length : Int) then if (0 : Int) ≤ i ∧ i < (m.length : Int) then g (lget l i) (lget m i) >>= fun t => if (!t) = true then (some (.ret false)) else L (wr .i64 (i + 1)) else none else none) else some (.nx ())) :
    ∀ (k i : Nat), i + k = l.length → ∃ b : Bool, (b = true ↔ l.drop i = m.drop i) ∧ L (i : Int) = some (if b = true then .nx () else .ret false)
  | 0, i, h => ⟨true, by rw [List.drop_eq_nil_of_le (by omega), List.drop_eq_nil_of_le (by omega)]; simp, by
    rw [if_pos rfl, hL, decide_eq_false (by omega), if_neg Bool.false_ne_true]⟩
  | k + 1, i, h => by
    obtain ⟨b, hb, ih⟩ := loop_same hl hlm hg hψ hL k (i + 1) (by omega)
    have e : L (i : Int) = if (!ψ (lget l (i : Int)) (lget m (i : Int))) = true then (some (.ret false)) else L (((i + 1 : Nat) : Int)) := by
      rw [hL, decide_eq_true (by omega : (i : Int) < (l.length : Int)), if_pos rfl, if_pos (by omega), if_pos (by omega), hg _ (lget_mem l i (by omega)) _ (lget_mem m i (by omega)), bindM_some, wr_i i (by omega)]
    rw [drop_at l i (by omega), drop_at m i (by omega), List.cons.injEq]
    have hq := hψ (lget l (i : Int)) (lget m (i : Int))
    cases hφ : ψ (lget l (i : Int)) (lget m (i : Int))
    · rw [hφ] at e hq
      exact ⟨false, by simp only [Bool.false_eq_true, false_iff]; exact fun c => Bool.false_ne_true (hq.2 c.1), e⟩
    · rw [hφ] at e hq
      exact ⟨b, by rw [hb]; exact ⟨fun c => ⟨hq.1 rfl, c⟩, fun c => c.2⟩, e.trans ih⟩
theorem same0 [DecidableEq α] (hl : l.length < 100000) {m : List α} (hlm : l.length = m.length) {g : α → α → Option Bool} {ψ : α → α → Bool} (hg : ∀ x ∈ l, ∀ y ∈ m, g x y = some (ψ x y)) (hψ : ∀ x y, ψ x y = true ↔ x = y) {L : Int → Option (Ctl Bool Unit)}
    (hL : ∀ i : Int, L i = if (decide (i < (l.length : Int))) = true then (if (0 : Int) ≤ i ∧ i < (l.length : Int) then if (0 : Int) ≤ i ∧ i < (m.length : Int) then g (lget l i) (lget m i) >>= fun t => if (!t) = true then (some (.ret false)) else L (wr .i64 (i + 1)) else none else none) else some (.nx ())) :
    L 0 = some (if decide (l = m) = true then .nx () else .ret false) := by
  obtain ⟨b, hb, e⟩ := loop_same hl hlm hg hψ hL l.length 0 (by omega)
  rw [List.drop_zero, List.drop_zero] at hb
  have : b = decide (l = m) := by rw [Bool.eq_iff_iff, hb, decide_eq_true_eq]
  rw [← this]; exact e
end
def rP (p : S_api_Prefix) : Bool := (cidr_Right p).getD false
theorem right_code (p : S_api_Prefix) (h : ok_api_Prefix p) : cidr_Right p = some (rP p) := by
  obtain ⟨V, l, b, rfl, hl, _⟩ := exists_mkP p h
  unfold rP
  rw [cright_code hl]; rfl
theorem right_ref (p : S_api_Prefix) (h : ok_api_Prefix p) : crawlwayref11_Right p = some (rP p) := by
  obtain ⟨V, l, b, rfl, hl, _⟩ := exists_mkP p h
  unfold rP
  rw [cright_code hl, cright_ref hl]; rfl
def eR (e : S_api_Endpoint) : Bool := (hostport_Right e).getD false
theorem end_both (e : S_api_Endpoint) (h : ok_api_Endpoint e) : hostport_Right e = some (eR e) ∧ crawlwayref12_Right e = some (eR e) := by
  obtain ⟨V, l, hA, hl, _⟩ := exists_mkA e.f_A h.1
  have h1 : ∃ b, hostport_Right e = some b ∧ crawlwayref12_Right e = some b := by
    unfold hostport_Right crawlwayref12_Right
    rw [hA, Adr.right_code hl, Adr.right_ref hl, bindM_some]
    cases rightL V l
    · exact ⟨_, rfl, rfl⟩
    · rw [if_pos rfl]
      split
      · exact ⟨_, rfl, rfl⟩
      · exact ⟨_, rfl, rfl⟩
  obtain ⟨b, e1, e2⟩ := h1
  unfold eR
  rw [e1, e2]; exact ⟨rfl, rfl⟩
theorem has_bad (l : List S_api_Prefix) (hl : l.length < 100000) (h : ∀ x ∈ l, ok_api_Prefix x) : slices_ContainsFunc_api_Prefix__change_RightPeer_1 l = some (!l.all rP) := by
  have key := loop_idx (φ := fun x => !rP x) (f := change_RightPeer_1) hl (fun x hx => by unfold change_RightPeer_1; rw [right_code x (h x hx)]; rfl) (L := slices_IndexFunc_api_Prefix__change_RightPeer_1.l0 l) (fun i => slices_IndexFunc_api_Prefix__change_RightPeer_1.l0.eq_def l i) l.length 0 (by omega)
  rw [List.drop_zero, show ((0 : Nat) : Int) = 0 from rfl] at key
  have e : l.any (fun x => !rP x) = !l.all rP := by
    clear key h hl
    induction l with
    | nil => rfl
    | cons x r ih => rw [List.any_cons, List.all_cons, Bool.not_and, ih]
  unfold slices_ContainsFunc_api_Prefix__change_RightPeer_1 slices_IndexFunc_api_Prefix__change_RightPeer_1
  rw [e] at key
  cases hq : l.all rP
  · rw [hq, Bool.not_false, if_pos rfl] at key
    obtain ⟨j, hj⟩ := key
    rw [hj, bindM_some]
    show some (decide ((j : Int) ≥ 0)) = _
    rw [decide_eq_true (by omega)]; rfl
  · rw [hq, Bool.not_true, if_neg Bool.false_ne_true] at key
    rw [key, bindM_some]; rfl
def zK : Vector Int 32 := Vector.replicate 32 (0 : Int)
def zE : S_api_Endpoint := { f_A := ({ f_V := (0 : Int), f_B := (Vector.replicate 16 (0 : Int) : (Vector Int 16)) } : S_api_Addr), f_Port := (0 : Int) }
def peerB (k hp pz he ez er lo hi hk kz lg al : Bool) : Bool := !k && (hp || pz) && (he || ez) && (!he || er) && !lo && !hi && (hk || kz) && !lg && al
def peerR (x : S_api_PeerChange) : Bool := peerB (decide (x.f_Key = zK)) x.f_HasPsk (decide (x.f_Psk = zK)) x.f_HasEnd (decide (x.f_End = zE)) (eR x.f_End) (decide (x.f_Keep < 0)) (decide (x.f_Keep > 65535)) x.f_HasKeep (x.f_Keep == 0) (decide ((x.f_Allowed.length : Int) > 64)) (x.f_Allowed.all rP)
theorem peer_code (x : S_api_PeerChange) (hl : x.f_Allowed.length < 100000) (h : ok_api_PeerChange x) : change_RightPeer x = some (peerR x) := by
  obtain ⟨h0, h1, h2, h3, h4, h5, h6, h7, h8, h9, h10⟩ := h
  have hc := has_bad x.f_Allowed hl h10
  have hE := (end_both x.f_End h6).1
  have e1 : decide (x.f_Keep ≥ 0) = !decide (x.f_Keep < 0) := by rw [← decide_not]; congr 1; simp
  have e2 : decide (x.f_Keep ≤ 65535) = !decide (x.f_Keep > 65535) := by rw [← decide_not]; congr 1; simp
  have e3 : decide ((x.f_Allowed.length : Int) ≤ 64) = !decide ((x.f_Allowed.length : Int) > 64) := by rw [← decide_not]; congr 1; simp
  unfold change_RightPeer change_only_api_Key change_only_api_Endpoint change_short change_only_int peerR
  rw [hE, hc, e1, e2, e3]
  show _ = some (peerB _ _ _ _ _ _ _ _ _ _ _ _)
  rw [show (Vector.replicate 32 (0 : Int) : Vector Int 32) = zK from rfl, show ({ f_A := ({ f_V := (0 : Int), f_B := (Vector.replicate 16 (0 : Int) : (Vector Int 16)) } : S_api_Addr), f_Port := (0 : Int) } : S_api_Endpoint) = zE from rfl]
  generalize decide (x.f_Key = zK) = k
  generalize decide (x.f_Psk = zK) = pz
  generalize decide (x.f_End = zE) = ez
  generalize eR x.f_End = er
  generalize decide (x.f_Keep < 0) = lo
  generalize decide (x.f_Keep > 65535) = hi
  generalize (x.f_Keep == 0) = kz
  generalize decide ((x.f_Allowed.length : Int) > 64) = lg
  generalize x.f_Allowed.all rP = al
  generalize x.f_HasPsk = hp
  generalize x.f_HasEnd = he
  generalize x.f_HasKeep = hk
  clear hc hE e1 e2 e3 h0 h1 h2 h3 h4 h5 h6 h7 h8 h9 h10 hl
  revert k pz ez er lo hi kz lg al hp he hk
  decide +kernel
theorem peer_ref (x : S_api_PeerChange) (hl : x.f_Allowed.length < 100000) (h : ok_api_PeerChange x) : crawlwayref32_RightPeer x = some (peerR x) := by
  obtain ⟨h0, h1, h2, h3, h4, h5, h6, h7, h8, h9, h10⟩ := h
  have hE := (end_both x.f_End h6).2
  have hf : ∀ y ∈ x.f_Allowed, crawlwayref11_Right y = some (rP y) := fun y hy => right_ref y (h10 y hy)
  have l0 := all0 hl hf (L := crawlwayref32_RightPeer.l0 x) (fun i => crawlwayref32_RightPeer.l0.eq_def x i)
  have l1 := all0 hl hf (L := crawlwayref32_RightPeer.l1 x) (fun i => crawlwayref32_RightPeer.l1.eq_def x i)
  have l2 := all0 hl hf (L := crawlwayref32_RightPeer.l2 x) (fun i => crawlwayref32_RightPeer.l2.eq_def x i)
  have l3 := all0 hl hf (L := crawlwayref32_RightPeer.l3 x) (fun i => crawlwayref32_RightPeer.l3.eq_def x i)
  have l4 := all0 hl hf (L := crawlwayref32_RightPeer.l4 x) (fun i => crawlwayref32_RightPeer.l4.eq_def x i)
  have l5 := all0 hl hf (L := crawlwayref32_RightPeer.l5 x) (fun i => crawlwayref32_RightPeer.l5.eq_def x i)
  have l6 := all0 hl hf (L := crawlwayref32_RightPeer.l6 x) (fun i => crawlwayref32_RightPeer.l6.eq_def x i)
  have l7 := all0 hl hf (L := crawlwayref32_RightPeer.l7 x) (fun i => crawlwayref32_RightPeer.l7.eq_def x i)
  have l8 := all0 hl hf (L := crawlwayref32_RightPeer.l8 x) (fun i => crawlwayref32_RightPeer.l8.eq_def x i)
  have l9 := all0 hl hf (L := crawlwayref32_RightPeer.l9 x) (fun i => crawlwayref32_RightPeer.l9.eq_def x i)
  have l10 := all0 hl hf (L := crawlwayref32_RightPeer.l10 x) (fun i => crawlwayref32_RightPeer.l10.eq_def x i)
  have l11 := all0 hl hf (L := crawlwayref32_RightPeer.l11 x) (fun i => crawlwayref32_RightPeer.l11.eq_def x i)
  have l12 := all0 hl hf (L := crawlwayref32_RightPeer.l12 x) (fun i => crawlwayref32_RightPeer.l12.eq_def x i)
  have l13 := all0 hl hf (L := crawlwayref32_RightPeer.l13 x) (fun i => crawlwayref32_RightPeer.l13.eq_def x i)
  have l14 := all0 hl hf (L := crawlwayref32_RightPeer.l14 x) (fun i => crawlwayref32_RightPeer.l14.eq_def x i)
  have l15 := all0 hl hf (L := crawlwayref32_RightPeer.l15 x) (fun i => crawlwayref32_RightPeer.l15.eq_def x i)
  unfold crawlwayref32_RightPeer peerR
  rw [hE, l0, l1, l2, l3, l4, l5, l6, l7, l8, l9, l10, l11, l12, l13, l14, l15]
  show _ = some (peerB _ _ _ _ _ _ _ _ _ _ _ _)
  rw [show (Vector.replicate 32 (0 : Int) : Vector Int 32) = zK from rfl, show ({ f_A := ({ f_V := (0 : Int), f_B := (Vector.replicate 16 (0 : Int) : (Vector Int 16)) } : S_api_Addr), f_Port := (0 : Int) } : S_api_Endpoint) = zE from rfl]
  have e4 : (x.f_Keep != 0) = !(x.f_Keep == 0) := rfl
  rw [e4]
  generalize decide (x.f_Key = zK) = k
  generalize decide (x.f_Psk = zK) = pz
  generalize decide (x.f_End = zE) = ez
  generalize eR x.f_End = er
  generalize decide (x.f_Keep < 0) = lo
  generalize decide (x.f_Keep > 65535) = hi
  generalize (x.f_Keep == 0) = kz
  generalize decide ((x.f_Allowed.length : Int) > 64) = lg
  generalize x.f_Allowed.all rP = al
  generalize x.f_HasPsk = hp
  generalize x.f_HasEnd = he
  generalize x.f_HasKeep = hk
  clear hE hf h0 h1 h2 h3 h4 h5 h6 h7 h8 h9 h10 e4 l0 l1 l2 l3 l4 l5 l6 l7 l8 l9 l10 l11 l12 l13 l14 l15 hl
  revert k pz ez er lo hi kz lg al hp he hk
  decide +kernel
def small (x : S_api_Request) : Prop := x.f_Peers.length ≤ 80 ∧ ∀ p ∈ x.f_Peers, p.f_Allowed.length ≤ 80
theorem large_loop (x : S_api_Request) (hl : x.f_Peers.length ≤ 80) : ∀ (k i : Nat), i + k = x.f_Peers.length → crawlwayref32_Large.l0 x (i : Int) = some (if (x.f_Peers.drop i).any (fun p => decide (80 < p.f_Allowed.length)) = true then .ret true else .nx ())
  | 0, i, h => by
    rw [crawlwayref32_Large.l0.eq_def, decide_eq_false (by omega), if_neg Bool.false_ne_true, List.drop_eq_nil_of_le (by omega)]; rfl
  | k + 1, i, h => by
    have ih := large_loop x hl k (i + 1) (by omega)
    rw [crawlwayref32_Large.l0.eq_def, decide_eq_true (by omega : (i : Int) < (x.f_Peers.length : Int)), if_pos rfl, if_pos (by omega), wr_i i (by omega), ih, drop_at _ i (by omega), List.any_cons]
    by_cases hq : 80 < (lget x.f_Peers (i : Int)).f_Allowed.length
    · rw [if_pos (decide_eq_true (by omega)), decide_eq_true hq, Bool.true_or, if_pos rfl]
    · rw [if_neg (by rw [decide_eq_true_eq]; omega), decide_eq_false hq, Bool.false_or]
theorem large (x : S_api_Request) : (crawlwayref32_Large x = some true) ∨ (crawlwayref32_Large x = some false ∧ small x) := by
  unfold crawlwayref32_Large
  by_cases h : x.f_Peers.length ≤ 80
  · rw [if_neg (by rw [decide_eq_true_eq]; omega)]
    have := large_loop x h x.f_Peers.length 0 (by omega)
    rw [List.drop_zero, show ((0 : Nat) : Int) = 0 from rfl] at this
    rw [this, bindM_some]
    cases hq : x.f_Peers.any (fun p => decide (80 < p.f_Allowed.length))
    · right
      refine ⟨rfl, h, fun p hp => ?_⟩
      rw [List.any_eq_false] at hq
      have := hq p hp
      simp at this; omega
    · left; rfl
  · left
    rw [if_pos (decide_eq_true (by omega))]
def reqB (hv vz lo hi ho pz hm mz lg al : Bool) : Bool := (hv || vz) && !lo && !hi && (ho || pz) && (hm || mz) && !lg && al
def reqR (x : S_api_Request) : Bool := reqB x.f_HasPrivate (decide (x.f_Private = zK)) (decide (x.f_Port < 0)) (decide (x.f_Port > 65535)) x.f_HasPort (x.f_Port == 0) x.f_HasMark (x.f_Mark == 0) (decide ((x.f_Peers.length : Int) > 64)) (x.f_Peers.all peerR)
theorem has_badp (l : List S_api_PeerChange) (hl : l.length < 100000) (h : ∀ x ∈ l, change_RightPeer x = some (peerR x)) : slices_ContainsFunc_api_PeerChange__change_Right_1 l = some (!l.all peerR) := by
  have key := loop_idx (φ := fun x => !peerR x) (f := change_Right_1) hl (fun x hx => by unfold change_Right_1; rw [h x hx]; rfl) (L := slices_IndexFunc_api_PeerChange__change_Right_1.l0 l) (fun i => slices_IndexFunc_api_PeerChange__change_Right_1.l0.eq_def l i) l.length 0 (by omega)
  rw [List.drop_zero, show ((0 : Nat) : Int) = 0 from rfl] at key
  have e : l.any (fun x => !peerR x) = !l.all peerR := by
    clear key h hl
    induction l with
    | nil => rfl
    | cons x r ih => rw [List.any_cons, List.all_cons, Bool.not_and, ih]
  unfold slices_ContainsFunc_api_PeerChange__change_Right_1 slices_IndexFunc_api_PeerChange__change_Right_1
  rw [e] at key
  cases hq : l.all peerR
  · rw [hq, Bool.not_false, if_pos rfl] at key
    obtain ⟨j, hj⟩ := key
    rw [hj, bindM_some]
    show some (decide ((j : Int) ≥ 0)) = _
    rw [decide_eq_true (by omega)]; rfl
  · rw [hq, Bool.not_true, if_neg Bool.false_ne_true] at key
    rw [key, bindM_some]; rfl
theorem req_code (x : S_api_Request) (hl : x.f_Peers.length < 100000) (h : ∀ p ∈ x.f_Peers, change_RightPeer p = some (peerR p)) : change_Right x = some (reqR x) := by
  have hc := has_badp x.f_Peers hl h
  have e1 : decide (x.f_Port ≥ 0) = !decide (x.f_Port < 0) := by rw [← decide_not]; congr 1; simp
  have e2 : decide (x.f_Port ≤ 65535) = !decide (x.f_Port > 65535) := by rw [← decide_not]; congr 1; simp
  unfold change_Right change_only_api_Key change_only_int change_only_uint32 change_short reqR
  rw [hc, e1, e2]
  show _ = some (reqB _ _ _ _ _ _ _ _ _ _)
  rw [show (Vector.replicate 32 (0 : Int) : Vector Int 32) = zK from rfl]
  generalize decide (x.f_Private = zK) = vz
  generalize decide (x.f_Port < 0) = lo
  generalize decide (x.f_Port > 65535) = hi
  generalize (x.f_Port == 0) = pz
  generalize (x.f_Mark == 0) = mz
  generalize decide ((x.f_Peers.length : Int) > 64) = lg
  generalize x.f_Peers.all peerR = al
  generalize x.f_HasPrivate = hv
  generalize x.f_HasPort = ho
  generalize x.f_HasMark = hm
  clear hc e1 e2 h hl
  revert vz lo hi pz mz lg al hv ho hm
  decide +kernel
theorem req_ref (x : S_api_Request) (hl : x.f_Peers.length < 100000) (h : ∀ p ∈ x.f_Peers, crawlwayref32_RightPeer p = some (peerR p)) : crawlwayref32_Right x = some (reqR x) := by
  have l0 := all0 hl h (L := crawlwayref32_Right.l0 x) (fun i => crawlwayref32_Right.l0.eq_def x i)
  have l1 := all0 hl h (L := crawlwayref32_Right.l1 x) (fun i => crawlwayref32_Right.l1.eq_def x i)
  have l2 := all0 hl h (L := crawlwayref32_Right.l2 x) (fun i => crawlwayref32_Right.l2.eq_def x i)
  have l3 := all0 hl h (L := crawlwayref32_Right.l3 x) (fun i => crawlwayref32_Right.l3.eq_def x i)
  have l4 := all0 hl h (L := crawlwayref32_Right.l4 x) (fun i => crawlwayref32_Right.l4.eq_def x i)
  have l5 := all0 hl h (L := crawlwayref32_Right.l5 x) (fun i => crawlwayref32_Right.l5.eq_def x i)
  have l6 := all0 hl h (L := crawlwayref32_Right.l6 x) (fun i => crawlwayref32_Right.l6.eq_def x i)
  have l7 := all0 hl h (L := crawlwayref32_Right.l7 x) (fun i => crawlwayref32_Right.l7.eq_def x i)
  unfold crawlwayref32_Right reqR
  rw [l0, l1, l2, l3, l4, l5, l6, l7]
  show _ = some (reqB _ _ _ _ _ _ _ _ _ _)
  rw [show (Vector.replicate 32 (0 : Int) : Vector Int 32) = zK from rfl]
  have e4 : (x.f_Port != 0) = !(x.f_Port == 0) := rfl
  have e5 : (x.f_Mark != 0) = !(x.f_Mark == 0) := rfl
  rw [e4, e5]
  generalize decide (x.f_Private = zK) = vz
  generalize decide (x.f_Port < 0) = lo
  generalize decide (x.f_Port > 65535) = hi
  generalize (x.f_Port == 0) = pz
  generalize (x.f_Mark == 0) = mz
  generalize decide ((x.f_Peers.length : Int) > 64) = lg
  generalize x.f_Peers.all peerR = al
  generalize x.f_HasPrivate = hv
  generalize x.f_HasPort = ho
  generalize x.f_HasMark = hm
  clear e4 e5 l0 l1 l2 l3 l4 l5 l6 l7 h hl
  revert vz lo hi pz mz lg al hv ho hm
  decide +kernel
def zP : S_api_PeerChange := { f_Key := (Vector.replicate 32 (0 : Int) : (Vector Int 32)), f_Remove := false, f_Update := false, f_HasPsk := false, f_Psk := (Vector.replicate 32 (0 : Int) : (Vector Int 32)), f_HasEnd := false, f_End := ({ f_A := ({ f_V := (0 : Int), f_B := (Vector.replicate 16 (0 : Int) : (Vector Int 16)) } : S_api_Addr), f_Port := (0 : Int) } : S_api_Endpoint), f_HasKeep := false, f_Keep := (0 : Int), f_Replace := false, f_Allowed := ([] : List S_api_Prefix) }
def zR : S_api_Request := { f_HasPrivate := false, f_Private := (Vector.replicate 32 (0 : Int) : (Vector Int 32)), f_HasPort := false, f_Port := (0 : Int), f_HasMark := false, f_Mark := (0 : Int), f_Replace := false, f_Peers := ([] : List S_api_PeerChange) }
theorem ok_zK (v : Vector Int 32) (h : v = zK) : ∀ x ∈ v.toList, (fun n : Int => (Lit.int .u8 n).wf = true) x := by
  subst h; decide
theorem ok_one : ∀ x ∈ (vset zK 0 1).toList, (fun n : Int => (Lit.int .u8 n).wf = true) x := by decide
theorem ok_zE : ok_api_Endpoint zE := by
  refine ⟨⟨by decide, ?_⟩, by decide⟩
  show ∀ x ∈ (Vector.replicate 16 (0 : Int)).toList, (fun n : Int => (Lit.int .u8 n).wf = true) x
  decide
theorem ok_zP : ok_api_PeerChange zP := ⟨ok_zK _ rfl, trivial, trivial, trivial, ok_zK _ rfl, trivial, ok_zE, trivial, by decide, trivial, by intro x hx; cases hx⟩
theorem ok_kP : ok_api_PeerChange { zP with f_Key := vset zK 0 1 } := ⟨ok_one, trivial, trivial, trivial, ok_zK _ rfl, trivial, ok_zE, trivial, by decide, trivial, by intro x hx; cases hx⟩
theorem alive32 : crawlwaylaw32_alive = some true := by
  have h1 := req_code zR (by decide) (by intro p hp; cases hp)
  have h2 := req_code { zR with f_Peers := [zP] } (by decide) (by
    intro p hp
    rw [List.mem_singleton.1 hp]
    exact peer_code zP (by decide) ok_zP)
  have h3 := peer_code { zP with f_Key := vset zK 0 1 } (by decide) ok_kP
  have e1 : reqR zR = true := by decide +kernel
  have e2 : reqR { zR with f_Peers := [zP] } = false := by
    unfold reqR reqB
    have : peerR zP = false := by unfold peerR peerB; rw [decide_eq_true (show zP.f_Key = zK from rfl)]; rfl
    show (_ && ([zP].all peerR)) = false
    rw [List.all_cons, this, Bool.false_and, Bool.and_false]
  have e3 : peerR { zP with f_Key := vset zK 0 1 } = true := by
    unfold peerR peerB
    rw [decide_eq_false (show ¬ vset zK 0 1 = zK by decide), decide_eq_true (show zP.f_Psk = zK from rfl), decide_eq_true (show zP.f_End = zE from rfl)]
    rfl
  rw [e1] at h1
  rw [e2] at h2
  rw [e3] at h3
  unfold crawlwaylaw32_alive
  show (change_Right zR >>= fun t1 => if t1 = true then (change_Right { zR with f_Peers := [zP] } >>= fun t4 => if (!t4) = true then (change_RightPeer { zP with f_Key := vset zK 0 1 } >>= fun t6 => some t6) else (some false)) else (some false)) = _
  rw [h1, bindM_some, if_pos rfl, h2, bindM_some, if_pos (show (!false) = true from rfl), h3, bindM_some]
theorem right_loop (x : S_api_Request) (hl : x.f_Peers.length ≤ 80) (h1 : ∀ p ∈ x.f_Peers, change_RightPeer p = some (peerR p)) (h2 : ∀ p ∈ x.f_Peers, crawlwayref32_RightPeer p = some (peerR p)) : ∀ (k i : Nat), i + k = x.f_Peers.length → crawlwaylaw32_ChangeRight.l0 x (i : Int) = some (.nx ())
  | 0, i, h => by rw [crawlwaylaw32_ChangeRight.l0.eq_def, decide_eq_false (by omega), if_neg Bool.false_ne_true]
  | k + 1, i, h => by
    have hm := lget_mem x.f_Peers i (by omega)
    rw [crawlwaylaw32_ChangeRight.l0.eq_def, decide_eq_true (by omega : (i : Int) < (x.f_Peers.length : Int)), if_pos rfl, if_pos (by omega), h1 _ hm, bindM_some, h2 _ hm, bindM_some, if_neg (by simp), wr_i i (by omega)]
    exact right_loop x hl h1 h2 k (i + 1) (by omega)
end Go.Proofs.Ythccncpephpdjaa.Chg
namespace Go.Proofs.Ythccncpephpdjaa.Chg
open E Go.RowKit
theorem eq_ref (l m : List S_api_Prefix) (hl : l.length < 100000) : crawlwayref11_Same l m = some (decide (l = m)) := by
  unfold crawlwayref11_Same
  by_cases h : l.length = m.length
  · have := same0 (l := l) (m := m) hl h (g := fun x y => some (decide (x = y))) (ψ := fun x y => decide (x = y)) (fun x _ y _ => rfl) (fun x y => decide_eq_true_iff) (L := crawlwayref11_Same.l0 l m) (fun i => crawlwayref11_Same.l0.eq_def l m i)
    rw [if_neg (by simp [h]), this, bindM_some]
    cases decide (l = m) <;> rfl
  · rw [if_pos (by simp; omega), decide_eq_false (fun e => h (by rw [e]))]
def peerE (a b : S_api_PeerChange) : Bool := decide (a.f_Key = b.f_Key) && (a.f_Remove == b.f_Remove) && (a.f_Update == b.f_Update) && (a.f_HasPsk == b.f_HasPsk) && decide (a.f_Psk = b.f_Psk) && (a.f_HasEnd == b.f_HasEnd) && decide (a.f_End = b.f_End) && (a.f_HasKeep == b.f_HasKeep) && (a.f_Keep == b.f_Keep) && (a.f_Replace == b.f_Replace) && decide (a.f_Allowed = b.f_Allowed)
theorem peerE_iff (a b : S_api_PeerChange) : peerE a b = true ↔ a = b := by
  cases a; cases b
  simp [peerE, and_assoc]
theorem alike_ref (a b : S_api_PeerChange) (hl : a.f_Allowed.length < 100000) : crawlwayref32_SamePeer a b = some (peerE a b) := by
  unfold crawlwayref32_SamePeer peerE
  rw [eq_ref _ _ hl]
  simp only [bindM_some]
  generalize decide (a.f_Key = b.f_Key) = k
  generalize decide (a.f_Psk = b.f_Psk) = p
  generalize decide (a.f_End = b.f_End) = e
  generalize (a.f_Keep == b.f_Keep) = n
  generalize decide (a.f_Allowed = b.f_Allowed) = al
  generalize (a.f_Remove == b.f_Remove) = b1
  generalize (a.f_Update == b.f_Update) = b2
  generalize (a.f_HasPsk == b.f_HasPsk) = b3
  generalize (a.f_HasEnd == b.f_HasEnd) = b4
  generalize (a.f_HasKeep == b.f_HasKeep) = b5
  generalize (a.f_Replace == b.f_Replace) = b6
  clear hl
  revert k p e n al b1 b2 b3 b4 b5 b6
  decide +kernel
def reqE (a b : S_api_Request) : Bool := (a.f_HasPrivate == b.f_HasPrivate) && decide (a.f_Private = b.f_Private) && (a.f_HasPort == b.f_HasPort) && (a.f_Port == b.f_Port) && (a.f_HasMark == b.f_HasMark) && (a.f_Mark == b.f_Mark) && (a.f_Replace == b.f_Replace) && decide (a.f_Peers = b.f_Peers)
theorem reqE_self (a : S_api_Request) : reqE a a = true := by simp [reqE]
theorem same_ref (a b : S_api_Request) (hs : small a) : crawlwayref32_Same a b = some (reqE a b) := by
  have e1 : (a.f_HasPrivate != b.f_HasPrivate) = !(a.f_HasPrivate == b.f_HasPrivate) := rfl
  have e2 : (a.f_HasPort != b.f_HasPort) = !(a.f_HasPort == b.f_HasPort) := rfl
  have e3 : (a.f_Port != b.f_Port) = !(a.f_Port == b.f_Port) := rfl
  have e4 : (a.f_HasMark != b.f_HasMark) = !(a.f_HasMark == b.f_HasMark) := rfl
  have e5 : (a.f_Mark != b.f_Mark) = !(a.f_Mark == b.f_Mark) := rfl
  have e6 : (a.f_Replace != b.f_Replace) = !(a.f_Replace == b.f_Replace) := rfl
  have tail : ∀ k p e c b1 b2 b3 b4 : Bool, (if (!b1) = true then some false else if (!k) = true then some false else if (!b2) = true then some false else if (!p) = true then some false else if (!b3) = true then some false else if (!e) = true then some false else if (!b4) = true then some false else some c) = some (b1 && k && b2 && p && b3 && e && b4 && c) := by decide +kernel
  unfold crawlwayref32_Same reqE
  rw [← tail, e1, e2, e3, e4, e5, e6]
  congr 7
  by_cases hlm : a.f_Peers.length = b.f_Peers.length
  · have := same0 (l := a.f_Peers) (m := b.f_Peers) (by have := hs.1; omega) hlm (g := crawlwayref32_SamePeer) (ψ := peerE) (fun x hx y _ => alike_ref x y (by have := hs.2 x hx; omega)) peerE_iff (L := crawlwayref32_Same.l0 a b) (fun i => crawlwayref32_Same.l0.eq_def a b i)
    rw [if_neg (by simp [hlm]), this, bindM_some]
    cases decide (a.f_Peers = b.f_Peers) <;> rfl
  · rw [if_pos (by simp; omega), decide_eq_false (fun e => hlm (by rw [e]))]
end Go.Proofs.Ythccncpephpdjaa.Chg
namespace Go.Proofs.Ythccncpephpdjaa.Chg
open E Go.RowKit
def nrm (p : S_api_PeerChange) : S_api_PeerChange := if p.f_Remove = true then { zP with f_Key := p.f_Key, f_Remove := true } else p
theorem nrm_idem (p : S_api_PeerChange) : nrm (nrm p) = nrm p := by
  unfold nrm
  by_cases h : p.f_Remove = true
  · rw [if_pos h]; rfl
  · rw [if_neg h, if_neg h]
theorem nrm_len (p : S_api_PeerChange) (h : p.f_Allowed.length ≤ 80) : (nrm p).f_Allowed.length ≤ 80 := by
  unfold nrm
  split
  · exact Nat.zero_le _
  · exact h
theorem nrm_ok (p : S_api_PeerChange) (h : ok_api_PeerChange p) : ok_api_PeerChange (nrm p) := by
  unfold nrm
  split
  · exact ⟨h.1, trivial, trivial, trivial, ok_zK _ rfl, trivial, ok_zE, trivial, (show (Lit.int .i64 0).wf = true by decide), trivial, by intro x hx; cases hx⟩
  · exact h
theorem nrm_right (p : S_api_PeerChange) (h : peerR p = true) : peerR (nrm p) = true := by
  unfold nrm
  split
  · have hk : decide (p.f_Key = zK) = false := by
      unfold peerR peerB at h
      cases hd : decide (p.f_Key = zK)
      · rfl
      · rw [hd] at h; simp at h
    unfold peerR peerB
    show (!decide (p.f_Key = zK) && (false || decide (zP.f_Psk = zK)) && (false || decide (zP.f_End = zE)) && (!false || eR zP.f_End) && !decide ((0 : Int) < 0) && !decide ((0 : Int) > 65535) && (false || ((0 : Int) == 0)) && !decide ((([] : List S_api_Prefix).length : Int) > 64) && ([] : List S_api_Prefix).all rP) = true
    rw [hk, decide_eq_true (show zP.f_Psk = zK from rfl), decide_eq_true (show zP.f_End = zE from rfl)]
    rfl
  · exact h
theorem clone_code (l : List S_api_Prefix) (h : l.length ≤ 80) : slices_Clone_api_Prefix l = some l := by
  unfold slices_Clone_api_Prefix
  rw [if_pos (by omega)]
theorem normal_loop (x : S_api_Request) (hs : small x) : ∀ (k i : Nat) (out : List S_api_PeerChange), i + k = x.f_Peers.length → out.length ≤ i → change_Normal.l0 x out (i : Int) = some (out ++ (x.f_Peers.drop i).map nrm)
  | 0, i, out, h, ho => by
    rw [change_Normal.l0.eq_def, decide_eq_false (by omega), if_neg Bool.false_ne_true, List.drop_eq_nil_of_le (by omega), List.map_nil, List.append_nil]
  | k + 1, i, out, h, ho => by
    have hs1 := hs.1
    have hm := lget_mem x.f_Peers i (by omega)
    have hal := hs.2 _ hm
    rw [change_Normal.l0.eq_def, decide_eq_true (by omega : (i : Int) < (x.f_Peers.length : Int)), if_pos rfl, if_pos (by omega), drop_at _ i (by omega), List.map_cons, wr_i i (by omega), clone_code [] (Nat.zero_le _), clone_code _ hal, bindM_some, bindM_some]
    have e : out ++ nrm (lget x.f_Peers (i : Int)) :: (x.f_Peers.drop (i + 1)).map nrm = (out ++ [nrm (lget x.f_Peers (i : Int))]) ++ (x.f_Peers.drop (i + 1)).map nrm := by simp
    rw [e, ← normal_loop x hs k (i + 1) _ (by omega) (by simp; omega)]
    unfold nrm
    by_cases hr : (lget x.f_Peers (i : Int)).f_Remove = true
    · rw [if_pos hr, if_pos hr, if_pos (by omega)]; rfl
    · rw [if_neg hr, if_neg hr, if_pos (by omega)]
theorem normal_code (x : S_api_Request) (hs : small x) : change_Normal x = some { x with f_Peers := x.f_Peers.map nrm } := by
  unfold change_Normal
  rw [show (0 : Int) = ((0 : Nat) : Int) from rfl, normal_loop x hs x.f_Peers.length 0 [] (by omega) (by simp), bindM_some]; rfl
theorem nref_loop (x : S_api_Request) (hs : small x) : ∀ (k i : Nat) (y : S_api_Request), i + k = x.f_Peers.length → y.f_Peers.length ≤ i → crawlwayref32_Normal.l0 x (i : Int) y = some { y with f_Peers := y.f_Peers ++ (x.f_Peers.drop i).map nrm }
  | 0, i, y, h, ho => by
    rw [crawlwayref32_Normal.l0.eq_def, decide_eq_false (by omega), if_neg Bool.false_ne_true, List.drop_eq_nil_of_le (by omega), List.map_nil, List.append_nil]
  | k + 1, i, y, h, ho => by
    have hs1 := hs.1
    rw [crawlwayref32_Normal.l0.eq_def, decide_eq_true (by omega : (i : Int) < (x.f_Peers.length : Int)), if_pos rfl, if_pos (by omega), drop_at _ i (by omega), List.map_cons, wr_i i (by omega)]
    have e : y.f_Peers ++ nrm (lget x.f_Peers (i : Int)) :: (x.f_Peers.drop (i + 1)).map nrm = (y.f_Peers ++ [nrm (lget x.f_Peers (i : Int))]) ++ (x.f_Peers.drop (i + 1)).map nrm := by simp
    have ih := nref_loop x hs k (i + 1) { y with f_Peers := y.f_Peers ++ [nrm (lget x.f_Peers (i : Int))] } (by omega) (by simp; omega)
    rw [e]
    refine Eq.trans ?_ ih
    unfold nrm
    by_cases hr : (lget x.f_Peers (i : Int)).f_Remove = true
    · rw [if_pos hr, if_pos hr, if_pos (by omega)]; rfl
    · rw [if_neg hr, if_neg hr, if_pos (by omega)]
theorem normal_ref (x : S_api_Request) (hs : small x) : crawlwayref32_Normal x = some { x with f_Peers := x.f_Peers.map nrm } := by
  unfold crawlwayref32_Normal
  rw [show (0 : Int) = ((0 : Nat) : Int) from rfl, nref_loop x hs x.f_Peers.length 0 _ (by omega) (by simp), bindM_some]; rfl
theorem ChangeNormal_pure (a0 : S_api_Request) (w0 : ok_api_Request a0) : crawlwaylaw32_ChangeNormal a0 = some true := by
  unfold crawlwaylaw32_ChangeNormal
  rcases large a0 with h | ⟨h, hs⟩
  · rw [h, bindM_some, if_pos rfl, alive32, bindM_some]
  · have hok : ∀ p ∈ a0.f_Peers, ok_api_PeerChange p := w0.2.2.2.2.2.2.2
    have hs2 : small { a0 with f_Peers := a0.f_Peers.map nrm } := ⟨by simpa using hs.1, fun p hp => by
      obtain ⟨q, hq, rfl⟩ := List.mem_map.1 hp
      exact nrm_len q (hs.2 q hq)⟩
    have hn2 := normal_code _ hs2
    have e : (a0.f_Peers.map nrm).map nrm = a0.f_Peers.map nrm := by rw [List.map_map]; congr 1; funext p; exact nrm_idem p
    simp only [e] at hn2
    have hr := req_ref a0 (by have := hs.1; omega) (fun p hp => peer_ref p (by have := hs.2 p hp; omega) (hok p hp))
    have hc := req_code { a0 with f_Peers := a0.f_Peers.map nrm } (by have := hs2.1; omega) (fun p hp => by
      have hl := hs2.2 p hp
      obtain ⟨q, hq, rfl⟩ := List.mem_map.1 hp
      exact peer_code _ (by omega) (nrm_ok q (hok q hq)))
    have himp : reqR a0 = true → reqR { a0 with f_Peers := a0.f_Peers.map nrm } = true := by
      unfold reqR
      simp only [List.length_map]
      intro hq
      have hal : a0.f_Peers.all peerR = true := by
        unfold reqB at hq
        cases hd : a0.f_Peers.all peerR
        · rw [hd] at hq; simp at hq
        · rfl
      have : (a0.f_Peers.map nrm).all peerR = true := by
        rw [List.all_eq_true] at hal ⊢
        intro p hp
        obtain ⟨q, hq, rfl⟩ := List.mem_map.1 hp
        exact nrm_right q (hal q hq)
      rw [this]
      rw [hal] at hq; exact hq
    rw [h, bindM_some, if_neg Bool.false_ne_true, normal_code _ hs, bindM_some, normal_ref _ hs, bindM_some, same_ref _ _ hs2, bindM_some, reqE_self, if_pos rfl, hn2, bindM_some, same_ref _ _ hs2, bindM_some, reqE_self, if_pos rfl, hr, bindM_some]
    cases hq : reqR a0
    · rw [if_pos (show (!false) = true from rfl), alive32, bindM_some]
    · rw [if_neg (by simp), hc, bindM_some, himp hq, if_pos rfl, alive32, bindM_some]
end Go.Proofs.Ythccncpephpdjaa.Chg
