/- Functions with the same answers as the Go functions that they are named for, and the proofs of it, by a program of this project (gen.py). -/
import Derived.Test.YthccncpephpdjaaT
import Derived.Test.YthccncpephpdjaaShelf
import Derived.Test.YthccncpephpdjaaW
import Derived.Test.YthccncpephpdjaaL
import Derived.Test.YthccncpephpdjaaR
import Derived.Test.YthccncpephpdjaaN
import Derived.Test.YthccncpephpdjaaProg
import Derived.Test.YthccncpephpdjaaG1
import Derived.Test.YthccncpephpdjaaG2
import Derived.Test.YthccncpephpdjaaG3
set_option linter.unusedVariables false
set_option linter.unusedSimpArgs false
namespace Go.Proofs.Ythccncpephpdjaa
open E Go.RowKit


def crawlwayref32_Right.l0 (x0 : S_api_Request) (i12 : Int) : Option (Ctl (Bool) (Unit)) :=
  if (decide (i12 < (x0.f_Peers.length : Int))) = true then (if (0 : Int) ≤ i12 ∧ i12 < (x0.f_Peers.length : Int) then crawlwayref32_RightPeer (lget x0.f_Peers i12) >>= fun t24 => if (!t24) = true then (some (.ret false)) else (crawlwayref32_Right.l0 x0 (wr .i64 (i12 + 1))) else none) else (some (.nx ()))
  partial_fixpoint
def crawlwayref32_Right.l1 (x0 : S_api_Request) (i28 : Int) : Option (Ctl (Bool) (Unit)) :=
  if (decide (i28 < (x0.f_Peers.length : Int))) = true then (if (0 : Int) ≤ i28 ∧ i28 < (x0.f_Peers.length : Int) then crawlwayref32_RightPeer (lget x0.f_Peers i28) >>= fun t40 => if (!t40) = true then (some (.ret false)) else (crawlwayref32_Right.l1 x0 (wr .i64 (i28 + 1))) else none) else (some (.nx ()))
  partial_fixpoint
def crawlwayref32_Right.l2 (x0 : S_api_Request) (i46 : Int) : Option (Ctl (Bool) (Unit)) :=
  if (decide (i46 < (x0.f_Peers.length : Int))) = true then (if (0 : Int) ≤ i46 ∧ i46 < (x0.f_Peers.length : Int) then crawlwayref32_RightPeer (lget x0.f_Peers i46) >>= fun t58 => if (!t58) = true then (some (.ret false)) else (crawlwayref32_Right.l2 x0 (wr .i64 (i46 + 1))) else none) else (some (.nx ()))
  partial_fixpoint
def crawlwayref32_Right.l3 (x0 : S_api_Request) (i62 : Int) : Option (Ctl (Bool) (Unit)) :=
  if (decide (i62 < (x0.f_Peers.length : Int))) = true then (if (0 : Int) ≤ i62 ∧ i62 < (x0.f_Peers.length : Int) then crawlwayref32_RightPeer (lget x0.f_Peers i62) >>= fun t74 => if (!t74) = true then (some (.ret false)) else (crawlwayref32_Right.l3 x0 (wr .i64 (i62 + 1))) else none) else (some (.nx ()))
  partial_fixpoint
def crawlwayref32_Right.l4 (x0 : S_api_Request) (i84 : Int) : Option (Ctl (Bool) (Unit)) :=
  if (decide (i84 < (x0.f_Peers.length : Int))) = true then (if (0 : Int) ≤ i84 ∧ i84 < (x0.f_Peers.length : Int) then crawlwayref32_RightPeer (lget x0.f_Peers i84) >>= fun t96 => if (!t96) = true then (some (.ret false)) else (crawlwayref32_Right.l4 x0 (wr .i64 (i84 + 1))) else none) else (some (.nx ()))
  partial_fixpoint
def crawlwayref32_Right.l5 (x0 : S_api_Request) (i100 : Int) : Option (Ctl (Bool) (Unit)) :=
  if (decide (i100 < (x0.f_Peers.length : Int))) = true then (if (0 : Int) ≤ i100 ∧ i100 < (x0.f_Peers.length : Int) then crawlwayref32_RightPeer (lget x0.f_Peers i100) >>= fun t112 => if (!t112) = true then (some (.ret false)) else (crawlwayref32_Right.l5 x0 (wr .i64 (i100 + 1))) else none) else (some (.nx ()))
  partial_fixpoint
def crawlwayref32_Right.l6 (x0 : S_api_Request) (i118 : Int) : Option (Ctl (Bool) (Unit)) :=
  if (decide (i118 < (x0.f_Peers.length : Int))) = true then (if (0 : Int) ≤ i118 ∧ i118 < (x0.f_Peers.length : Int) then crawlwayref32_RightPeer (lget x0.f_Peers i118) >>= fun t130 => if (!t130) = true then (some (.ret false)) else (crawlwayref32_Right.l6 x0 (wr .i64 (i118 + 1))) else none) else (some (.nx ()))
  partial_fixpoint
def crawlwayref32_Right.l7 (x0 : S_api_Request) (i134 : Int) : Option (Ctl (Bool) (Unit)) :=
  if (decide (i134 < (x0.f_Peers.length : Int))) = true then (if (0 : Int) ≤ i134 ∧ i134 < (x0.f_Peers.length : Int) then crawlwayref32_RightPeer (lget x0.f_Peers i134) >>= fun t146 => if (!t146) = true then (some (.ret false)) else (crawlwayref32_Right.l7 x0 (wr .i64 (i134 + 1))) else none) else (some (.nx ()))
  partial_fixpoint
def crawlwayref32_Right (x0 : S_api_Request) : Option (Bool) :=
  if (!x0.f_HasPrivate) = true then (if (!decide (x0.f_Private = (Vector.replicate 32 (0 : Int) : (Vector Int 32)))) = true then (some false) else (if (decide (x0.f_Port < 0)) = true then (some false) else (if (decide (x0.f_Port > 65535)) = true then (some false) else (if (!x0.f_HasPort) = true then (if (x0.f_Port != 0) = true then (some false) else (if (!x0.f_HasMark) = true then (if (x0.f_Mark != 0) = true then (some false) else (if (decide ((x0.f_Peers.length : Int) > 64)) = true then (some false) else (crawlwayref32_Right.l0 x0 0 >>= fun q11 => match q11 with | .ret r' => some r' | .nx sq11 => (some true)))) else (if (decide ((x0.f_Peers.length : Int) > 64)) = true then (some false) else (crawlwayref32_Right.l1 x0 0 >>= fun q27 => match q27 with | .ret r' => some r' | .nx sq27 => (some true))))) else (if (!x0.f_HasMark) = true then (if (x0.f_Mark != 0) = true then (some false) else (if (decide ((x0.f_Peers.length : Int) > 64)) = true then (some false) else (crawlwayref32_Right.l2 x0 0 >>= fun q45 => match q45 with | .ret r' => some r' | .nx sq45 => (some true)))) else (if (decide ((x0.f_Peers.length : Int) > 64)) = true then (some false) else (crawlwayref32_Right.l3 x0 0 >>= fun q61 => match q61 with | .ret r' => some r' | .nx sq61 => (some true)))))))) else (if (decide (x0.f_Port < 0)) = true then (some false) else (if (decide (x0.f_Port > 65535)) = true then (some false) else (if (!x0.f_HasPort) = true then (if (x0.f_Port != 0) = true then (some false) else (if (!x0.f_HasMark) = true then (if (x0.f_Mark != 0) = true then (some false) else (if (decide ((x0.f_Peers.length : Int) > 64)) = true then (some false) else (crawlwayref32_Right.l4 x0 0 >>= fun q83 => match q83 with | .ret r' => some r' | .nx sq83 => (some true)))) else (if (decide ((x0.f_Peers.length : Int) > 64)) = true then (some false) else (crawlwayref32_Right.l5 x0 0 >>= fun q99 => match q99 with | .ret r' => some r' | .nx sq99 => (some true))))) else (if (!x0.f_HasMark) = true then (if (x0.f_Mark != 0) = true then (some false) else (if (decide ((x0.f_Peers.length : Int) > 64)) = true then (some false) else (crawlwayref32_Right.l6 x0 0 >>= fun q117 => match q117 with | .ret r' => some r' | .nx sq117 => (some true)))) else (if (decide ((x0.f_Peers.length : Int) > 64)) = true then (some false) else (crawlwayref32_Right.l7 x0 0 >>= fun q133 => match q133 with | .ret r' => some r' | .nx sq133 => (some true)))))))
theorem crawlwayref32_Right_ok (g0_ : G_api_Request) (x0 : S_api_Request) (r : Bool) (hF : crawlwayref32_Right x0 = some r) (w : World) (hn0 : N_api_Request w (g0_, x0)) :
    Calls Try.prog 18 #[.agg (Cd.cs c_api_Request (g0_, x0)).toArray] w (fun e w' => e = .returned (.bool r) ∧ Below w.heap.size w w') := by
  unfold crawlwayref32_Right at hF
  refine calls_enter (l := [.agg (Cd.cs c_api_Request (g0_, x0)).toArray]) Try.func18 rfl rfl rfl ?_
  refine at_start ?_
  refine at_weak [(0, _)] ⟨rfl, trivial⟩ ?_
  refine at_seq ?_
  refine at_region ?_
  refine at_box (cs := Cd.cs c_api_Request (g0_, x0)) rfl rfl rfl ?_
  intro b1
  refine at_val rfl rfl rfl (r_assign rfl) ?_
  refine at_nil ?_
  refine at_weak [(1, _)] ⟨rfl, trivial⟩ ?_
  refine at_then_normal ?_
  refine at_seq ?_
  refine at_seq ?_
  refine at_region ?_
  refine at_val rfl rfl rfl (r_fieldAddr (fo := 0) Try.underlying27 rfl rfl (fun w => ⟨_, Try.sizeOf4 w⟩) rfl) ?_
  refine at_val rfl rfl rfl (r_load_cell Try.isAgg4 rfl (lens_cell0 (c := cBool) (y := x0.f_HasPrivate) .z (c_api_Request_f_HasPrivate g0_ x0) rfl)) ?_
  refine at_val rfl rfl rfl (r_not rfl) ?_
  refine at_val rfl rfl rfl (r_move rfl) ?_
  rcases of_ite hF with ⟨h2, hF⟩ | ⟨h2, hF⟩
  · refine at_fix (g := 7) rfl h2 ?_
    refine at_guard_yes rfl rfl rfl ?_
    refine at_val rfl rfl rfl (r_fieldAddr (fo := 1) Try.underlying27 rfl rfl (fun w => ⟨_, Try.sizeOf23 w⟩) rfl) ?_
    refine at_guard_yes rfl rfl rfl ?_
    refine at_val rfl rfl rfl (r_load_aggc (c := (cVec (cInt .u8) 32 (by decide))) (z := x0.f_Private) Try.isAgg23 Try.sizeOf23 rfl (lens_cell .z (c_api_Request_f_Private g0_ x0))) ?_
    refine at_guard_yes rfl rfl rfl ?_
    refine at_val rfl rfl rfl (r_build_array (zs := Cd.cs (cVec (cInt .u8) 32 (by decide)) (Vector.replicate 32 (0 : Int) : (Vector Int 32))) (cs := Cd.cs (cVec (cInt .u8) 32 (by decide)) (Vector.replicate 32 (0 : Int) : (Vector Int 32))) Try.underlying23 Try.zeroValue23 rfl Try.sizeOf5 rfl rfl) ?_
    refine at_guard_yes rfl rfl rfl ?_
    refine at_val rfl rfl rfl (r_eqagg (c := (cVec (cInt .u8) 32 (by decide))) (a := x0.f_Private) (b := (Vector.replicate 32 (0 : Int) : (Vector Int 32))) (eqs_vec Try.underlying23 infoT5 Try.sizeOf5 Try.isAgg5 (.inr rfl) (eqs_int Try.underlying5)) rfl Try.eqGuardType23 rfl rfl (.inr rfl) rfl) ?_
    refine at_val rfl rfl rfl (r_pick rfl rfl rfl) ?_
    refine at_val rfl rfl rfl (r_move rfl) ?_
    rcases of_ite hF with ⟨h3, hF⟩ | ⟨h3, hF⟩
    · refine at_fix (g := 13) rfl h3 ?_
      refine at_guard_no rfl rfl rfl rfl rfl ?_
      refine at_guard_no rfl rfl rfl rfl rfl ?_
      refine at_guard_no rfl rfl rfl rfl rfl ?_
      refine at_val rfl rfl rfl (r_pick rfl rfl rfl) ?_
      refine at_val rfl rfl rfl (r_move rfl) ?_
      refine at_guard_no rfl rfl rfl rfl rfl ?_
      refine at_guard_no rfl rfl rfl rfl rfl ?_
      refine at_guard_no rfl rfl rfl rfl rfl ?_
      refine at_val rfl rfl rfl (r_pick rfl rfl rfl) ?_
      refine at_val rfl rfl rfl (r_move rfl) ?_
      refine at_guard_no rfl rfl rfl rfl rfl ?_
      refine at_guard_no rfl rfl rfl rfl rfl ?_
      refine at_guard_no rfl rfl rfl rfl rfl ?_
      refine at_guard_no rfl rfl rfl rfl rfl ?_
      refine at_guard_undef rfl rfl rfl rfl ?_
      refine at_guard_undef rfl rfl rfl rfl ?_
      refine at_guard_undef rfl rfl rfl rfl ?_
      refine at_guard_no rfl rfl rfl rfl rfl ?_
      refine at_val rfl rfl rfl (r_pick rfl rfl rfl) ?_
      refine at_val rfl rfl rfl (r_move rfl) ?_
      refine at_guard_no rfl rfl rfl rfl rfl ?_
      refine at_guard_no rfl rfl rfl rfl rfl ?_
      refine at_guard_no rfl rfl rfl rfl rfl ?_
      refine at_guard_no rfl rfl rfl rfl rfl ?_
      refine at_guard_undef rfl rfl rfl rfl ?_
      refine at_guard_undef rfl rfl rfl rfl ?_
      refine at_guard_undef rfl rfl rfl rfl ?_
      refine at_guard_no rfl rfl rfl rfl rfl ?_
      refine at_val rfl rfl rfl (r_pick rfl rfl rfl) ?_
      refine at_val rfl rfl rfl (r_move rfl) ?_
      refine at_guard_no rfl rfl rfl rfl rfl ?_
      refine at_guard_no rfl rfl rfl rfl rfl ?_
      refine at_guard_no rfl rfl rfl rfl rfl ?_
      refine at_guard_no rfl rfl rfl rfl rfl ?_
      refine at_val rfl rfl rfl (r_pick rfl rfl rfl) ?_
      refine at_nil ?_
      refine at_weak [(1, _), (48, _)] ⟨rfl, rfl, trivial⟩ ?_
      refine at_then_normal ?_
      refine at_cond_true rfl rfl ?_
      refine at_seq ?_
      refine at_region ?_
      refine at_val rfl rfl rfl (r_assign rfl) ?_
      refine at_nil ?_
      refine at_drop (H := _) .z ?_
      refine at_weak [(2, _)] ⟨rfl, trivial⟩ ?_
      refine at_then_normal ?_
      refine at_ret ?_
      refine at_then_ret ?_
      have K := of_some hF
      subst K
      exact at_return1 rfl rfl (fun w1 hw => ⟨rfl, hw.below⟩)
    · refine at_fix (g := 13) rfl h3 ?_
      refine at_guard_yes rfl rfl rfl ?_
      refine at_val rfl rfl rfl (r_fieldAddr (fo := 34) Try.underlying27 rfl rfl (fun w => ⟨_, Try.sizeOf3 w⟩) rfl) ?_
      refine at_guard_yes rfl rfl rfl ?_
      refine at_val rfl rfl rfl (r_load_cell Try.isAgg3 rfl (lens_cell0 (c := (cInt .i64)) (y := x0.f_Port) .z (c_api_Request_f_Port g0_ x0) rfl)) ?_
      refine at_guard_yes rfl rfl rfl ?_
      refine at_val rfl rfl rfl (r_ilss rfl rfl) ?_
      refine at_val rfl rfl rfl (r_pick rfl rfl rfl) ?_
      refine at_val rfl rfl rfl (r_move rfl) ?_
      rcases of_ite hF with ⟨h4, hF⟩ | ⟨h4, hF⟩
      · refine at_fix (g := 18) rfl h4 ?_
        refine at_guard_no rfl rfl rfl rfl rfl ?_
        refine at_guard_no rfl rfl rfl rfl rfl ?_
        refine at_guard_no rfl rfl rfl rfl rfl ?_
        refine at_val rfl rfl rfl (r_pick rfl rfl rfl) ?_
        refine at_val rfl rfl rfl (r_move rfl) ?_
        refine at_guard_no rfl rfl rfl rfl rfl ?_
        refine at_guard_no rfl rfl rfl rfl rfl ?_
        refine at_guard_no rfl rfl rfl rfl rfl ?_
        refine at_guard_no rfl rfl rfl rfl rfl ?_
        refine at_guard_undef rfl rfl rfl rfl ?_
        refine at_guard_undef rfl rfl rfl rfl ?_
        refine at_guard_undef rfl rfl rfl rfl ?_
        refine at_guard_no rfl rfl rfl rfl rfl ?_
        refine at_val rfl rfl rfl (r_pick rfl rfl rfl) ?_
        refine at_val rfl rfl rfl (r_move rfl) ?_
        refine at_guard_no rfl rfl rfl rfl rfl ?_
        refine at_guard_no rfl rfl rfl rfl rfl ?_
        refine at_guard_no rfl rfl rfl rfl rfl ?_
        refine at_guard_no rfl rfl rfl rfl rfl ?_
        refine at_guard_undef rfl rfl rfl rfl ?_
        refine at_guard_undef rfl rfl rfl rfl ?_
        refine at_guard_undef rfl rfl rfl rfl ?_
        refine at_guard_no rfl rfl rfl rfl rfl ?_
        refine at_val rfl rfl rfl (r_pick rfl rfl rfl) ?_
        refine at_val rfl rfl rfl (r_move rfl) ?_
        refine at_guard_no rfl rfl rfl rfl rfl ?_
        refine at_guard_no rfl rfl rfl rfl rfl ?_
        refine at_guard_no rfl rfl rfl rfl rfl ?_
        refine at_guard_no rfl rfl rfl rfl rfl ?_
        refine at_val rfl rfl rfl (r_pick rfl rfl rfl) ?_
        refine at_nil ?_
        refine at_weak [(1, _), (48, _)] ⟨rfl, rfl, trivial⟩ ?_
        refine at_then_normal ?_
        refine at_cond_true rfl rfl ?_
        refine at_seq ?_
        refine at_region ?_
        refine at_val rfl rfl rfl (r_assign rfl) ?_
        refine at_nil ?_
        refine at_drop (H := _) .z ?_
        refine at_weak [(2, _)] ⟨rfl, trivial⟩ ?_
        refine at_then_normal ?_
        refine at_ret ?_
        refine at_then_ret ?_
        have K := of_some hF
        subst K
        exact at_return1 rfl rfl (fun w1 hw => ⟨rfl, hw.below⟩)
      · refine at_fix (g := 18) rfl h4 ?_
        refine at_guard_yes rfl rfl rfl ?_
        refine at_val rfl rfl rfl (r_fieldAddr (fo := 34) Try.underlying27 rfl rfl (fun w => ⟨_, Try.sizeOf3 w⟩) rfl) ?_
        refine at_guard_yes rfl rfl rfl ?_
        refine at_val rfl rfl rfl (r_load_cell Try.isAgg3 rfl (lens_cell0 (c := (cInt .i64)) (y := x0.f_Port) .z (c_api_Request_f_Port g0_ x0) rfl)) ?_
        refine at_guard_yes rfl rfl rfl ?_
        refine at_val rfl rfl rfl (r_igtr rfl rfl) ?_
        refine at_val rfl rfl rfl (r_pick rfl rfl rfl) ?_
        refine at_val rfl rfl rfl (r_move rfl) ?_
        rcases of_ite hF with ⟨h5, hF⟩ | ⟨h5, hF⟩
        · refine at_fix (g := 23) rfl h5 ?_
          refine at_guard_no rfl rfl rfl rfl rfl ?_
          refine at_guard_no rfl rfl rfl rfl rfl ?_
          refine at_guard_no rfl rfl rfl rfl rfl ?_
          refine at_guard_no rfl rfl rfl rfl rfl ?_
          refine at_guard_undef rfl rfl rfl rfl ?_
          refine at_guard_undef rfl rfl rfl rfl ?_
          refine at_guard_undef rfl rfl rfl rfl ?_
          refine at_guard_no rfl rfl rfl rfl rfl ?_
          refine at_val rfl rfl rfl (r_pick rfl rfl rfl) ?_
          refine at_val rfl rfl rfl (r_move rfl) ?_
          refine at_guard_no rfl rfl rfl rfl rfl ?_
          refine at_guard_no rfl rfl rfl rfl rfl ?_
          refine at_guard_no rfl rfl rfl rfl rfl ?_
          refine at_guard_no rfl rfl rfl rfl rfl ?_
          refine at_guard_undef rfl rfl rfl rfl ?_
          refine at_guard_undef rfl rfl rfl rfl ?_
          refine at_guard_undef rfl rfl rfl rfl ?_
          refine at_guard_no rfl rfl rfl rfl rfl ?_
          refine at_val rfl rfl rfl (r_pick rfl rfl rfl) ?_
          refine at_val rfl rfl rfl (r_move rfl) ?_
          refine at_guard_no rfl rfl rfl rfl rfl ?_
          refine at_guard_no rfl rfl rfl rfl rfl ?_
          refine at_guard_no rfl rfl rfl rfl rfl ?_
          refine at_guard_no rfl rfl rfl rfl rfl ?_
          refine at_val rfl rfl rfl (r_pick rfl rfl rfl) ?_
          refine at_nil ?_
          refine at_weak [(1, _), (48, _)] ⟨rfl, rfl, trivial⟩ ?_
          refine at_then_normal ?_
          refine at_cond_true rfl rfl ?_
          refine at_seq ?_
          refine at_region ?_
          refine at_val rfl rfl rfl (r_assign rfl) ?_
          refine at_nil ?_
          refine at_drop (H := _) .z ?_
          refine at_weak [(2, _)] ⟨rfl, trivial⟩ ?_
          refine at_then_normal ?_
          refine at_ret ?_
          refine at_then_ret ?_
          have K := of_some hF
          subst K
          exact at_return1 rfl rfl (fun w1 hw => ⟨rfl, hw.below⟩)
        · refine at_fix (g := 23) rfl h5 ?_
          refine at_guard_yes rfl rfl rfl ?_
          refine at_val rfl rfl rfl (r_fieldAddr (fo := 33) Try.underlying27 rfl rfl (fun w => ⟨_, Try.sizeOf4 w⟩) rfl) ?_
          refine at_guard_yes rfl rfl rfl ?_
          refine at_val rfl rfl rfl (r_load_cell Try.isAgg4 rfl (lens_cell0 (c := cBool) (y := x0.f_HasPort) .z (c_api_Request_f_HasPort g0_ x0) rfl)) ?_
          refine at_guard_yes rfl rfl rfl ?_
          refine at_val rfl rfl rfl (r_not rfl) ?_
          refine at_guard_yes rfl rfl rfl ?_
          refine at_val rfl rfl rfl (r_move rfl) ?_
          rcases of_ite hF with ⟨h6, hF⟩ | ⟨h6, hF⟩
          · refine at_fix (g := 27) rfl h6 ?_
            refine at_guard_yes rfl rfl rfl ?_
            refine at_val rfl rfl rfl (r_fieldAddr (fo := 34) Try.underlying27 rfl rfl (fun w => ⟨_, Try.sizeOf3 w⟩) rfl) ?_
            refine at_guard_yes rfl rfl rfl ?_
            refine at_val rfl rfl rfl (r_load_cell Try.isAgg3 rfl (lens_cell0 (c := (cInt .i64)) (y := x0.f_Port) .z (c_api_Request_f_Port g0_ x0) rfl)) ?_
            refine at_guard_yes rfl rfl rfl ?_
            refine at_val rfl rfl rfl (r_ineq rfl rfl) ?_
            refine at_guard_yes rfl rfl rfl ?_
            refine at_val rfl rfl rfl (r_pick rfl rfl rfl) ?_
            refine at_val rfl rfl rfl (r_pick rfl rfl rfl) ?_
            refine at_val rfl rfl rfl (r_move rfl) ?_
            rcases of_ite hF with ⟨h7, hF⟩ | ⟨h7, hF⟩
            · refine at_fix (g := 33) rfl h7 ?_
              refine at_guard_no rfl rfl rfl rfl rfl ?_
              refine at_guard_no rfl rfl rfl rfl rfl ?_
              refine at_guard_no rfl rfl rfl rfl rfl ?_
              refine at_guard_no rfl rfl rfl rfl rfl ?_
              refine at_guard_undef rfl rfl rfl rfl ?_
              refine at_guard_undef rfl rfl rfl rfl ?_
              refine at_guard_undef rfl rfl rfl rfl ?_
              refine at_guard_no rfl rfl rfl rfl rfl ?_
              refine at_val rfl rfl rfl (r_pick rfl rfl rfl) ?_
              refine at_val rfl rfl rfl (r_move rfl) ?_
              refine at_guard_no rfl rfl rfl rfl rfl ?_
              refine at_guard_no rfl rfl rfl rfl rfl ?_
              refine at_guard_no rfl rfl rfl rfl rfl ?_
              refine at_guard_no rfl rfl rfl rfl rfl ?_
              refine at_val rfl rfl rfl (r_pick rfl rfl rfl) ?_
              refine at_nil ?_
              refine at_weak [(1, _), (48, _)] ⟨rfl, rfl, trivial⟩ ?_
              refine at_then_normal ?_
              refine at_cond_true rfl rfl ?_
              refine at_seq ?_
              refine at_region ?_
              refine at_val rfl rfl rfl (r_assign rfl) ?_
              refine at_nil ?_
              refine at_drop (H := _) .z ?_
              refine at_weak [(2, _)] ⟨rfl, trivial⟩ ?_
              refine at_then_normal ?_
              refine at_ret ?_
              refine at_then_ret ?_
              have K := of_some hF
              subst K
              exact at_return1 rfl rfl (fun w1 hw => ⟨rfl, hw.below⟩)
            · refine at_fix (g := 33) rfl h7 ?_
              refine at_guard_yes rfl rfl rfl ?_
              refine at_val rfl rfl rfl (r_fieldAddr (fo := 35) Try.underlying27 rfl rfl (fun w => ⟨_, Try.sizeOf4 w⟩) rfl) ?_
              refine at_guard_yes rfl rfl rfl ?_
              refine at_val rfl rfl rfl (r_load_cell Try.isAgg4 rfl (lens_cell0 (c := cBool) (y := x0.f_HasMark) .z (c_api_Request_f_HasMark g0_ x0) rfl)) ?_
              refine at_guard_yes rfl rfl rfl ?_
              refine at_val rfl rfl rfl (r_not rfl) ?_
              refine at_guard_yes rfl rfl rfl ?_
              refine at_val rfl rfl rfl (r_move rfl) ?_
              rcases of_ite hF with ⟨h8, hF⟩ | ⟨h8, hF⟩
              · refine at_fix (g := 37) rfl h8 ?_
                refine at_guard_yes rfl rfl rfl ?_
                refine at_val rfl rfl rfl (r_fieldAddr (fo := 36) Try.underlying27 rfl rfl (fun w => ⟨_, Try.sizeOf24 w⟩) rfl) ?_
                refine at_guard_yes rfl rfl rfl ?_
                refine at_val rfl rfl rfl (r_load_cell Try.isAgg24 rfl (lens_cell0 (c := (cInt .u32)) (y := x0.f_Mark) .z (c_api_Request_f_Mark g0_ x0) rfl)) ?_
                refine at_guard_yes rfl rfl rfl ?_
                refine at_val rfl rfl rfl (r_ineq rfl rfl) ?_
                refine at_guard_yes rfl rfl rfl ?_
                refine at_val rfl rfl rfl (r_pick rfl rfl rfl) ?_
                refine at_val rfl rfl rfl (r_pick rfl rfl rfl) ?_
                refine at_val rfl rfl rfl (r_move rfl) ?_
                rcases of_ite hF with ⟨h9, hF⟩ | ⟨h9, hF⟩
                · refine at_fix (g := 43) rfl h9 ?_
                  refine at_guard_no rfl rfl rfl rfl rfl ?_
                  refine at_guard_no rfl rfl rfl rfl rfl ?_
                  refine at_guard_no rfl rfl rfl rfl rfl ?_
                  refine at_guard_no rfl rfl rfl rfl rfl ?_
                  refine at_val rfl rfl rfl (r_pick rfl rfl rfl) ?_
                  refine at_nil ?_
                  refine at_weak [(1, _), (48, _)] ⟨rfl, rfl, trivial⟩ ?_
                  refine at_then_normal ?_
                  refine at_cond_true rfl rfl ?_
                  refine at_seq ?_
                  refine at_region ?_
                  refine at_val rfl rfl rfl (r_assign rfl) ?_
                  refine at_nil ?_
                  refine at_drop (H := _) .z ?_
                  refine at_weak [(2, _)] ⟨rfl, trivial⟩ ?_
                  refine at_then_normal ?_
                  refine at_ret ?_
                  refine at_then_ret ?_
                  have K := of_some hF
                  subst K
                  exact at_return1 rfl rfl (fun w1 hw => ⟨rfl, hw.below⟩)
                · refine at_fix (g := 43) rfl h9 ?_
                  refine at_guard_yes rfl rfl rfl ?_
                  refine at_val rfl rfl rfl (r_fieldAddr (fo := 38) Try.underlying27 rfl rfl (fun w => ⟨_, Try.sizeOf25 w⟩) rfl) ?_
                  refine at_guard_yes rfl rfl rfl ?_
                  refine at_val rfl rfl rfl (r_load_cell Try.isAgg25 rfl (lens_cell0 (c := cHd) (y := ⟨g0_.1, List.length x0.f_Peers, g0_.2⟩) .z (c_api_Request_f_Peers g0_ x0) rfl)) ?_
                  refine at_guard_yes rfl rfl rfl ?_
                  refine at_val rfl rfl rfl (r_len_sl Try.underlying25 rfl) ?_
                  refine at_guard_yes rfl rfl rfl ?_
                  refine at_val rfl rfl rfl (r_igtr rfl rfl) ?_
                  refine at_val rfl rfl rfl (r_pick rfl rfl rfl) ?_
                  refine at_nil ?_
                  refine at_weak [(1, _), (48, _)] ⟨rfl, rfl, trivial⟩ ?_
                  refine at_then_normal ?_
                  rcases of_ite hF with ⟨h10, hF⟩ | ⟨h10, hF⟩
                  · refine at_cond_true rfl h10 ?_
                    refine at_seq ?_
                    refine at_region ?_
                    refine at_val rfl rfl rfl (r_assign rfl) ?_
                    refine at_nil ?_
                    refine at_drop (H := _) .z ?_
                    refine at_weak [(2, _)] ⟨rfl, trivial⟩ ?_
                    refine at_then_normal ?_
                    refine at_ret ?_
                    refine at_then_ret ?_
                    have K := of_some hF
                    subst K
                    exact at_return1 rfl rfl (fun w1 hw => ⟨rfl, hw.below⟩)
                  · refine at_cond_false rfl h10 ?_
                    refine at_skip ?_
                    refine at_then_normal ?_
                    refine at_seq ?_
                    refine at_seq ?_
                    refine at_region ?_
                    refine at_val rfl rfl rfl (r_assign rfl) ?_
                    refine at_nil ?_
                    refine at_weak [(1, _), (3, _)] ⟨rfl, rfl, trivial⟩ ?_
                    refine at_then_normal ?_
                    refine at_block ?_
                    obtain ⟨q11, hq11, hF⟩ := of_bindM hF
                    refine at_weak [(1, _), (3, _)] ⟨rfl, rfl, trivial⟩ ?_
                    refine at_loop_r (B := 0) (r := r) (q := q11) (A := fun (_ : Unit) Y => At 63 [] (Wd w []) Y) ?_ ?_
                    · intro K
                      refine crawlwayref32_Right.l0.partial_correctness x0 (motive := fun i12 x => KR (fun (_ : Unit) Y => At 63 [] (Wd w []) Y) _ 0 r x → Round (fun Y => At 63 [(1, .pointer (some ⟨b1, 0, none⟩)), (3, .int .i64 i12)] (Wd w [cellsE b1 (Cd.cs c_api_Request (g0_, x0)) 27]) Y) _ _ _) ?_ _ _ hq11 K
                      · clear K hF
                        intro g ih i12 x hF K
                        refine at_round ?_
                        refine at_seq ?_
                        refine at_seq ?_
                        refine at_region ?_
                        refine at_val rfl rfl rfl (r_move rfl) ?_
                        refine at_val rfl rfl rfl (r_fieldAddr (fo := 38) Try.underlying27 rfl rfl (fun w => ⟨_, Try.sizeOf25 w⟩) rfl) ?_
                        refine at_val rfl rfl rfl (r_load_cell Try.isAgg25 rfl (lens_cell0 (c := cHd) (y := ⟨g0_.1, List.length x0.f_Peers, g0_.2⟩) .z (c_api_Request_f_Peers g0_ x0) rfl)) ?_
                        refine at_val rfl rfl rfl (r_len_sl Try.underlying25 rfl) ?_
                        refine at_val rfl rfl rfl (r_ilss rfl rfl) ?_
                        refine at_nil ?_
                        refine at_weak [(1, _), (3, _), (53, _)] ⟨rfl, rfl, rfl, trivial⟩ ?_
                        refine at_then_normal ?_
                        rcases of_ite hF with ⟨h13, hF⟩ | ⟨h13, hF⟩
                        · refine at_cond_true rfl h13 ?_
                          refine at_skip ?_
                          refine at_then_normal ?_
                          refine at_seq ?_
                          refine at_block ?_
                          refine at_seq ?_
                          refine at_region ?_
                          refine at_val rfl rfl rfl (r_fieldAddr (fo := 38) Try.underlying27 rfl rfl (fun w => ⟨_, Try.sizeOf25 w⟩) rfl) ?_
                          refine at_val rfl rfl rfl (r_load_cell Try.isAgg25 rfl (lens_cell0 (c := cHd) (y := ⟨g0_.1, List.length x0.f_Peers, g0_.2⟩) .z (c_api_Request_f_Peers g0_ x0) rfl)) ?_
                          refine at_val rfl rfl rfl (r_move rfl) ?_
                          obtain ⟨h14, hF⟩ := of_guard hF
                          obtain ⟨zs18, hz19, hr20, hn21⟩ := hn0
                          obtain ⟨b16, o17, hp15⟩ := row_ptr hr20 (zidx hz19 h14)
                          obtain ⟨g22, hg23⟩ := zget hz19 i12
                          refine at_val rfl rfl rfl (r_idx Try.underlying25 Try.sizeOf37 rfl rfl h14 hp15) ?_
                          refine at_val rfl rfl rfl (r_load_aggc (c := c_api_PeerChange) (z := (g22, lget x0.f_Peers i12)) Try.isAgg37 Try.sizeOf37 rfl (ncell (fun _ h => h.below) hr20 (zidx hz19 h14) hp15 hg23)) ?_
                          obtain ⟨t24, ht24, hF⟩ := of_bindM hF
                          refine at_callB Try.func16 rfl (by kernel_rfl) rfl rfl (fun w hw => crawlwayref32_RightPeer_ok _ _ _ ht24 w (N_api_PeerChange.below (nz hg23 hn21 (zidx hz19 h14)) hw.below)) ?_
                          refine at_val rfl rfl rfl (r_not rfl) ?_
                          refine at_nil ?_
                          refine at_weak [(1, _), (3, _), (62, _)] ⟨rfl, rfl, rfl, trivial⟩ ?_
                          refine at_then_normal ?_
                          rcases of_ite hF with ⟨h25, hF⟩ | ⟨h25, hF⟩
                          · refine at_cond_true rfl h25 ?_
                            refine at_seq ?_
                            refine at_region ?_
                            refine at_val rfl rfl rfl (r_assign rfl) ?_
                            refine at_nil ?_
                            refine at_drop (H := _) .z ?_
                            refine at_weak [(2, _)] ⟨rfl, trivial⟩ ?_
                            refine at_then_normal ?_
                            refine at_ret ?_
                            refine at_blk_ret (at_then_ret (at_then_ret (at_blk_ret (at_then_ret ?_))))
                            obtain rfl := of_some hF
                            subst K
                            exact at_return1 rfl rfl (fun w1 hw => ⟨rfl, hw.below⟩)
                          · refine at_cond_false rfl h25 ?_
                            refine at_skip ?_
                            refine at_blk_normal (at_then_normal ?_)
                            refine at_region ?_
                            refine at_val rfl rfl rfl (r_move rfl) ?_
                            refine at_val rfl rfl rfl (r_iadd rfl rfl) ?_
                            refine at_val rfl rfl rfl (r_assign rfl) ?_
                            refine at_nil ?_
                            refine at_weak [(1, _), (3, _)] ⟨rfl, rfl, trivial⟩ ?_
                            refine at_then_normal ?_
                            exact at_weak_k (ih _ _ hF K) ⟨rfl, rfl, trivial⟩
                        · refine at_cond_false rfl h13 ?_
                          refine at_exit ?_
                          refine at_then_exit (at_then_exit ?_)
                          refine at_drop (H := _) .z ?_
                          obtain rfl := of_some hF
                          exact at_weak_k K trivial
                    · cases q11 with
                      | ret r' => exact of_some hF
                      | nx sq11 =>
                        skip
                        refine at_blk_same ?_
                        refine at_then_normal ?_
                        refine at_seq ?_
                        refine at_region ?_
                        refine at_val rfl rfl rfl (r_assign rfl) ?_
                        refine at_nil ?_
                        refine at_weak [(2, _)] ⟨rfl, trivial⟩ ?_
                        refine at_then_normal ?_
                        refine at_ret ?_
                        have K := of_some hF
                        subst K
                        exact at_return1 rfl rfl (fun w1 hw => ⟨rfl, hw.below⟩)
              · refine at_fix (g := 37) rfl h8 ?_
                refine at_guard_no rfl rfl rfl rfl rfl ?_
                refine at_guard_no rfl rfl rfl rfl rfl ?_
                refine at_guard_no rfl rfl rfl rfl rfl ?_
                refine at_guard_yes rfl rfl rfl ?_
                refine at_val rfl rfl rfl (r_pick rfl rfl rfl) ?_
                refine at_val rfl rfl rfl (r_pick rfl rfl rfl) ?_
                refine at_val rfl rfl rfl (r_move rfl) ?_
                refine at_guard_yes rfl rfl rfl ?_
                refine at_val rfl rfl rfl (r_fieldAddr (fo := 38) Try.underlying27 rfl rfl (fun w => ⟨_, Try.sizeOf25 w⟩) rfl) ?_
                refine at_guard_yes rfl rfl rfl ?_
                refine at_val rfl rfl rfl (r_load_cell Try.isAgg25 rfl (lens_cell0 (c := cHd) (y := ⟨g0_.1, List.length x0.f_Peers, g0_.2⟩) .z (c_api_Request_f_Peers g0_ x0) rfl)) ?_
                refine at_guard_yes rfl rfl rfl ?_
                refine at_val rfl rfl rfl (r_len_sl Try.underlying25 rfl) ?_
                refine at_guard_yes rfl rfl rfl ?_
                refine at_val rfl rfl rfl (r_igtr rfl rfl) ?_
                refine at_val rfl rfl rfl (r_pick rfl rfl rfl) ?_
                refine at_nil ?_
                refine at_weak [(1, _), (48, _)] ⟨rfl, rfl, trivial⟩ ?_
                refine at_then_normal ?_
                rcases of_ite hF with ⟨h26, hF⟩ | ⟨h26, hF⟩
                · refine at_cond_true rfl h26 ?_
                  refine at_seq ?_
                  refine at_region ?_
                  refine at_val rfl rfl rfl (r_assign rfl) ?_
                  refine at_nil ?_
                  refine at_drop (H := _) .z ?_
                  refine at_weak [(2, _)] ⟨rfl, trivial⟩ ?_
                  refine at_then_normal ?_
                  refine at_ret ?_
                  refine at_then_ret ?_
                  have K := of_some hF
                  subst K
                  exact at_return1 rfl rfl (fun w1 hw => ⟨rfl, hw.below⟩)
                · refine at_cond_false rfl h26 ?_
                  refine at_skip ?_
                  refine at_then_normal ?_
                  refine at_seq ?_
                  refine at_seq ?_
                  refine at_region ?_
                  refine at_val rfl rfl rfl (r_assign rfl) ?_
                  refine at_nil ?_
                  refine at_weak [(1, _), (3, _)] ⟨rfl, rfl, trivial⟩ ?_
                  refine at_then_normal ?_
                  refine at_block ?_
                  obtain ⟨q27, hq27, hF⟩ := of_bindM hF
                  refine at_weak [(1, _), (3, _)] ⟨rfl, rfl, trivial⟩ ?_
                  refine at_loop_r (B := 0) (r := r) (q := q27) (A := fun (_ : Unit) Y => At 63 [] (Wd w []) Y) ?_ ?_
                  · intro K
                    refine crawlwayref32_Right.l1.partial_correctness x0 (motive := fun i28 x => KR (fun (_ : Unit) Y => At 63 [] (Wd w []) Y) _ 0 r x → Round (fun Y => At 63 [(1, .pointer (some ⟨b1, 0, none⟩)), (3, .int .i64 i28)] (Wd w [cellsE b1 (Cd.cs c_api_Request (g0_, x0)) 27]) Y) _ _ _) ?_ _ _ hq27 K
                    · clear K hF
                      intro g ih i28 x hF K
                      refine at_round ?_
                      refine at_seq ?_
                      refine at_seq ?_
                      refine at_region ?_
                      refine at_val rfl rfl rfl (r_move rfl) ?_
                      refine at_val rfl rfl rfl (r_fieldAddr (fo := 38) Try.underlying27 rfl rfl (fun w => ⟨_, Try.sizeOf25 w⟩) rfl) ?_
                      refine at_val rfl rfl rfl (r_load_cell Try.isAgg25 rfl (lens_cell0 (c := cHd) (y := ⟨g0_.1, List.length x0.f_Peers, g0_.2⟩) .z (c_api_Request_f_Peers g0_ x0) rfl)) ?_
                      refine at_val rfl rfl rfl (r_len_sl Try.underlying25 rfl) ?_
                      refine at_val rfl rfl rfl (r_ilss rfl rfl) ?_
                      refine at_nil ?_
                      refine at_weak [(1, _), (3, _), (53, _)] ⟨rfl, rfl, rfl, trivial⟩ ?_
                      refine at_then_normal ?_
                      rcases of_ite hF with ⟨h29, hF⟩ | ⟨h29, hF⟩
                      · refine at_cond_true rfl h29 ?_
                        refine at_skip ?_
                        refine at_then_normal ?_
                        refine at_seq ?_
                        refine at_block ?_
                        refine at_seq ?_
                        refine at_region ?_
                        refine at_val rfl rfl rfl (r_fieldAddr (fo := 38) Try.underlying27 rfl rfl (fun w => ⟨_, Try.sizeOf25 w⟩) rfl) ?_
                        refine at_val rfl rfl rfl (r_load_cell Try.isAgg25 rfl (lens_cell0 (c := cHd) (y := ⟨g0_.1, List.length x0.f_Peers, g0_.2⟩) .z (c_api_Request_f_Peers g0_ x0) rfl)) ?_
                        refine at_val rfl rfl rfl (r_move rfl) ?_
                        obtain ⟨h30, hF⟩ := of_guard hF
                        obtain ⟨zs34, hz35, hr36, hn37⟩ := hn0
                        obtain ⟨b32, o33, hp31⟩ := row_ptr hr36 (zidx hz35 h30)
                        obtain ⟨g38, hg39⟩ := zget hz35 i28
                        refine at_val rfl rfl rfl (r_idx Try.underlying25 Try.sizeOf37 rfl rfl h30 hp31) ?_
                        refine at_val rfl rfl rfl (r_load_aggc (c := c_api_PeerChange) (z := (g38, lget x0.f_Peers i28)) Try.isAgg37 Try.sizeOf37 rfl (ncell (fun _ h => h.below) hr36 (zidx hz35 h30) hp31 hg39)) ?_
                        obtain ⟨t40, ht40, hF⟩ := of_bindM hF
                        refine at_callB Try.func16 rfl (by kernel_rfl) rfl rfl (fun w hw => crawlwayref32_RightPeer_ok _ _ _ ht40 w (N_api_PeerChange.below (nz hg39 hn37 (zidx hz35 h30)) hw.below)) ?_
                        refine at_val rfl rfl rfl (r_not rfl) ?_
                        refine at_nil ?_
                        refine at_weak [(1, _), (3, _), (62, _)] ⟨rfl, rfl, rfl, trivial⟩ ?_
                        refine at_then_normal ?_
                        rcases of_ite hF with ⟨h41, hF⟩ | ⟨h41, hF⟩
                        · refine at_cond_true rfl h41 ?_
                          refine at_seq ?_
                          refine at_region ?_
                          refine at_val rfl rfl rfl (r_assign rfl) ?_
                          refine at_nil ?_
                          refine at_drop (H := _) .z ?_
                          refine at_weak [(2, _)] ⟨rfl, trivial⟩ ?_
                          refine at_then_normal ?_
                          refine at_ret ?_
                          refine at_blk_ret (at_then_ret (at_then_ret (at_blk_ret (at_then_ret ?_))))
                          obtain rfl := of_some hF
                          subst K
                          exact at_return1 rfl rfl (fun w1 hw => ⟨rfl, hw.below⟩)
                        · refine at_cond_false rfl h41 ?_
                          refine at_skip ?_
                          refine at_blk_normal (at_then_normal ?_)
                          refine at_region ?_
                          refine at_val rfl rfl rfl (r_move rfl) ?_
                          refine at_val rfl rfl rfl (r_iadd rfl rfl) ?_
                          refine at_val rfl rfl rfl (r_assign rfl) ?_
                          refine at_nil ?_
                          refine at_weak [(1, _), (3, _)] ⟨rfl, rfl, trivial⟩ ?_
                          refine at_then_normal ?_
                          exact at_weak_k (ih _ _ hF K) ⟨rfl, rfl, trivial⟩
                      · refine at_cond_false rfl h29 ?_
                        refine at_exit ?_
                        refine at_then_exit (at_then_exit ?_)
                        refine at_drop (H := _) .z ?_
                        obtain rfl := of_some hF
                        exact at_weak_k K trivial
                  · cases q27 with
                    | ret r' => exact of_some hF
                    | nx sq27 =>
                      skip
                      refine at_blk_same ?_
                      refine at_then_normal ?_
                      refine at_seq ?_
                      refine at_region ?_
                      refine at_val rfl rfl rfl (r_assign rfl) ?_
                      refine at_nil ?_
                      refine at_weak [(2, _)] ⟨rfl, trivial⟩ ?_
                      refine at_then_normal ?_
                      refine at_ret ?_
                      have K := of_some hF
                      subst K
                      exact at_return1 rfl rfl (fun w1 hw => ⟨rfl, hw.below⟩)
          · refine at_fix (g := 27) rfl h6 ?_
            refine at_guard_no rfl rfl rfl rfl rfl ?_
            refine at_guard_no rfl rfl rfl rfl rfl ?_
            refine at_guard_no rfl rfl rfl rfl rfl ?_
            refine at_guard_yes rfl rfl rfl ?_
            refine at_val rfl rfl rfl (r_pick rfl rfl rfl) ?_
            refine at_val rfl rfl rfl (r_pick rfl rfl rfl) ?_
            refine at_val rfl rfl rfl (r_move rfl) ?_
            refine at_guard_yes rfl rfl rfl ?_
            refine at_val rfl rfl rfl (r_fieldAddr (fo := 35) Try.underlying27 rfl rfl (fun w => ⟨_, Try.sizeOf4 w⟩) rfl) ?_
            refine at_guard_yes rfl rfl rfl ?_
            refine at_val rfl rfl rfl (r_load_cell Try.isAgg4 rfl (lens_cell0 (c := cBool) (y := x0.f_HasMark) .z (c_api_Request_f_HasMark g0_ x0) rfl)) ?_
            refine at_guard_yes rfl rfl rfl ?_
            refine at_val rfl rfl rfl (r_not rfl) ?_
            refine at_guard_yes rfl rfl rfl ?_
            refine at_val rfl rfl rfl (r_move rfl) ?_
            rcases of_ite hF with ⟨h42, hF⟩ | ⟨h42, hF⟩
            · refine at_fix (g := 37) rfl h42 ?_
              refine at_guard_yes rfl rfl rfl ?_
              refine at_val rfl rfl rfl (r_fieldAddr (fo := 36) Try.underlying27 rfl rfl (fun w => ⟨_, Try.sizeOf24 w⟩) rfl) ?_
              refine at_guard_yes rfl rfl rfl ?_
              refine at_val rfl rfl rfl (r_load_cell Try.isAgg24 rfl (lens_cell0 (c := (cInt .u32)) (y := x0.f_Mark) .z (c_api_Request_f_Mark g0_ x0) rfl)) ?_
              refine at_guard_yes rfl rfl rfl ?_
              refine at_val rfl rfl rfl (r_ineq rfl rfl) ?_
              refine at_guard_yes rfl rfl rfl ?_
              refine at_val rfl rfl rfl (r_pick rfl rfl rfl) ?_
              refine at_val rfl rfl rfl (r_pick rfl rfl rfl) ?_
              refine at_val rfl rfl rfl (r_move rfl) ?_
              rcases of_ite hF with ⟨h43, hF⟩ | ⟨h43, hF⟩
              · refine at_fix (g := 43) rfl h43 ?_
                refine at_guard_no rfl rfl rfl rfl rfl ?_
                refine at_guard_no rfl rfl rfl rfl rfl ?_
                refine at_guard_no rfl rfl rfl rfl rfl ?_
                refine at_guard_no rfl rfl rfl rfl rfl ?_
                refine at_val rfl rfl rfl (r_pick rfl rfl rfl) ?_
                refine at_nil ?_
                refine at_weak [(1, _), (48, _)] ⟨rfl, rfl, trivial⟩ ?_
                refine at_then_normal ?_
                refine at_cond_true rfl rfl ?_
                refine at_seq ?_
                refine at_region ?_
                refine at_val rfl rfl rfl (r_assign rfl) ?_
                refine at_nil ?_
                refine at_drop (H := _) .z ?_
                refine at_weak [(2, _)] ⟨rfl, trivial⟩ ?_
                refine at_then_normal ?_
                refine at_ret ?_
                refine at_then_ret ?_
                have K := of_some hF
                subst K
                exact at_return1 rfl rfl (fun w1 hw => ⟨rfl, hw.below⟩)
              · refine at_fix (g := 43) rfl h43 ?_
                refine at_guard_yes rfl rfl rfl ?_
                refine at_val rfl rfl rfl (r_fieldAddr (fo := 38) Try.underlying27 rfl rfl (fun w => ⟨_, Try.sizeOf25 w⟩) rfl) ?_
                refine at_guard_yes rfl rfl rfl ?_
                refine at_val rfl rfl rfl (r_load_cell Try.isAgg25 rfl (lens_cell0 (c := cHd) (y := ⟨g0_.1, List.length x0.f_Peers, g0_.2⟩) .z (c_api_Request_f_Peers g0_ x0) rfl)) ?_
                refine at_guard_yes rfl rfl rfl ?_
                refine at_val rfl rfl rfl (r_len_sl Try.underlying25 rfl) ?_
                refine at_guard_yes rfl rfl rfl ?_
                refine at_val rfl rfl rfl (r_igtr rfl rfl) ?_
                refine at_val rfl rfl rfl (r_pick rfl rfl rfl) ?_
                refine at_nil ?_
                refine at_weak [(1, _), (48, _)] ⟨rfl, rfl, trivial⟩ ?_
                refine at_then_normal ?_
                rcases of_ite hF with ⟨h44, hF⟩ | ⟨h44, hF⟩
                · refine at_cond_true rfl h44 ?_
                  refine at_seq ?_
                  refine at_region ?_
                  refine at_val rfl rfl rfl (r_assign rfl) ?_
                  refine at_nil ?_
                  refine at_drop (H := _) .z ?_
                  refine at_weak [(2, _)] ⟨rfl, trivial⟩ ?_
                  refine at_then_normal ?_
                  refine at_ret ?_
                  refine at_then_ret ?_
                  have K := of_some hF
                  subst K
                  exact at_return1 rfl rfl (fun w1 hw => ⟨rfl, hw.below⟩)
                · refine at_cond_false rfl h44 ?_
                  refine at_skip ?_
                  refine at_then_normal ?_
                  refine at_seq ?_
                  refine at_seq ?_
                  refine at_region ?_
                  refine at_val rfl rfl rfl (r_assign rfl) ?_
                  refine at_nil ?_
                  refine at_weak [(1, _), (3, _)] ⟨rfl, rfl, trivial⟩ ?_
                  refine at_then_normal ?_
                  refine at_block ?_
                  obtain ⟨q45, hq45, hF⟩ := of_bindM hF
                  refine at_weak [(1, _), (3, _)] ⟨rfl, rfl, trivial⟩ ?_
                  refine at_loop_r (B := 0) (r := r) (q := q45) (A := fun (_ : Unit) Y => At 63 [] (Wd w []) Y) ?_ ?_
                  · intro K
                    refine crawlwayref32_Right.l2.partial_correctness x0 (motive := fun i46 x => KR (fun (_ : Unit) Y => At 63 [] (Wd w []) Y) _ 0 r x → Round (fun Y => At 63 [(1, .pointer (some ⟨b1, 0, none⟩)), (3, .int .i64 i46)] (Wd w [cellsE b1 (Cd.cs c_api_Request (g0_, x0)) 27]) Y) _ _ _) ?_ _ _ hq45 K
                    · clear K hF
                      intro g ih i46 x hF K
                      refine at_round ?_
                      refine at_seq ?_
                      refine at_seq ?_
                      refine at_region ?_
                      refine at_val rfl rfl rfl (r_move rfl) ?_
                      refine at_val rfl rfl rfl (r_fieldAddr (fo := 38) Try.underlying27 rfl rfl (fun w => ⟨_, Try.sizeOf25 w⟩) rfl) ?_
                      refine at_val rfl rfl rfl (r_load_cell Try.isAgg25 rfl (lens_cell0 (c := cHd) (y := ⟨g0_.1, List.length x0.f_Peers, g0_.2⟩) .z (c_api_Request_f_Peers g0_ x0) rfl)) ?_
                      refine at_val rfl rfl rfl (r_len_sl Try.underlying25 rfl) ?_
                      refine at_val rfl rfl rfl (r_ilss rfl rfl) ?_
                      refine at_nil ?_
                      refine at_weak [(1, _), (3, _), (53, _)] ⟨rfl, rfl, rfl, trivial⟩ ?_
                      refine at_then_normal ?_
                      rcases of_ite hF with ⟨h47, hF⟩ | ⟨h47, hF⟩
                      · refine at_cond_true rfl h47 ?_
                        refine at_skip ?_
                        refine at_then_normal ?_
                        refine at_seq ?_
                        refine at_block ?_
                        refine at_seq ?_
                        refine at_region ?_
                        refine at_val rfl rfl rfl (r_fieldAddr (fo := 38) Try.underlying27 rfl rfl (fun w => ⟨_, Try.sizeOf25 w⟩) rfl) ?_
                        refine at_val rfl rfl rfl (r_load_cell Try.isAgg25 rfl (lens_cell0 (c := cHd) (y := ⟨g0_.1, List.length x0.f_Peers, g0_.2⟩) .z (c_api_Request_f_Peers g0_ x0) rfl)) ?_
                        refine at_val rfl rfl rfl (r_move rfl) ?_
                        obtain ⟨h48, hF⟩ := of_guard hF
                        obtain ⟨zs52, hz53, hr54, hn55⟩ := hn0
                        obtain ⟨b50, o51, hp49⟩ := row_ptr hr54 (zidx hz53 h48)
                        obtain ⟨g56, hg57⟩ := zget hz53 i46
                        refine at_val rfl rfl rfl (r_idx Try.underlying25 Try.sizeOf37 rfl rfl h48 hp49) ?_
                        refine at_val rfl rfl rfl (r_load_aggc (c := c_api_PeerChange) (z := (g56, lget x0.f_Peers i46)) Try.isAgg37 Try.sizeOf37 rfl (ncell (fun _ h => h.below) hr54 (zidx hz53 h48) hp49 hg57)) ?_
                        obtain ⟨t58, ht58, hF⟩ := of_bindM hF
                        refine at_callB Try.func16 rfl (by kernel_rfl) rfl rfl (fun w hw => crawlwayref32_RightPeer_ok _ _ _ ht58 w (N_api_PeerChange.below (nz hg57 hn55 (zidx hz53 h48)) hw.below)) ?_
                        refine at_val rfl rfl rfl (r_not rfl) ?_
                        refine at_nil ?_
                        refine at_weak [(1, _), (3, _), (62, _)] ⟨rfl, rfl, rfl, trivial⟩ ?_
                        refine at_then_normal ?_
                        rcases of_ite hF with ⟨h59, hF⟩ | ⟨h59, hF⟩
                        · refine at_cond_true rfl h59 ?_
                          refine at_seq ?_
                          refine at_region ?_
                          refine at_val rfl rfl rfl (r_assign rfl) ?_
                          refine at_nil ?_
                          refine at_drop (H := _) .z ?_
                          refine at_weak [(2, _)] ⟨rfl, trivial⟩ ?_
                          refine at_then_normal ?_
                          refine at_ret ?_
                          refine at_blk_ret (at_then_ret (at_then_ret (at_blk_ret (at_then_ret ?_))))
                          obtain rfl := of_some hF
                          subst K
                          exact at_return1 rfl rfl (fun w1 hw => ⟨rfl, hw.below⟩)
                        · refine at_cond_false rfl h59 ?_
                          refine at_skip ?_
                          refine at_blk_normal (at_then_normal ?_)
                          refine at_region ?_
                          refine at_val rfl rfl rfl (r_move rfl) ?_
                          refine at_val rfl rfl rfl (r_iadd rfl rfl) ?_
                          refine at_val rfl rfl rfl (r_assign rfl) ?_
                          refine at_nil ?_
                          refine at_weak [(1, _), (3, _)] ⟨rfl, rfl, trivial⟩ ?_
                          refine at_then_normal ?_
                          exact at_weak_k (ih _ _ hF K) ⟨rfl, rfl, trivial⟩
                      · refine at_cond_false rfl h47 ?_
                        refine at_exit ?_
                        refine at_then_exit (at_then_exit ?_)
                        refine at_drop (H := _) .z ?_
                        obtain rfl := of_some hF
                        exact at_weak_k K trivial
                  · cases q45 with
                    | ret r' => exact of_some hF
                    | nx sq45 =>
                      skip
                      refine at_blk_same ?_
                      refine at_then_normal ?_
                      refine at_seq ?_
                      refine at_region ?_
                      refine at_val rfl rfl rfl (r_assign rfl) ?_
                      refine at_nil ?_
                      refine at_weak [(2, _)] ⟨rfl, trivial⟩ ?_
                      refine at_then_normal ?_
                      refine at_ret ?_
                      have K := of_some hF
                      subst K
                      exact at_return1 rfl rfl (fun w1 hw => ⟨rfl, hw.below⟩)
            · refine at_fix (g := 37) rfl h42 ?_
              refine at_guard_no rfl rfl rfl rfl rfl ?_
              refine at_guard_no rfl rfl rfl rfl rfl ?_
              refine at_guard_no rfl rfl rfl rfl rfl ?_
              refine at_guard_yes rfl rfl rfl ?_
              refine at_val rfl rfl rfl (r_pick rfl rfl rfl) ?_
              refine at_val rfl rfl rfl (r_pick rfl rfl rfl) ?_
              refine at_val rfl rfl rfl (r_move rfl) ?_
              refine at_guard_yes rfl rfl rfl ?_
              refine at_val rfl rfl rfl (r_fieldAddr (fo := 38) Try.underlying27 rfl rfl (fun w => ⟨_, Try.sizeOf25 w⟩) rfl) ?_
              refine at_guard_yes rfl rfl rfl ?_
              refine at_val rfl rfl rfl (r_load_cell Try.isAgg25 rfl (lens_cell0 (c := cHd) (y := ⟨g0_.1, List.length x0.f_Peers, g0_.2⟩) .z (c_api_Request_f_Peers g0_ x0) rfl)) ?_
              refine at_guard_yes rfl rfl rfl ?_
              refine at_val rfl rfl rfl (r_len_sl Try.underlying25 rfl) ?_
              refine at_guard_yes rfl rfl rfl ?_
              refine at_val rfl rfl rfl (r_igtr rfl rfl) ?_
              refine at_val rfl rfl rfl (r_pick rfl rfl rfl) ?_
              refine at_nil ?_
              refine at_weak [(1, _), (48, _)] ⟨rfl, rfl, trivial⟩ ?_
              refine at_then_normal ?_
              rcases of_ite hF with ⟨h60, hF⟩ | ⟨h60, hF⟩
              · refine at_cond_true rfl h60 ?_
                refine at_seq ?_
                refine at_region ?_
                refine at_val rfl rfl rfl (r_assign rfl) ?_
                refine at_nil ?_
                refine at_drop (H := _) .z ?_
                refine at_weak [(2, _)] ⟨rfl, trivial⟩ ?_
                refine at_then_normal ?_
                refine at_ret ?_
                refine at_then_ret ?_
                have K := of_some hF
                subst K
                exact at_return1 rfl rfl (fun w1 hw => ⟨rfl, hw.below⟩)
              · refine at_cond_false rfl h60 ?_
                refine at_skip ?_
                refine at_then_normal ?_
                refine at_seq ?_
                refine at_seq ?_
                refine at_region ?_
                refine at_val rfl rfl rfl (r_assign rfl) ?_
                refine at_nil ?_
                refine at_weak [(1, _), (3, _)] ⟨rfl, rfl, trivial⟩ ?_
                refine at_then_normal ?_
                refine at_block ?_
                obtain ⟨q61, hq61, hF⟩ := of_bindM hF
                refine at_weak [(1, _), (3, _)] ⟨rfl, rfl, trivial⟩ ?_
                refine at_loop_r (B := 0) (r := r) (q := q61) (A := fun (_ : Unit) Y => At 63 [] (Wd w []) Y) ?_ ?_
                · intro K
                  refine crawlwayref32_Right.l3.partial_correctness x0 (motive := fun i62 x => KR (fun (_ : Unit) Y => At 63 [] (Wd w []) Y) _ 0 r x → Round (fun Y => At 63 [(1, .pointer (some ⟨b1, 0, none⟩)), (3, .int .i64 i62)] (Wd w [cellsE b1 (Cd.cs c_api_Request (g0_, x0)) 27]) Y) _ _ _) ?_ _ _ hq61 K
                  · clear K hF
                    intro g ih i62 x hF K
                    refine at_round ?_
                    refine at_seq ?_
                    refine at_seq ?_
                    refine at_region ?_
                    refine at_val rfl rfl rfl (r_move rfl) ?_
                    refine at_val rfl rfl rfl (r_fieldAddr (fo := 38) Try.underlying27 rfl rfl (fun w => ⟨_, Try.sizeOf25 w⟩) rfl) ?_
                    refine at_val rfl rfl rfl (r_load_cell Try.isAgg25 rfl (lens_cell0 (c := cHd) (y := ⟨g0_.1, List.length x0.f_Peers, g0_.2⟩) .z (c_api_Request_f_Peers g0_ x0) rfl)) ?_
                    refine at_val rfl rfl rfl (r_len_sl Try.underlying25 rfl) ?_
                    refine at_val rfl rfl rfl (r_ilss rfl rfl) ?_
                    refine at_nil ?_
                    refine at_weak [(1, _), (3, _), (53, _)] ⟨rfl, rfl, rfl, trivial⟩ ?_
                    refine at_then_normal ?_
                    rcases of_ite hF with ⟨h63, hF⟩ | ⟨h63, hF⟩
                    · refine at_cond_true rfl h63 ?_
                      refine at_skip ?_
                      refine at_then_normal ?_
                      refine at_seq ?_
                      refine at_block ?_
                      refine at_seq ?_
                      refine at_region ?_
                      refine at_val rfl rfl rfl (r_fieldAddr (fo := 38) Try.underlying27 rfl rfl (fun w => ⟨_, Try.sizeOf25 w⟩) rfl) ?_
                      refine at_val rfl rfl rfl (r_load_cell Try.isAgg25 rfl (lens_cell0 (c := cHd) (y := ⟨g0_.1, List.length x0.f_Peers, g0_.2⟩) .z (c_api_Request_f_Peers g0_ x0) rfl)) ?_
                      refine at_val rfl rfl rfl (r_move rfl) ?_
                      obtain ⟨h64, hF⟩ := of_guard hF
                      obtain ⟨zs68, hz69, hr70, hn71⟩ := hn0
                      obtain ⟨b66, o67, hp65⟩ := row_ptr hr70 (zidx hz69 h64)
                      obtain ⟨g72, hg73⟩ := zget hz69 i62
                      refine at_val rfl rfl rfl (r_idx Try.underlying25 Try.sizeOf37 rfl rfl h64 hp65) ?_
                      refine at_val rfl rfl rfl (r_load_aggc (c := c_api_PeerChange) (z := (g72, lget x0.f_Peers i62)) Try.isAgg37 Try.sizeOf37 rfl (ncell (fun _ h => h.below) hr70 (zidx hz69 h64) hp65 hg73)) ?_
                      obtain ⟨t74, ht74, hF⟩ := of_bindM hF
                      refine at_callB Try.func16 rfl (by kernel_rfl) rfl rfl (fun w hw => crawlwayref32_RightPeer_ok _ _ _ ht74 w (N_api_PeerChange.below (nz hg73 hn71 (zidx hz69 h64)) hw.below)) ?_
                      refine at_val rfl rfl rfl (r_not rfl) ?_
                      refine at_nil ?_
                      refine at_weak [(1, _), (3, _), (62, _)] ⟨rfl, rfl, rfl, trivial⟩ ?_
                      refine at_then_normal ?_
                      rcases of_ite hF with ⟨h75, hF⟩ | ⟨h75, hF⟩
                      · refine at_cond_true rfl h75 ?_
                        refine at_seq ?_
                        refine at_region ?_
                        refine at_val rfl rfl rfl (r_assign rfl) ?_
                        refine at_nil ?_
                        refine at_drop (H := _) .z ?_
                        refine at_weak [(2, _)] ⟨rfl, trivial⟩ ?_
                        refine at_then_normal ?_
                        refine at_ret ?_
                        refine at_blk_ret (at_then_ret (at_then_ret (at_blk_ret (at_then_ret ?_))))
                        obtain rfl := of_some hF
                        subst K
                        exact at_return1 rfl rfl (fun w1 hw => ⟨rfl, hw.below⟩)
                      · refine at_cond_false rfl h75 ?_
                        refine at_skip ?_
                        refine at_blk_normal (at_then_normal ?_)
                        refine at_region ?_
                        refine at_val rfl rfl rfl (r_move rfl) ?_
                        refine at_val rfl rfl rfl (r_iadd rfl rfl) ?_
                        refine at_val rfl rfl rfl (r_assign rfl) ?_
                        refine at_nil ?_
                        refine at_weak [(1, _), (3, _)] ⟨rfl, rfl, trivial⟩ ?_
                        refine at_then_normal ?_
                        exact at_weak_k (ih _ _ hF K) ⟨rfl, rfl, trivial⟩
                    · refine at_cond_false rfl h63 ?_
                      refine at_exit ?_
                      refine at_then_exit (at_then_exit ?_)
                      refine at_drop (H := _) .z ?_
                      obtain rfl := of_some hF
                      exact at_weak_k K trivial
                · cases q61 with
                  | ret r' => exact of_some hF
                  | nx sq61 =>
                    skip
                    refine at_blk_same ?_
                    refine at_then_normal ?_
                    refine at_seq ?_
                    refine at_region ?_
                    refine at_val rfl rfl rfl (r_assign rfl) ?_
                    refine at_nil ?_
                    refine at_weak [(2, _)] ⟨rfl, trivial⟩ ?_
                    refine at_then_normal ?_
                    refine at_ret ?_
                    have K := of_some hF
                    subst K
                    exact at_return1 rfl rfl (fun w1 hw => ⟨rfl, hw.below⟩)
  · refine at_fix (g := 7) rfl h2 ?_
    refine at_guard_no rfl rfl rfl rfl rfl ?_
    refine at_guard_no rfl rfl rfl rfl rfl ?_
    refine at_guard_no rfl rfl rfl rfl rfl ?_
    refine at_guard_no rfl rfl rfl rfl rfl ?_
    refine at_val rfl rfl rfl (r_pick rfl rfl rfl) ?_
    refine at_val rfl rfl rfl (r_move rfl) ?_
    refine at_guard_yes rfl rfl rfl ?_
    refine at_val rfl rfl rfl (r_fieldAddr (fo := 34) Try.underlying27 rfl rfl (fun w => ⟨_, Try.sizeOf3 w⟩) rfl) ?_
    refine at_guard_yes rfl rfl rfl ?_
    refine at_val rfl rfl rfl (r_load_cell Try.isAgg3 rfl (lens_cell0 (c := (cInt .i64)) (y := x0.f_Port) .z (c_api_Request_f_Port g0_ x0) rfl)) ?_
    refine at_guard_yes rfl rfl rfl ?_
    refine at_val rfl rfl rfl (r_ilss rfl rfl) ?_
    refine at_val rfl rfl rfl (r_pick rfl rfl rfl) ?_
    refine at_val rfl rfl rfl (r_move rfl) ?_
    rcases of_ite hF with ⟨h76, hF⟩ | ⟨h76, hF⟩
    · refine at_fix (g := 18) rfl h76 ?_
      refine at_guard_no rfl rfl rfl rfl rfl ?_
      refine at_guard_no rfl rfl rfl rfl rfl ?_
      refine at_guard_no rfl rfl rfl rfl rfl ?_
      refine at_val rfl rfl rfl (r_pick rfl rfl rfl) ?_
      refine at_val rfl rfl rfl (r_move rfl) ?_
      refine at_guard_no rfl rfl rfl rfl rfl ?_
      refine at_guard_no rfl rfl rfl rfl rfl ?_
      refine at_guard_no rfl rfl rfl rfl rfl ?_
      refine at_guard_no rfl rfl rfl rfl rfl ?_
      refine at_guard_undef rfl rfl rfl rfl ?_
      refine at_guard_undef rfl rfl rfl rfl ?_
      refine at_guard_undef rfl rfl rfl rfl ?_
      refine at_guard_no rfl rfl rfl rfl rfl ?_
      refine at_val rfl rfl rfl (r_pick rfl rfl rfl) ?_
      refine at_val rfl rfl rfl (r_move rfl) ?_
      refine at_guard_no rfl rfl rfl rfl rfl ?_
      refine at_guard_no rfl rfl rfl rfl rfl ?_
      refine at_guard_no rfl rfl rfl rfl rfl ?_
      refine at_guard_no rfl rfl rfl rfl rfl ?_
      refine at_guard_undef rfl rfl rfl rfl ?_
      refine at_guard_undef rfl rfl rfl rfl ?_
      refine at_guard_undef rfl rfl rfl rfl ?_
      refine at_guard_no rfl rfl rfl rfl rfl ?_
      refine at_val rfl rfl rfl (r_pick rfl rfl rfl) ?_
      refine at_val rfl rfl rfl (r_move rfl) ?_
      refine at_guard_no rfl rfl rfl rfl rfl ?_
      refine at_guard_no rfl rfl rfl rfl rfl ?_
      refine at_guard_no rfl rfl rfl rfl rfl ?_
      refine at_guard_no rfl rfl rfl rfl rfl ?_
      refine at_val rfl rfl rfl (r_pick rfl rfl rfl) ?_
      refine at_nil ?_
      refine at_weak [(1, _), (48, _)] ⟨rfl, rfl, trivial⟩ ?_
      refine at_then_normal ?_
      refine at_cond_true rfl rfl ?_
      refine at_seq ?_
      refine at_region ?_
      refine at_val rfl rfl rfl (r_assign rfl) ?_
      refine at_nil ?_
      refine at_drop (H := _) .z ?_
      refine at_weak [(2, _)] ⟨rfl, trivial⟩ ?_
      refine at_then_normal ?_
      refine at_ret ?_
      refine at_then_ret ?_
      have K := of_some hF
      subst K
      exact at_return1 rfl rfl (fun w1 hw => ⟨rfl, hw.below⟩)
    · refine at_fix (g := 18) rfl h76 ?_
      refine at_guard_yes rfl rfl rfl ?_
      refine at_val rfl rfl rfl (r_fieldAddr (fo := 34) Try.underlying27 rfl rfl (fun w => ⟨_, Try.sizeOf3 w⟩) rfl) ?_
      refine at_guard_yes rfl rfl rfl ?_
      refine at_val rfl rfl rfl (r_load_cell Try.isAgg3 rfl (lens_cell0 (c := (cInt .i64)) (y := x0.f_Port) .z (c_api_Request_f_Port g0_ x0) rfl)) ?_
      refine at_guard_yes rfl rfl rfl ?_
      refine at_val rfl rfl rfl (r_igtr rfl rfl) ?_
      refine at_val rfl rfl rfl (r_pick rfl rfl rfl) ?_
      refine at_val rfl rfl rfl (r_move rfl) ?_
      rcases of_ite hF with ⟨h77, hF⟩ | ⟨h77, hF⟩
      · refine at_fix (g := 23) rfl h77 ?_
        refine at_guard_no rfl rfl rfl rfl rfl ?_
        refine at_guard_no rfl rfl rfl rfl rfl ?_
        refine at_guard_no rfl rfl rfl rfl rfl ?_
        refine at_guard_no rfl rfl rfl rfl rfl ?_
        refine at_guard_undef rfl rfl rfl rfl ?_
        refine at_guard_undef rfl rfl rfl rfl ?_
        refine at_guard_undef rfl rfl rfl rfl ?_
        refine at_guard_no rfl rfl rfl rfl rfl ?_
        refine at_val rfl rfl rfl (r_pick rfl rfl rfl) ?_
        refine at_val rfl rfl rfl (r_move rfl) ?_
        refine at_guard_no rfl rfl rfl rfl rfl ?_
        refine at_guard_no rfl rfl rfl rfl rfl ?_
        refine at_guard_no rfl rfl rfl rfl rfl ?_
        refine at_guard_no rfl rfl rfl rfl rfl ?_
        refine at_guard_undef rfl rfl rfl rfl ?_
        refine at_guard_undef rfl rfl rfl rfl ?_
        refine at_guard_undef rfl rfl rfl rfl ?_
        refine at_guard_no rfl rfl rfl rfl rfl ?_
        refine at_val rfl rfl rfl (r_pick rfl rfl rfl) ?_
        refine at_val rfl rfl rfl (r_move rfl) ?_
        refine at_guard_no rfl rfl rfl rfl rfl ?_
        refine at_guard_no rfl rfl rfl rfl rfl ?_
        refine at_guard_no rfl rfl rfl rfl rfl ?_
        refine at_guard_no rfl rfl rfl rfl rfl ?_
        refine at_val rfl rfl rfl (r_pick rfl rfl rfl) ?_
        refine at_nil ?_
        refine at_weak [(1, _), (48, _)] ⟨rfl, rfl, trivial⟩ ?_
        refine at_then_normal ?_
        refine at_cond_true rfl rfl ?_
        refine at_seq ?_
        refine at_region ?_
        refine at_val rfl rfl rfl (r_assign rfl) ?_
        refine at_nil ?_
        refine at_drop (H := _) .z ?_
        refine at_weak [(2, _)] ⟨rfl, trivial⟩ ?_
        refine at_then_normal ?_
        refine at_ret ?_
        refine at_then_ret ?_
        have K := of_some hF
        subst K
        exact at_return1 rfl rfl (fun w1 hw => ⟨rfl, hw.below⟩)
      · refine at_fix (g := 23) rfl h77 ?_
        refine at_guard_yes rfl rfl rfl ?_
        refine at_val rfl rfl rfl (r_fieldAddr (fo := 33) Try.underlying27 rfl rfl (fun w => ⟨_, Try.sizeOf4 w⟩) rfl) ?_
        refine at_guard_yes rfl rfl rfl ?_
        refine at_val rfl rfl rfl (r_load_cell Try.isAgg4 rfl (lens_cell0 (c := cBool) (y := x0.f_HasPort) .z (c_api_Request_f_HasPort g0_ x0) rfl)) ?_
        refine at_guard_yes rfl rfl rfl ?_
        refine at_val rfl rfl rfl (r_not rfl) ?_
        refine at_guard_yes rfl rfl rfl ?_
        refine at_val rfl rfl rfl (r_move rfl) ?_
        rcases of_ite hF with ⟨h78, hF⟩ | ⟨h78, hF⟩
        · refine at_fix (g := 27) rfl h78 ?_
          refine at_guard_yes rfl rfl rfl ?_
          refine at_val rfl rfl rfl (r_fieldAddr (fo := 34) Try.underlying27 rfl rfl (fun w => ⟨_, Try.sizeOf3 w⟩) rfl) ?_
          refine at_guard_yes rfl rfl rfl ?_
          refine at_val rfl rfl rfl (r_load_cell Try.isAgg3 rfl (lens_cell0 (c := (cInt .i64)) (y := x0.f_Port) .z (c_api_Request_f_Port g0_ x0) rfl)) ?_
          refine at_guard_yes rfl rfl rfl ?_
          refine at_val rfl rfl rfl (r_ineq rfl rfl) ?_
          refine at_guard_yes rfl rfl rfl ?_
          refine at_val rfl rfl rfl (r_pick rfl rfl rfl) ?_
          refine at_val rfl rfl rfl (r_pick rfl rfl rfl) ?_
          refine at_val rfl rfl rfl (r_move rfl) ?_
          rcases of_ite hF with ⟨h79, hF⟩ | ⟨h79, hF⟩
          · refine at_fix (g := 33) rfl h79 ?_
            refine at_guard_no rfl rfl rfl rfl rfl ?_
            refine at_guard_no rfl rfl rfl rfl rfl ?_
            refine at_guard_no rfl rfl rfl rfl rfl ?_
            refine at_guard_no rfl rfl rfl rfl rfl ?_
            refine at_guard_undef rfl rfl rfl rfl ?_
            refine at_guard_undef rfl rfl rfl rfl ?_
            refine at_guard_undef rfl rfl rfl rfl ?_
            refine at_guard_no rfl rfl rfl rfl rfl ?_
            refine at_val rfl rfl rfl (r_pick rfl rfl rfl) ?_
            refine at_val rfl rfl rfl (r_move rfl) ?_
            refine at_guard_no rfl rfl rfl rfl rfl ?_
            refine at_guard_no rfl rfl rfl rfl rfl ?_
            refine at_guard_no rfl rfl rfl rfl rfl ?_
            refine at_guard_no rfl rfl rfl rfl rfl ?_
            refine at_val rfl rfl rfl (r_pick rfl rfl rfl) ?_
            refine at_nil ?_
            refine at_weak [(1, _), (48, _)] ⟨rfl, rfl, trivial⟩ ?_
            refine at_then_normal ?_
            refine at_cond_true rfl rfl ?_
            refine at_seq ?_
            refine at_region ?_
            refine at_val rfl rfl rfl (r_assign rfl) ?_
            refine at_nil ?_
            refine at_drop (H := _) .z ?_
            refine at_weak [(2, _)] ⟨rfl, trivial⟩ ?_
            refine at_then_normal ?_
            refine at_ret ?_
            refine at_then_ret ?_
            have K := of_some hF
            subst K
            exact at_return1 rfl rfl (fun w1 hw => ⟨rfl, hw.below⟩)
          · refine at_fix (g := 33) rfl h79 ?_
            refine at_guard_yes rfl rfl rfl ?_
            refine at_val rfl rfl rfl (r_fieldAddr (fo := 35) Try.underlying27 rfl rfl (fun w => ⟨_, Try.sizeOf4 w⟩) rfl) ?_
            refine at_guard_yes rfl rfl rfl ?_
            refine at_val rfl rfl rfl (r_load_cell Try.isAgg4 rfl (lens_cell0 (c := cBool) (y := x0.f_HasMark) .z (c_api_Request_f_HasMark g0_ x0) rfl)) ?_
            refine at_guard_yes rfl rfl rfl ?_
            refine at_val rfl rfl rfl (r_not rfl) ?_
            refine at_guard_yes rfl rfl rfl ?_
            refine at_val rfl rfl rfl (r_move rfl) ?_
            rcases of_ite hF with ⟨h80, hF⟩ | ⟨h80, hF⟩
            · refine at_fix (g := 37) rfl h80 ?_
              refine at_guard_yes rfl rfl rfl ?_
              refine at_val rfl rfl rfl (r_fieldAddr (fo := 36) Try.underlying27 rfl rfl (fun w => ⟨_, Try.sizeOf24 w⟩) rfl) ?_
              refine at_guard_yes rfl rfl rfl ?_
              refine at_val rfl rfl rfl (r_load_cell Try.isAgg24 rfl (lens_cell0 (c := (cInt .u32)) (y := x0.f_Mark) .z (c_api_Request_f_Mark g0_ x0) rfl)) ?_
              refine at_guard_yes rfl rfl rfl ?_
              refine at_val rfl rfl rfl (r_ineq rfl rfl) ?_
              refine at_guard_yes rfl rfl rfl ?_
              refine at_val rfl rfl rfl (r_pick rfl rfl rfl) ?_
              refine at_val rfl rfl rfl (r_pick rfl rfl rfl) ?_
              refine at_val rfl rfl rfl (r_move rfl) ?_
              rcases of_ite hF with ⟨h81, hF⟩ | ⟨h81, hF⟩
              · refine at_fix (g := 43) rfl h81 ?_
                refine at_guard_no rfl rfl rfl rfl rfl ?_
                refine at_guard_no rfl rfl rfl rfl rfl ?_
                refine at_guard_no rfl rfl rfl rfl rfl ?_
                refine at_guard_no rfl rfl rfl rfl rfl ?_
                refine at_val rfl rfl rfl (r_pick rfl rfl rfl) ?_
                refine at_nil ?_
                refine at_weak [(1, _), (48, _)] ⟨rfl, rfl, trivial⟩ ?_
                refine at_then_normal ?_
                refine at_cond_true rfl rfl ?_
                refine at_seq ?_
                refine at_region ?_
                refine at_val rfl rfl rfl (r_assign rfl) ?_
                refine at_nil ?_
                refine at_drop (H := _) .z ?_
                refine at_weak [(2, _)] ⟨rfl, trivial⟩ ?_
                refine at_then_normal ?_
                refine at_ret ?_
                refine at_then_ret ?_
                have K := of_some hF
                subst K
                exact at_return1 rfl rfl (fun w1 hw => ⟨rfl, hw.below⟩)
              · refine at_fix (g := 43) rfl h81 ?_
                refine at_guard_yes rfl rfl rfl ?_
                refine at_val rfl rfl rfl (r_fieldAddr (fo := 38) Try.underlying27 rfl rfl (fun w => ⟨_, Try.sizeOf25 w⟩) rfl) ?_
                refine at_guard_yes rfl rfl rfl ?_
                refine at_val rfl rfl rfl (r_load_cell Try.isAgg25 rfl (lens_cell0 (c := cHd) (y := ⟨g0_.1, List.length x0.f_Peers, g0_.2⟩) .z (c_api_Request_f_Peers g0_ x0) rfl)) ?_
                refine at_guard_yes rfl rfl rfl ?_
                refine at_val rfl rfl rfl (r_len_sl Try.underlying25 rfl) ?_
                refine at_guard_yes rfl rfl rfl ?_
                refine at_val rfl rfl rfl (r_igtr rfl rfl) ?_
                refine at_val rfl rfl rfl (r_pick rfl rfl rfl) ?_
                refine at_nil ?_
                refine at_weak [(1, _), (48, _)] ⟨rfl, rfl, trivial⟩ ?_
                refine at_then_normal ?_
                rcases of_ite hF with ⟨h82, hF⟩ | ⟨h82, hF⟩
                · refine at_cond_true rfl h82 ?_
                  refine at_seq ?_
                  refine at_region ?_
                  refine at_val rfl rfl rfl (r_assign rfl) ?_
                  refine at_nil ?_
                  refine at_drop (H := _) .z ?_
                  refine at_weak [(2, _)] ⟨rfl, trivial⟩ ?_
                  refine at_then_normal ?_
                  refine at_ret ?_
                  refine at_then_ret ?_
                  have K := of_some hF
                  subst K
                  exact at_return1 rfl rfl (fun w1 hw => ⟨rfl, hw.below⟩)
                · refine at_cond_false rfl h82 ?_
                  refine at_skip ?_
                  refine at_then_normal ?_
                  refine at_seq ?_
                  refine at_seq ?_
                  refine at_region ?_
                  refine at_val rfl rfl rfl (r_assign rfl) ?_
                  refine at_nil ?_
                  refine at_weak [(1, _), (3, _)] ⟨rfl, rfl, trivial⟩ ?_
                  refine at_then_normal ?_
                  refine at_block ?_
                  obtain ⟨q83, hq83, hF⟩ := of_bindM hF
                  refine at_weak [(1, _), (3, _)] ⟨rfl, rfl, trivial⟩ ?_
                  refine at_loop_r (B := 0) (r := r) (q := q83) (A := fun (_ : Unit) Y => At 63 [] (Wd w []) Y) ?_ ?_
                  · intro K
                    refine crawlwayref32_Right.l4.partial_correctness x0 (motive := fun i84 x => KR (fun (_ : Unit) Y => At 63 [] (Wd w []) Y) _ 0 r x → Round (fun Y => At 63 [(1, .pointer (some ⟨b1, 0, none⟩)), (3, .int .i64 i84)] (Wd w [cellsE b1 (Cd.cs c_api_Request (g0_, x0)) 27]) Y) _ _ _) ?_ _ _ hq83 K
                    · clear K hF
                      intro g ih i84 x hF K
                      refine at_round ?_
                      refine at_seq ?_
                      refine at_seq ?_
                      refine at_region ?_
                      refine at_val rfl rfl rfl (r_move rfl) ?_
                      refine at_val rfl rfl rfl (r_fieldAddr (fo := 38) Try.underlying27 rfl rfl (fun w => ⟨_, Try.sizeOf25 w⟩) rfl) ?_
                      refine at_val rfl rfl rfl (r_load_cell Try.isAgg25 rfl (lens_cell0 (c := cHd) (y := ⟨g0_.1, List.length x0.f_Peers, g0_.2⟩) .z (c_api_Request_f_Peers g0_ x0) rfl)) ?_
                      refine at_val rfl rfl rfl (r_len_sl Try.underlying25 rfl) ?_
                      refine at_val rfl rfl rfl (r_ilss rfl rfl) ?_
                      refine at_nil ?_
                      refine at_weak [(1, _), (3, _), (53, _)] ⟨rfl, rfl, rfl, trivial⟩ ?_
                      refine at_then_normal ?_
                      rcases of_ite hF with ⟨h85, hF⟩ | ⟨h85, hF⟩
                      · refine at_cond_true rfl h85 ?_
                        refine at_skip ?_
                        refine at_then_normal ?_
                        refine at_seq ?_
                        refine at_block ?_
                        refine at_seq ?_
                        refine at_region ?_
                        refine at_val rfl rfl rfl (r_fieldAddr (fo := 38) Try.underlying27 rfl rfl (fun w => ⟨_, Try.sizeOf25 w⟩) rfl) ?_
                        refine at_val rfl rfl rfl (r_load_cell Try.isAgg25 rfl (lens_cell0 (c := cHd) (y := ⟨g0_.1, List.length x0.f_Peers, g0_.2⟩) .z (c_api_Request_f_Peers g0_ x0) rfl)) ?_
                        refine at_val rfl rfl rfl (r_move rfl) ?_
                        obtain ⟨h86, hF⟩ := of_guard hF
                        obtain ⟨zs90, hz91, hr92, hn93⟩ := hn0
                        obtain ⟨b88, o89, hp87⟩ := row_ptr hr92 (zidx hz91 h86)
                        obtain ⟨g94, hg95⟩ := zget hz91 i84
                        refine at_val rfl rfl rfl (r_idx Try.underlying25 Try.sizeOf37 rfl rfl h86 hp87) ?_
                        refine at_val rfl rfl rfl (r_load_aggc (c := c_api_PeerChange) (z := (g94, lget x0.f_Peers i84)) Try.isAgg37 Try.sizeOf37 rfl (ncell (fun _ h => h.below) hr92 (zidx hz91 h86) hp87 hg95)) ?_
                        obtain ⟨t96, ht96, hF⟩ := of_bindM hF
                        refine at_callB Try.func16 rfl (by kernel_rfl) rfl rfl (fun w hw => crawlwayref32_RightPeer_ok _ _ _ ht96 w (N_api_PeerChange.below (nz hg95 hn93 (zidx hz91 h86)) hw.below)) ?_
                        refine at_val rfl rfl rfl (r_not rfl) ?_
                        refine at_nil ?_
                        refine at_weak [(1, _), (3, _), (62, _)] ⟨rfl, rfl, rfl, trivial⟩ ?_
                        refine at_then_normal ?_
                        rcases of_ite hF with ⟨h97, hF⟩ | ⟨h97, hF⟩
                        · refine at_cond_true rfl h97 ?_
                          refine at_seq ?_
                          refine at_region ?_
                          refine at_val rfl rfl rfl (r_assign rfl) ?_
                          refine at_nil ?_
                          refine at_drop (H := _) .z ?_
                          refine at_weak [(2, _)] ⟨rfl, trivial⟩ ?_
                          refine at_then_normal ?_
                          refine at_ret ?_
                          refine at_blk_ret (at_then_ret (at_then_ret (at_blk_ret (at_then_ret ?_))))
                          obtain rfl := of_some hF
                          subst K
                          exact at_return1 rfl rfl (fun w1 hw => ⟨rfl, hw.below⟩)
                        · refine at_cond_false rfl h97 ?_
                          refine at_skip ?_
                          refine at_blk_normal (at_then_normal ?_)
                          refine at_region ?_
                          refine at_val rfl rfl rfl (r_move rfl) ?_
                          refine at_val rfl rfl rfl (r_iadd rfl rfl) ?_
                          refine at_val rfl rfl rfl (r_assign rfl) ?_
                          refine at_nil ?_
                          refine at_weak [(1, _), (3, _)] ⟨rfl, rfl, trivial⟩ ?_
                          refine at_then_normal ?_
                          exact at_weak_k (ih _ _ hF K) ⟨rfl, rfl, trivial⟩
                      · refine at_cond_false rfl h85 ?_
                        refine at_exit ?_
                        refine at_then_exit (at_then_exit ?_)
                        refine at_drop (H := _) .z ?_
                        obtain rfl := of_some hF
                        exact at_weak_k K trivial
                  · cases q83 with
                    | ret r' => exact of_some hF
                    | nx sq83 =>
                      skip
                      refine at_blk_same ?_
                      refine at_then_normal ?_
                      refine at_seq ?_
                      refine at_region ?_
                      refine at_val rfl rfl rfl (r_assign rfl) ?_
                      refine at_nil ?_
                      refine at_weak [(2, _)] ⟨rfl, trivial⟩ ?_
                      refine at_then_normal ?_
                      refine at_ret ?_
                      have K := of_some hF
                      subst K
                      exact at_return1 rfl rfl (fun w1 hw => ⟨rfl, hw.below⟩)
            · refine at_fix (g := 37) rfl h80 ?_
              refine at_guard_no rfl rfl rfl rfl rfl ?_
              refine at_guard_no rfl rfl rfl rfl rfl ?_
              refine at_guard_no rfl rfl rfl rfl rfl ?_
              refine at_guard_yes rfl rfl rfl ?_
              refine at_val rfl rfl rfl (r_pick rfl rfl rfl) ?_
              refine at_val rfl rfl rfl (r_pick rfl rfl rfl) ?_
              refine at_val rfl rfl rfl (r_move rfl) ?_
              refine at_guard_yes rfl rfl rfl ?_
              refine at_val rfl rfl rfl (r_fieldAddr (fo := 38) Try.underlying27 rfl rfl (fun w => ⟨_, Try.sizeOf25 w⟩) rfl) ?_
              refine at_guard_yes rfl rfl rfl ?_
              refine at_val rfl rfl rfl (r_load_cell Try.isAgg25 rfl (lens_cell0 (c := cHd) (y := ⟨g0_.1, List.length x0.f_Peers, g0_.2⟩) .z (c_api_Request_f_Peers g0_ x0) rfl)) ?_
              refine at_guard_yes rfl rfl rfl ?_
              refine at_val rfl rfl rfl (r_len_sl Try.underlying25 rfl) ?_
              refine at_guard_yes rfl rfl rfl ?_
              refine at_val rfl rfl rfl (r_igtr rfl rfl) ?_
              refine at_val rfl rfl rfl (r_pick rfl rfl rfl) ?_
              refine at_nil ?_
              refine at_weak [(1, _), (48, _)] ⟨rfl, rfl, trivial⟩ ?_
              refine at_then_normal ?_
              rcases of_ite hF with ⟨h98, hF⟩ | ⟨h98, hF⟩
              · refine at_cond_true rfl h98 ?_
                refine at_seq ?_
                refine at_region ?_
                refine at_val rfl rfl rfl (r_assign rfl) ?_
                refine at_nil ?_
                refine at_drop (H := _) .z ?_
                refine at_weak [(2, _)] ⟨rfl, trivial⟩ ?_
                refine at_then_normal ?_
                refine at_ret ?_
                refine at_then_ret ?_
                have K := of_some hF
                subst K
                exact at_return1 rfl rfl (fun w1 hw => ⟨rfl, hw.below⟩)
              · refine at_cond_false rfl h98 ?_
                refine at_skip ?_
                refine at_then_normal ?_
                refine at_seq ?_
                refine at_seq ?_
                refine at_region ?_
                refine at_val rfl rfl rfl (r_assign rfl) ?_
                refine at_nil ?_
                refine at_weak [(1, _), (3, _)] ⟨rfl, rfl, trivial⟩ ?_
                refine at_then_normal ?_
                refine at_block ?_
                obtain ⟨q99, hq99, hF⟩ := of_bindM hF
                refine at_weak [(1, _), (3, _)] ⟨rfl, rfl, trivial⟩ ?_
                refine at_loop_r (B := 0) (r := r) (q := q99) (A := fun (_ : Unit) Y => At 63 [] (Wd w []) Y) ?_ ?_
                · intro K
                  refine crawlwayref32_Right.l5.partial_correctness x0 (motive := fun i100 x => KR (fun (_ : Unit) Y => At 63 [] (Wd w []) Y) _ 0 r x → Round (fun Y => At 63 [(1, .pointer (some ⟨b1, 0, none⟩)), (3, .int .i64 i100)] (Wd w [cellsE b1 (Cd.cs c_api_Request (g0_, x0)) 27]) Y) _ _ _) ?_ _ _ hq99 K
                  · clear K hF
                    intro g ih i100 x hF K
                    refine at_round ?_
                    refine at_seq ?_
                    refine at_seq ?_
                    refine at_region ?_
                    refine at_val rfl rfl rfl (r_move rfl) ?_
                    refine at_val rfl rfl rfl (r_fieldAddr (fo := 38) Try.underlying27 rfl rfl (fun w => ⟨_, Try.sizeOf25 w⟩) rfl) ?_
                    refine at_val rfl rfl rfl (r_load_cell Try.isAgg25 rfl (lens_cell0 (c := cHd) (y := ⟨g0_.1, List.length x0.f_Peers, g0_.2⟩) .z (c_api_Request_f_Peers g0_ x0) rfl)) ?_
                    refine at_val rfl rfl rfl (r_len_sl Try.underlying25 rfl) ?_
                    refine at_val rfl rfl rfl (r_ilss rfl rfl) ?_
                    refine at_nil ?_
                    refine at_weak [(1, _), (3, _), (53, _)] ⟨rfl, rfl, rfl, trivial⟩ ?_
                    refine at_then_normal ?_
                    rcases of_ite hF with ⟨h101, hF⟩ | ⟨h101, hF⟩
                    · refine at_cond_true rfl h101 ?_
                      refine at_skip ?_
                      refine at_then_normal ?_
                      refine at_seq ?_
                      refine at_block ?_
                      refine at_seq ?_
                      refine at_region ?_
                      refine at_val rfl rfl rfl (r_fieldAddr (fo := 38) Try.underlying27 rfl rfl (fun w => ⟨_, Try.sizeOf25 w⟩) rfl) ?_
                      refine at_val rfl rfl rfl (r_load_cell Try.isAgg25 rfl (lens_cell0 (c := cHd) (y := ⟨g0_.1, List.length x0.f_Peers, g0_.2⟩) .z (c_api_Request_f_Peers g0_ x0) rfl)) ?_
                      refine at_val rfl rfl rfl (r_move rfl) ?_
                      obtain ⟨h102, hF⟩ := of_guard hF
                      obtain ⟨zs106, hz107, hr108, hn109⟩ := hn0
                      obtain ⟨b104, o105, hp103⟩ := row_ptr hr108 (zidx hz107 h102)
                      obtain ⟨g110, hg111⟩ := zget hz107 i100
                      refine at_val rfl rfl rfl (r_idx Try.underlying25 Try.sizeOf37 rfl rfl h102 hp103) ?_
                      refine at_val rfl rfl rfl (r_load_aggc (c := c_api_PeerChange) (z := (g110, lget x0.f_Peers i100)) Try.isAgg37 Try.sizeOf37 rfl (ncell (fun _ h => h.below) hr108 (zidx hz107 h102) hp103 hg111)) ?_
                      obtain ⟨t112, ht112, hF⟩ := of_bindM hF
                      refine at_callB Try.func16 rfl (by kernel_rfl) rfl rfl (fun w hw => crawlwayref32_RightPeer_ok _ _ _ ht112 w (N_api_PeerChange.below (nz hg111 hn109 (zidx hz107 h102)) hw.below)) ?_
                      refine at_val rfl rfl rfl (r_not rfl) ?_
                      refine at_nil ?_
                      refine at_weak [(1, _), (3, _), (62, _)] ⟨rfl, rfl, rfl, trivial⟩ ?_
                      refine at_then_normal ?_
                      rcases of_ite hF with ⟨h113, hF⟩ | ⟨h113, hF⟩
                      · refine at_cond_true rfl h113 ?_
                        refine at_seq ?_
                        refine at_region ?_
                        refine at_val rfl rfl rfl (r_assign rfl) ?_
                        refine at_nil ?_
                        refine at_drop (H := _) .z ?_
                        refine at_weak [(2, _)] ⟨rfl, trivial⟩ ?_
                        refine at_then_normal ?_
                        refine at_ret ?_
                        refine at_blk_ret (at_then_ret (at_then_ret (at_blk_ret (at_then_ret ?_))))
                        obtain rfl := of_some hF
                        subst K
                        exact at_return1 rfl rfl (fun w1 hw => ⟨rfl, hw.below⟩)
                      · refine at_cond_false rfl h113 ?_
                        refine at_skip ?_
                        refine at_blk_normal (at_then_normal ?_)
                        refine at_region ?_
                        refine at_val rfl rfl rfl (r_move rfl) ?_
                        refine at_val rfl rfl rfl (r_iadd rfl rfl) ?_
                        refine at_val rfl rfl rfl (r_assign rfl) ?_
                        refine at_nil ?_
                        refine at_weak [(1, _), (3, _)] ⟨rfl, rfl, trivial⟩ ?_
                        refine at_then_normal ?_
                        exact at_weak_k (ih _ _ hF K) ⟨rfl, rfl, trivial⟩
                    · refine at_cond_false rfl h101 ?_
                      refine at_exit ?_
                      refine at_then_exit (at_then_exit ?_)
                      refine at_drop (H := _) .z ?_
                      obtain rfl := of_some hF
                      exact at_weak_k K trivial
                · cases q99 with
                  | ret r' => exact of_some hF
                  | nx sq99 =>
                    skip
                    refine at_blk_same ?_
                    refine at_then_normal ?_
                    refine at_seq ?_
                    refine at_region ?_
                    refine at_val rfl rfl rfl (r_assign rfl) ?_
                    refine at_nil ?_
                    refine at_weak [(2, _)] ⟨rfl, trivial⟩ ?_
                    refine at_then_normal ?_
                    refine at_ret ?_
                    have K := of_some hF
                    subst K
                    exact at_return1 rfl rfl (fun w1 hw => ⟨rfl, hw.below⟩)
        · refine at_fix (g := 27) rfl h78 ?_
          refine at_guard_no rfl rfl rfl rfl rfl ?_
          refine at_guard_no rfl rfl rfl rfl rfl ?_
          refine at_guard_no rfl rfl rfl rfl rfl ?_
          refine at_guard_yes rfl rfl rfl ?_
          refine at_val rfl rfl rfl (r_pick rfl rfl rfl) ?_
          refine at_val rfl rfl rfl (r_pick rfl rfl rfl) ?_
          refine at_val rfl rfl rfl (r_move rfl) ?_
          refine at_guard_yes rfl rfl rfl ?_
          refine at_val rfl rfl rfl (r_fieldAddr (fo := 35) Try.underlying27 rfl rfl (fun w => ⟨_, Try.sizeOf4 w⟩) rfl) ?_
          refine at_guard_yes rfl rfl rfl ?_
          refine at_val rfl rfl rfl (r_load_cell Try.isAgg4 rfl (lens_cell0 (c := cBool) (y := x0.f_HasMark) .z (c_api_Request_f_HasMark g0_ x0) rfl)) ?_
          refine at_guard_yes rfl rfl rfl ?_
          refine at_val rfl rfl rfl (r_not rfl) ?_
          refine at_guard_yes rfl rfl rfl ?_
          refine at_val rfl rfl rfl (r_move rfl) ?_
          rcases of_ite hF with ⟨h114, hF⟩ | ⟨h114, hF⟩
          · refine at_fix (g := 37) rfl h114 ?_
            refine at_guard_yes rfl rfl rfl ?_
            refine at_val rfl rfl rfl (r_fieldAddr (fo := 36) Try.underlying27 rfl rfl (fun w => ⟨_, Try.sizeOf24 w⟩) rfl) ?_
            refine at_guard_yes rfl rfl rfl ?_
            refine at_val rfl rfl rfl (r_load_cell Try.isAgg24 rfl (lens_cell0 (c := (cInt .u32)) (y := x0.f_Mark) .z (c_api_Request_f_Mark g0_ x0) rfl)) ?_
            refine at_guard_yes rfl rfl rfl ?_
            refine at_val rfl rfl rfl (r_ineq rfl rfl) ?_
            refine at_guard_yes rfl rfl rfl ?_
            refine at_val rfl rfl rfl (r_pick rfl rfl rfl) ?_
            refine at_val rfl rfl rfl (r_pick rfl rfl rfl) ?_
            refine at_val rfl rfl rfl (r_move rfl) ?_
            rcases of_ite hF with ⟨h115, hF⟩ | ⟨h115, hF⟩
            · refine at_fix (g := 43) rfl h115 ?_
              refine at_guard_no rfl rfl rfl rfl rfl ?_
              refine at_guard_no rfl rfl rfl rfl rfl ?_
              refine at_guard_no rfl rfl rfl rfl rfl ?_
              refine at_guard_no rfl rfl rfl rfl rfl ?_
              refine at_val rfl rfl rfl (r_pick rfl rfl rfl) ?_
              refine at_nil ?_
              refine at_weak [(1, _), (48, _)] ⟨rfl, rfl, trivial⟩ ?_
              refine at_then_normal ?_
              refine at_cond_true rfl rfl ?_
              refine at_seq ?_
              refine at_region ?_
              refine at_val rfl rfl rfl (r_assign rfl) ?_
              refine at_nil ?_
              refine at_drop (H := _) .z ?_
              refine at_weak [(2, _)] ⟨rfl, trivial⟩ ?_
              refine at_then_normal ?_
              refine at_ret ?_
              refine at_then_ret ?_
              have K := of_some hF
              subst K
              exact at_return1 rfl rfl (fun w1 hw => ⟨rfl, hw.below⟩)
            · refine at_fix (g := 43) rfl h115 ?_
              refine at_guard_yes rfl rfl rfl ?_
              refine at_val rfl rfl rfl (r_fieldAddr (fo := 38) Try.underlying27 rfl rfl (fun w => ⟨_, Try.sizeOf25 w⟩) rfl) ?_
              refine at_guard_yes rfl rfl rfl ?_
              refine at_val rfl rfl rfl (r_load_cell Try.isAgg25 rfl (lens_cell0 (c := cHd) (y := ⟨g0_.1, List.length x0.f_Peers, g0_.2⟩) .z (c_api_Request_f_Peers g0_ x0) rfl)) ?_
              refine at_guard_yes rfl rfl rfl ?_
              refine at_val rfl rfl rfl (r_len_sl Try.underlying25 rfl) ?_
              refine at_guard_yes rfl rfl rfl ?_
              refine at_val rfl rfl rfl (r_igtr rfl rfl) ?_
              refine at_val rfl rfl rfl (r_pick rfl rfl rfl) ?_
              refine at_nil ?_
              refine at_weak [(1, _), (48, _)] ⟨rfl, rfl, trivial⟩ ?_
              refine at_then_normal ?_
              rcases of_ite hF with ⟨h116, hF⟩ | ⟨h116, hF⟩
              · refine at_cond_true rfl h116 ?_
                refine at_seq ?_
                refine at_region ?_
                refine at_val rfl rfl rfl (r_assign rfl) ?_
                refine at_nil ?_
                refine at_drop (H := _) .z ?_
                refine at_weak [(2, _)] ⟨rfl, trivial⟩ ?_
                refine at_then_normal ?_
                refine at_ret ?_
                refine at_then_ret ?_
                have K := of_some hF
                subst K
                exact at_return1 rfl rfl (fun w1 hw => ⟨rfl, hw.below⟩)
              · refine at_cond_false rfl h116 ?_
                refine at_skip ?_
                refine at_then_normal ?_
                refine at_seq ?_
                refine at_seq ?_
                refine at_region ?_
                refine at_val rfl rfl rfl (r_assign rfl) ?_
                refine at_nil ?_
                refine at_weak [(1, _), (3, _)] ⟨rfl, rfl, trivial⟩ ?_
                refine at_then_normal ?_
                refine at_block ?_
                obtain ⟨q117, hq117, hF⟩ := of_bindM hF
                refine at_weak [(1, _), (3, _)] ⟨rfl, rfl, trivial⟩ ?_
                refine at_loop_r (B := 0) (r := r) (q := q117) (A := fun (_ : Unit) Y => At 63 [] (Wd w []) Y) ?_ ?_
                · intro K
                  refine crawlwayref32_Right.l6.partial_correctness x0 (motive := fun i118 x => KR (fun (_ : Unit) Y => At 63 [] (Wd w []) Y) _ 0 r x → Round (fun Y => At 63 [(1, .pointer (some ⟨b1, 0, none⟩)), (3, .int .i64 i118)] (Wd w [cellsE b1 (Cd.cs c_api_Request (g0_, x0)) 27]) Y) _ _ _) ?_ _ _ hq117 K
                  · clear K hF
                    intro g ih i118 x hF K
                    refine at_round ?_
                    refine at_seq ?_
                    refine at_seq ?_
                    refine at_region ?_
                    refine at_val rfl rfl rfl (r_move rfl) ?_
                    refine at_val rfl rfl rfl (r_fieldAddr (fo := 38) Try.underlying27 rfl rfl (fun w => ⟨_, Try.sizeOf25 w⟩) rfl) ?_
                    refine at_val rfl rfl rfl (r_load_cell Try.isAgg25 rfl (lens_cell0 (c := cHd) (y := ⟨g0_.1, List.length x0.f_Peers, g0_.2⟩) .z (c_api_Request_f_Peers g0_ x0) rfl)) ?_
                    refine at_val rfl rfl rfl (r_len_sl Try.underlying25 rfl) ?_
                    refine at_val rfl rfl rfl (r_ilss rfl rfl) ?_
                    refine at_nil ?_
                    refine at_weak [(1, _), (3, _), (53, _)] ⟨rfl, rfl, rfl, trivial⟩ ?_
                    refine at_then_normal ?_
                    rcases of_ite hF with ⟨h119, hF⟩ | ⟨h119, hF⟩
                    · refine at_cond_true rfl h119 ?_
                      refine at_skip ?_
                      refine at_then_normal ?_
                      refine at_seq ?_
                      refine at_block ?_
                      refine at_seq ?_
                      refine at_region ?_
                      refine at_val rfl rfl rfl (r_fieldAddr (fo := 38) Try.underlying27 rfl rfl (fun w => ⟨_, Try.sizeOf25 w⟩) rfl) ?_
                      refine at_val rfl rfl rfl (r_load_cell Try.isAgg25 rfl (lens_cell0 (c := cHd) (y := ⟨g0_.1, List.length x0.f_Peers, g0_.2⟩) .z (c_api_Request_f_Peers g0_ x0) rfl)) ?_
                      refine at_val rfl rfl rfl (r_move rfl) ?_
                      obtain ⟨h120, hF⟩ := of_guard hF
                      obtain ⟨zs124, hz125, hr126, hn127⟩ := hn0
                      obtain ⟨b122, o123, hp121⟩ := row_ptr hr126 (zidx hz125 h120)
                      obtain ⟨g128, hg129⟩ := zget hz125 i118
                      refine at_val rfl rfl rfl (r_idx Try.underlying25 Try.sizeOf37 rfl rfl h120 hp121) ?_
                      refine at_val rfl rfl rfl (r_load_aggc (c := c_api_PeerChange) (z := (g128, lget x0.f_Peers i118)) Try.isAgg37 Try.sizeOf37 rfl (ncell (fun _ h => h.below) hr126 (zidx hz125 h120) hp121 hg129)) ?_
                      obtain ⟨t130, ht130, hF⟩ := of_bindM hF
                      refine at_callB Try.func16 rfl (by kernel_rfl) rfl rfl (fun w hw => crawlwayref32_RightPeer_ok _ _ _ ht130 w (N_api_PeerChange.below (nz hg129 hn127 (zidx hz125 h120)) hw.below)) ?_
                      refine at_val rfl rfl rfl (r_not rfl) ?_
                      refine at_nil ?_
                      refine at_weak [(1, _), (3, _), (62, _)] ⟨rfl, rfl, rfl, trivial⟩ ?_
                      refine at_then_normal ?_
                      rcases of_ite hF with ⟨h131, hF⟩ | ⟨h131, hF⟩
                      · refine at_cond_true rfl h131 ?_
                        refine at_seq ?_
                        refine at_region ?_
                        refine at_val rfl rfl rfl (r_assign rfl) ?_
                        refine at_nil ?_
                        refine at_drop (H := _) .z ?_
                        refine at_weak [(2, _)] ⟨rfl, trivial⟩ ?_
                        refine at_then_normal ?_
                        refine at_ret ?_
                        refine at_blk_ret (at_then_ret (at_then_ret (at_blk_ret (at_then_ret ?_))))
                        obtain rfl := of_some hF
                        subst K
                        exact at_return1 rfl rfl (fun w1 hw => ⟨rfl, hw.below⟩)
                      · refine at_cond_false rfl h131 ?_
                        refine at_skip ?_
                        refine at_blk_normal (at_then_normal ?_)
                        refine at_region ?_
                        refine at_val rfl rfl rfl (r_move rfl) ?_
                        refine at_val rfl rfl rfl (r_iadd rfl rfl) ?_
                        refine at_val rfl rfl rfl (r_assign rfl) ?_
                        refine at_nil ?_
                        refine at_weak [(1, _), (3, _)] ⟨rfl, rfl, trivial⟩ ?_
                        refine at_then_normal ?_
                        exact at_weak_k (ih _ _ hF K) ⟨rfl, rfl, trivial⟩
                    · refine at_cond_false rfl h119 ?_
                      refine at_exit ?_
                      refine at_then_exit (at_then_exit ?_)
                      refine at_drop (H := _) .z ?_
                      obtain rfl := of_some hF
                      exact at_weak_k K trivial
                · cases q117 with
                  | ret r' => exact of_some hF
                  | nx sq117 =>
                    skip
                    refine at_blk_same ?_
                    refine at_then_normal ?_
                    refine at_seq ?_
                    refine at_region ?_
                    refine at_val rfl rfl rfl (r_assign rfl) ?_
                    refine at_nil ?_
                    refine at_weak [(2, _)] ⟨rfl, trivial⟩ ?_
                    refine at_then_normal ?_
                    refine at_ret ?_
                    have K := of_some hF
                    subst K
                    exact at_return1 rfl rfl (fun w1 hw => ⟨rfl, hw.below⟩)
          · refine at_fix (g := 37) rfl h114 ?_
            refine at_guard_no rfl rfl rfl rfl rfl ?_
            refine at_guard_no rfl rfl rfl rfl rfl ?_
            refine at_guard_no rfl rfl rfl rfl rfl ?_
            refine at_guard_yes rfl rfl rfl ?_
            refine at_val rfl rfl rfl (r_pick rfl rfl rfl) ?_
            refine at_val rfl rfl rfl (r_pick rfl rfl rfl) ?_
            refine at_val rfl rfl rfl (r_move rfl) ?_
            refine at_guard_yes rfl rfl rfl ?_
            refine at_val rfl rfl rfl (r_fieldAddr (fo := 38) Try.underlying27 rfl rfl (fun w => ⟨_, Try.sizeOf25 w⟩) rfl) ?_
            refine at_guard_yes rfl rfl rfl ?_
            refine at_val rfl rfl rfl (r_load_cell Try.isAgg25 rfl (lens_cell0 (c := cHd) (y := ⟨g0_.1, List.length x0.f_Peers, g0_.2⟩) .z (c_api_Request_f_Peers g0_ x0) rfl)) ?_
            refine at_guard_yes rfl rfl rfl ?_
            refine at_val rfl rfl rfl (r_len_sl Try.underlying25 rfl) ?_
            refine at_guard_yes rfl rfl rfl ?_
            refine at_val rfl rfl rfl (r_igtr rfl rfl) ?_
            refine at_val rfl rfl rfl (r_pick rfl rfl rfl) ?_
            refine at_nil ?_
            refine at_weak [(1, _), (48, _)] ⟨rfl, rfl, trivial⟩ ?_
            refine at_then_normal ?_
            rcases of_ite hF with ⟨h132, hF⟩ | ⟨h132, hF⟩
            · refine at_cond_true rfl h132 ?_
              refine at_seq ?_
              refine at_region ?_
              refine at_val rfl rfl rfl (r_assign rfl) ?_
              refine at_nil ?_
              refine at_drop (H := _) .z ?_
              refine at_weak [(2, _)] ⟨rfl, trivial⟩ ?_
              refine at_then_normal ?_
              refine at_ret ?_
              refine at_then_ret ?_
              have K := of_some hF
              subst K
              exact at_return1 rfl rfl (fun w1 hw => ⟨rfl, hw.below⟩)
            · refine at_cond_false rfl h132 ?_
              refine at_skip ?_
              refine at_then_normal ?_
              refine at_seq ?_
              refine at_seq ?_
              refine at_region ?_
              refine at_val rfl rfl rfl (r_assign rfl) ?_
              refine at_nil ?_
              refine at_weak [(1, _), (3, _)] ⟨rfl, rfl, trivial⟩ ?_
              refine at_then_normal ?_
              refine at_block ?_
              obtain ⟨q133, hq133, hF⟩ := of_bindM hF
              refine at_weak [(1, _), (3, _)] ⟨rfl, rfl, trivial⟩ ?_
              refine at_loop_r (B := 0) (r := r) (q := q133) (A := fun (_ : Unit) Y => At 63 [] (Wd w []) Y) ?_ ?_
              · intro K
                refine crawlwayref32_Right.l7.partial_correctness x0 (motive := fun i134 x => KR (fun (_ : Unit) Y => At 63 [] (Wd w []) Y) _ 0 r x → Round (fun Y => At 63 [(1, .pointer (some ⟨b1, 0, none⟩)), (3, .int .i64 i134)] (Wd w [cellsE b1 (Cd.cs c_api_Request (g0_, x0)) 27]) Y) _ _ _) ?_ _ _ hq133 K
                · clear K hF
                  intro g ih i134 x hF K
                  refine at_round ?_
                  refine at_seq ?_
                  refine at_seq ?_
                  refine at_region ?_
                  refine at_val rfl rfl rfl (r_move rfl) ?_
                  refine at_val rfl rfl rfl (r_fieldAddr (fo := 38) Try.underlying27 rfl rfl (fun w => ⟨_, Try.sizeOf25 w⟩) rfl) ?_
                  refine at_val rfl rfl rfl (r_load_cell Try.isAgg25 rfl (lens_cell0 (c := cHd) (y := ⟨g0_.1, List.length x0.f_Peers, g0_.2⟩) .z (c_api_Request_f_Peers g0_ x0) rfl)) ?_
                  refine at_val rfl rfl rfl (r_len_sl Try.underlying25 rfl) ?_
                  refine at_val rfl rfl rfl (r_ilss rfl rfl) ?_
                  refine at_nil ?_
                  refine at_weak [(1, _), (3, _), (53, _)] ⟨rfl, rfl, rfl, trivial⟩ ?_
                  refine at_then_normal ?_
                  rcases of_ite hF with ⟨h135, hF⟩ | ⟨h135, hF⟩
                  · refine at_cond_true rfl h135 ?_
                    refine at_skip ?_
                    refine at_then_normal ?_
                    refine at_seq ?_
                    refine at_block ?_
                    refine at_seq ?_
                    refine at_region ?_
                    refine at_val rfl rfl rfl (r_fieldAddr (fo := 38) Try.underlying27 rfl rfl (fun w => ⟨_, Try.sizeOf25 w⟩) rfl) ?_
                    refine at_val rfl rfl rfl (r_load_cell Try.isAgg25 rfl (lens_cell0 (c := cHd) (y := ⟨g0_.1, List.length x0.f_Peers, g0_.2⟩) .z (c_api_Request_f_Peers g0_ x0) rfl)) ?_
                    refine at_val rfl rfl rfl (r_move rfl) ?_
                    obtain ⟨h136, hF⟩ := of_guard hF
                    obtain ⟨zs140, hz141, hr142, hn143⟩ := hn0
                    obtain ⟨b138, o139, hp137⟩ := row_ptr hr142 (zidx hz141 h136)
                    obtain ⟨g144, hg145⟩ := zget hz141 i134
                    refine at_val rfl rfl rfl (r_idx Try.underlying25 Try.sizeOf37 rfl rfl h136 hp137) ?_
                    refine at_val rfl rfl rfl (r_load_aggc (c := c_api_PeerChange) (z := (g144, lget x0.f_Peers i134)) Try.isAgg37 Try.sizeOf37 rfl (ncell (fun _ h => h.below) hr142 (zidx hz141 h136) hp137 hg145)) ?_
                    obtain ⟨t146, ht146, hF⟩ := of_bindM hF
                    refine at_callB Try.func16 rfl (by kernel_rfl) rfl rfl (fun w hw => crawlwayref32_RightPeer_ok _ _ _ ht146 w (N_api_PeerChange.below (nz hg145 hn143 (zidx hz141 h136)) hw.below)) ?_
                    refine at_val rfl rfl rfl (r_not rfl) ?_
                    refine at_nil ?_
                    refine at_weak [(1, _), (3, _), (62, _)] ⟨rfl, rfl, rfl, trivial⟩ ?_
                    refine at_then_normal ?_
                    rcases of_ite hF with ⟨h147, hF⟩ | ⟨h147, hF⟩
                    · refine at_cond_true rfl h147 ?_
                      refine at_seq ?_
                      refine at_region ?_
                      refine at_val rfl rfl rfl (r_assign rfl) ?_
                      refine at_nil ?_
                      refine at_drop (H := _) .z ?_
                      refine at_weak [(2, _)] ⟨rfl, trivial⟩ ?_
                      refine at_then_normal ?_
                      refine at_ret ?_
                      refine at_blk_ret (at_then_ret (at_then_ret (at_blk_ret (at_then_ret ?_))))
                      obtain rfl := of_some hF
                      subst K
                      exact at_return1 rfl rfl (fun w1 hw => ⟨rfl, hw.below⟩)
                    · refine at_cond_false rfl h147 ?_
                      refine at_skip ?_
                      refine at_blk_normal (at_then_normal ?_)
                      refine at_region ?_
                      refine at_val rfl rfl rfl (r_move rfl) ?_
                      refine at_val rfl rfl rfl (r_iadd rfl rfl) ?_
                      refine at_val rfl rfl rfl (r_assign rfl) ?_
                      refine at_nil ?_
                      refine at_weak [(1, _), (3, _)] ⟨rfl, rfl, trivial⟩ ?_
                      refine at_then_normal ?_
                      exact at_weak_k (ih _ _ hF K) ⟨rfl, rfl, trivial⟩
                  · refine at_cond_false rfl h135 ?_
                    refine at_exit ?_
                    refine at_then_exit (at_then_exit ?_)
                    refine at_drop (H := _) .z ?_
                    obtain rfl := of_some hF
                    exact at_weak_k K trivial
              · cases q133 with
                | ret r' => exact of_some hF
                | nx sq133 =>
                  skip
                  refine at_blk_same ?_
                  refine at_then_normal ?_
                  refine at_seq ?_
                  refine at_region ?_
                  refine at_val rfl rfl rfl (r_assign rfl) ?_
                  refine at_nil ?_
                  refine at_weak [(2, _)] ⟨rfl, trivial⟩ ?_
                  refine at_then_normal ?_
                  refine at_ret ?_
                  have K := of_some hF
                  subst K
                  exact at_return1 rfl rfl (fun w1 hw => ⟨rfl, hw.below⟩)
end Go.Proofs.Ythccncpephpdjaa
