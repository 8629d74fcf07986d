/- Texts of this claim, those in one that belong together; printed by a program of this project. -/
import Derived.Test.YthccncpephpdjaaProg
import Derived.Test.YthccncpephpdjaaKChangeNormal1
set_option linter.unusedVariables false
set_option linter.unusedSimpArgs false
namespace Go.Proofs.Ythccncpephpdjaa
open E Go.RowKit
abbrev zqG3_0 : S_api_Endpoint := ({ f_A := ({ f_V := (0 : Int), f_B := (Vector.replicate 16 (0 : Int) : (Vector Int 16)) } : S_api_Addr), f_Port := (0 : Int) } : S_api_Endpoint)
def crawlwayref32_RightPeer.l0 (x0 : S_api_PeerChange) (i18 : Int) : Option (Ctl (Bool) (Unit)) :=
  if (decide (i18 < (x0.f_Allowed.length : Int))) = true then (if (0 : Int) ≤ i18 ∧ i18 < (x0.f_Allowed.length : Int) then crawlwayref11_Right (lget x0.f_Allowed i18) >>= fun t24 => if (!t24) = true then (some (.ret false)) else (crawlwayref32_RightPeer.l0 x0 (wr .i64 (i18 + 1))) else none) else (some (.nx ()))
  partial_fixpoint
def crawlwayref32_RightPeer.l1 (x0 : S_api_PeerChange) (i28 : Int) : Option (Ctl (Bool) (Unit)) :=
  if (decide (i28 < (x0.f_Allowed.length : Int))) = true then (if (0 : Int) ≤ i28 ∧ i28 < (x0.f_Allowed.length : Int) then crawlwayref11_Right (lget x0.f_Allowed i28) >>= fun t34 => if (!t34) = true then (some (.ret false)) else (crawlwayref32_RightPeer.l1 x0 (wr .i64 (i28 + 1))) else none) else (some (.nx ()))
  partial_fixpoint
def crawlwayref32_RightPeer.l2 (x0 : S_api_PeerChange) (i42 : Int) : Option (Ctl (Bool) (Unit)) :=
  if (decide (i42 < (x0.f_Allowed.length : Int))) = true then (if (0 : Int) ≤ i42 ∧ i42 < (x0.f_Allowed.length : Int) then crawlwayref11_Right (lget x0.f_Allowed i42) >>= fun t48 => if (!t48) = true then (some (.ret false)) else (crawlwayref32_RightPeer.l2 x0 (wr .i64 (i42 + 1))) else none) else (some (.nx ()))
  partial_fixpoint
def crawlwayref32_RightPeer.l3 (x0 : S_api_PeerChange) (i52 : Int) : Option (Ctl (Bool) (Unit)) :=
  if (decide (i52 < (x0.f_Allowed.length : Int))) = true then (if (0 : Int) ≤ i52 ∧ i52 < (x0.f_Allowed.length : Int) then crawlwayref11_Right (lget x0.f_Allowed i52) >>= fun t58 => if (!t58) = true then (some (.ret false)) else (crawlwayref32_RightPeer.l3 x0 (wr .i64 (i52 + 1))) else none) else (some (.nx ()))
  partial_fixpoint
def crawlwayref32_RightPeer.l4 (x0 : S_api_PeerChange) (i68 : Int) : Option (Ctl (Bool) (Unit)) :=
  if (decide (i68 < (x0.f_Allowed.length : Int))) = true then (if (0 : Int) ≤ i68 ∧ i68 < (x0.f_Allowed.length : Int) then crawlwayref11_Right (lget x0.f_Allowed i68) >>= fun t74 => if (!t74) = true then (some (.ret false)) else (crawlwayref32_RightPeer.l4 x0 (wr .i64 (i68 + 1))) else none) else (some (.nx ()))
  partial_fixpoint
def crawlwayref32_RightPeer.l5 (x0 : S_api_PeerChange) (i78 : Int) : Option (Ctl (Bool) (Unit)) :=
  if (decide (i78 < (x0.f_Allowed.length : Int))) = true then (if (0 : Int) ≤ i78 ∧ i78 < (x0.f_Allowed.length : Int) then crawlwayref11_Right (lget x0.f_Allowed i78) >>= fun t84 => if (!t84) = true then (some (.ret false)) else (crawlwayref32_RightPeer.l5 x0 (wr .i64 (i78 + 1))) else none) else (some (.nx ()))
  partial_fixpoint
def crawlwayref32_RightPeer.l6 (x0 : S_api_PeerChange) (i92 : Int) : Option (Ctl (Bool) (Unit)) :=
  if (decide (i92 < (x0.f_Allowed.length : Int))) = true then (if (0 : Int) ≤ i92 ∧ i92 < (x0.f_Allowed.length : Int) then crawlwayref11_Right (lget x0.f_Allowed i92) >>= fun t98 => if (!t98) = true then (some (.ret false)) else (crawlwayref32_RightPeer.l6 x0 (wr .i64 (i92 + 1))) else none) else (some (.nx ()))
  partial_fixpoint
def crawlwayref32_RightPeer.l7 (x0 : S_api_PeerChange) (i102 : Int) : Option (Ctl (Bool) (Unit)) :=
  if (decide (i102 < (x0.f_Allowed.length : Int))) = true then (if (0 : Int) ≤ i102 ∧ i102 < (x0.f_Allowed.length : Int) then crawlwayref11_Right (lget x0.f_Allowed i102) >>= fun t108 => if (!t108) = true then (some (.ret false)) else (crawlwayref32_RightPeer.l7 x0 (wr .i64 (i102 + 1))) else none) else (some (.nx ()))
  partial_fixpoint
def crawlwayref32_RightPeer.l8 (x0 : S_api_PeerChange) (i121 : Int) : Option (Ctl (Bool) (Unit)) :=
  if (decide (i121 < (x0.f_Allowed.length : Int))) = true then (if (0 : Int) ≤ i121 ∧ i121 < (x0.f_Allowed.length : Int) then crawlwayref11_Right (lget x0.f_Allowed i121) >>= fun t127 => if (!t127) = true then (some (.ret false)) else (crawlwayref32_RightPeer.l8 x0 (wr .i64 (i121 + 1))) else none) else (some (.nx ()))
  partial_fixpoint
def crawlwayref32_RightPeer.l9 (x0 : S_api_PeerChange) (i131 : Int) : Option (Ctl (Bool) (Unit)) :=
  if (decide (i131 < (x0.f_Allowed.length : Int))) = true then (if (0 : Int) ≤ i131 ∧ i131 < (x0.f_Allowed.length : Int) then crawlwayref11_Right (lget x0.f_Allowed i131) >>= fun t137 => if (!t137) = true then (some (.ret false)) else (crawlwayref32_RightPeer.l9 x0 (wr .i64 (i131 + 1))) else none) else (some (.nx ()))
  partial_fixpoint
def crawlwayref32_RightPeer.l10 (x0 : S_api_PeerChange) (i145 : Int) : Option (Ctl (Bool) (Unit)) :=
  if (decide (i145 < (x0.f_Allowed.length : Int))) = true then (if (0 : Int) ≤ i145 ∧ i145 < (x0.f_Allowed.length : Int) then crawlwayref11_Right (lget x0.f_Allowed i145) >>= fun t151 => if (!t151) = true then (some (.ret false)) else (crawlwayref32_RightPeer.l10 x0 (wr .i64 (i145 + 1))) else none) else (some (.nx ()))
  partial_fixpoint
def crawlwayref32_RightPeer.l11 (x0 : S_api_PeerChange) (i155 : Int) : Option (Ctl (Bool) (Unit)) :=
  if (decide (i155 < (x0.f_Allowed.length : Int))) = true then (if (0 : Int) ≤ i155 ∧ i155 < (x0.f_Allowed.length : Int) then crawlwayref11_Right (lget x0.f_Allowed i155) >>= fun t161 => if (!t161) = true then (some (.ret false)) else (crawlwayref32_RightPeer.l11 x0 (wr .i64 (i155 + 1))) else none) else (some (.nx ()))
  partial_fixpoint
def crawlwayref32_RightPeer.l12 (x0 : S_api_PeerChange) (i171 : Int) : Option (Ctl (Bool) (Unit)) :=
  if (decide (i171 < (x0.f_Allowed.length : Int))) = true then (if (0 : Int) ≤ i171 ∧ i171 < (x0.f_Allowed.length : Int) then crawlwayref11_Right (lget x0.f_Allowed i171) >>= fun t177 => if (!t177) = true then (some (.ret false)) else (crawlwayref32_RightPeer.l12 x0 (wr .i64 (i171 + 1))) else none) else (some (.nx ()))
  partial_fixpoint
def crawlwayref32_RightPeer.l13 (x0 : S_api_PeerChange) (i181 : Int) : Option (Ctl (Bool) (Unit)) :=
  if (decide (i181 < (x0.f_Allowed.length : Int))) = true then (if (0 : Int) ≤ i181 ∧ i181 < (x0.f_Allowed.length : Int) then crawlwayref11_Right (lget x0.f_Allowed i181) >>= fun t187 => if (!t187) = true then (some (.ret false)) else (crawlwayref32_RightPeer.l13 x0 (wr .i64 (i181 + 1))) else none) else (some (.nx ()))
  partial_fixpoint
def crawlwayref32_RightPeer.l14 (x0 : S_api_PeerChange) (i195 : Int) : Option (Ctl (Bool) (Unit)) :=
  if (decide (i195 < (x0.f_Allowed.length : Int))) = true then (if (0 : Int) ≤ i195 ∧ i195 < (x0.f_Allowed.length : Int) then crawlwayref11_Right (lget x0.f_Allowed i195) >>= fun t201 => if (!t201) = true then (some (.ret false)) else (crawlwayref32_RightPeer.l14 x0 (wr .i64 (i195 + 1))) else none) else (some (.nx ()))
  partial_fixpoint
def crawlwayref32_RightPeer.l15 (x0 : S_api_PeerChange) (i205 : Int) : Option (Ctl (Bool) (Unit)) :=
  if (decide (i205 < (x0.f_Allowed.length : Int))) = true then (if (0 : Int) ≤ i205 ∧ i205 < (x0.f_Allowed.length : Int) then crawlwayref11_Right (lget x0.f_Allowed i205) >>= fun t211 => if (!t211) = true then (some (.ret false)) else (crawlwayref32_RightPeer.l15 x0 (wr .i64 (i205 + 1))) else none) else (some (.nx ()))
  partial_fixpoint
def crawlwayref32_RightPeer (x0 : S_api_PeerChange) : Option (Bool) :=
  if (decide (x0.f_Key = (Vector.replicate 32 (0 : Int) : (Vector Int 32)))) = true then (some false) else (if (!x0.f_HasPsk) = true then (if (!decide (x0.f_Psk = (Vector.replicate 32 (0 : Int) : (Vector Int 32)))) = true then (some false) else (if x0.f_HasEnd = true then (crawlwayref12_Right x0.f_End >>= fun t8 => if (!t8) = true then (some false) else (if (!x0.f_HasEnd) = true then (if (!decide (x0.f_End = ({ f_A := ({ f_V := (0 : Int), f_B := (Vector.replicate 16 (0 : Int) : (Vector Int 16)) } : S_api_Addr), f_Port := (0 : Int) } : S_api_Endpoint))) = true then (some false) else (if (decide (x0.f_Keep < 0)) = true then (some false) else (if (decide (x0.f_Keep > 65535)) = true then (some false) else (if (!x0.f_HasKeep) = true then (if (x0.f_Keep != 0) = true then (some false) else (if (decide ((x0.f_Allowed.length : Int) > 64)) = true then (some false) else (crawlwayref32_RightPeer.l0 x0 0 >>= fun q17 => match q17 with | .ret r' => some r' | .nx sq17 => (some true)))) else (if (decide ((x0.f_Allowed.length : Int) > 64)) = true then (some false) else (crawlwayref32_RightPeer.l1 x0 0 >>= fun q27 => match q27 with | .ret r' => some r' | .nx sq27 => (some true))))))) else (if (decide (x0.f_Keep < 0)) = true then (some false) else (if (decide (x0.f_Keep > 65535)) = true then (some false) else (if (!x0.f_HasKeep) = true then (if (x0.f_Keep != 0) = true then (some false) else (if (decide ((x0.f_Allowed.length : Int) > 64)) = true then (some false) else (crawlwayref32_RightPeer.l2 x0 0 >>= fun q41 => match q41 with | .ret r' => some r' | .nx sq41 => (some true)))) else (if (decide ((x0.f_Allowed.length : Int) > 64)) = true then (some false) else (crawlwayref32_RightPeer.l3 x0 0 >>= fun q51 => match q51 with | .ret r' => some r' | .nx sq51 => (some true)))))))) else (if (!x0.f_HasEnd) = true then (if (!decide (x0.f_End = ({ f_A := ({ f_V := (0 : Int), f_B := (Vector.replicate 16 (0 : Int) : (Vector Int 16)) } : S_api_Addr), f_Port := (0 : Int) } : S_api_Endpoint))) = true then (some false) else (if (decide (x0.f_Keep < 0)) = true then (some false) else (if (decide (x0.f_Keep > 65535)) = true then (some false) else (if (!x0.f_HasKeep) = true then (if (x0.f_Keep != 0) = true then (some false) else (if (decide ((x0.f_Allowed.length : Int) > 64)) = true then (some false) else (crawlwayref32_RightPeer.l4 x0 0 >>= fun q67 => match q67 with | .ret r' => some r' | .nx sq67 => (some true)))) else (if (decide ((x0.f_Allowed.length : Int) > 64)) = true then (some false) else (crawlwayref32_RightPeer.l5 x0 0 >>= fun q77 => match q77 with | .ret r' => some r' | .nx sq77 => (some true))))))) else (if (decide (x0.f_Keep < 0)) = true then (some false) else (if (decide (x0.f_Keep > 65535)) = true then (some false) else (if (!x0.f_HasKeep) = true then (if (x0.f_Keep != 0) = true then (some false) else (if (decide ((x0.f_Allowed.length : Int) > 64)) = true then (some false) else (crawlwayref32_RightPeer.l6 x0 0 >>= fun q91 => match q91 with | .ret r' => some r' | .nx sq91 => (some true)))) else (if (decide ((x0.f_Allowed.length : Int) > 64)) = true then (some false) else (crawlwayref32_RightPeer.l7 x0 0 >>= fun q101 => match q101 with | .ret r' => some r' | .nx sq101 => (some true))))))))) else (if x0.f_HasEnd = true then (crawlwayref12_Right x0.f_End >>= fun t111 => if (!t111) = true then (some false) else (if (!x0.f_HasEnd) = true then (if (!decide (x0.f_End = ({ f_A := ({ f_V := (0 : Int), f_B := (Vector.replicate 16 (0 : Int) : (Vector Int 16)) } : S_api_Addr), f_Port := (0 : Int) } : S_api_Endpoint))) = true then (some false) else (if (decide (x0.f_Keep < 0)) = true then (some false) else (if (decide (x0.f_Keep > 65535)) = true then (some false) else (if (!x0.f_HasKeep) = true then (if (x0.f_Keep != 0) = true then (some false) else (if (decide ((x0.f_Allowed.length : Int) > 64)) = true then (some false) else (crawlwayref32_RightPeer.l8 x0 0 >>= fun q120 => match q120 with | .ret r' => some r' | .nx sq120 => (some true)))) else (if (decide ((x0.f_Allowed.length : Int) > 64)) = true then (some false) else (crawlwayref32_RightPeer.l9 x0 0 >>= fun q130 => match q130 with | .ret r' => some r' | .nx sq130 => (some true))))))) else (if (decide (x0.f_Keep < 0)) = true then (some false) else (if (decide (x0.f_Keep > 65535)) = true then (some false) else (if (!x0.f_HasKeep) = true then (if (x0.f_Keep != 0) = true then (some false) else (if (decide ((x0.f_Allowed.length : Int) > 64)) = true then (some false) else (crawlwayref32_RightPeer.l10 x0 0 >>= fun q144 => match q144 with | .ret r' => some r' | .nx sq144 => (some true)))) else (if (decide ((x0.f_Allowed.length : Int) > 64)) = true then (some false) else (crawlwayref32_RightPeer.l11 x0 0 >>= fun q154 => match q154 with | .ret r' => some r' | .nx sq154 => (some true)))))))) else (if (!x0.f_HasEnd) = true then (if (!decide (x0.f_End = ({ f_A := ({ f_V := (0 : Int), f_B := (Vector.replicate 16 (0 : Int) : (Vector Int 16)) } : S_api_Addr), f_Port := (0 : Int) } : S_api_Endpoint))) = true then (some false) else (if (decide (x0.f_Keep < 0)) = true then (some false) else (if (decide (x0.f_Keep > 65535)) = true then (some false) else (if (!x0.f_HasKeep) = true then (if (x0.f_Keep != 0) = true then (some false) else (if (decide ((x0.f_Allowed.length : Int) > 64)) = true then (some false) else (crawlwayref32_RightPeer.l12 x0 0 >>= fun q170 => match q170 with | .ret r' => some r' | .nx sq170 => (some true)))) else (if (decide ((x0.f_Allowed.length : Int) > 64)) = true then (some false) else (crawlwayref32_RightPeer.l13 x0 0 >>= fun q180 => match q180 with | .ret r' => some r' | .nx sq180 => (some true))))))) else (if (decide (x0.f_Keep < 0)) = true then (some false) else (if (decide (x0.f_Keep > 65535)) = true then (some false) else (if (!x0.f_HasKeep) = true then (if (x0.f_Keep != 0) = true then (some false) else (if (decide ((x0.f_Allowed.length : Int) > 64)) = true then (some false) else (crawlwayref32_RightPeer.l14 x0 0 >>= fun q194 => match q194 with | .ret r' => some r' | .nx sq194 => (some true)))) else (if (decide ((x0.f_Allowed.length : Int) > 64)) = true then (some false) else (crawlwayref32_RightPeer.l15 x0 0 >>= fun q204 => match q204 with | .ret r' => some r' | .nx sq204 => (some true)))))))))
theorem crawlwayref32_RightPeer_ok (g0_ : G_api_PeerChange) (x0 : S_api_PeerChange) (r : Bool) (hF : crawlwayref32_RightPeer x0 = some r) (w : World) (hn0 : N_api_PeerChange w (g0_, x0)) :
    Calls Try.prog 16 #[.agg (Cd.cs c_api_PeerChange (g0_, x0)).toArray] w (fun e w' => e = .returned (.bool r) ∧ Below w.heap.size w w') := by
 unfold crawlwayref32_RightPeer at hF
 refine calls_enter (l := [.agg (Cd.cs c_api_PeerChange (g0_, x0)).toArray]) Try.func16 rfl rfl rfl ?_
 refine at_start ?_
 refine at_weak [(0, _)] ⟨rfl, trivial⟩ ?_
 refine sr ?_
 refine at_box (cs := Cd.cs c_api_PeerChange (g0_, x0)) rfl rfl rfl ?_
 intro b1
 refine av rfl (r_assign rfl) ?_
 refine nws [(1, _)] ⟨rfl, trivial⟩ ?_
 refine av rfl (r_build_array (zs := Cd.cs (cVec (cInt .u8) 32 (by decide)) (Vector.replicate 32 (0 : Int) : (Vector Int 32))) (cs := Cd.cs (cVec (cInt .u8) 32 (by decide)) (Vector.replicate 32 (0 : Int) : (Vector Int 32))) Try.underlying23 Try.zeroValue23 rfl Try.sizeOf5 rfl rfl) ?_
 refine at_alloc (cs := Cd.cs (cVec (cInt .u8) 32 (by decide)) (Vector.replicate 32 (0 : Int) : (Vector Int 32))) Try.zeroValue23 rfl rfl ?_
 intro b2
 refine at_store (c := (cVec (cInt .u8) 32 (by decide))) (z := (Vector.replicate 32 (0 : Int) : (Vector Int 32))) .z (Lens.whole _ _) Try.sizeOf23 rfl rfl rfl ?_
 refine nws [(1, _), (3, _)] ⟨rfl, rfl, trivial⟩ ?_
 refine av rfl (r_build_struct (zs := Cd.cs c_api_Endpoint zqG3_0) (cs := Cd.cs c_api_Endpoint zqG3_0) Try.underlying34 Try.zeroValue34 rfl (places_api_Endpoint_34) rfl rfl) ?_
 refine at_alloc (cs := Cd.cs c_api_Endpoint zqG3_0) Try.zeroValue34 rfl rfl ?_
 intro b3
 refine at_store (c := c_api_Endpoint) (z := zqG3_0) .z (Lens.whole _ _) Try.sizeOf34 rfl rfl rfl ?_
 refine nwt [(1, _), (3, _), (4, _)] ⟨rfl, rfl, rfl, trivial⟩ ?_
 refine at_seq ?_
 refine sr ?_
 refine av rfl (r_fieldAddr (fo := 0) Try.underlying37 rfl rfl (fun w => ⟨_, Try.sizeOf23 w⟩) rfl) ?_
 refine av rfl (r_load_aggc (c := (cVec (cInt .u8) 32 (by decide))) (z := x0.f_Key) Try.isAgg23 Try.sizeOf23 rfl (lens_cell (.s (.s .z)) (c_api_PeerChange_f_Key g0_ x0))) ?_
 refine av rfl (r_load_aggc (c := (cVec (cInt .u8) 32 (by decide))) (z := (Vector.replicate 32 (0 : Int) : (Vector Int 32))) Try.isAgg23 Try.sizeOf23 rfl (lens_cell (.s .z) (Lens.whole _ _))) ?_
 refine av rfl (r_eqagg (c := (cVec (cInt .u8) 32 (by decide))) (a := x0.f_Key) (b := (Vector.replicate 32 (0 : Int) : (Vector Int 32))) (eqs_vec Try.underlying23 infoT5 Try.sizeOf5 Try.isAgg5 (.inr rfl) (eqs_int Try.underlying5)) rfl Try.eqGuardType23 rfl rfl (.inl rfl) rfl) ?_
 refine av rfl (r_move rfl) ?_
 rcases of_ite hF with ⟨h4, hF⟩ | ⟨h4, hF⟩
 ·refine at_fix (g := 12) rfl h4 ?_
  refine at_guard_no rfl rfl rfl rfl rfl ?_
  refine at_guard_no rfl rfl rfl rfl rfl ?_
  refine at_guard_no rfl rfl rfl rfl rfl ?_
  refine at_guard_no rfl rfl rfl rfl rfl ?_
  refine at_guard_undef rfl rfl rfl rfl ?_
  refine at_guard_undef rfl rfl rfl rfl ?_
  refine at_guard_undef rfl rfl rfl rfl ?_
  refine at_guard_undef rfl rfl rfl rfl ?_
  refine at_guard_no rfl rfl rfl rfl rfl ?_
  refine av rfl (r_pick rfl rfl rfl) ?_
  refine av rfl (r_move rfl) ?_
  refine at_guard_no rfl rfl rfl rfl rfl ?_
  refine at_guard_no rfl rfl rfl rfl rfl ?_
  refine at_guard_no rfl rfl rfl rfl rfl ?_
  refine at_guard_undef rfl rfl rfl rfl ?_
  refine at_guard_undef rfl rfl rfl rfl ?_
  refine at_guard_undef rfl rfl rfl rfl ?_
  refine at_guard_undef rfl rfl rfl rfl ?_
  refine at_guard_no rfl rfl rfl rfl rfl ?_
  refine av rfl (r_pick rfl rfl rfl) ?_
  refine av rfl (r_move rfl) ?_
  refine at_guard_no rfl rfl rfl rfl rfl ?_
  refine at_guard_no rfl rfl rfl rfl rfl ?_
  refine at_guard_no rfl rfl rfl rfl rfl ?_
  refine at_guard_no rfl rfl rfl rfl rfl ?_
  refine at_guard_undef rfl rfl rfl rfl ?_
  refine at_guard_undef rfl rfl rfl rfl ?_
  refine at_guard_undef rfl rfl rfl rfl ?_
  refine at_guard_undef rfl rfl rfl rfl ?_
  refine at_guard_no rfl rfl rfl rfl rfl ?_
  refine av rfl (r_pick rfl rfl rfl) ?_
  refine at_nil ?_
  refine at_drop (H := _) .z ?_
  refine at_drop (H := _) .z ?_
  refine at_weak [(1, _), (43, _)] ⟨rfl, rfl, trivial⟩ ?_
  refine at_then_normal ?_
  refine at_cond_true rfl rfl ?_
  refine sr ?_
  refine av rfl (r_assign rfl) ?_
  refine at_nil ?_
  refine at_drop (H := _) .z ?_
  refine at_weak [(2, _)] ⟨rfl, trivial⟩ ?_
  refine at_then_normal ?_
  refine rt ?_
  have K := of_some hF
  subst K
  exact at_return1 rfl rfl (fun w1 hw => ⟨rfl, hw.below⟩)
 ·refine at_fix (g := 12) rfl h4 ?_
  refine at_guard_yes rfl rfl rfl ?_
  refine av rfl (r_fieldAddr (fo := 34) Try.underlying37 rfl rfl (fun w => ⟨_, Try.sizeOf4 w⟩) rfl) ?_
  refine at_guard_yes rfl rfl rfl ?_
  refine av rfl (r_load_cell Try.isAgg4 rfl (lens_cell0 (c := cBool) (y := x0.f_HasPsk) (.s (.s .z)) (c_api_PeerChange_f_HasPsk g0_ x0) rfl)) ?_
  refine at_guard_yes rfl rfl rfl ?_
  refine av rfl (r_not rfl) ?_
  refine at_guard_yes rfl rfl rfl ?_
  refine av rfl (r_move rfl) ?_
  rcases of_ite hF with ⟨h5, hF⟩ | ⟨h5, hF⟩
  ·refine at_fix (g := 16) rfl h5 ?_
   refine at_guard_yes rfl rfl rfl ?_
   refine av rfl (r_fieldAddr (fo := 35) Try.underlying37 rfl rfl (fun w => ⟨_, Try.sizeOf23 w⟩) rfl) ?_
   refine at_guard_yes rfl rfl rfl ?_
   refine av rfl (r_load_aggc (c := (cVec (cInt .u8) 32 (by decide))) (z := x0.f_Psk) Try.isAgg23 Try.sizeOf23 rfl (lens_cell (.s (.s .z)) (c_api_PeerChange_f_Psk g0_ x0))) ?_
   refine at_guard_yes rfl rfl rfl ?_
   refine av rfl (r_load_aggc (c := (cVec (cInt .u8) 32 (by decide))) (z := (Vector.replicate 32 (0 : Int) : (Vector Int 32))) Try.isAgg23 Try.sizeOf23 rfl (lens_cell (.s .z) (Lens.whole _ _))) ?_
   refine at_guard_yes rfl rfl rfl ?_
   refine av rfl (r_eqagg (c := (cVec (cInt .u8) 32 (by decide))) (a := x0.f_Psk) (b := (Vector.replicate 32 (0 : Int) : (Vector Int 32))) (eqs_vec Try.underlying23 infoT5 Try.sizeOf5 Try.isAgg5 (.inr rfl) (eqs_int Try.underlying5)) rfl Try.eqGuardType23 rfl rfl (.inr rfl) rfl) ?_
   refine at_guard_yes rfl rfl rfl ?_
   refine av rfl (r_pick rfl rfl rfl) ?_
   refine av rfl (r_pick rfl rfl rfl) ?_
   refine av rfl (r_move rfl) ?_
   rcases of_ite hF with ⟨h6, hF⟩ | ⟨h6, hF⟩
   ·refine at_fix (g := 23) rfl h6 ?_
    refine at_guard_no rfl rfl rfl rfl rfl ?_
    refine at_guard_no rfl rfl rfl rfl rfl ?_
    refine at_guard_no rfl rfl rfl rfl rfl ?_
    refine at_guard_undef rfl rfl rfl rfl ?_
    refine at_guard_undef rfl rfl rfl rfl ?_
    refine at_guard_undef rfl rfl rfl rfl ?_
    refine at_guard_undef rfl rfl rfl rfl ?_
    refine at_guard_no rfl rfl rfl rfl rfl ?_
    refine av rfl (r_pick rfl rfl rfl) ?_
    refine av rfl (r_move rfl) ?_
    refine at_guard_no rfl rfl rfl rfl rfl ?_
    refine at_guard_no rfl rfl rfl rfl rfl ?_
    refine at_guard_no rfl rfl rfl rfl rfl ?_
    refine at_guard_no rfl rfl rfl rfl rfl ?_
    refine at_guard_undef rfl rfl rfl rfl ?_
    refine at_guard_undef rfl rfl rfl rfl ?_
    refine at_guard_undef rfl rfl rfl rfl ?_
    refine at_guard_undef rfl rfl rfl rfl ?_
    refine at_guard_no rfl rfl rfl rfl rfl ?_
    refine av rfl (r_pick rfl rfl rfl) ?_
    refine at_nil ?_
    refine at_drop (H := _) .z ?_
    refine at_drop (H := _) .z ?_
    refine at_weak [(1, _), (43, _)] ⟨rfl, rfl, trivial⟩ ?_
    refine at_then_normal ?_
    refine at_cond_true rfl rfl ?_
    refine sr ?_
    refine av rfl (r_assign rfl) ?_
    refine at_nil ?_
    refine at_drop (H := _) .z ?_
    refine at_weak [(2, _)] ⟨rfl, trivial⟩ ?_
    refine at_then_normal ?_
    refine rt ?_
    have K := of_some hF
    subst K
    exact at_return1 rfl rfl (fun w1 hw => ⟨rfl, hw.below⟩)
   ·refine at_fix (g := 23) rfl h6 ?_
    refine at_guard_yes rfl rfl rfl ?_
    refine av rfl (r_fieldAddr (fo := 67) Try.underlying37 rfl rfl (fun w => ⟨_, Try.sizeOf4 w⟩) rfl) ?_
    refine at_guard_yes rfl rfl rfl ?_
    refine av rfl (r_load_cell Try.isAgg4 rfl (lens_cell0 (c := cBool) (y := x0.f_HasEnd) (.s (.s .z)) (c_api_PeerChange_f_HasEnd g0_ x0) rfl)) ?_
    refine at_guard_yes rfl rfl rfl ?_
    refine av rfl (r_move rfl) ?_
    rcases of_ite hF with ⟨h7, hF⟩ | ⟨h7, hF⟩
    ·refine at_fix (g := 26) rfl h7 ?_
     refine at_guard_yes rfl rfl rfl ?_
     refine av rfl (r_fieldAddr (fo := 68) Try.underlying37 rfl rfl (fun w => ⟨_, Try.sizeOf34 w⟩) rfl) ?_
     refine at_guard_yes rfl rfl rfl ?_
     refine av rfl (r_load_aggc (c := c_api_Endpoint) (z := x0.f_End) Try.isAgg34 Try.sizeOf34 rfl (lens_cell (.s (.s .z)) (c_api_PeerChange_f_End g0_ x0))) ?_
     refine at_guard_yes rfl rfl rfl ?_
     obtain ⟨t8, ht8, hF⟩ := of_bindM hF
     refine at_callB Try.func56 rfl (by kernel_rfl) rfl rfl (fun w hw => crawlwayref12_Right_ok _ _ ht8 w) ?_
     refine at_guard_yes rfl rfl rfl ?_
     refine av rfl (r_not rfl) ?_
     refine at_guard_yes rfl rfl rfl ?_
     refine av rfl (r_pick rfl rfl rfl) ?_
     refine av rfl (r_pick rfl rfl rfl) ?_
     refine av rfl (r_move rfl) ?_
     rcases of_ite hF with ⟨h9, hF⟩ | ⟨h9, hF⟩
     ·refine at_fix (g := 33) rfl h9 ?_
      refine at_guard_no rfl rfl rfl rfl rfl ?_
      refine at_guard_no rfl rfl rfl rfl rfl ?_
      refine at_guard_no rfl rfl rfl rfl rfl ?_
      refine at_guard_no rfl rfl rfl rfl rfl ?_
      refine at_guard_undef rfl rfl rfl rfl ?_
      refine at_guard_undef rfl rfl rfl rfl ?_
      refine at_guard_undef rfl rfl rfl rfl ?_
      refine at_guard_undef rfl rfl rfl rfl ?_
      refine at_guard_no rfl rfl rfl rfl rfl ?_
      refine av rfl (r_pick rfl rfl rfl) ?_
      refine at_nil ?_
      refine at_drop (H := _) .z ?_
      refine at_drop (H := _) .z ?_
      refine at_weak [(1, _), (43, _)] ⟨rfl, rfl, trivial⟩ ?_
      refine at_then_normal ?_
      refine at_cond_true rfl rfl ?_
      refine sr ?_
      refine av rfl (r_assign rfl) ?_
      refine at_nil ?_
      refine at_drop (H := _) .z ?_
      refine at_weak [(2, _)] ⟨rfl, trivial⟩ ?_
      refine at_then_normal ?_
      refine rt ?_
      have K := of_some hF
      subst K
      exact at_return1 rfl rfl (fun w1 hw => ⟨rfl, hw.below⟩)
     ·refine at_fix (g := 33) rfl h9 ?_
      refine at_guard_yes rfl rfl rfl ?_
      refine av rfl (r_fieldAddr (fo := 67) Try.underlying37 rfl rfl (fun w => ⟨_, Try.sizeOf4 w⟩) rfl) ?_
      refine at_guard_yes rfl rfl rfl ?_
      refine av rfl (r_load_cell Try.isAgg4 rfl (lens_cell0 (c := cBool) (y := x0.f_HasEnd) (.s (.s .z)) (c_api_PeerChange_f_HasEnd g0_ x0) rfl)) ?_
      refine at_guard_yes rfl rfl rfl ?_
      refine av rfl (r_not rfl) ?_
      refine at_guard_yes rfl rfl rfl ?_
      refine av rfl (r_move rfl) ?_
      rcases of_ite hF with ⟨h10, hF⟩ | ⟨h10, hF⟩
      ·refine at_fix (g := 37) rfl h10 ?_
       refine at_guard_yes rfl rfl rfl ?_
       refine av rfl (r_fieldAddr (fo := 68) Try.underlying37 rfl rfl (fun w => ⟨_, Try.sizeOf34 w⟩) rfl) ?_
       refine at_guard_yes rfl rfl rfl ?_
       refine av rfl (r_load_aggc (c := c_api_Endpoint) (z := x0.f_End) Try.isAgg34 Try.sizeOf34 rfl (lens_cell (.s (.s .z)) (c_api_PeerChange_f_End g0_ x0))) ?_
       refine at_guard_yes rfl rfl rfl ?_
       refine av rfl (r_load_aggc (c := c_api_Endpoint) (z := zqG3_0) Try.isAgg34 Try.sizeOf34 rfl (lens_cell .z (Lens.whole _ _))) ?_
       refine at_guard_yes rfl rfl rfl ?_
       refine av rfl (r_eqagg (c := c_api_Endpoint) (a := x0.f_End) (b := zqG3_0) (eq_api_Endpoint_34) rfl Try.eqGuardType34 rfl rfl (.inr rfl) rfl) ?_
       refine at_guard_yes rfl rfl rfl ?_
       refine av rfl (r_pick rfl rfl rfl) ?_
       refine av rfl (r_pick rfl rfl rfl) ?_
       refine at_nil ?_
       refine at_drop (H := _) .z ?_
       refine at_drop (H := _) .z ?_
       refine at_weak [(1, _), (43, _)] ⟨rfl, rfl, trivial⟩ ?_
       refine at_then_normal ?_
       rcases of_ite hF with ⟨h11, hF⟩ | ⟨h11, hF⟩
       ·refine at_cond_true rfl h11 ?_
        refine sr ?_
        refine av rfl (r_assign rfl) ?_
        refine at_nil ?_
        refine at_drop (H := _) .z ?_
        refine at_weak [(2, _)] ⟨rfl, trivial⟩ ?_
        refine at_then_normal ?_
        refine rt ?_
        have K := of_some hF
        subst K
        exact at_return1 rfl rfl (fun w1 hw => ⟨rfl, hw.below⟩)
       ·refine at_cond_false rfl h11 ?_
        refine sn ?_
        refine at_seq ?_
        refine sr ?_
        refine av rfl (r_fieldAddr (fo := 87) Try.underlying37 rfl rfl (fun w => ⟨_, Try.sizeOf3 w⟩) rfl) ?_
        refine av rfl (r_load_cell Try.isAgg3 rfl (lens_cell0 (c := (cInt .i64)) (y := x0.f_Keep) .z (c_api_PeerChange_f_Keep g0_ x0) rfl)) ?_
        refine av rfl (r_ilss rfl rfl) ?_
        refine av rfl (r_move rfl) ?_
        rcases of_ite hF with ⟨h12, hF⟩ | ⟨h12, hF⟩
        ·refine at_fix (g := 47) rfl h12 ?_
         refine at_guard_no rfl rfl rfl rfl rfl ?_
         refine at_guard_no rfl rfl rfl rfl rfl ?_
         refine at_guard_no rfl rfl rfl rfl rfl ?_
         refine av rfl (r_pick rfl rfl rfl) ?_
         refine av rfl (r_move rfl) ?_
         refine at_guard_no rfl rfl rfl rfl rfl ?_
         refine at_guard_no rfl rfl rfl rfl rfl ?_
         refine at_guard_no rfl rfl rfl rfl rfl ?_
         refine at_guard_no rfl rfl rfl rfl rfl ?_
         refine at_guard_undef rfl rfl rfl rfl ?_
         refine at_guard_undef rfl rfl rfl rfl ?_
         refine at_guard_undef rfl rfl rfl rfl ?_
         refine at_guard_no rfl rfl rfl rfl rfl ?_
         refine av rfl (r_pick rfl rfl rfl) ?_
         refine av rfl (r_move rfl) ?_
         refine at_guard_no rfl rfl rfl rfl rfl ?_
         refine at_guard_no rfl rfl rfl rfl rfl ?_
         refine at_guard_no rfl rfl rfl rfl rfl ?_
         refine at_guard_no rfl rfl rfl rfl rfl ?_
         refine av rfl (r_pick rfl rfl rfl) ?_
         refine nwt [(1, _), (67, _)] ⟨rfl, rfl, trivial⟩ ?_
         refine at_cond_true rfl rfl ?_
         refine sr ?_
         refine av rfl (r_assign rfl) ?_
         refine at_nil ?_
         refine at_drop (H := _) .z ?_
         refine at_weak [(2, _)] ⟨rfl, trivial⟩ ?_
         refine at_then_normal ?_
         refine rt ?_
         have K := of_some hF
         subst K
         exact at_return1 rfl rfl (fun w1 hw => ⟨rfl, hw.below⟩)
        ·refine at_fix (g := 47) rfl h12 ?_
         refine at_guard_yes rfl rfl rfl ?_
         refine av rfl (r_fieldAddr (fo := 87) Try.underlying37 rfl rfl (fun w => ⟨_, Try.sizeOf3 w⟩) rfl) ?_
         refine at_guard_yes rfl rfl rfl ?_
         refine av rfl (r_load_cell Try.isAgg3 rfl (lens_cell0 (c := (cInt .i64)) (y := x0.f_Keep) .z (c_api_PeerChange_f_Keep g0_ x0) rfl)) ?_
         refine at_guard_yes rfl rfl rfl ?_
         refine av rfl (r_igtr rfl rfl) ?_
         refine av rfl (r_pick rfl rfl rfl) ?_
         refine av rfl (r_move rfl) ?_
         rcases of_ite hF with ⟨h13, hF⟩ | ⟨h13, hF⟩
         ·refine at_fix (g := 52) rfl h13 ?_
          refine at_guard_no rfl rfl rfl rfl rfl ?_
          refine at_guard_no rfl rfl rfl rfl rfl ?_
          refine at_guard_no rfl rfl rfl rfl rfl ?_
          refine at_guard_no rfl rfl rfl rfl rfl ?_
          refine at_guard_undef rfl rfl rfl rfl ?_
          refine at_guard_undef rfl rfl rfl rfl ?_
          refine at_guard_undef rfl rfl rfl rfl ?_
          refine at_guard_no rfl rfl rfl rfl rfl ?_
          refine av rfl (r_pick rfl rfl rfl) ?_
          refine av rfl (r_move rfl) ?_
          refine at_guard_no rfl rfl rfl rfl rfl ?_
          refine at_guard_no rfl rfl rfl rfl rfl ?_
          refine at_guard_no rfl rfl rfl rfl rfl ?_
          refine at_guard_no rfl rfl rfl rfl rfl ?_
          refine av rfl (r_pick rfl rfl rfl) ?_
          refine nwt [(1, _), (67, _)] ⟨rfl, rfl, trivial⟩ ?_
          refine at_cond_true rfl rfl ?_
          refine sr ?_
          refine av rfl (r_assign rfl) ?_
          refine at_nil ?_
          refine at_drop (H := _) .z ?_
          refine at_weak [(2, _)] ⟨rfl, trivial⟩ ?_
          refine at_then_normal ?_
          refine rt ?_
          have K := of_some hF
          subst K
          exact at_return1 rfl rfl (fun w1 hw => ⟨rfl, hw.below⟩)
         ·refine at_fix (g := 52) rfl h13 ?_
          refine at_guard_yes rfl rfl rfl ?_
          refine av rfl (r_fieldAddr (fo := 86) Try.underlying37 rfl rfl (fun w => ⟨_, Try.sizeOf4 w⟩) rfl) ?_
          refine at_guard_yes rfl rfl rfl ?_
          refine av rfl (r_load_cell Try.isAgg4 rfl (lens_cell0 (c := cBool) (y := x0.f_HasKeep) .z (c_api_PeerChange_f_HasKeep g0_ x0) rfl)) ?_
          refine at_guard_yes rfl rfl rfl ?_
          refine av rfl (r_not rfl) ?_
          refine at_guard_yes rfl rfl rfl ?_
          refine av rfl (r_move rfl) ?_
          rcases of_ite hF with ⟨h14, hF⟩ | ⟨h14, hF⟩
          ·refine at_fix (g := 56) rfl h14 ?_
           refine at_guard_yes rfl rfl rfl ?_
           refine av rfl (r_fieldAddr (fo := 87) Try.underlying37 rfl rfl (fun w => ⟨_, Try.sizeOf3 w⟩) rfl) ?_
           refine at_guard_yes rfl rfl rfl ?_
           refine av rfl (r_load_cell Try.isAgg3 rfl (lens_cell0 (c := (cInt .i64)) (y := x0.f_Keep) .z (c_api_PeerChange_f_Keep g0_ x0) rfl)) ?_
           refine at_guard_yes rfl rfl rfl ?_
           refine av rfl (r_ineq rfl rfl) ?_
           refine at_guard_yes rfl rfl rfl ?_
           refine av rfl (r_pick rfl rfl rfl) ?_
           refine av rfl (r_pick rfl rfl rfl) ?_
           refine av rfl (r_move rfl) ?_
           rcases of_ite hF with ⟨h15, hF⟩ | ⟨h15, hF⟩
           ·refine at_fix (g := 62) rfl h15 ?_
            refine at_guard_no rfl rfl rfl rfl rfl ?_
            refine at_guard_no rfl rfl rfl rfl rfl ?_
            refine at_guard_no rfl rfl rfl rfl rfl ?_
            refine at_guard_no rfl rfl rfl rfl rfl ?_
            refine av rfl (r_pick rfl rfl rfl) ?_
            refine nwt [(1, _), (67, _)] ⟨rfl, rfl, trivial⟩ ?_
            refine at_cond_true rfl rfl ?_
            refine sr ?_
            refine av rfl (r_assign rfl) ?_
            refine at_nil ?_
            refine at_drop (H := _) .z ?_
            refine at_weak [(2, _)] ⟨rfl, trivial⟩ ?_
            refine at_then_normal ?_
            refine rt ?_
            have K := of_some hF
            subst K
            exact at_return1 rfl rfl (fun w1 hw => ⟨rfl, hw.below⟩)
           ·refine at_fix (g := 62) rfl h15 ?_
            refine at_guard_yes rfl rfl rfl ?_
            refine av rfl (r_fieldAddr (fo := 89) Try.underlying37 rfl rfl (fun w => ⟨_, Try.sizeOf35 w⟩) rfl) ?_
            refine at_guard_yes rfl rfl rfl ?_
            refine av rfl (r_load_cell Try.isAgg35 rfl (lens_cell0 (c := cHd) (y := ⟨g0_.1, List.length x0.f_Allowed, g0_.2⟩) .z (c_api_PeerChange_f_Allowed g0_ x0) rfl)) ?_
            refine at_guard_yes rfl rfl rfl ?_
            refine av rfl (r_len_sl Try.underlying35 rfl) ?_
            refine at_guard_yes rfl rfl rfl ?_
            refine av rfl (r_igtr rfl rfl) ?_
            refine av rfl (r_pick rfl rfl rfl) ?_
            refine nwt [(1, _), (67, _)] ⟨rfl, rfl, trivial⟩ ?_
            rcases of_ite hF with ⟨h16, hF⟩ | ⟨h16, hF⟩
            ·refine at_cond_true rfl h16 ?_
             refine sr ?_
             refine av rfl (r_assign rfl) ?_
             refine at_nil ?_
             refine at_drop (H := _) .z ?_
             refine at_weak [(2, _)] ⟨rfl, trivial⟩ ?_
             refine at_then_normal ?_
             refine rt ?_
             have K := of_some hF
             subst K
             exact at_return1 rfl rfl (fun w1 hw => ⟨rfl, hw.below⟩)
            ·refine at_cond_false rfl h16 ?_
             refine sn ?_
             refine at_seq ?_
             refine sr ?_
             refine av rfl (r_assign rfl) ?_
             refine nwt [(1, _), (5, _)] ⟨rfl, rfl, trivial⟩ ?_
             refine at_block ?_
             obtain ⟨q17, hq17, hF⟩ := of_bindM hF
             refine at_weak [(1, _), (5, _)] ⟨rfl, rfl, trivial⟩ ?_
             refine at_loop_r (B := 0) (r := r) (q := q17) (A := fun (_ : Unit) Y => At 82 [] (Wd w []) Y) ?_ ?_
             ·intro K
              refine crawlwayref32_RightPeer.l0.partial_correctness x0 (motive := fun i18 x => KR (fun (_ : Unit) Y => At 82 [] (Wd w []) Y) _ 0 r x → Round (fun Y => At 82 [(1, .pointer (some ⟨b1, 0, none⟩)), (5, .int .i64 i18)] (Wd w [cellsE b1 (Cd.cs c_api_PeerChange (g0_, x0)) 37]) Y) _ _ _) ?_ _ _ hq17 K
              ·clear K hF
               intro g ih i18 x hF K
               refine at_round ?_
               refine at_seq ?_
               refine sr ?_
               refine av rfl (r_move rfl) ?_
               refine av rfl (r_fieldAddr (fo := 89) Try.underlying37 rfl rfl (fun w => ⟨_, Try.sizeOf35 w⟩) rfl) ?_
               refine av rfl (r_load_cell Try.isAgg35 rfl (lens_cell0 (c := cHd) (y := ⟨g0_.1, List.length x0.f_Allowed, g0_.2⟩) .z (c_api_PeerChange_f_Allowed g0_ x0) rfl)) ?_
               refine av rfl (r_len_sl Try.underlying35 rfl) ?_
               refine av rfl (r_ilss rfl rfl) ?_
               refine nwt [(1, _), (5, _), (72, _)] ⟨rfl, rfl, rfl, trivial⟩ ?_
               rcases of_ite hF with ⟨h19, hF⟩ | ⟨h19, hF⟩
               ·refine at_cond_true rfl h19 ?_
                refine sn ?_
                refine at_seq ?_
                refine at_block ?_
                refine sr ?_
                refine av rfl (r_fieldAddr (fo := 89) Try.underlying37 rfl rfl (fun w => ⟨_, Try.sizeOf35 w⟩) rfl) ?_
                refine av rfl (r_load_cell Try.isAgg35 rfl (lens_cell0 (c := cHd) (y := ⟨g0_.1, List.length x0.f_Allowed, g0_.2⟩) .z (c_api_PeerChange_f_Allowed g0_ x0) rfl)) ?_
                refine av rfl (r_move rfl) ?_
                obtain ⟨h20, hF⟩ := of_guard hF
                obtain ⟨b22, o23, hp21⟩ := row_ptr hn0 h20
                refine av rfl (r_idx Try.underlying35 Try.sizeOf46 rfl rfl h20 hp21) ?_
                refine av rfl (r_load_aggc (c := c_api_Prefix) (z := lget x0.f_Allowed i18) Try.isAgg46 Try.sizeOf46 rfl (row_cell (fun _ h => h.below) hn0 h20 hp21)) ?_
                obtain ⟨t24, ht24, hF⟩ := of_bindM hF
                refine at_callB Try.func57 rfl (by kernel_rfl) rfl rfl (fun w hw => crawlwayref11_Right_ok _ _ ht24 w) ?_
                refine av rfl (r_not rfl) ?_
                refine nwt [(1, _), (5, _), (81, _)] ⟨rfl, rfl, rfl, trivial⟩ ?_
                rcases of_ite hF with ⟨h25, hF⟩ | ⟨h25, hF⟩
                ·refine at_cond_true rfl h25 ?_
                 refine sr ?_
                 refine av rfl (r_assign rfl) ?_
                 refine at_nil ?_
                 refine at_drop (H := _) .z ?_
                 refine at_weak [(2, _)] ⟨rfl, trivial⟩ ?_
                 refine at_then_normal ?_
                 refine at_ret ?_
                 refine at_blk_ret (at_then_ret (at_then_ret (at_blk_ret (at_then_ret ?_))))
                 obtain rfl := of_some hF
                 subst K
                 exact at_return1 rfl rfl (fun w1 hw => ⟨rfl, hw.below⟩)
                ·refine at_cond_false rfl h25 ?_
                 refine at_skip ?_
                 refine at_blk_normal (at_then_normal ?_)
                 refine at_region ?_
                 refine av rfl (r_move rfl) ?_
                 refine av rfl (r_iadd rfl rfl) ?_
                 refine av rfl (r_assign rfl) ?_
                 refine nwt [(1, _), (5, _)] ⟨rfl, rfl, trivial⟩ ?_
                 exact at_weak_k (ih _ _ hF K) ⟨rfl, rfl, trivial⟩
               ·refine at_cond_false rfl h19 ?_
                refine at_exit ?_
                refine at_then_exit (at_then_exit ?_)
                refine at_drop (H := _) .z ?_
                obtain rfl := of_some hF
                exact at_weak_k K trivial
             ·cases q17 with
              | ret r' => exact of_some hF
              | nx sq17 =>
               skip
               refine at_blk_same ?_
               refine at_then_normal ?_
               refine sr ?_
               refine av rfl (r_assign rfl) ?_
               refine nwt [(2, _)] ⟨rfl, trivial⟩ ?_
               refine at_ret ?_
               have K := of_some hF
               subst K
               exact at_return1 rfl rfl (fun w1 hw => ⟨rfl, hw.below⟩)
          ·refine at_fix (g := 56) rfl h14 ?_
           refine at_guard_no rfl rfl rfl rfl rfl ?_
           refine at_guard_no rfl rfl rfl rfl rfl ?_
           refine at_guard_no rfl rfl rfl rfl rfl ?_
           refine at_guard_yes rfl rfl rfl ?_
           refine av rfl (r_pick rfl rfl rfl) ?_
           refine av rfl (r_pick rfl rfl rfl) ?_
           refine av rfl (r_move rfl) ?_
           refine at_guard_yes rfl rfl rfl ?_
           refine av rfl (r_fieldAddr (fo := 89) Try.underlying37 rfl rfl (fun w => ⟨_, Try.sizeOf35 w⟩) rfl) ?_
           refine at_guard_yes rfl rfl rfl ?_
           refine av rfl (r_load_cell Try.isAgg35 rfl (lens_cell0 (c := cHd) (y := ⟨g0_.1, List.length x0.f_Allowed, g0_.2⟩) .z (c_api_PeerChange_f_Allowed g0_ x0) rfl)) ?_
           refine at_guard_yes rfl rfl rfl ?_
           refine av rfl (r_len_sl Try.underlying35 rfl) ?_
           refine at_guard_yes rfl rfl rfl ?_
           refine av rfl (r_igtr rfl rfl) ?_
           refine av rfl (r_pick rfl rfl rfl) ?_
           refine nwt [(1, _), (67, _)] ⟨rfl, rfl, trivial⟩ ?_
           rcases of_ite hF with ⟨h26, hF⟩ | ⟨h26, hF⟩
           ·refine at_cond_true rfl h26 ?_
            refine sr ?_
            refine av rfl (r_assign rfl) ?_
            refine at_nil ?_
            refine at_drop (H := _) .z ?_
            refine at_weak [(2, _)] ⟨rfl, trivial⟩ ?_
            refine at_then_normal ?_
            refine rt ?_
            have K := of_some hF
            subst K
            exact at_return1 rfl rfl (fun w1 hw => ⟨rfl, hw.below⟩)
           ·refine at_cond_false rfl h26 ?_
            refine sn ?_
            refine at_seq ?_
            refine sr ?_
            refine av rfl (r_assign rfl) ?_
            refine nwt [(1, _), (5, _)] ⟨rfl, rfl, trivial⟩ ?_
            refine at_block ?_
            obtain ⟨q27, hq27, hF⟩ := of_bindM hF
            refine at_weak [(1, _), (5, _)] ⟨rfl, rfl, trivial⟩ ?_
            refine at_loop_r (B := 0) (r := r) (q := q27) (A := fun (_ : Unit) Y => At 82 [] (Wd w []) Y) ?_ ?_
            ·intro K
             refine crawlwayref32_RightPeer.l1.partial_correctness x0 (motive := fun i28 x => KR (fun (_ : Unit) Y => At 82 [] (Wd w []) Y) _ 0 r x → Round (fun Y => At 82 [(1, .pointer (some ⟨b1, 0, none⟩)), (5, .int .i64 i28)] (Wd w [cellsE b1 (Cd.cs c_api_PeerChange (g0_, x0)) 37]) Y) _ _ _) ?_ _ _ hq27 K
             ·clear K hF
              intro g ih i28 x hF K
              refine at_round ?_
              refine at_seq ?_
              refine sr ?_
              refine av rfl (r_move rfl) ?_
              refine av rfl (r_fieldAddr (fo := 89) Try.underlying37 rfl rfl (fun w => ⟨_, Try.sizeOf35 w⟩) rfl) ?_
              refine av rfl (r_load_cell Try.isAgg35 rfl (lens_cell0 (c := cHd) (y := ⟨g0_.1, List.length x0.f_Allowed, g0_.2⟩) .z (c_api_PeerChange_f_Allowed g0_ x0) rfl)) ?_
              refine av rfl (r_len_sl Try.underlying35 rfl) ?_
              refine av rfl (r_ilss rfl rfl) ?_
              refine nwt [(1, _), (5, _), (72, _)] ⟨rfl, rfl, rfl, trivial⟩ ?_
              rcases of_ite hF with ⟨h29, hF⟩ | ⟨h29, hF⟩
              ·refine at_cond_true rfl h29 ?_
               refine sn ?_
               refine at_seq ?_
               refine at_block ?_
               refine sr ?_
               refine av rfl (r_fieldAddr (fo := 89) Try.underlying37 rfl rfl (fun w => ⟨_, Try.sizeOf35 w⟩) rfl) ?_
               refine av rfl (r_load_cell Try.isAgg35 rfl (lens_cell0 (c := cHd) (y := ⟨g0_.1, List.length x0.f_Allowed, g0_.2⟩) .z (c_api_PeerChange_f_Allowed g0_ x0) rfl)) ?_
               refine av rfl (r_move rfl) ?_
               obtain ⟨h30, hF⟩ := of_guard hF
               obtain ⟨b32, o33, hp31⟩ := row_ptr hn0 h30
               refine av rfl (r_idx Try.underlying35 Try.sizeOf46 rfl rfl h30 hp31) ?_
               refine av rfl (r_load_aggc (c := c_api_Prefix) (z := lget x0.f_Allowed i28) Try.isAgg46 Try.sizeOf46 rfl (row_cell (fun _ h => h.below) hn0 h30 hp31)) ?_
               obtain ⟨t34, ht34, hF⟩ := of_bindM hF
               refine at_callB Try.func57 rfl (by kernel_rfl) rfl rfl (fun w hw => crawlwayref11_Right_ok _ _ ht34 w) ?_
               refine av rfl (r_not rfl) ?_
               refine nwt [(1, _), (5, _), (81, _)] ⟨rfl, rfl, rfl, trivial⟩ ?_
               rcases of_ite hF with ⟨h35, hF⟩ | ⟨h35, hF⟩
               ·refine at_cond_true rfl h35 ?_
                refine sr ?_
                refine av rfl (r_assign rfl) ?_
                refine at_nil ?_
                refine at_drop (H := _) .z ?_
                refine at_weak [(2, _)] ⟨rfl, trivial⟩ ?_
                refine at_then_normal ?_
                refine at_ret ?_
                refine at_blk_ret (at_then_ret (at_then_ret (at_blk_ret (at_then_ret ?_))))
                obtain rfl := of_some hF
                subst K
                exact at_return1 rfl rfl (fun w1 hw => ⟨rfl, hw.below⟩)
               ·refine at_cond_false rfl h35 ?_
                refine at_skip ?_
                refine at_blk_normal (at_then_normal ?_)
                refine at_region ?_
                refine av rfl (r_move rfl) ?_
                refine av rfl (r_iadd rfl rfl) ?_
                refine av rfl (r_assign rfl) ?_
                refine nwt [(1, _), (5, _)] ⟨rfl, rfl, trivial⟩ ?_
                exact at_weak_k (ih _ _ hF K) ⟨rfl, rfl, trivial⟩
              ·refine at_cond_false rfl h29 ?_
               refine at_exit ?_
               refine at_then_exit (at_then_exit ?_)
               refine at_drop (H := _) .z ?_
               obtain rfl := of_some hF
               exact at_weak_k K trivial
            ·cases q27 with
             | ret r' => exact of_some hF
             | nx sq27 =>
              skip
              refine at_blk_same ?_
              refine at_then_normal ?_
              refine sr ?_
              refine av rfl (r_assign rfl) ?_
              refine nwt [(2, _)] ⟨rfl, trivial⟩ ?_
              refine at_ret ?_
              have K := of_some hF
              subst K
              exact at_return1 rfl rfl (fun w1 hw => ⟨rfl, hw.below⟩)
      ·refine at_fix (g := 37) rfl h10 ?_
       refine at_guard_no rfl rfl rfl rfl rfl ?_
       refine at_guard_no rfl rfl rfl rfl rfl ?_
       refine at_guard_no rfl rfl rfl rfl rfl ?_
       refine at_guard_no rfl rfl rfl rfl rfl ?_
       refine at_guard_yes rfl rfl rfl ?_
       refine av rfl (r_pick rfl rfl rfl) ?_
       refine av rfl (r_pick rfl rfl rfl) ?_
       refine at_nil ?_
       refine at_drop (H := _) .z ?_
       refine at_drop (H := _) .z ?_
       refine at_weak [(1, _), (43, _)] ⟨rfl, rfl, trivial⟩ ?_
       refine at_then_normal ?_
       refine at_cond_false rfl rfl ?_
       refine sn ?_
       refine at_seq ?_
       refine sr ?_
       refine av rfl (r_fieldAddr (fo := 87) Try.underlying37 rfl rfl (fun w => ⟨_, Try.sizeOf3 w⟩) rfl) ?_
       refine av rfl (r_load_cell Try.isAgg3 rfl (lens_cell0 (c := (cInt .i64)) (y := x0.f_Keep) .z (c_api_PeerChange_f_Keep g0_ x0) rfl)) ?_
       refine av rfl (r_ilss rfl rfl) ?_
       refine av rfl (r_move rfl) ?_
       rcases of_ite hF with ⟨h36, hF⟩ | ⟨h36, hF⟩
       ·refine at_fix (g := 47) rfl h36 ?_
        refine at_guard_no rfl rfl rfl rfl rfl ?_
        refine at_guard_no rfl rfl rfl rfl rfl ?_
        refine at_guard_no rfl rfl rfl rfl rfl ?_
        refine av rfl (r_pick rfl rfl rfl) ?_
        refine av rfl (r_move rfl) ?_
        refine at_guard_no rfl rfl rfl rfl rfl ?_
        refine at_guard_no rfl rfl rfl rfl rfl ?_
        refine at_guard_no rfl rfl rfl rfl rfl ?_
        refine at_guard_no rfl rfl rfl rfl rfl ?_
        refine at_guard_undef rfl rfl rfl rfl ?_
        refine at_guard_undef rfl rfl rfl rfl ?_
        refine at_guard_undef rfl rfl rfl rfl ?_
        refine at_guard_no rfl rfl rfl rfl rfl ?_
        refine av rfl (r_pick rfl rfl rfl) ?_
        refine av rfl (r_move rfl) ?_
        refine at_guard_no rfl rfl rfl rfl rfl ?_
        refine at_guard_no rfl rfl rfl rfl rfl ?_
        refine at_guard_no rfl rfl rfl rfl rfl ?_
        refine at_guard_no rfl rfl rfl rfl rfl ?_
        refine av rfl (r_pick rfl rfl rfl) ?_
        refine nwt [(1, _), (67, _)] ⟨rfl, rfl, trivial⟩ ?_
        refine at_cond_true rfl rfl ?_
        refine sr ?_
        refine av rfl (r_assign rfl) ?_
        refine at_nil ?_
        refine at_drop (H := _) .z ?_
        refine at_weak [(2, _)] ⟨rfl, trivial⟩ ?_
        refine at_then_normal ?_
        refine rt ?_
        have K := of_some hF
        subst K
        exact at_return1 rfl rfl (fun w1 hw => ⟨rfl, hw.below⟩)
       ·refine at_fix (g := 47) rfl h36 ?_
        refine at_guard_yes rfl rfl rfl ?_
        refine av rfl (r_fieldAddr (fo := 87) Try.underlying37 rfl rfl (fun w => ⟨_, Try.sizeOf3 w⟩) rfl) ?_
        refine at_guard_yes rfl rfl rfl ?_
        refine av rfl (r_load_cell Try.isAgg3 rfl (lens_cell0 (c := (cInt .i64)) (y := x0.f_Keep) .z (c_api_PeerChange_f_Keep g0_ x0) rfl)) ?_
        refine at_guard_yes rfl rfl rfl ?_
        refine av rfl (r_igtr rfl rfl) ?_
        refine av rfl (r_pick rfl rfl rfl) ?_
        refine av rfl (r_move rfl) ?_
        rcases of_ite hF with ⟨h37, hF⟩ | ⟨h37, hF⟩
        ·refine at_fix (g := 52) rfl h37 ?_
         refine at_guard_no rfl rfl rfl rfl rfl ?_
         refine at_guard_no rfl rfl rfl rfl rfl ?_
         refine at_guard_no rfl rfl rfl rfl rfl ?_
         refine at_guard_no rfl rfl rfl rfl rfl ?_
         refine at_guard_undef rfl rfl rfl rfl ?_
         refine at_guard_undef rfl rfl rfl rfl ?_
         refine at_guard_undef rfl rfl rfl rfl ?_
         refine at_guard_no rfl rfl rfl rfl rfl ?_
         refine av rfl (r_pick rfl rfl rfl) ?_
         refine av rfl (r_move rfl) ?_
         refine at_guard_no rfl rfl rfl rfl rfl ?_
         refine at_guard_no rfl rfl rfl rfl rfl ?_
         refine at_guard_no rfl rfl rfl rfl rfl ?_
         refine at_guard_no rfl rfl rfl rfl rfl ?_
         refine av rfl (r_pick rfl rfl rfl) ?_
         refine nwt [(1, _), (67, _)] ⟨rfl, rfl, trivial⟩ ?_
         refine at_cond_true rfl rfl ?_
         refine sr ?_
         refine av rfl (r_assign rfl) ?_
         refine at_nil ?_
         refine at_drop (H := _) .z ?_
         refine at_weak [(2, _)] ⟨rfl, trivial⟩ ?_
         refine at_then_normal ?_
         refine rt ?_
         have K := of_some hF
         subst K
         exact at_return1 rfl rfl (fun w1 hw => ⟨rfl, hw.below⟩)
        ·refine at_fix (g := 52) rfl h37 ?_
         refine at_guard_yes rfl rfl rfl ?_
         refine av rfl (r_fieldAddr (fo := 86) Try.underlying37 rfl rfl (fun w => ⟨_, Try.sizeOf4 w⟩) rfl) ?_
         refine at_guard_yes rfl rfl rfl ?_
         refine av rfl (r_load_cell Try.isAgg4 rfl (lens_cell0 (c := cBool) (y := x0.f_HasKeep) .z (c_api_PeerChange_f_HasKeep g0_ x0) rfl)) ?_
         refine at_guard_yes rfl rfl rfl ?_
         refine av rfl (r_not rfl) ?_
         refine at_guard_yes rfl rfl rfl ?_
         refine av rfl (r_move rfl) ?_
         rcases of_ite hF with ⟨h38, hF⟩ | ⟨h38, hF⟩
         ·refine at_fix (g := 56) rfl h38 ?_
          refine at_guard_yes rfl rfl rfl ?_
          refine av rfl (r_fieldAddr (fo := 87) Try.underlying37 rfl rfl (fun w => ⟨_, Try.sizeOf3 w⟩) rfl) ?_
          refine at_guard_yes rfl rfl rfl ?_
          refine av rfl (r_load_cell Try.isAgg3 rfl (lens_cell0 (c := (cInt .i64)) (y := x0.f_Keep) .z (c_api_PeerChange_f_Keep g0_ x0) rfl)) ?_
          refine at_guard_yes rfl rfl rfl ?_
          refine av rfl (r_ineq rfl rfl) ?_
          refine at_guard_yes rfl rfl rfl ?_
          refine av rfl (r_pick rfl rfl rfl) ?_
          refine av rfl (r_pick rfl rfl rfl) ?_
          refine av rfl (r_move rfl) ?_
          rcases of_ite hF with ⟨h39, hF⟩ | ⟨h39, hF⟩
          ·refine at_fix (g := 62) rfl h39 ?_
           refine at_guard_no rfl rfl rfl rfl rfl ?_
           refine at_guard_no rfl rfl rfl rfl rfl ?_
           refine at_guard_no rfl rfl rfl rfl rfl ?_
           refine at_guard_no rfl rfl rfl rfl rfl ?_
           refine av rfl (r_pick rfl rfl rfl) ?_
           refine nwt [(1, _), (67, _)] ⟨rfl, rfl, trivial⟩ ?_
           refine at_cond_true rfl rfl ?_
           refine sr ?_
           refine av rfl (r_assign rfl) ?_
           refine at_nil ?_
           refine at_drop (H := _) .z ?_
           refine at_weak [(2, _)] ⟨rfl, trivial⟩ ?_
           refine at_then_normal ?_
           refine rt ?_
           have K := of_some hF
           subst K
           exact at_return1 rfl rfl (fun w1 hw => ⟨rfl, hw.below⟩)
          ·refine at_fix (g := 62) rfl h39 ?_
           refine at_guard_yes rfl rfl rfl ?_
           refine av rfl (r_fieldAddr (fo := 89) Try.underlying37 rfl rfl (fun w => ⟨_, Try.sizeOf35 w⟩) rfl) ?_
           refine at_guard_yes rfl rfl rfl ?_
           refine av rfl (r_load_cell Try.isAgg35 rfl (lens_cell0 (c := cHd) (y := ⟨g0_.1, List.length x0.f_Allowed, g0_.2⟩) .z (c_api_PeerChange_f_Allowed g0_ x0) rfl)) ?_
           refine at_guard_yes rfl rfl rfl ?_
           refine av rfl (r_len_sl Try.underlying35 rfl) ?_
           refine at_guard_yes rfl rfl rfl ?_
           refine av rfl (r_igtr rfl rfl) ?_
           refine av rfl (r_pick rfl rfl rfl) ?_
           refine nwt [(1, _), (67, _)] ⟨rfl, rfl, trivial⟩ ?_
           rcases of_ite hF with ⟨h40, hF⟩ | ⟨h40, hF⟩
           ·refine at_cond_true rfl h40 ?_
            refine sr ?_
            refine av rfl (r_assign rfl) ?_
            refine at_nil ?_
            refine at_drop (H := _) .z ?_
            refine at_weak [(2, _)] ⟨rfl, trivial⟩ ?_
            refine at_then_normal ?_
            refine rt ?_
            have K := of_some hF
            subst K
            exact at_return1 rfl rfl (fun w1 hw => ⟨rfl, hw.below⟩)
           ·refine at_cond_false rfl h40 ?_
            refine sn ?_
            refine at_seq ?_
            refine sr ?_
            refine av rfl (r_assign rfl) ?_
            refine nwt [(1, _), (5, _)] ⟨rfl, rfl, trivial⟩ ?_
            refine at_block ?_
            obtain ⟨q41, hq41, hF⟩ := of_bindM hF
            refine at_weak [(1, _), (5, _)] ⟨rfl, rfl, trivial⟩ ?_
            refine at_loop_r (B := 0) (r := r) (q := q41) (A := fun (_ : Unit) Y => At 82 [] (Wd w []) Y) ?_ ?_
            ·intro K
             refine crawlwayref32_RightPeer.l2.partial_correctness x0 (motive := fun i42 x => KR (fun (_ : Unit) Y => At 82 [] (Wd w []) Y) _ 0 r x → Round (fun Y => At 82 [(1, .pointer (some ⟨b1, 0, none⟩)), (5, .int .i64 i42)] (Wd w [cellsE b1 (Cd.cs c_api_PeerChange (g0_, x0)) 37]) Y) _ _ _) ?_ _ _ hq41 K
             ·clear K hF
              intro g ih i42 x hF K
              refine at_round ?_
              refine at_seq ?_
              refine sr ?_
              refine av rfl (r_move rfl) ?_
              refine av rfl (r_fieldAddr (fo := 89) Try.underlying37 rfl rfl (fun w => ⟨_, Try.sizeOf35 w⟩) rfl) ?_
              refine av rfl (r_load_cell Try.isAgg35 rfl (lens_cell0 (c := cHd) (y := ⟨g0_.1, List.length x0.f_Allowed, g0_.2⟩) .z (c_api_PeerChange_f_Allowed g0_ x0) rfl)) ?_
              refine av rfl (r_len_sl Try.underlying35 rfl) ?_
              refine av rfl (r_ilss rfl rfl) ?_
              refine nwt [(1, _), (5, _), (72, _)] ⟨rfl, rfl, rfl, trivial⟩ ?_
              rcases of_ite hF with ⟨h43, hF⟩ | ⟨h43, hF⟩
              ·refine at_cond_true rfl h43 ?_
               refine sn ?_
               refine at_seq ?_
               refine at_block ?_
               refine sr ?_
               refine av rfl (r_fieldAddr (fo := 89) Try.underlying37 rfl rfl (fun w => ⟨_, Try.sizeOf35 w⟩) rfl) ?_
               refine av rfl (r_load_cell Try.isAgg35 rfl (lens_cell0 (c := cHd) (y := ⟨g0_.1, List.length x0.f_Allowed, g0_.2⟩) .z (c_api_PeerChange_f_Allowed g0_ x0) rfl)) ?_
               refine av rfl (r_move rfl) ?_
               obtain ⟨h44, hF⟩ := of_guard hF
               obtain ⟨b46, o47, hp45⟩ := row_ptr hn0 h44
               refine av rfl (r_idx Try.underlying35 Try.sizeOf46 rfl rfl h44 hp45) ?_
               refine av rfl (r_load_aggc (c := c_api_Prefix) (z := lget x0.f_Allowed i42) Try.isAgg46 Try.sizeOf46 rfl (row_cell (fun _ h => h.below) hn0 h44 hp45)) ?_
               obtain ⟨t48, ht48, hF⟩ := of_bindM hF
               refine at_callB Try.func57 rfl (by kernel_rfl) rfl rfl (fun w hw => crawlwayref11_Right_ok _ _ ht48 w) ?_
               refine av rfl (r_not rfl) ?_
               refine nwt [(1, _), (5, _), (81, _)] ⟨rfl, rfl, rfl, trivial⟩ ?_
               rcases of_ite hF with ⟨h49, hF⟩ | ⟨h49, hF⟩
               ·refine at_cond_true rfl h49 ?_
                refine sr ?_
                refine av rfl (r_assign rfl) ?_
                refine at_nil ?_
                refine at_drop (H := _) .z ?_
                refine at_weak [(2, _)] ⟨rfl, trivial⟩ ?_
                refine at_then_normal ?_
                refine at_ret ?_
                refine at_blk_ret (at_then_ret (at_then_ret (at_blk_ret (at_then_ret ?_))))
                obtain rfl := of_some hF
                subst K
                exact at_return1 rfl rfl (fun w1 hw => ⟨rfl, hw.below⟩)
               ·refine at_cond_false rfl h49 ?_
                refine at_skip ?_
                refine at_blk_normal (at_then_normal ?_)
                refine at_region ?_
                refine av rfl (r_move rfl) ?_
                refine av rfl (r_iadd rfl rfl) ?_
                refine av rfl (r_assign rfl) ?_
                refine nwt [(1, _), (5, _)] ⟨rfl, rfl, trivial⟩ ?_
                exact at_weak_k (ih _ _ hF K) ⟨rfl, rfl, trivial⟩
              ·refine at_cond_false rfl h43 ?_
               refine at_exit ?_
               refine at_then_exit (at_then_exit ?_)
               refine at_drop (H := _) .z ?_
               obtain rfl := of_some hF
               exact at_weak_k K trivial
            ·cases q41 with
             | ret r' => exact of_some hF
             | nx sq41 =>
              skip
              refine at_blk_same ?_
              refine at_then_normal ?_
              refine sr ?_
              refine av rfl (r_assign rfl) ?_
              refine nwt [(2, _)] ⟨rfl, trivial⟩ ?_
              refine at_ret ?_
              have K := of_some hF
              subst K
              exact at_return1 rfl rfl (fun w1 hw => ⟨rfl, hw.below⟩)
         ·refine at_fix (g := 56) rfl h38 ?_
          refine at_guard_no rfl rfl rfl rfl rfl ?_
          refine at_guard_no rfl rfl rfl rfl rfl ?_
          refine at_guard_no rfl rfl rfl rfl rfl ?_
          refine at_guard_yes rfl rfl rfl ?_
          refine av rfl (r_pick rfl rfl rfl) ?_
          refine av rfl (r_pick rfl rfl rfl) ?_
          refine av rfl (r_move rfl) ?_
          refine at_guard_yes rfl rfl rfl ?_
          refine av rfl (r_fieldAddr (fo := 89) Try.underlying37 rfl rfl (fun w => ⟨_, Try.sizeOf35 w⟩) rfl) ?_
          refine at_guard_yes rfl rfl rfl ?_
          refine av rfl (r_load_cell Try.isAgg35 rfl (lens_cell0 (c := cHd) (y := ⟨g0_.1, List.length x0.f_Allowed, g0_.2⟩) .z (c_api_PeerChange_f_Allowed g0_ x0) rfl)) ?_
          refine at_guard_yes rfl rfl rfl ?_
          refine av rfl (r_len_sl Try.underlying35 rfl) ?_
          refine at_guard_yes rfl rfl rfl ?_
          refine av rfl (r_igtr rfl rfl) ?_
          refine av rfl (r_pick rfl rfl rfl) ?_
          refine nwt [(1, _), (67, _)] ⟨rfl, rfl, trivial⟩ ?_
          rcases of_ite hF with ⟨h50, hF⟩ | ⟨h50, hF⟩
          ·refine at_cond_true rfl h50 ?_
           refine sr ?_
           refine av rfl (r_assign rfl) ?_
           refine at_nil ?_
           refine at_drop (H := _) .z ?_
           refine at_weak [(2, _)] ⟨rfl, trivial⟩ ?_
           refine at_then_normal ?_
           refine rt ?_
           have K := of_some hF
           subst K
           exact at_return1 rfl rfl (fun w1 hw => ⟨rfl, hw.below⟩)
          ·refine at_cond_false rfl h50 ?_
           refine sn ?_
           refine at_seq ?_
           refine sr ?_
           refine av rfl (r_assign rfl) ?_
           refine nwt [(1, _), (5, _)] ⟨rfl, rfl, trivial⟩ ?_
           refine at_block ?_
           obtain ⟨q51, hq51, hF⟩ := of_bindM hF
           refine at_weak [(1, _), (5, _)] ⟨rfl, rfl, trivial⟩ ?_
           refine at_loop_r (B := 0) (r := r) (q := q51) (A := fun (_ : Unit) Y => At 82 [] (Wd w []) Y) ?_ ?_
           ·intro K
            refine crawlwayref32_RightPeer.l3.partial_correctness x0 (motive := fun i52 x => KR (fun (_ : Unit) Y => At 82 [] (Wd w []) Y) _ 0 r x → Round (fun Y => At 82 [(1, .pointer (some ⟨b1, 0, none⟩)), (5, .int .i64 i52)] (Wd w [cellsE b1 (Cd.cs c_api_PeerChange (g0_, x0)) 37]) Y) _ _ _) ?_ _ _ hq51 K
            ·clear K hF
             intro g ih i52 x hF K
             refine at_round ?_
             refine at_seq ?_
             refine sr ?_
             refine av rfl (r_move rfl) ?_
             refine av rfl (r_fieldAddr (fo := 89) Try.underlying37 rfl rfl (fun w => ⟨_, Try.sizeOf35 w⟩) rfl) ?_
             refine av rfl (r_load_cell Try.isAgg35 rfl (lens_cell0 (c := cHd) (y := ⟨g0_.1, List.length x0.f_Allowed, g0_.2⟩) .z (c_api_PeerChange_f_Allowed g0_ x0) rfl)) ?_
             refine av rfl (r_len_sl Try.underlying35 rfl) ?_
             refine av rfl (r_ilss rfl rfl) ?_
             refine nwt [(1, _), (5, _), (72, _)] ⟨rfl, rfl, rfl, trivial⟩ ?_
             rcases of_ite hF with ⟨h53, hF⟩ | ⟨h53, hF⟩
             ·refine at_cond_true rfl h53 ?_
              refine sn ?_
              refine at_seq ?_
              refine at_block ?_
              refine sr ?_
              refine av rfl (r_fieldAddr (fo := 89) Try.underlying37 rfl rfl (fun w => ⟨_, Try.sizeOf35 w⟩) rfl) ?_
              refine av rfl (r_load_cell Try.isAgg35 rfl (lens_cell0 (c := cHd) (y := ⟨g0_.1, List.length x0.f_Allowed, g0_.2⟩) .z (c_api_PeerChange_f_Allowed g0_ x0) rfl)) ?_
              refine av rfl (r_move rfl) ?_
              obtain ⟨h54, hF⟩ := of_guard hF
              obtain ⟨b56, o57, hp55⟩ := row_ptr hn0 h54
              refine av rfl (r_idx Try.underlying35 Try.sizeOf46 rfl rfl h54 hp55) ?_
              refine av rfl (r_load_aggc (c := c_api_Prefix) (z := lget x0.f_Allowed i52) Try.isAgg46 Try.sizeOf46 rfl (row_cell (fun _ h => h.below) hn0 h54 hp55)) ?_
              obtain ⟨t58, ht58, hF⟩ := of_bindM hF
              refine at_callB Try.func57 rfl (by kernel_rfl) rfl rfl (fun w hw => crawlwayref11_Right_ok _ _ ht58 w) ?_
              refine av rfl (r_not rfl) ?_
              refine nwt [(1, _), (5, _), (81, _)] ⟨rfl, rfl, rfl, trivial⟩ ?_
              rcases of_ite hF with ⟨h59, hF⟩ | ⟨h59, hF⟩
              ·refine at_cond_true rfl h59 ?_
               refine sr ?_
               refine av rfl (r_assign rfl) ?_
               refine at_nil ?_
               refine at_drop (H := _) .z ?_
               refine at_weak [(2, _)] ⟨rfl, trivial⟩ ?_
               refine at_then_normal ?_
               refine at_ret ?_
               refine at_blk_ret (at_then_ret (at_then_ret (at_blk_ret (at_then_ret ?_))))
               obtain rfl := of_some hF
               subst K
               exact at_return1 rfl rfl (fun w1 hw => ⟨rfl, hw.below⟩)
              ·refine at_cond_false rfl h59 ?_
               refine at_skip ?_
               refine at_blk_normal (at_then_normal ?_)
               refine at_region ?_
               refine av rfl (r_move rfl) ?_
               refine av rfl (r_iadd rfl rfl) ?_
               refine av rfl (r_assign rfl) ?_
               refine nwt [(1, _), (5, _)] ⟨rfl, rfl, trivial⟩ ?_
               exact at_weak_k (ih _ _ hF K) ⟨rfl, rfl, trivial⟩
             ·refine at_cond_false rfl h53 ?_
              refine at_exit ?_
              refine at_then_exit (at_then_exit ?_)
              refine at_drop (H := _) .z ?_
              obtain rfl := of_some hF
              exact at_weak_k K trivial
           ·cases q51 with
            | ret r' => exact of_some hF
            | nx sq51 =>
             skip
             refine at_blk_same ?_
             refine at_then_normal ?_
             refine sr ?_
             refine av rfl (r_assign rfl) ?_
             refine nwt [(2, _)] ⟨rfl, trivial⟩ ?_
             refine at_ret ?_
             have K := of_some hF
             subst K
             exact at_return1 rfl rfl (fun w1 hw => ⟨rfl, hw.below⟩)
    ·refine at_fix (g := 26) rfl h7 ?_
     refine at_guard_no rfl rfl rfl rfl rfl ?_
     refine at_guard_no rfl rfl rfl rfl rfl ?_
     refine at_guard_no rfl rfl rfl rfl rfl ?_
     refine at_guard_no rfl rfl rfl rfl rfl ?_
     refine at_guard_yes rfl rfl rfl ?_
     refine av rfl (r_pick rfl rfl rfl) ?_
     refine av rfl (r_pick rfl rfl rfl) ?_
     refine av rfl (r_move rfl) ?_
     refine at_guard_yes rfl rfl rfl ?_
     refine av rfl (r_fieldAddr (fo := 67) Try.underlying37 rfl rfl (fun w => ⟨_, Try.sizeOf4 w⟩) rfl) ?_
     refine at_guard_yes rfl rfl rfl ?_
     refine av rfl (r_load_cell Try.isAgg4 rfl (lens_cell0 (c := cBool) (y := x0.f_HasEnd) (.s (.s .z)) (c_api_PeerChange_f_HasEnd g0_ x0) rfl)) ?_
     refine at_guard_yes rfl rfl rfl ?_
     refine av rfl (r_not rfl) ?_
     refine at_guard_yes rfl rfl rfl ?_
     refine av rfl (r_move rfl) ?_
     rcases of_ite hF with ⟨h60, hF⟩ | ⟨h60, hF⟩
     ·refine at_fix (g := 37) rfl h60 ?_
      refine at_guard_yes rfl rfl rfl ?_
      refine av rfl (r_fieldAddr (fo := 68) Try.underlying37 rfl rfl (fun w => ⟨_, Try.sizeOf34 w⟩) rfl) ?_
      refine at_guard_yes rfl rfl rfl ?_
      refine av rfl (r_load_aggc (c := c_api_Endpoint) (z := x0.f_End) Try.isAgg34 Try.sizeOf34 rfl (lens_cell (.s (.s .z)) (c_api_PeerChange_f_End g0_ x0))) ?_
      refine at_guard_yes rfl rfl rfl ?_
      refine av rfl (r_load_aggc (c := c_api_Endpoint) (z := zqG3_0) Try.isAgg34 Try.sizeOf34 rfl (lens_cell .z (Lens.whole _ _))) ?_
      refine at_guard_yes rfl rfl rfl ?_
      refine av rfl (r_eqagg (c := c_api_Endpoint) (a := x0.f_End) (b := zqG3_0) (eq_api_Endpoint_34) rfl Try.eqGuardType34 rfl rfl (.inr rfl) rfl) ?_
      refine at_guard_yes rfl rfl rfl ?_
      refine av rfl (r_pick rfl rfl rfl) ?_
      refine av rfl (r_pick rfl rfl rfl) ?_
      refine at_nil ?_
      refine at_drop (H := _) .z ?_
      refine at_drop (H := _) .z ?_
      refine at_weak [(1, _), (43, _)] ⟨rfl, rfl, trivial⟩ ?_
      refine at_then_normal ?_
      rcases of_ite hF with ⟨h61, hF⟩ | ⟨h61, hF⟩
      ·refine at_cond_true rfl h61 ?_
       refine sr ?_
       refine av rfl (r_assign rfl) ?_
       refine at_nil ?_
       refine at_drop (H := _) .z ?_
       refine at_weak [(2, _)] ⟨rfl, trivial⟩ ?_
       refine at_then_normal ?_
       refine rt ?_
       have K := of_some hF
       subst K
       exact at_return1 rfl rfl (fun w1 hw => ⟨rfl, hw.below⟩)
      ·refine at_cond_false rfl h61 ?_
       refine sn ?_
       refine at_seq ?_
       refine sr ?_
       refine av rfl (r_fieldAddr (fo := 87) Try.underlying37 rfl rfl (fun w => ⟨_, Try.sizeOf3 w⟩) rfl) ?_
       refine av rfl (r_load_cell Try.isAgg3 rfl (lens_cell0 (c := (cInt .i64)) (y := x0.f_Keep) .z (c_api_PeerChange_f_Keep g0_ x0) rfl)) ?_
       refine av rfl (r_ilss rfl rfl) ?_
       refine av rfl (r_move rfl) ?_
       rcases of_ite hF with ⟨h62, hF⟩ | ⟨h62, hF⟩
       ·refine at_fix (g := 47) rfl h62 ?_
        refine at_guard_no rfl rfl rfl rfl rfl ?_
        refine at_guard_no rfl rfl rfl rfl rfl ?_
        refine at_guard_no rfl rfl rfl rfl rfl ?_
        refine av rfl (r_pick rfl rfl rfl) ?_
        refine av rfl (r_move rfl) ?_
        refine at_guard_no rfl rfl rfl rfl rfl ?_
        refine at_guard_no rfl rfl rfl rfl rfl ?_
        refine at_guard_no rfl rfl rfl rfl rfl ?_
        refine at_guard_no rfl rfl rfl rfl rfl ?_
        refine at_guard_undef rfl rfl rfl rfl ?_
        refine at_guard_undef rfl rfl rfl rfl ?_
        refine at_guard_undef rfl rfl rfl rfl ?_
        refine at_guard_no rfl rfl rfl rfl rfl ?_
        refine av rfl (r_pick rfl rfl rfl) ?_
        refine av rfl (r_move rfl) ?_
        refine at_guard_no rfl rfl rfl rfl rfl ?_
        refine at_guard_no rfl rfl rfl rfl rfl ?_
        refine at_guard_no rfl rfl rfl rfl rfl ?_
        refine at_guard_no rfl rfl rfl rfl rfl ?_
        refine av rfl (r_pick rfl rfl rfl) ?_
        refine nwt [(1, _), (67, _)] ⟨rfl, rfl, trivial⟩ ?_
        refine at_cond_true rfl rfl ?_
        refine sr ?_
        refine av rfl (r_assign rfl) ?_
        refine at_nil ?_
        refine at_drop (H := _) .z ?_
        refine at_weak [(2, _)] ⟨rfl, trivial⟩ ?_
        refine at_then_normal ?_
        refine rt ?_
        have K := of_some hF
        subst K
        exact at_return1 rfl rfl (fun w1 hw => ⟨rfl, hw.below⟩)
       ·refine at_fix (g := 47) rfl h62 ?_
        refine at_guard_yes rfl rfl rfl ?_
        refine av rfl (r_fieldAddr (fo := 87) Try.underlying37 rfl rfl (fun w => ⟨_, Try.sizeOf3 w⟩) rfl) ?_
        refine at_guard_yes rfl rfl rfl ?_
        refine av rfl (r_load_cell Try.isAgg3 rfl (lens_cell0 (c := (cInt .i64)) (y := x0.f_Keep) .z (c_api_PeerChange_f_Keep g0_ x0) rfl)) ?_
        refine at_guard_yes rfl rfl rfl ?_
        refine av rfl (r_igtr rfl rfl) ?_
        refine av rfl (r_pick rfl rfl rfl) ?_
        refine av rfl (r_move rfl) ?_
        rcases of_ite hF with ⟨h63, hF⟩ | ⟨h63, hF⟩
        ·refine at_fix (g := 52) rfl h63 ?_
         refine at_guard_no rfl rfl rfl rfl rfl ?_
         refine at_guard_no rfl rfl rfl rfl rfl ?_
         refine at_guard_no rfl rfl rfl rfl rfl ?_
         refine at_guard_no rfl rfl rfl rfl rfl ?_
         refine at_guard_undef rfl rfl rfl rfl ?_
         refine at_guard_undef rfl rfl rfl rfl ?_
         refine at_guard_undef rfl rfl rfl rfl ?_
         refine at_guard_no rfl rfl rfl rfl rfl ?_
         refine av rfl (r_pick rfl rfl rfl) ?_
         refine av rfl (r_move rfl) ?_
         refine at_guard_no rfl rfl rfl rfl rfl ?_
         refine at_guard_no rfl rfl rfl rfl rfl ?_
         refine at_guard_no rfl rfl rfl rfl rfl ?_
         refine at_guard_no rfl rfl rfl rfl rfl ?_
         refine av rfl (r_pick rfl rfl rfl) ?_
         refine nwt [(1, _), (67, _)] ⟨rfl, rfl, trivial⟩ ?_
         refine at_cond_true rfl rfl ?_
         refine sr ?_
         refine av rfl (r_assign rfl) ?_
         refine at_nil ?_
         refine at_drop (H := _) .z ?_
         refine at_weak [(2, _)] ⟨rfl, trivial⟩ ?_
         refine at_then_normal ?_
         refine rt ?_
         have K := of_some hF
         subst K
         exact at_return1 rfl rfl (fun w1 hw => ⟨rfl, hw.below⟩)
        ·refine at_fix (g := 52) rfl h63 ?_
         refine at_guard_yes rfl rfl rfl ?_
         refine av rfl (r_fieldAddr (fo := 86) Try.underlying37 rfl rfl (fun w => ⟨_, Try.sizeOf4 w⟩) rfl) ?_
         refine at_guard_yes rfl rfl rfl ?_
         refine av rfl (r_load_cell Try.isAgg4 rfl (lens_cell0 (c := cBool) (y := x0.f_HasKeep) .z (c_api_PeerChange_f_HasKeep g0_ x0) rfl)) ?_
         refine at_guard_yes rfl rfl rfl ?_
         refine av rfl (r_not rfl) ?_
         refine at_guard_yes rfl rfl rfl ?_
         refine av rfl (r_move rfl) ?_
         rcases of_ite hF with ⟨h64, hF⟩ | ⟨h64, hF⟩
         ·refine at_fix (g := 56) rfl h64 ?_
          refine at_guard_yes rfl rfl rfl ?_
          refine av rfl (r_fieldAddr (fo := 87) Try.underlying37 rfl rfl (fun w => ⟨_, Try.sizeOf3 w⟩) rfl) ?_
          refine at_guard_yes rfl rfl rfl ?_
          refine av rfl (r_load_cell Try.isAgg3 rfl (lens_cell0 (c := (cInt .i64)) (y := x0.f_Keep) .z (c_api_PeerChange_f_Keep g0_ x0) rfl)) ?_
          refine at_guard_yes rfl rfl rfl ?_
          refine av rfl (r_ineq rfl rfl) ?_
          refine at_guard_yes rfl rfl rfl ?_
          refine av rfl (r_pick rfl rfl rfl) ?_
          refine av rfl (r_pick rfl rfl rfl) ?_
          refine av rfl (r_move rfl) ?_
          rcases of_ite hF with ⟨h65, hF⟩ | ⟨h65, hF⟩
          ·refine at_fix (g := 62) rfl h65 ?_
           refine at_guard_no rfl rfl rfl rfl rfl ?_
           refine at_guard_no rfl rfl rfl rfl rfl ?_
           refine at_guard_no rfl rfl rfl rfl rfl ?_
           refine at_guard_no rfl rfl rfl rfl rfl ?_
           refine av rfl (r_pick rfl rfl rfl) ?_
           refine nwt [(1, _), (67, _)] ⟨rfl, rfl, trivial⟩ ?_
           refine at_cond_true rfl rfl ?_
           refine sr ?_
           refine av rfl (r_assign rfl) ?_
           refine at_nil ?_
           refine at_drop (H := _) .z ?_
           refine at_weak [(2, _)] ⟨rfl, trivial⟩ ?_
           refine at_then_normal ?_
           refine rt ?_
           have K := of_some hF
           subst K
           exact at_return1 rfl rfl (fun w1 hw => ⟨rfl, hw.below⟩)
          ·refine at_fix (g := 62) rfl h65 ?_
           refine at_guard_yes rfl rfl rfl ?_
           refine av rfl (r_fieldAddr (fo := 89) Try.underlying37 rfl rfl (fun w => ⟨_, Try.sizeOf35 w⟩) rfl) ?_
           refine at_guard_yes rfl rfl rfl ?_
           refine av rfl (r_load_cell Try.isAgg35 rfl (lens_cell0 (c := cHd) (y := ⟨g0_.1, List.length x0.f_Allowed, g0_.2⟩) .z (c_api_PeerChange_f_Allowed g0_ x0) rfl)) ?_
           refine at_guard_yes rfl rfl rfl ?_
           refine av rfl (r_len_sl Try.underlying35 rfl) ?_
           refine at_guard_yes rfl rfl rfl ?_
           refine av rfl (r_igtr rfl rfl) ?_
           refine av rfl (r_pick rfl rfl rfl) ?_
           refine nwt [(1, _), (67, _)] ⟨rfl, rfl, trivial⟩ ?_
           rcases of_ite hF with ⟨h66, hF⟩ | ⟨h66, hF⟩
           ·refine at_cond_true rfl h66 ?_
            refine sr ?_
            refine av rfl (r_assign rfl) ?_
            refine at_nil ?_
            refine at_drop (H := _) .z ?_
            refine at_weak [(2, _)] ⟨rfl, trivial⟩ ?_
            refine at_then_normal ?_
            refine rt ?_
            have K := of_some hF
            subst K
            exact at_return1 rfl rfl (fun w1 hw => ⟨rfl, hw.below⟩)
           ·refine at_cond_false rfl h66 ?_
            refine sn ?_
            refine at_seq ?_
            refine sr ?_
            refine av rfl (r_assign rfl) ?_
            refine nwt [(1, _), (5, _)] ⟨rfl, rfl, trivial⟩ ?_
            refine at_block ?_
            obtain ⟨q67, hq67, hF⟩ := of_bindM hF
            refine at_weak [(1, _), (5, _)] ⟨rfl, rfl, trivial⟩ ?_
            refine at_loop_r (B := 0) (r := r) (q := q67) (A := fun (_ : Unit) Y => At 82 [] (Wd w []) Y) ?_ ?_
            ·intro K
             refine crawlwayref32_RightPeer.l4.partial_correctness x0 (motive := fun i68 x => KR (fun (_ : Unit) Y => At 82 [] (Wd w []) Y) _ 0 r x → Round (fun Y => At 82 [(1, .pointer (some ⟨b1, 0, none⟩)), (5, .int .i64 i68)] (Wd w [cellsE b1 (Cd.cs c_api_PeerChange (g0_, x0)) 37]) Y) _ _ _) ?_ _ _ hq67 K
             ·clear K hF
              intro g ih i68 x hF K
              refine at_round ?_
              refine at_seq ?_
              refine sr ?_
              refine av rfl (r_move rfl) ?_
              refine av rfl (r_fieldAddr (fo := 89) Try.underlying37 rfl rfl (fun w => ⟨_, Try.sizeOf35 w⟩) rfl) ?_
              refine av rfl (r_load_cell Try.isAgg35 rfl (lens_cell0 (c := cHd) (y := ⟨g0_.1, List.length x0.f_Allowed, g0_.2⟩) .z (c_api_PeerChange_f_Allowed g0_ x0) rfl)) ?_
              refine av rfl (r_len_sl Try.underlying35 rfl) ?_
              refine av rfl (r_ilss rfl rfl) ?_
              refine nwt [(1, _), (5, _), (72, _)] ⟨rfl, rfl, rfl, trivial⟩ ?_
              rcases of_ite hF with ⟨h69, hF⟩ | ⟨h69, hF⟩
              ·refine at_cond_true rfl h69 ?_
               refine sn ?_
               refine at_seq ?_
               refine at_block ?_
               refine sr ?_
               refine av rfl (r_fieldAddr (fo := 89) Try.underlying37 rfl rfl (fun w => ⟨_, Try.sizeOf35 w⟩) rfl) ?_
               refine av rfl (r_load_cell Try.isAgg35 rfl (lens_cell0 (c := cHd) (y := ⟨g0_.1, List.length x0.f_Allowed, g0_.2⟩) .z (c_api_PeerChange_f_Allowed g0_ x0) rfl)) ?_
               refine av rfl (r_move rfl) ?_
               obtain ⟨h70, hF⟩ := of_guard hF
               obtain ⟨b72, o73, hp71⟩ := row_ptr hn0 h70
               refine av rfl (r_idx Try.underlying35 Try.sizeOf46 rfl rfl h70 hp71) ?_
               refine av rfl (r_load_aggc (c := c_api_Prefix) (z := lget x0.f_Allowed i68) Try.isAgg46 Try.sizeOf46 rfl (row_cell (fun _ h => h.below) hn0 h70 hp71)) ?_
               obtain ⟨t74, ht74, hF⟩ := of_bindM hF
               refine at_callB Try.func57 rfl (by kernel_rfl) rfl rfl (fun w hw => crawlwayref11_Right_ok _ _ ht74 w) ?_
               refine av rfl (r_not rfl) ?_
               refine nwt [(1, _), (5, _), (81, _)] ⟨rfl, rfl, rfl, trivial⟩ ?_
               rcases of_ite hF with ⟨h75, hF⟩ | ⟨h75, hF⟩
               ·refine at_cond_true rfl h75 ?_
                refine sr ?_
                refine av rfl (r_assign rfl) ?_
                refine at_nil ?_
                refine at_drop (H := _) .z ?_
                refine at_weak [(2, _)] ⟨rfl, trivial⟩ ?_
                refine at_then_normal ?_
                refine at_ret ?_
                refine at_blk_ret (at_then_ret (at_then_ret (at_blk_ret (at_then_ret ?_))))
                obtain rfl := of_some hF
                subst K
                exact at_return1 rfl rfl (fun w1 hw => ⟨rfl, hw.below⟩)
               ·refine at_cond_false rfl h75 ?_
                refine at_skip ?_
                refine at_blk_normal (at_then_normal ?_)
                refine at_region ?_
                refine av rfl (r_move rfl) ?_
                refine av rfl (r_iadd rfl rfl) ?_
                refine av rfl (r_assign rfl) ?_
                refine nwt [(1, _), (5, _)] ⟨rfl, rfl, trivial⟩ ?_
                exact at_weak_k (ih _ _ hF K) ⟨rfl, rfl, trivial⟩
              ·refine at_cond_false rfl h69 ?_
               refine at_exit ?_
               refine at_then_exit (at_then_exit ?_)
               refine at_drop (H := _) .z ?_
               obtain rfl := of_some hF
               exact at_weak_k K trivial
            ·cases q67 with
             | ret r' => exact of_some hF
             | nx sq67 =>
              skip
              refine at_blk_same ?_
              refine at_then_normal ?_
              refine sr ?_
              refine av rfl (r_assign rfl) ?_
              refine nwt [(2, _)] ⟨rfl, trivial⟩ ?_
              refine at_ret ?_
              have K := of_some hF
              subst K
              exact at_return1 rfl rfl (fun w1 hw => ⟨rfl, hw.below⟩)
         ·refine at_fix (g := 56) rfl h64 ?_
          refine at_guard_no rfl rfl rfl rfl rfl ?_
          refine at_guard_no rfl rfl rfl rfl rfl ?_
          refine at_guard_no rfl rfl rfl rfl rfl ?_
          refine at_guard_yes rfl rfl rfl ?_
          refine av rfl (r_pick rfl rfl rfl) ?_
          refine av rfl (r_pick rfl rfl rfl) ?_
          refine av rfl (r_move rfl) ?_
          refine at_guard_yes rfl rfl rfl ?_
          refine av rfl (r_fieldAddr (fo := 89) Try.underlying37 rfl rfl (fun w => ⟨_, Try.sizeOf35 w⟩) rfl) ?_
          refine at_guard_yes rfl rfl rfl ?_
          refine av rfl (r_load_cell Try.isAgg35 rfl (lens_cell0 (c := cHd) (y := ⟨g0_.1, List.length x0.f_Allowed, g0_.2⟩) .z (c_api_PeerChange_f_Allowed g0_ x0) rfl)) ?_
          refine at_guard_yes rfl rfl rfl ?_
          refine av rfl (r_len_sl Try.underlying35 rfl) ?_
          refine at_guard_yes rfl rfl rfl ?_
          refine av rfl (r_igtr rfl rfl) ?_
          refine av rfl (r_pick rfl rfl rfl) ?_
          refine nwt [(1, _), (67, _)] ⟨rfl, rfl, trivial⟩ ?_
          rcases of_ite hF with ⟨h76, hF⟩ | ⟨h76, hF⟩
          ·refine at_cond_true rfl h76 ?_
           refine sr ?_
           refine av rfl (r_assign rfl) ?_
           refine at_nil ?_
           refine at_drop (H := _) .z ?_
           refine at_weak [(2, _)] ⟨rfl, trivial⟩ ?_
           refine at_then_normal ?_
           refine rt ?_
           have K := of_some hF
           subst K
           exact at_return1 rfl rfl (fun w1 hw => ⟨rfl, hw.below⟩)
          ·refine at_cond_false rfl h76 ?_
           refine sn ?_
           refine at_seq ?_
           refine sr ?_
           refine av rfl (r_assign rfl) ?_
           refine nwt [(1, _), (5, _)] ⟨rfl, rfl, trivial⟩ ?_
           refine at_block ?_
           obtain ⟨q77, hq77, hF⟩ := of_bindM hF
           refine at_weak [(1, _), (5, _)] ⟨rfl, rfl, trivial⟩ ?_
           refine at_loop_r (B := 0) (r := r) (q := q77) (A := fun (_ : Unit) Y => At 82 [] (Wd w []) Y) ?_ ?_
           ·intro K
            refine crawlwayref32_RightPeer.l5.partial_correctness x0 (motive := fun i78 x => KR (fun (_ : Unit) Y => At 82 [] (Wd w []) Y) _ 0 r x → Round (fun Y => At 82 [(1, .pointer (some ⟨b1, 0, none⟩)), (5, .int .i64 i78)] (Wd w [cellsE b1 (Cd.cs c_api_PeerChange (g0_, x0)) 37]) Y) _ _ _) ?_ _ _ hq77 K
            ·clear K hF
             intro g ih i78 x hF K
             refine at_round ?_
             refine at_seq ?_
             refine sr ?_
             refine av rfl (r_move rfl) ?_
             refine av rfl (r_fieldAddr (fo := 89) Try.underlying37 rfl rfl (fun w => ⟨_, Try.sizeOf35 w⟩) rfl) ?_
             refine av rfl (r_load_cell Try.isAgg35 rfl (lens_cell0 (c := cHd) (y := ⟨g0_.1, List.length x0.f_Allowed, g0_.2⟩) .z (c_api_PeerChange_f_Allowed g0_ x0) rfl)) ?_
             refine av rfl (r_len_sl Try.underlying35 rfl) ?_
             refine av rfl (r_ilss rfl rfl) ?_
             refine nwt [(1, _), (5, _), (72, _)] ⟨rfl, rfl, rfl, trivial⟩ ?_
             rcases of_ite hF with ⟨h79, hF⟩ | ⟨h79, hF⟩
             ·refine at_cond_true rfl h79 ?_
              refine sn ?_
              refine at_seq ?_
              refine at_block ?_
              refine sr ?_
              refine av rfl (r_fieldAddr (fo := 89) Try.underlying37 rfl rfl (fun w => ⟨_, Try.sizeOf35 w⟩) rfl) ?_
              refine av rfl (r_load_cell Try.isAgg35 rfl (lens_cell0 (c := cHd) (y := ⟨g0_.1, List.length x0.f_Allowed, g0_.2⟩) .z (c_api_PeerChange_f_Allowed g0_ x0) rfl)) ?_
              refine av rfl (r_move rfl) ?_
              obtain ⟨h80, hF⟩ := of_guard hF
              obtain ⟨b82, o83, hp81⟩ := row_ptr hn0 h80
              refine av rfl (r_idx Try.underlying35 Try.sizeOf46 rfl rfl h80 hp81) ?_
              refine av rfl (r_load_aggc (c := c_api_Prefix) (z := lget x0.f_Allowed i78) Try.isAgg46 Try.sizeOf46 rfl (row_cell (fun _ h => h.below) hn0 h80 hp81)) ?_
              obtain ⟨t84, ht84, hF⟩ := of_bindM hF
              refine at_callB Try.func57 rfl (by kernel_rfl) rfl rfl (fun w hw => crawlwayref11_Right_ok _ _ ht84 w) ?_
              refine av rfl (r_not rfl) ?_
              refine nwt [(1, _), (5, _), (81, _)] ⟨rfl, rfl, rfl, trivial⟩ ?_
              rcases of_ite hF with ⟨h85, hF⟩ | ⟨h85, hF⟩
              ·refine at_cond_true rfl h85 ?_
               refine sr ?_
               refine av rfl (r_assign rfl) ?_
               refine at_nil ?_
               refine at_drop (H := _) .z ?_
               refine at_weak [(2, _)] ⟨rfl, trivial⟩ ?_
               refine at_then_normal ?_
               refine at_ret ?_
               refine at_blk_ret (at_then_ret (at_then_ret (at_blk_ret (at_then_ret ?_))))
               obtain rfl := of_some hF
               subst K
               exact at_return1 rfl rfl (fun w1 hw => ⟨rfl, hw.below⟩)
              ·refine at_cond_false rfl h85 ?_
               refine at_skip ?_
               refine at_blk_normal (at_then_normal ?_)
               refine at_region ?_
               refine av rfl (r_move rfl) ?_
               refine av rfl (r_iadd rfl rfl) ?_
               refine av rfl (r_assign rfl) ?_
               refine nwt [(1, _), (5, _)] ⟨rfl, rfl, trivial⟩ ?_
               exact at_weak_k (ih _ _ hF K) ⟨rfl, rfl, trivial⟩
             ·refine at_cond_false rfl h79 ?_
              refine at_exit ?_
              refine at_then_exit (at_then_exit ?_)
              refine at_drop (H := _) .z ?_
              obtain rfl := of_some hF
              exact at_weak_k K trivial
           ·cases q77 with
            | ret r' => exact of_some hF
            | nx sq77 =>
             skip
             refine at_blk_same ?_
             refine at_then_normal ?_
             refine sr ?_
             refine av rfl (r_assign rfl) ?_
             refine nwt [(2, _)] ⟨rfl, trivial⟩ ?_
             refine at_ret ?_
             have K := of_some hF
             subst K
             exact at_return1 rfl rfl (fun w1 hw => ⟨rfl, hw.below⟩)
     ·refine at_fix (g := 37) rfl h60 ?_
      refine at_guard_no rfl rfl rfl rfl rfl ?_
      refine at_guard_no rfl rfl rfl rfl rfl ?_
      refine at_guard_no rfl rfl rfl rfl rfl ?_
      refine at_guard_no rfl rfl rfl rfl rfl ?_
      refine at_guard_yes rfl rfl rfl ?_
      refine av rfl (r_pick rfl rfl rfl) ?_
      refine av rfl (r_pick rfl rfl rfl) ?_
      refine at_nil ?_
      refine at_drop (H := _) .z ?_
      refine at_drop (H := _) .z ?_
      refine at_weak [(1, _), (43, _)] ⟨rfl, rfl, trivial⟩ ?_
      refine at_then_normal ?_
      refine at_cond_false rfl rfl ?_
      refine sn ?_
      refine at_seq ?_
      refine sr ?_
      refine av rfl (r_fieldAddr (fo := 87) Try.underlying37 rfl rfl (fun w => ⟨_, Try.sizeOf3 w⟩) rfl) ?_
      refine av rfl (r_load_cell Try.isAgg3 rfl (lens_cell0 (c := (cInt .i64)) (y := x0.f_Keep) .z (c_api_PeerChange_f_Keep g0_ x0) rfl)) ?_
      refine av rfl (r_ilss rfl rfl) ?_
      refine av rfl (r_move rfl) ?_
      rcases of_ite hF with ⟨h86, hF⟩ | ⟨h86, hF⟩
      ·refine at_fix (g := 47) rfl h86 ?_
       refine at_guard_no rfl rfl rfl rfl rfl ?_
       refine at_guard_no rfl rfl rfl rfl rfl ?_
       refine at_guard_no rfl rfl rfl rfl rfl ?_
       refine av rfl (r_pick rfl rfl rfl) ?_
       refine av rfl (r_move rfl) ?_
       refine at_guard_no rfl rfl rfl rfl rfl ?_
       refine at_guard_no rfl rfl rfl rfl rfl ?_
       refine at_guard_no rfl rfl rfl rfl rfl ?_
       refine at_guard_no rfl rfl rfl rfl rfl ?_
       refine at_guard_undef rfl rfl rfl rfl ?_
       refine at_guard_undef rfl rfl rfl rfl ?_
       refine at_guard_undef rfl rfl rfl rfl ?_
       refine at_guard_no rfl rfl rfl rfl rfl ?_
       refine av rfl (r_pick rfl rfl rfl) ?_
       refine av rfl (r_move rfl) ?_
       refine at_guard_no rfl rfl rfl rfl rfl ?_
       refine at_guard_no rfl rfl rfl rfl rfl ?_
       refine at_guard_no rfl rfl rfl rfl rfl ?_
       refine at_guard_no rfl rfl rfl rfl rfl ?_
       refine av rfl (r_pick rfl rfl rfl) ?_
       refine nwt [(1, _), (67, _)] ⟨rfl, rfl, trivial⟩ ?_
       refine at_cond_true rfl rfl ?_
       refine sr ?_
       refine av rfl (r_assign rfl) ?_
       refine at_nil ?_
       refine at_drop (H := _) .z ?_
       refine at_weak [(2, _)] ⟨rfl, trivial⟩ ?_
       refine at_then_normal ?_
       refine rt ?_
       have K := of_some hF
       subst K
       exact at_return1 rfl rfl (fun w1 hw => ⟨rfl, hw.below⟩)
      ·refine at_fix (g := 47) rfl h86 ?_
       refine at_guard_yes rfl rfl rfl ?_
       refine av rfl (r_fieldAddr (fo := 87) Try.underlying37 rfl rfl (fun w => ⟨_, Try.sizeOf3 w⟩) rfl) ?_
       refine at_guard_yes rfl rfl rfl ?_
       refine av rfl (r_load_cell Try.isAgg3 rfl (lens_cell0 (c := (cInt .i64)) (y := x0.f_Keep) .z (c_api_PeerChange_f_Keep g0_ x0) rfl)) ?_
       refine at_guard_yes rfl rfl rfl ?_
       refine av rfl (r_igtr rfl rfl) ?_
       refine av rfl (r_pick rfl rfl rfl) ?_
       refine av rfl (r_move rfl) ?_
       rcases of_ite hF with ⟨h87, hF⟩ | ⟨h87, hF⟩
       ·refine at_fix (g := 52) rfl h87 ?_
        refine at_guard_no rfl rfl rfl rfl rfl ?_
        refine at_guard_no rfl rfl rfl rfl rfl ?_
        refine at_guard_no rfl rfl rfl rfl rfl ?_
        refine at_guard_no rfl rfl rfl rfl rfl ?_
        refine at_guard_undef rfl rfl rfl rfl ?_
        refine at_guard_undef rfl rfl rfl rfl ?_
        refine at_guard_undef rfl rfl rfl rfl ?_
        refine at_guard_no rfl rfl rfl rfl rfl ?_
        refine av rfl (r_pick rfl rfl rfl) ?_
        refine av rfl (r_move rfl) ?_
        refine at_guard_no rfl rfl rfl rfl rfl ?_
        refine at_guard_no rfl rfl rfl rfl rfl ?_
        refine at_guard_no rfl rfl rfl rfl rfl ?_
        refine at_guard_no rfl rfl rfl rfl rfl ?_
        refine av rfl (r_pick rfl rfl rfl) ?_
        refine nwt [(1, _), (67, _)] ⟨rfl, rfl, trivial⟩ ?_
        refine at_cond_true rfl rfl ?_
        refine sr ?_
        refine av rfl (r_assign rfl) ?_
        refine at_nil ?_
        refine at_drop (H := _) .z ?_
        refine at_weak [(2, _)] ⟨rfl, trivial⟩ ?_
        refine at_then_normal ?_
        refine rt ?_
        have K := of_some hF
        subst K
        exact at_return1 rfl rfl (fun w1 hw => ⟨rfl, hw.below⟩)
       ·refine at_fix (g := 52) rfl h87 ?_
        refine at_guard_yes rfl rfl rfl ?_
        refine av rfl (r_fieldAddr (fo := 86) Try.underlying37 rfl rfl (fun w => ⟨_, Try.sizeOf4 w⟩) rfl) ?_
        refine at_guard_yes rfl rfl rfl ?_
        refine av rfl (r_load_cell Try.isAgg4 rfl (lens_cell0 (c := cBool) (y := x0.f_HasKeep) .z (c_api_PeerChange_f_HasKeep g0_ x0) rfl)) ?_
        refine at_guard_yes rfl rfl rfl ?_
        refine av rfl (r_not rfl) ?_
        refine at_guard_yes rfl rfl rfl ?_
        refine av rfl (r_move rfl) ?_
        rcases of_ite hF with ⟨h88, hF⟩ | ⟨h88, hF⟩
        ·refine at_fix (g := 56) rfl h88 ?_
         refine at_guard_yes rfl rfl rfl ?_
         refine av rfl (r_fieldAddr (fo := 87) Try.underlying37 rfl rfl (fun w => ⟨_, Try.sizeOf3 w⟩) rfl) ?_
         refine at_guard_yes rfl rfl rfl ?_
         refine av rfl (r_load_cell Try.isAgg3 rfl (lens_cell0 (c := (cInt .i64)) (y := x0.f_Keep) .z (c_api_PeerChange_f_Keep g0_ x0) rfl)) ?_
         refine at_guard_yes rfl rfl rfl ?_
         refine av rfl (r_ineq rfl rfl) ?_
         refine at_guard_yes rfl rfl rfl ?_
         refine av rfl (r_pick rfl rfl rfl) ?_
         refine av rfl (r_pick rfl rfl rfl) ?_
         refine av rfl (r_move rfl) ?_
         rcases of_ite hF with ⟨h89, hF⟩ | ⟨h89, hF⟩
         ·refine at_fix (g := 62) rfl h89 ?_
          refine at_guard_no rfl rfl rfl rfl rfl ?_
          refine at_guard_no rfl rfl rfl rfl rfl ?_
          refine at_guard_no rfl rfl rfl rfl rfl ?_
          refine at_guard_no rfl rfl rfl rfl rfl ?_
          refine av rfl (r_pick rfl rfl rfl) ?_
          refine nwt [(1, _), (67, _)] ⟨rfl, rfl, trivial⟩ ?_
          refine at_cond_true rfl rfl ?_
          refine sr ?_
          refine av rfl (r_assign rfl) ?_
          refine at_nil ?_
          refine at_drop (H := _) .z ?_
          refine at_weak [(2, _)] ⟨rfl, trivial⟩ ?_
          refine at_then_normal ?_
          refine rt ?_
          have K := of_some hF
          subst K
          exact at_return1 rfl rfl (fun w1 hw => ⟨rfl, hw.below⟩)
         ·refine at_fix (g := 62) rfl h89 ?_
          refine at_guard_yes rfl rfl rfl ?_
          refine av rfl (r_fieldAddr (fo := 89) Try.underlying37 rfl rfl (fun w => ⟨_, Try.sizeOf35 w⟩) rfl) ?_
          refine at_guard_yes rfl rfl rfl ?_
          refine av rfl (r_load_cell Try.isAgg35 rfl (lens_cell0 (c := cHd) (y := ⟨g0_.1, List.length x0.f_Allowed, g0_.2⟩) .z (c_api_PeerChange_f_Allowed g0_ x0) rfl)) ?_
          refine at_guard_yes rfl rfl rfl ?_
          refine av rfl (r_len_sl Try.underlying35 rfl) ?_
          refine at_guard_yes rfl rfl rfl ?_
          refine av rfl (r_igtr rfl rfl) ?_
          refine av rfl (r_pick rfl rfl rfl) ?_
          refine nwt [(1, _), (67, _)] ⟨rfl, rfl, trivial⟩ ?_
          rcases of_ite hF with ⟨h90, hF⟩ | ⟨h90, hF⟩
          ·refine at_cond_true rfl h90 ?_
           refine sr ?_
           refine av rfl (r_assign rfl) ?_
           refine at_nil ?_
           refine at_drop (H := _) .z ?_
           refine at_weak [(2, _)] ⟨rfl, trivial⟩ ?_
           refine at_then_normal ?_
           refine rt ?_
           have K := of_some hF
           subst K
           exact at_return1 rfl rfl (fun w1 hw => ⟨rfl, hw.below⟩)
          ·refine at_cond_false rfl h90 ?_
           refine sn ?_
           refine at_seq ?_
           refine sr ?_
           refine av rfl (r_assign rfl) ?_
           refine nwt [(1, _), (5, _)] ⟨rfl, rfl, trivial⟩ ?_
           refine at_block ?_
           obtain ⟨q91, hq91, hF⟩ := of_bindM hF
           refine at_weak [(1, _), (5, _)] ⟨rfl, rfl, trivial⟩ ?_
           refine at_loop_r (B := 0) (r := r) (q := q91) (A := fun (_ : Unit) Y => At 82 [] (Wd w []) Y) ?_ ?_
           ·intro K
            refine crawlwayref32_RightPeer.l6.partial_correctness x0 (motive := fun i92 x => KR (fun (_ : Unit) Y => At 82 [] (Wd w []) Y) _ 0 r x → Round (fun Y => At 82 [(1, .pointer (some ⟨b1, 0, none⟩)), (5, .int .i64 i92)] (Wd w [cellsE b1 (Cd.cs c_api_PeerChange (g0_, x0)) 37]) Y) _ _ _) ?_ _ _ hq91 K
            ·clear K hF
             intro g ih i92 x hF K
             refine at_round ?_
             refine at_seq ?_
             refine sr ?_
             refine av rfl (r_move rfl) ?_
             refine av rfl (r_fieldAddr (fo := 89) Try.underlying37 rfl rfl (fun w => ⟨_, Try.sizeOf35 w⟩) rfl) ?_
             refine av rfl (r_load_cell Try.isAgg35 rfl (lens_cell0 (c := cHd) (y := ⟨g0_.1, List.length x0.f_Allowed, g0_.2⟩) .z (c_api_PeerChange_f_Allowed g0_ x0) rfl)) ?_
             refine av rfl (r_len_sl Try.underlying35 rfl) ?_
             refine av rfl (r_ilss rfl rfl) ?_
             refine nwt [(1, _), (5, _), (72, _)] ⟨rfl, rfl, rfl, trivial⟩ ?_
             rcases of_ite hF with ⟨h93, hF⟩ | ⟨h93, hF⟩
             ·refine at_cond_true rfl h93 ?_
              refine sn ?_
              refine at_seq ?_
              refine at_block ?_
              refine sr ?_
              refine av rfl (r_fieldAddr (fo := 89) Try.underlying37 rfl rfl (fun w => ⟨_, Try.sizeOf35 w⟩) rfl) ?_
              refine av rfl (r_load_cell Try.isAgg35 rfl (lens_cell0 (c := cHd) (y := ⟨g0_.1, List.length x0.f_Allowed, g0_.2⟩) .z (c_api_PeerChange_f_Allowed g0_ x0) rfl)) ?_
              refine av rfl (r_move rfl) ?_
              obtain ⟨h94, hF⟩ := of_guard hF
              obtain ⟨b96, o97, hp95⟩ := row_ptr hn0 h94
              refine av rfl (r_idx Try.underlying35 Try.sizeOf46 rfl rfl h94 hp95) ?_
              refine av rfl (r_load_aggc (c := c_api_Prefix) (z := lget x0.f_Allowed i92) Try.isAgg46 Try.sizeOf46 rfl (row_cell (fun _ h => h.below) hn0 h94 hp95)) ?_
              obtain ⟨t98, ht98, hF⟩ := of_bindM hF
              refine at_callB Try.func57 rfl (by kernel_rfl) rfl rfl (fun w hw => crawlwayref11_Right_ok _ _ ht98 w) ?_
              refine av rfl (r_not rfl) ?_
              refine nwt [(1, _), (5, _), (81, _)] ⟨rfl, rfl, rfl, trivial⟩ ?_
              rcases of_ite hF with ⟨h99, hF⟩ | ⟨h99, hF⟩
              ·refine at_cond_true rfl h99 ?_
               refine sr ?_
               refine av rfl (r_assign rfl) ?_
               refine at_nil ?_
               refine at_drop (H := _) .z ?_
               refine at_weak [(2, _)] ⟨rfl, trivial⟩ ?_
               refine at_then_normal ?_
               refine at_ret ?_
               refine at_blk_ret (at_then_ret (at_then_ret (at_blk_ret (at_then_ret ?_))))
               obtain rfl := of_some hF
               subst K
               exact at_return1 rfl rfl (fun w1 hw => ⟨rfl, hw.below⟩)
              ·refine at_cond_false rfl h99 ?_
               refine at_skip ?_
               refine at_blk_normal (at_then_normal ?_)
               refine at_region ?_
               refine av rfl (r_move rfl) ?_
               refine av rfl (r_iadd rfl rfl) ?_
               refine av rfl (r_assign rfl) ?_
               refine nwt [(1, _), (5, _)] ⟨rfl, rfl, trivial⟩ ?_
               exact at_weak_k (ih _ _ hF K) ⟨rfl, rfl, trivial⟩
             ·refine at_cond_false rfl h93 ?_
              refine at_exit ?_
              refine at_then_exit (at_then_exit ?_)
              refine at_drop (H := _) .z ?_
              obtain rfl := of_some hF
              exact at_weak_k K trivial
           ·cases q91 with
            | ret r' => exact of_some hF
            | nx sq91 =>
             skip
             refine at_blk_same ?_
             refine at_then_normal ?_
             refine sr ?_
             refine av rfl (r_assign rfl) ?_
             refine nwt [(2, _)] ⟨rfl, trivial⟩ ?_
             refine at_ret ?_
             have K := of_some hF
             subst K
             exact at_return1 rfl rfl (fun w1 hw => ⟨rfl, hw.below⟩)
        ·refine at_fix (g := 56) rfl h88 ?_
         refine at_guard_no rfl rfl rfl rfl rfl ?_
         refine at_guard_no rfl rfl rfl rfl rfl ?_
         refine at_guard_no rfl rfl rfl rfl rfl ?_
         refine at_guard_yes rfl rfl rfl ?_
         refine av rfl (r_pick rfl rfl rfl) ?_
         refine av rfl (r_pick rfl rfl rfl) ?_
         refine av rfl (r_move rfl) ?_
         refine at_guard_yes rfl rfl rfl ?_
         refine av rfl (r_fieldAddr (fo := 89) Try.underlying37 rfl rfl (fun w => ⟨_, Try.sizeOf35 w⟩) rfl) ?_
         refine at_guard_yes rfl rfl rfl ?_
         refine av rfl (r_load_cell Try.isAgg35 rfl (lens_cell0 (c := cHd) (y := ⟨g0_.1, List.length x0.f_Allowed, g0_.2⟩) .z (c_api_PeerChange_f_Allowed g0_ x0) rfl)) ?_
         refine at_guard_yes rfl rfl rfl ?_
         refine av rfl (r_len_sl Try.underlying35 rfl) ?_
         refine at_guard_yes rfl rfl rfl ?_
         refine av rfl (r_igtr rfl rfl) ?_
         refine av rfl (r_pick rfl rfl rfl) ?_
         refine nwt [(1, _), (67, _)] ⟨rfl, rfl, trivial⟩ ?_
         rcases of_ite hF with ⟨h100, hF⟩ | ⟨h100, hF⟩
         ·refine at_cond_true rfl h100 ?_
          refine sr ?_
          refine av rfl (r_assign rfl) ?_
          refine at_nil ?_
          refine at_drop (H := _) .z ?_
          refine at_weak [(2, _)] ⟨rfl, trivial⟩ ?_
          refine at_then_normal ?_
          refine rt ?_
          have K := of_some hF
          subst K
          exact at_return1 rfl rfl (fun w1 hw => ⟨rfl, hw.below⟩)
         ·refine at_cond_false rfl h100 ?_
          refine sn ?_
          refine at_seq ?_
          refine sr ?_
          refine av rfl (r_assign rfl) ?_
          refine nwt [(1, _), (5, _)] ⟨rfl, rfl, trivial⟩ ?_
          refine at_block ?_
          obtain ⟨q101, hq101, hF⟩ := of_bindM hF
          refine at_weak [(1, _), (5, _)] ⟨rfl, rfl, trivial⟩ ?_
          refine at_loop_r (B := 0) (r := r) (q := q101) (A := fun (_ : Unit) Y => At 82 [] (Wd w []) Y) ?_ ?_
          ·intro K
           refine crawlwayref32_RightPeer.l7.partial_correctness x0 (motive := fun i102 x => KR (fun (_ : Unit) Y => At 82 [] (Wd w []) Y) _ 0 r x → Round (fun Y => At 82 [(1, .pointer (some ⟨b1, 0, none⟩)), (5, .int .i64 i102)] (Wd w [cellsE b1 (Cd.cs c_api_PeerChange (g0_, x0)) 37]) Y) _ _ _) ?_ _ _ hq101 K
           ·clear K hF
            intro g ih i102 x hF K
            refine at_round ?_
            refine at_seq ?_
            refine sr ?_
            refine av rfl (r_move rfl) ?_
            refine av rfl (r_fieldAddr (fo := 89) Try.underlying37 rfl rfl (fun w => ⟨_, Try.sizeOf35 w⟩) rfl) ?_
            refine av rfl (r_load_cell Try.isAgg35 rfl (lens_cell0 (c := cHd) (y := ⟨g0_.1, List.length x0.f_Allowed, g0_.2⟩) .z (c_api_PeerChange_f_Allowed g0_ x0) rfl)) ?_
            refine av rfl (r_len_sl Try.underlying35 rfl) ?_
            refine av rfl (r_ilss rfl rfl) ?_
            refine nwt [(1, _), (5, _), (72, _)] ⟨rfl, rfl, rfl, trivial⟩ ?_
            rcases of_ite hF with ⟨h103, hF⟩ | ⟨h103, hF⟩
            ·refine at_cond_true rfl h103 ?_
             refine sn ?_
             refine at_seq ?_
             refine at_block ?_
             refine sr ?_
             refine av rfl (r_fieldAddr (fo := 89) Try.underlying37 rfl rfl (fun w => ⟨_, Try.sizeOf35 w⟩) rfl) ?_
             refine av rfl (r_load_cell Try.isAgg35 rfl (lens_cell0 (c := cHd) (y := ⟨g0_.1, List.length x0.f_Allowed, g0_.2⟩) .z (c_api_PeerChange_f_Allowed g0_ x0) rfl)) ?_
             refine av rfl (r_move rfl) ?_
             obtain ⟨h104, hF⟩ := of_guard hF
             obtain ⟨b106, o107, hp105⟩ := row_ptr hn0 h104
             refine av rfl (r_idx Try.underlying35 Try.sizeOf46 rfl rfl h104 hp105) ?_
             refine av rfl (r_load_aggc (c := c_api_Prefix) (z := lget x0.f_Allowed i102) Try.isAgg46 Try.sizeOf46 rfl (row_cell (fun _ h => h.below) hn0 h104 hp105)) ?_
             obtain ⟨t108, ht108, hF⟩ := of_bindM hF
             refine at_callB Try.func57 rfl (by kernel_rfl) rfl rfl (fun w hw => crawlwayref11_Right_ok _ _ ht108 w) ?_
             refine av rfl (r_not rfl) ?_
             refine nwt [(1, _), (5, _), (81, _)] ⟨rfl, rfl, rfl, trivial⟩ ?_
             rcases of_ite hF with ⟨h109, hF⟩ | ⟨h109, hF⟩
             ·refine at_cond_true rfl h109 ?_
              refine sr ?_
              refine av rfl (r_assign rfl) ?_
              refine at_nil ?_
              refine at_drop (H := _) .z ?_
              refine at_weak [(2, _)] ⟨rfl, trivial⟩ ?_
              refine at_then_normal ?_
              refine at_ret ?_
              refine at_blk_ret (at_then_ret (at_then_ret (at_blk_ret (at_then_ret ?_))))
              obtain rfl := of_some hF
              subst K
              exact at_return1 rfl rfl (fun w1 hw => ⟨rfl, hw.below⟩)
             ·refine at_cond_false rfl h109 ?_
              refine at_skip ?_
              refine at_blk_normal (at_then_normal ?_)
              refine at_region ?_
              refine av rfl (r_move rfl) ?_
              refine av rfl (r_iadd rfl rfl) ?_
              refine av rfl (r_assign rfl) ?_
              refine nwt [(1, _), (5, _)] ⟨rfl, rfl, trivial⟩ ?_
              exact at_weak_k (ih _ _ hF K) ⟨rfl, rfl, trivial⟩
            ·refine at_cond_false rfl h103 ?_
             refine at_exit ?_
             refine at_then_exit (at_then_exit ?_)
             refine at_drop (H := _) .z ?_
             obtain rfl := of_some hF
             exact at_weak_k K trivial
          ·cases q101 with
           | ret r' => exact of_some hF
           | nx sq101 =>
            skip
            refine at_blk_same ?_
            refine at_then_normal ?_
            refine sr ?_
            refine av rfl (r_assign rfl) ?_
            refine nwt [(2, _)] ⟨rfl, trivial⟩ ?_
            refine at_ret ?_
            have K := of_some hF
            subst K
            exact at_return1 rfl rfl (fun w1 hw => ⟨rfl, hw.below⟩)
  ·refine at_fix (g := 16) rfl h5 ?_
   refine at_guard_no rfl rfl rfl rfl rfl ?_
   refine at_guard_no rfl rfl rfl rfl rfl ?_
   refine at_guard_no rfl rfl rfl rfl rfl ?_
   refine at_guard_no rfl rfl rfl rfl rfl ?_
   refine at_guard_yes rfl rfl rfl ?_
   refine av rfl (r_pick rfl rfl rfl) ?_
   refine av rfl (r_pick rfl rfl rfl) ?_
   refine av rfl (r_move rfl) ?_
   refine at_guard_yes rfl rfl rfl ?_
   refine av rfl (r_fieldAddr (fo := 67) Try.underlying37 rfl rfl (fun w => ⟨_, Try.sizeOf4 w⟩) rfl) ?_
   refine at_guard_yes rfl rfl rfl ?_
   refine av rfl (r_load_cell Try.isAgg4 rfl (lens_cell0 (c := cBool) (y := x0.f_HasEnd) (.s (.s .z)) (c_api_PeerChange_f_HasEnd g0_ x0) rfl)) ?_
   refine at_guard_yes rfl rfl rfl ?_
   refine av rfl (r_move rfl) ?_
   rcases of_ite hF with ⟨h110, hF⟩ | ⟨h110, hF⟩
   ·refine at_fix (g := 26) rfl h110 ?_
    refine at_guard_yes rfl rfl rfl ?_
    refine av rfl (r_fieldAddr (fo := 68) Try.underlying37 rfl rfl (fun w => ⟨_, Try.sizeOf34 w⟩) rfl) ?_
    refine at_guard_yes rfl rfl rfl ?_
    refine av rfl (r_load_aggc (c := c_api_Endpoint) (z := x0.f_End) Try.isAgg34 Try.sizeOf34 rfl (lens_cell (.s (.s .z)) (c_api_PeerChange_f_End g0_ x0))) ?_
    refine at_guard_yes rfl rfl rfl ?_
    obtain ⟨t111, ht111, hF⟩ := of_bindM hF
    refine at_callB Try.func56 rfl (by kernel_rfl) rfl rfl (fun w hw => crawlwayref12_Right_ok _ _ ht111 w) ?_
    refine at_guard_yes rfl rfl rfl ?_
    refine av rfl (r_not rfl) ?_
    refine at_guard_yes rfl rfl rfl ?_
    refine av rfl (r_pick rfl rfl rfl) ?_
    refine av rfl (r_pick rfl rfl rfl) ?_
    refine av rfl (r_move rfl) ?_
    rcases of_ite hF with ⟨h112, hF⟩ | ⟨h112, hF⟩
    ·refine at_fix (g := 33) rfl h112 ?_
     refine at_guard_no rfl rfl rfl rfl rfl ?_
     refine at_guard_no rfl rfl rfl rfl rfl ?_
     refine at_guard_no rfl rfl rfl rfl rfl ?_
     refine at_guard_no rfl rfl rfl rfl rfl ?_
     refine at_guard_undef rfl rfl rfl rfl ?_
     refine at_guard_undef rfl rfl rfl rfl ?_
     refine at_guard_undef rfl rfl rfl rfl ?_
     refine at_guard_undef rfl rfl rfl rfl ?_
     refine at_guard_no rfl rfl rfl rfl rfl ?_
     refine av rfl (r_pick rfl rfl rfl) ?_
     refine at_nil ?_
     refine at_drop (H := _) .z ?_
     refine at_drop (H := _) .z ?_
     refine at_weak [(1, _), (43, _)] ⟨rfl, rfl, trivial⟩ ?_
     refine at_then_normal ?_
     refine at_cond_true rfl rfl ?_
     refine sr ?_
     refine av rfl (r_assign rfl) ?_
     refine at_nil ?_
     refine at_drop (H := _) .z ?_
     refine at_weak [(2, _)] ⟨rfl, trivial⟩ ?_
     refine at_then_normal ?_
     refine rt ?_
     have K := of_some hF
     subst K
     exact at_return1 rfl rfl (fun w1 hw => ⟨rfl, hw.below⟩)
    ·refine at_fix (g := 33) rfl h112 ?_
     refine at_guard_yes rfl rfl rfl ?_
     refine av rfl (r_fieldAddr (fo := 67) Try.underlying37 rfl rfl (fun w => ⟨_, Try.sizeOf4 w⟩) rfl) ?_
     refine at_guard_yes rfl rfl rfl ?_
     refine av rfl (r_load_cell Try.isAgg4 rfl (lens_cell0 (c := cBool) (y := x0.f_HasEnd) (.s (.s .z)) (c_api_PeerChange_f_HasEnd g0_ x0) rfl)) ?_
     refine at_guard_yes rfl rfl rfl ?_
     refine av rfl (r_not rfl) ?_
     refine at_guard_yes rfl rfl rfl ?_
     refine av rfl (r_move rfl) ?_
     rcases of_ite hF with ⟨h113, hF⟩ | ⟨h113, hF⟩
     ·refine at_fix (g := 37) rfl h113 ?_
      refine at_guard_yes rfl rfl rfl ?_
      refine av rfl (r_fieldAddr (fo := 68) Try.underlying37 rfl rfl (fun w => ⟨_, Try.sizeOf34 w⟩) rfl) ?_
      refine at_guard_yes rfl rfl rfl ?_
      refine av rfl (r_load_aggc (c := c_api_Endpoint) (z := x0.f_End) Try.isAgg34 Try.sizeOf34 rfl (lens_cell (.s (.s .z)) (c_api_PeerChange_f_End g0_ x0))) ?_
      refine at_guard_yes rfl rfl rfl ?_
      refine av rfl (r_load_aggc (c := c_api_Endpoint) (z := zqG3_0) Try.isAgg34 Try.sizeOf34 rfl (lens_cell .z (Lens.whole _ _))) ?_
      refine at_guard_yes rfl rfl rfl ?_
      refine av rfl (r_eqagg (c := c_api_Endpoint) (a := x0.f_End) (b := zqG3_0) (eq_api_Endpoint_34) rfl Try.eqGuardType34 rfl rfl (.inr rfl) rfl) ?_
      refine at_guard_yes rfl rfl rfl ?_
      refine av rfl (r_pick rfl rfl rfl) ?_
      refine av rfl (r_pick rfl rfl rfl) ?_
      refine at_nil ?_
      refine at_drop (H := _) .z ?_
      refine at_drop (H := _) .z ?_
      refine at_weak [(1, _), (43, _)] ⟨rfl, rfl, trivial⟩ ?_
      refine at_then_normal ?_
      rcases of_ite hF with ⟨h114, hF⟩ | ⟨h114, hF⟩
      ·refine at_cond_true rfl h114 ?_
       refine sr ?_
       refine av rfl (r_assign rfl) ?_
       refine at_nil ?_
       refine at_drop (H := _) .z ?_
       refine at_weak [(2, _)] ⟨rfl, trivial⟩ ?_
       refine at_then_normal ?_
       refine rt ?_
       have K := of_some hF
       subst K
       exact at_return1 rfl rfl (fun w1 hw => ⟨rfl, hw.below⟩)
      ·refine at_cond_false rfl h114 ?_
       refine sn ?_
       refine at_seq ?_
       refine sr ?_
       refine av rfl (r_fieldAddr (fo := 87) Try.underlying37 rfl rfl (fun w => ⟨_, Try.sizeOf3 w⟩) rfl) ?_
       refine av rfl (r_load_cell Try.isAgg3 rfl (lens_cell0 (c := (cInt .i64)) (y := x0.f_Keep) .z (c_api_PeerChange_f_Keep g0_ x0) rfl)) ?_
       refine av rfl (r_ilss rfl rfl) ?_
       refine av rfl (r_move rfl) ?_
       rcases of_ite hF with ⟨h115, hF⟩ | ⟨h115, hF⟩
       ·refine at_fix (g := 47) rfl h115 ?_
        refine at_guard_no rfl rfl rfl rfl rfl ?_
        refine at_guard_no rfl rfl rfl rfl rfl ?_
        refine at_guard_no rfl rfl rfl rfl rfl ?_
        refine av rfl (r_pick rfl rfl rfl) ?_
        refine av rfl (r_move rfl) ?_
        refine at_guard_no rfl rfl rfl rfl rfl ?_
        refine at_guard_no rfl rfl rfl rfl rfl ?_
        refine at_guard_no rfl rfl rfl rfl rfl ?_
        refine at_guard_no rfl rfl rfl rfl rfl ?_
        refine at_guard_undef rfl rfl rfl rfl ?_
        refine at_guard_undef rfl rfl rfl rfl ?_
        refine at_guard_undef rfl rfl rfl rfl ?_
        refine at_guard_no rfl rfl rfl rfl rfl ?_
        refine av rfl (r_pick rfl rfl rfl) ?_
        refine av rfl (r_move rfl) ?_
        refine at_guard_no rfl rfl rfl rfl rfl ?_
        refine at_guard_no rfl rfl rfl rfl rfl ?_
        refine at_guard_no rfl rfl rfl rfl rfl ?_
        refine at_guard_no rfl rfl rfl rfl rfl ?_
        refine av rfl (r_pick rfl rfl rfl) ?_
        refine nwt [(1, _), (67, _)] ⟨rfl, rfl, trivial⟩ ?_
        refine at_cond_true rfl rfl ?_
        refine sr ?_
        refine av rfl (r_assign rfl) ?_
        refine at_nil ?_
        refine at_drop (H := _) .z ?_
        refine at_weak [(2, _)] ⟨rfl, trivial⟩ ?_
        refine at_then_normal ?_
        refine rt ?_
        have K := of_some hF
        subst K
        exact at_return1 rfl rfl (fun w1 hw => ⟨rfl, hw.below⟩)
       ·refine at_fix (g := 47) rfl h115 ?_
        refine at_guard_yes rfl rfl rfl ?_
        refine av rfl (r_fieldAddr (fo := 87) Try.underlying37 rfl rfl (fun w => ⟨_, Try.sizeOf3 w⟩) rfl) ?_
        refine at_guard_yes rfl rfl rfl ?_
        refine av rfl (r_load_cell Try.isAgg3 rfl (lens_cell0 (c := (cInt .i64)) (y := x0.f_Keep) .z (c_api_PeerChange_f_Keep g0_ x0) rfl)) ?_
        refine at_guard_yes rfl rfl rfl ?_
        refine av rfl (r_igtr rfl rfl) ?_
        refine av rfl (r_pick rfl rfl rfl) ?_
        refine av rfl (r_move rfl) ?_
        rcases of_ite hF with ⟨h116, hF⟩ | ⟨h116, hF⟩
        ·refine at_fix (g := 52) rfl h116 ?_
         refine at_guard_no rfl rfl rfl rfl rfl ?_
         refine at_guard_no rfl rfl rfl rfl rfl ?_
         refine at_guard_no rfl rfl rfl rfl rfl ?_
         refine at_guard_no rfl rfl rfl rfl rfl ?_
         refine at_guard_undef rfl rfl rfl rfl ?_
         refine at_guard_undef rfl rfl rfl rfl ?_
         refine at_guard_undef rfl rfl rfl rfl ?_
         refine at_guard_no rfl rfl rfl rfl rfl ?_
         refine av rfl (r_pick rfl rfl rfl) ?_
         refine av rfl (r_move rfl) ?_
         refine at_guard_no rfl rfl rfl rfl rfl ?_
         refine at_guard_no rfl rfl rfl rfl rfl ?_
         refine at_guard_no rfl rfl rfl rfl rfl ?_
         refine at_guard_no rfl rfl rfl rfl rfl ?_
         refine av rfl (r_pick rfl rfl rfl) ?_
         refine nwt [(1, _), (67, _)] ⟨rfl, rfl, trivial⟩ ?_
         refine at_cond_true rfl rfl ?_
         refine sr ?_
         refine av rfl (r_assign rfl) ?_
         refine at_nil ?_
         refine at_drop (H := _) .z ?_
         refine at_weak [(2, _)] ⟨rfl, trivial⟩ ?_
         refine at_then_normal ?_
         refine rt ?_
         have K := of_some hF
         subst K
         exact at_return1 rfl rfl (fun w1 hw => ⟨rfl, hw.below⟩)
        ·refine at_fix (g := 52) rfl h116 ?_
         refine at_guard_yes rfl rfl rfl ?_
         refine av rfl (r_fieldAddr (fo := 86) Try.underlying37 rfl rfl (fun w => ⟨_, Try.sizeOf4 w⟩) rfl) ?_
         refine at_guard_yes rfl rfl rfl ?_
         refine av rfl (r_load_cell Try.isAgg4 rfl (lens_cell0 (c := cBool) (y := x0.f_HasKeep) .z (c_api_PeerChange_f_HasKeep g0_ x0) rfl)) ?_
         refine at_guard_yes rfl rfl rfl ?_
         refine av rfl (r_not rfl) ?_
         refine at_guard_yes rfl rfl rfl ?_
         refine av rfl (r_move rfl) ?_
         rcases of_ite hF with ⟨h117, hF⟩ | ⟨h117, hF⟩
         ·refine at_fix (g := 56) rfl h117 ?_
          refine at_guard_yes rfl rfl rfl ?_
          refine av rfl (r_fieldAddr (fo := 87) Try.underlying37 rfl rfl (fun w => ⟨_, Try.sizeOf3 w⟩) rfl) ?_
          refine at_guard_yes rfl rfl rfl ?_
          refine av rfl (r_load_cell Try.isAgg3 rfl (lens_cell0 (c := (cInt .i64)) (y := x0.f_Keep) .z (c_api_PeerChange_f_Keep g0_ x0) rfl)) ?_
          refine at_guard_yes rfl rfl rfl ?_
          refine av rfl (r_ineq rfl rfl) ?_
          refine at_guard_yes rfl rfl rfl ?_
          refine av rfl (r_pick rfl rfl rfl) ?_
          refine av rfl (r_pick rfl rfl rfl) ?_
          refine av rfl (r_move rfl) ?_
          rcases of_ite hF with ⟨h118, hF⟩ | ⟨h118, hF⟩
          ·refine at_fix (g := 62) rfl h118 ?_
           refine at_guard_no rfl rfl rfl rfl rfl ?_
           refine at_guard_no rfl rfl rfl rfl rfl ?_
           refine at_guard_no rfl rfl rfl rfl rfl ?_
           refine at_guard_no rfl rfl rfl rfl rfl ?_
           refine av rfl (r_pick rfl rfl rfl) ?_
           refine nwt [(1, _), (67, _)] ⟨rfl, rfl, trivial⟩ ?_
           refine at_cond_true rfl rfl ?_
           refine sr ?_
           refine av rfl (r_assign rfl) ?_
           refine at_nil ?_
           refine at_drop (H := _) .z ?_
           refine at_weak [(2, _)] ⟨rfl, trivial⟩ ?_
           refine at_then_normal ?_
           refine rt ?_
           have K := of_some hF
           subst K
           exact at_return1 rfl rfl (fun w1 hw => ⟨rfl, hw.below⟩)
          ·refine at_fix (g := 62) rfl h118 ?_
           refine at_guard_yes rfl rfl rfl ?_
           refine av rfl (r_fieldAddr (fo := 89) Try.underlying37 rfl rfl (fun w => ⟨_, Try.sizeOf35 w⟩) rfl) ?_
           refine at_guard_yes rfl rfl rfl ?_
           refine av rfl (r_load_cell Try.isAgg35 rfl (lens_cell0 (c := cHd) (y := ⟨g0_.1, List.length x0.f_Allowed, g0_.2⟩) .z (c_api_PeerChange_f_Allowed g0_ x0) rfl)) ?_
           refine at_guard_yes rfl rfl rfl ?_
           refine av rfl (r_len_sl Try.underlying35 rfl) ?_
           refine at_guard_yes rfl rfl rfl ?_
           refine av rfl (r_igtr rfl rfl) ?_
           refine av rfl (r_pick rfl rfl rfl) ?_
           refine nwt [(1, _), (67, _)] ⟨rfl, rfl, trivial⟩ ?_
           rcases of_ite hF with ⟨h119, hF⟩ | ⟨h119, hF⟩
           ·refine at_cond_true rfl h119 ?_
            refine sr ?_
            refine av rfl (r_assign rfl) ?_
            refine at_nil ?_
            refine at_drop (H := _) .z ?_
            refine at_weak [(2, _)] ⟨rfl, trivial⟩ ?_
            refine at_then_normal ?_
            refine rt ?_
            have K := of_some hF
            subst K
            exact at_return1 rfl rfl (fun w1 hw => ⟨rfl, hw.below⟩)
           ·refine at_cond_false rfl h119 ?_
            refine sn ?_
            refine at_seq ?_
            refine sr ?_
            refine av rfl (r_assign rfl) ?_
            refine nwt [(1, _), (5, _)] ⟨rfl, rfl, trivial⟩ ?_
            refine at_block ?_
            obtain ⟨q120, hq120, hF⟩ := of_bindM hF
            refine at_weak [(1, _), (5, _)] ⟨rfl, rfl, trivial⟩ ?_
            refine at_loop_r (B := 0) (r := r) (q := q120) (A := fun (_ : Unit) Y => At 82 [] (Wd w []) Y) ?_ ?_
            ·intro K
             refine crawlwayref32_RightPeer.l8.partial_correctness x0 (motive := fun i121 x => KR (fun (_ : Unit) Y => At 82 [] (Wd w []) Y) _ 0 r x → Round (fun Y => At 82 [(1, .pointer (some ⟨b1, 0, none⟩)), (5, .int .i64 i121)] (Wd w [cellsE b1 (Cd.cs c_api_PeerChange (g0_, x0)) 37]) Y) _ _ _) ?_ _ _ hq120 K
             ·clear K hF
              intro g ih i121 x hF K
              refine at_round ?_
              refine at_seq ?_
              refine sr ?_
              refine av rfl (r_move rfl) ?_
              refine av rfl (r_fieldAddr (fo := 89) Try.underlying37 rfl rfl (fun w => ⟨_, Try.sizeOf35 w⟩) rfl) ?_
              refine av rfl (r_load_cell Try.isAgg35 rfl (lens_cell0 (c := cHd) (y := ⟨g0_.1, List.length x0.f_Allowed, g0_.2⟩) .z (c_api_PeerChange_f_Allowed g0_ x0) rfl)) ?_
              refine av rfl (r_len_sl Try.underlying35 rfl) ?_
              refine av rfl (r_ilss rfl rfl) ?_
              refine nwt [(1, _), (5, _), (72, _)] ⟨rfl, rfl, rfl, trivial⟩ ?_
              rcases of_ite hF with ⟨h122, hF⟩ | ⟨h122, hF⟩
              ·refine at_cond_true rfl h122 ?_
               refine sn ?_
               refine at_seq ?_
               refine at_block ?_
               refine sr ?_
               refine av rfl (r_fieldAddr (fo := 89) Try.underlying37 rfl rfl (fun w => ⟨_, Try.sizeOf35 w⟩) rfl) ?_
               refine av rfl (r_load_cell Try.isAgg35 rfl (lens_cell0 (c := cHd) (y := ⟨g0_.1, List.length x0.f_Allowed, g0_.2⟩) .z (c_api_PeerChange_f_Allowed g0_ x0) rfl)) ?_
               refine av rfl (r_move rfl) ?_
               obtain ⟨h123, hF⟩ := of_guard hF
               obtain ⟨b125, o126, hp124⟩ := row_ptr hn0 h123
               refine av rfl (r_idx Try.underlying35 Try.sizeOf46 rfl rfl h123 hp124) ?_
               refine av rfl (r_load_aggc (c := c_api_Prefix) (z := lget x0.f_Allowed i121) Try.isAgg46 Try.sizeOf46 rfl (row_cell (fun _ h => h.below) hn0 h123 hp124)) ?_
               obtain ⟨t127, ht127, hF⟩ := of_bindM hF
               refine at_callB Try.func57 rfl (by kernel_rfl) rfl rfl (fun w hw => crawlwayref11_Right_ok _ _ ht127 w) ?_
               refine av rfl (r_not rfl) ?_
               refine nwt [(1, _), (5, _), (81, _)] ⟨rfl, rfl, rfl, trivial⟩ ?_
               rcases of_ite hF with ⟨h128, hF⟩ | ⟨h128, hF⟩
               ·refine at_cond_true rfl h128 ?_
                refine sr ?_
                refine av rfl (r_assign rfl) ?_
                refine at_nil ?_
                refine at_drop (H := _) .z ?_
                refine at_weak [(2, _)] ⟨rfl, trivial⟩ ?_
                refine at_then_normal ?_
                refine at_ret ?_
                refine at_blk_ret (at_then_ret (at_then_ret (at_blk_ret (at_then_ret ?_))))
                obtain rfl := of_some hF
                subst K
                exact at_return1 rfl rfl (fun w1 hw => ⟨rfl, hw.below⟩)
               ·refine at_cond_false rfl h128 ?_
                refine at_skip ?_
                refine at_blk_normal (at_then_normal ?_)
                refine at_region ?_
                refine av rfl (r_move rfl) ?_
                refine av rfl (r_iadd rfl rfl) ?_
                refine av rfl (r_assign rfl) ?_
                refine nwt [(1, _), (5, _)] ⟨rfl, rfl, trivial⟩ ?_
                exact at_weak_k (ih _ _ hF K) ⟨rfl, rfl, trivial⟩
              ·refine at_cond_false rfl h122 ?_
               refine at_exit ?_
               refine at_then_exit (at_then_exit ?_)
               refine at_drop (H := _) .z ?_
               obtain rfl := of_some hF
               exact at_weak_k K trivial
            ·cases q120 with
             | ret r' => exact of_some hF
             | nx sq120 =>
              skip
              refine at_blk_same ?_
              refine at_then_normal ?_
              refine sr ?_
              refine av rfl (r_assign rfl) ?_
              refine nwt [(2, _)] ⟨rfl, trivial⟩ ?_
              refine at_ret ?_
              have K := of_some hF
              subst K
              exact at_return1 rfl rfl (fun w1 hw => ⟨rfl, hw.below⟩)
         ·refine at_fix (g := 56) rfl h117 ?_
          refine at_guard_no rfl rfl rfl rfl rfl ?_
          refine at_guard_no rfl rfl rfl rfl rfl ?_
          refine at_guard_no rfl rfl rfl rfl rfl ?_
          refine at_guard_yes rfl rfl rfl ?_
          refine av rfl (r_pick rfl rfl rfl) ?_
          refine av rfl (r_pick rfl rfl rfl) ?_
          refine av rfl (r_move rfl) ?_
          refine at_guard_yes rfl rfl rfl ?_
          refine av rfl (r_fieldAddr (fo := 89) Try.underlying37 rfl rfl (fun w => ⟨_, Try.sizeOf35 w⟩) rfl) ?_
          refine at_guard_yes rfl rfl rfl ?_
          refine av rfl (r_load_cell Try.isAgg35 rfl (lens_cell0 (c := cHd) (y := ⟨g0_.1, List.length x0.f_Allowed, g0_.2⟩) .z (c_api_PeerChange_f_Allowed g0_ x0) rfl)) ?_
          refine at_guard_yes rfl rfl rfl ?_
          refine av rfl (r_len_sl Try.underlying35 rfl) ?_
          refine at_guard_yes rfl rfl rfl ?_
          refine av rfl (r_igtr rfl rfl) ?_
          refine av rfl (r_pick rfl rfl rfl) ?_
          refine nwt [(1, _), (67, _)] ⟨rfl, rfl, trivial⟩ ?_
          rcases of_ite hF with ⟨h129, hF⟩ | ⟨h129, hF⟩
          ·refine at_cond_true rfl h129 ?_
           refine sr ?_
           refine av rfl (r_assign rfl) ?_
           refine at_nil ?_
           refine at_drop (H := _) .z ?_
           refine at_weak [(2, _)] ⟨rfl, trivial⟩ ?_
           refine at_then_normal ?_
           refine rt ?_
           have K := of_some hF
           subst K
           exact at_return1 rfl rfl (fun w1 hw => ⟨rfl, hw.below⟩)
          ·refine at_cond_false rfl h129 ?_
           refine sn ?_
           refine at_seq ?_
           refine sr ?_
           refine av rfl (r_assign rfl) ?_
           refine nwt [(1, _), (5, _)] ⟨rfl, rfl, trivial⟩ ?_
           refine at_block ?_
           obtain ⟨q130, hq130, hF⟩ := of_bindM hF
           refine at_weak [(1, _), (5, _)] ⟨rfl, rfl, trivial⟩ ?_
           refine at_loop_r (B := 0) (r := r) (q := q130) (A := fun (_ : Unit) Y => At 82 [] (Wd w []) Y) ?_ ?_
           ·intro K
            refine crawlwayref32_RightPeer.l9.partial_correctness x0 (motive := fun i131 x => KR (fun (_ : Unit) Y => At 82 [] (Wd w []) Y) _ 0 r x → Round (fun Y => At 82 [(1, .pointer (some ⟨b1, 0, none⟩)), (5, .int .i64 i131)] (Wd w [cellsE b1 (Cd.cs c_api_PeerChange (g0_, x0)) 37]) Y) _ _ _) ?_ _ _ hq130 K
            ·clear K hF
             intro g ih i131 x hF K
             refine at_round ?_
             refine at_seq ?_
             refine sr ?_
             refine av rfl (r_move rfl) ?_
             refine av rfl (r_fieldAddr (fo := 89) Try.underlying37 rfl rfl (fun w => ⟨_, Try.sizeOf35 w⟩) rfl) ?_
             refine av rfl (r_load_cell Try.isAgg35 rfl (lens_cell0 (c := cHd) (y := ⟨g0_.1, List.length x0.f_Allowed, g0_.2⟩) .z (c_api_PeerChange_f_Allowed g0_ x0) rfl)) ?_
             refine av rfl (r_len_sl Try.underlying35 rfl) ?_
             refine av rfl (r_ilss rfl rfl) ?_
             refine nwt [(1, _), (5, _), (72, _)] ⟨rfl, rfl, rfl, trivial⟩ ?_
             rcases of_ite hF with ⟨h132, hF⟩ | ⟨h132, hF⟩
             ·refine at_cond_true rfl h132 ?_
              refine sn ?_
              refine at_seq ?_
              refine at_block ?_
              refine sr ?_
              refine av rfl (r_fieldAddr (fo := 89) Try.underlying37 rfl rfl (fun w => ⟨_, Try.sizeOf35 w⟩) rfl) ?_
              refine av rfl (r_load_cell Try.isAgg35 rfl (lens_cell0 (c := cHd) (y := ⟨g0_.1, List.length x0.f_Allowed, g0_.2⟩) .z (c_api_PeerChange_f_Allowed g0_ x0) rfl)) ?_
              refine av rfl (r_move rfl) ?_
              obtain ⟨h133, hF⟩ := of_guard hF
              obtain ⟨b135, o136, hp134⟩ := row_ptr hn0 h133
              refine av rfl (r_idx Try.underlying35 Try.sizeOf46 rfl rfl h133 hp134) ?_
              refine av rfl (r_load_aggc (c := c_api_Prefix) (z := lget x0.f_Allowed i131) Try.isAgg46 Try.sizeOf46 rfl (row_cell (fun _ h => h.below) hn0 h133 hp134)) ?_
              obtain ⟨t137, ht137, hF⟩ := of_bindM hF
              refine at_callB Try.func57 rfl (by kernel_rfl) rfl rfl (fun w hw => crawlwayref11_Right_ok _ _ ht137 w) ?_
              refine av rfl (r_not rfl) ?_
              refine nwt [(1, _), (5, _), (81, _)] ⟨rfl, rfl, rfl, trivial⟩ ?_
              rcases of_ite hF with ⟨h138, hF⟩ | ⟨h138, hF⟩
              ·refine at_cond_true rfl h138 ?_
               refine sr ?_
               refine av rfl (r_assign rfl) ?_
               refine at_nil ?_
               refine at_drop (H := _) .z ?_
               refine at_weak [(2, _)] ⟨rfl, trivial⟩ ?_
               refine at_then_normal ?_
               refine at_ret ?_
               refine at_blk_ret (at_then_ret (at_then_ret (at_blk_ret (at_then_ret ?_))))
               obtain rfl := of_some hF
               subst K
               exact at_return1 rfl rfl (fun w1 hw => ⟨rfl, hw.below⟩)
              ·refine at_cond_false rfl h138 ?_
               refine at_skip ?_
               refine at_blk_normal (at_then_normal ?_)
               refine at_region ?_
               refine av rfl (r_move rfl) ?_
               refine av rfl (r_iadd rfl rfl) ?_
               refine av rfl (r_assign rfl) ?_
               refine nwt [(1, _), (5, _)] ⟨rfl, rfl, trivial⟩ ?_
               exact at_weak_k (ih _ _ hF K) ⟨rfl, rfl, trivial⟩
             ·refine at_cond_false rfl h132 ?_
              refine at_exit ?_
              refine at_then_exit (at_then_exit ?_)
              refine at_drop (H := _) .z ?_
              obtain rfl := of_some hF
              exact at_weak_k K trivial
           ·cases q130 with
            | ret r' => exact of_some hF
            | nx sq130 =>
             skip
             refine at_blk_same ?_
             refine at_then_normal ?_
             refine sr ?_
             refine av rfl (r_assign rfl) ?_
             refine nwt [(2, _)] ⟨rfl, trivial⟩ ?_
             refine at_ret ?_
             have K := of_some hF
             subst K
             exact at_return1 rfl rfl (fun w1 hw => ⟨rfl, hw.below⟩)
     ·refine at_fix (g := 37) rfl h113 ?_
      refine at_guard_no rfl rfl rfl rfl rfl ?_
      refine at_guard_no rfl rfl rfl rfl rfl ?_
      refine at_guard_no rfl rfl rfl rfl rfl ?_
      refine at_guard_no rfl rfl rfl rfl rfl ?_
      refine at_guard_yes rfl rfl rfl ?_
      refine av rfl (r_pick rfl rfl rfl) ?_
      refine av rfl (r_pick rfl rfl rfl) ?_
      refine at_nil ?_
      refine at_drop (H := _) .z ?_
      refine at_drop (H := _) .z ?_
      refine at_weak [(1, _), (43, _)] ⟨rfl, rfl, trivial⟩ ?_
      refine at_then_normal ?_
      refine at_cond_false rfl rfl ?_
      refine sn ?_
      refine at_seq ?_
      refine sr ?_
      refine av rfl (r_fieldAddr (fo := 87) Try.underlying37 rfl rfl (fun w => ⟨_, Try.sizeOf3 w⟩) rfl) ?_
      refine av rfl (r_load_cell Try.isAgg3 rfl (lens_cell0 (c := (cInt .i64)) (y := x0.f_Keep) .z (c_api_PeerChange_f_Keep g0_ x0) rfl)) ?_
      refine av rfl (r_ilss rfl rfl) ?_
      refine av rfl (r_move rfl) ?_
      rcases of_ite hF with ⟨h139, hF⟩ | ⟨h139, hF⟩
      ·refine at_fix (g := 47) rfl h139 ?_
       refine at_guard_no rfl rfl rfl rfl rfl ?_
       refine at_guard_no rfl rfl rfl rfl rfl ?_
       refine at_guard_no rfl rfl rfl rfl rfl ?_
       refine av rfl (r_pick rfl rfl rfl) ?_
       refine av rfl (r_move rfl) ?_
       refine at_guard_no rfl rfl rfl rfl rfl ?_
       refine at_guard_no rfl rfl rfl rfl rfl ?_
       refine at_guard_no rfl rfl rfl rfl rfl ?_
       refine at_guard_no rfl rfl rfl rfl rfl ?_
       refine at_guard_undef rfl rfl rfl rfl ?_
       refine at_guard_undef rfl rfl rfl rfl ?_
       refine at_guard_undef rfl rfl rfl rfl ?_
       refine at_guard_no rfl rfl rfl rfl rfl ?_
       refine av rfl (r_pick rfl rfl rfl) ?_
       refine av rfl (r_move rfl) ?_
       refine at_guard_no rfl rfl rfl rfl rfl ?_
       refine at_guard_no rfl rfl rfl rfl rfl ?_
       refine at_guard_no rfl rfl rfl rfl rfl ?_
       refine at_guard_no rfl rfl rfl rfl rfl ?_
       refine av rfl (r_pick rfl rfl rfl) ?_
       refine nwt [(1, _), (67, _)] ⟨rfl, rfl, trivial⟩ ?_
       refine at_cond_true rfl rfl ?_
       refine sr ?_
       refine av rfl (r_assign rfl) ?_
       refine at_nil ?_
       refine at_drop (H := _) .z ?_
       refine at_weak [(2, _)] ⟨rfl, trivial⟩ ?_
       refine at_then_normal ?_
       refine rt ?_
       have K := of_some hF
       subst K
       exact at_return1 rfl rfl (fun w1 hw => ⟨rfl, hw.below⟩)
      ·refine at_fix (g := 47) rfl h139 ?_
       refine at_guard_yes rfl rfl rfl ?_
       refine av rfl (r_fieldAddr (fo := 87) Try.underlying37 rfl rfl (fun w => ⟨_, Try.sizeOf3 w⟩) rfl) ?_
       refine at_guard_yes rfl rfl rfl ?_
       refine av rfl (r_load_cell Try.isAgg3 rfl (lens_cell0 (c := (cInt .i64)) (y := x0.f_Keep) .z (c_api_PeerChange_f_Keep g0_ x0) rfl)) ?_
       refine at_guard_yes rfl rfl rfl ?_
       refine av rfl (r_igtr rfl rfl) ?_
       refine av rfl (r_pick rfl rfl rfl) ?_
       refine av rfl (r_move rfl) ?_
       rcases of_ite hF with ⟨h140, hF⟩ | ⟨h140, hF⟩
       ·refine at_fix (g := 52) rfl h140 ?_
        refine at_guard_no rfl rfl rfl rfl rfl ?_
        refine at_guard_no rfl rfl rfl rfl rfl ?_
        refine at_guard_no rfl rfl rfl rfl rfl ?_
        refine at_guard_no rfl rfl rfl rfl rfl ?_
        refine at_guard_undef rfl rfl rfl rfl ?_
        refine at_guard_undef rfl rfl rfl rfl ?_
        refine at_guard_undef rfl rfl rfl rfl ?_
        refine at_guard_no rfl rfl rfl rfl rfl ?_
        refine av rfl (r_pick rfl rfl rfl) ?_
        refine av rfl (r_move rfl) ?_
        refine at_guard_no rfl rfl rfl rfl rfl ?_
        refine at_guard_no rfl rfl rfl rfl rfl ?_
        refine at_guard_no rfl rfl rfl rfl rfl ?_
        refine at_guard_no rfl rfl rfl rfl rfl ?_
        refine av rfl (r_pick rfl rfl rfl) ?_
        refine nwt [(1, _), (67, _)] ⟨rfl, rfl, trivial⟩ ?_
        refine at_cond_true rfl rfl ?_
        refine sr ?_
        refine av rfl (r_assign rfl) ?_
        refine at_nil ?_
        refine at_drop (H := _) .z ?_
        refine at_weak [(2, _)] ⟨rfl, trivial⟩ ?_
        refine at_then_normal ?_
        refine rt ?_
        have K := of_some hF
        subst K
        exact at_return1 rfl rfl (fun w1 hw => ⟨rfl, hw.below⟩)
       ·refine at_fix (g := 52) rfl h140 ?_
        refine at_guard_yes rfl rfl rfl ?_
        refine av rfl (r_fieldAddr (fo := 86) Try.underlying37 rfl rfl (fun w => ⟨_, Try.sizeOf4 w⟩) rfl) ?_
        refine at_guard_yes rfl rfl rfl ?_
        refine av rfl (r_load_cell Try.isAgg4 rfl (lens_cell0 (c := cBool) (y := x0.f_HasKeep) .z (c_api_PeerChange_f_HasKeep g0_ x0) rfl)) ?_
        refine at_guard_yes rfl rfl rfl ?_
        refine av rfl (r_not rfl) ?_
        refine at_guard_yes rfl rfl rfl ?_
        refine av rfl (r_move rfl) ?_
        rcases of_ite hF with ⟨h141, hF⟩ | ⟨h141, hF⟩
        ·refine at_fix (g := 56) rfl h141 ?_
         refine at_guard_yes rfl rfl rfl ?_
         refine av rfl (r_fieldAddr (fo := 87) Try.underlying37 rfl rfl (fun w => ⟨_, Try.sizeOf3 w⟩) rfl) ?_
         refine at_guard_yes rfl rfl rfl ?_
         refine av rfl (r_load_cell Try.isAgg3 rfl (lens_cell0 (c := (cInt .i64)) (y := x0.f_Keep) .z (c_api_PeerChange_f_Keep g0_ x0) rfl)) ?_
         refine at_guard_yes rfl rfl rfl ?_
         refine av rfl (r_ineq rfl rfl) ?_
         refine at_guard_yes rfl rfl rfl ?_
         refine av rfl (r_pick rfl rfl rfl) ?_
         refine av rfl (r_pick rfl rfl rfl) ?_
         refine av rfl (r_move rfl) ?_
         rcases of_ite hF with ⟨h142, hF⟩ | ⟨h142, hF⟩
         ·refine at_fix (g := 62) rfl h142 ?_
          refine at_guard_no rfl rfl rfl rfl rfl ?_
          refine at_guard_no rfl rfl rfl rfl rfl ?_
          refine at_guard_no rfl rfl rfl rfl rfl ?_
          refine at_guard_no rfl rfl rfl rfl rfl ?_
          refine av rfl (r_pick rfl rfl rfl) ?_
          refine nwt [(1, _), (67, _)] ⟨rfl, rfl, trivial⟩ ?_
          refine at_cond_true rfl rfl ?_
          refine sr ?_
          refine av rfl (r_assign rfl) ?_
          refine at_nil ?_
          refine at_drop (H := _) .z ?_
          refine at_weak [(2, _)] ⟨rfl, trivial⟩ ?_
          refine at_then_normal ?_
          refine rt ?_
          have K := of_some hF
          subst K
          exact at_return1 rfl rfl (fun w1 hw => ⟨rfl, hw.below⟩)
         ·refine at_fix (g := 62) rfl h142 ?_
          refine at_guard_yes rfl rfl rfl ?_
          refine av rfl (r_fieldAddr (fo := 89) Try.underlying37 rfl rfl (fun w => ⟨_, Try.sizeOf35 w⟩) rfl) ?_
          refine at_guard_yes rfl rfl rfl ?_
          refine av rfl (r_load_cell Try.isAgg35 rfl (lens_cell0 (c := cHd) (y := ⟨g0_.1, List.length x0.f_Allowed, g0_.2⟩) .z (c_api_PeerChange_f_Allowed g0_ x0) rfl)) ?_
          refine at_guard_yes rfl rfl rfl ?_
          refine av rfl (r_len_sl Try.underlying35 rfl) ?_
          refine at_guard_yes rfl rfl rfl ?_
          refine av rfl (r_igtr rfl rfl) ?_
          refine av rfl (r_pick rfl rfl rfl) ?_
          refine nwt [(1, _), (67, _)] ⟨rfl, rfl, trivial⟩ ?_
          rcases of_ite hF with ⟨h143, hF⟩ | ⟨h143, hF⟩
          ·refine at_cond_true rfl h143 ?_
           refine sr ?_
           refine av rfl (r_assign rfl) ?_
           refine at_nil ?_
           refine at_drop (H := _) .z ?_
           refine at_weak [(2, _)] ⟨rfl, trivial⟩ ?_
           refine at_then_normal ?_
           refine rt ?_
           have K := of_some hF
           subst K
           exact at_return1 rfl rfl (fun w1 hw => ⟨rfl, hw.below⟩)
          ·refine at_cond_false rfl h143 ?_
           refine sn ?_
           refine at_seq ?_
           refine sr ?_
           refine av rfl (r_assign rfl) ?_
           refine nwt [(1, _), (5, _)] ⟨rfl, rfl, trivial⟩ ?_
           refine at_block ?_
           obtain ⟨q144, hq144, hF⟩ := of_bindM hF
           refine at_weak [(1, _), (5, _)] ⟨rfl, rfl, trivial⟩ ?_
           refine at_loop_r (B := 0) (r := r) (q := q144) (A := fun (_ : Unit) Y => At 82 [] (Wd w []) Y) ?_ ?_
           ·intro K
            refine crawlwayref32_RightPeer.l10.partial_correctness x0 (motive := fun i145 x => KR (fun (_ : Unit) Y => At 82 [] (Wd w []) Y) _ 0 r x → Round (fun Y => At 82 [(1, .pointer (some ⟨b1, 0, none⟩)), (5, .int .i64 i145)] (Wd w [cellsE b1 (Cd.cs c_api_PeerChange (g0_, x0)) 37]) Y) _ _ _) ?_ _ _ hq144 K
            ·clear K hF
             intro g ih i145 x hF K
             refine at_round ?_
             refine at_seq ?_
             refine sr ?_
             refine av rfl (r_move rfl) ?_
             refine av rfl (r_fieldAddr (fo := 89) Try.underlying37 rfl rfl (fun w => ⟨_, Try.sizeOf35 w⟩) rfl) ?_
             refine av rfl (r_load_cell Try.isAgg35 rfl (lens_cell0 (c := cHd) (y := ⟨g0_.1, List.length x0.f_Allowed, g0_.2⟩) .z (c_api_PeerChange_f_Allowed g0_ x0) rfl)) ?_
             refine av rfl (r_len_sl Try.underlying35 rfl) ?_
             refine av rfl (r_ilss rfl rfl) ?_
             refine nwt [(1, _), (5, _), (72, _)] ⟨rfl, rfl, rfl, trivial⟩ ?_
             rcases of_ite hF with ⟨h146, hF⟩ | ⟨h146, hF⟩
             ·refine at_cond_true rfl h146 ?_
              refine sn ?_
              refine at_seq ?_
              refine at_block ?_
              refine sr ?_
              refine av rfl (r_fieldAddr (fo := 89) Try.underlying37 rfl rfl (fun w => ⟨_, Try.sizeOf35 w⟩) rfl) ?_
              refine av rfl (r_load_cell Try.isAgg35 rfl (lens_cell0 (c := cHd) (y := ⟨g0_.1, List.length x0.f_Allowed, g0_.2⟩) .z (c_api_PeerChange_f_Allowed g0_ x0) rfl)) ?_
              refine av rfl (r_move rfl) ?_
              obtain ⟨h147, hF⟩ := of_guard hF
              obtain ⟨b149, o150, hp148⟩ := row_ptr hn0 h147
              refine av rfl (r_idx Try.underlying35 Try.sizeOf46 rfl rfl h147 hp148) ?_
              refine av rfl (r_load_aggc (c := c_api_Prefix) (z := lget x0.f_Allowed i145) Try.isAgg46 Try.sizeOf46 rfl (row_cell (fun _ h => h.below) hn0 h147 hp148)) ?_
              obtain ⟨t151, ht151, hF⟩ := of_bindM hF
              refine at_callB Try.func57 rfl (by kernel_rfl) rfl rfl (fun w hw => crawlwayref11_Right_ok _ _ ht151 w) ?_
              refine av rfl (r_not rfl) ?_
              refine nwt [(1, _), (5, _), (81, _)] ⟨rfl, rfl, rfl, trivial⟩ ?_
              rcases of_ite hF with ⟨h152, hF⟩ | ⟨h152, hF⟩
              ·refine at_cond_true rfl h152 ?_
               refine sr ?_
               refine av rfl (r_assign rfl) ?_
               refine at_nil ?_
               refine at_drop (H := _) .z ?_
               refine at_weak [(2, _)] ⟨rfl, trivial⟩ ?_
               refine at_then_normal ?_
               refine at_ret ?_
               refine at_blk_ret (at_then_ret (at_then_ret (at_blk_ret (at_then_ret ?_))))
               obtain rfl := of_some hF
               subst K
               exact at_return1 rfl rfl (fun w1 hw => ⟨rfl, hw.below⟩)
              ·refine at_cond_false rfl h152 ?_
               refine at_skip ?_
               refine at_blk_normal (at_then_normal ?_)
               refine at_region ?_
               refine av rfl (r_move rfl) ?_
               refine av rfl (r_iadd rfl rfl) ?_
               refine av rfl (r_assign rfl) ?_
               refine nwt [(1, _), (5, _)] ⟨rfl, rfl, trivial⟩ ?_
               exact at_weak_k (ih _ _ hF K) ⟨rfl, rfl, trivial⟩
             ·refine at_cond_false rfl h146 ?_
              refine at_exit ?_
              refine at_then_exit (at_then_exit ?_)
              refine at_drop (H := _) .z ?_
              obtain rfl := of_some hF
              exact at_weak_k K trivial
           ·cases q144 with
            | ret r' => exact of_some hF
            | nx sq144 =>
             skip
             refine at_blk_same ?_
             refine at_then_normal ?_
             refine sr ?_
             refine av rfl (r_assign rfl) ?_
             refine nwt [(2, _)] ⟨rfl, trivial⟩ ?_
             refine at_ret ?_
             have K := of_some hF
             subst K
             exact at_return1 rfl rfl (fun w1 hw => ⟨rfl, hw.below⟩)
        ·refine at_fix (g := 56) rfl h141 ?_
         refine at_guard_no rfl rfl rfl rfl rfl ?_
         refine at_guard_no rfl rfl rfl rfl rfl ?_
         refine at_guard_no rfl rfl rfl rfl rfl ?_
         refine at_guard_yes rfl rfl rfl ?_
         refine av rfl (r_pick rfl rfl rfl) ?_
         refine av rfl (r_pick rfl rfl rfl) ?_
         refine av rfl (r_move rfl) ?_
         refine at_guard_yes rfl rfl rfl ?_
         refine av rfl (r_fieldAddr (fo := 89) Try.underlying37 rfl rfl (fun w => ⟨_, Try.sizeOf35 w⟩) rfl) ?_
         refine at_guard_yes rfl rfl rfl ?_
         refine av rfl (r_load_cell Try.isAgg35 rfl (lens_cell0 (c := cHd) (y := ⟨g0_.1, List.length x0.f_Allowed, g0_.2⟩) .z (c_api_PeerChange_f_Allowed g0_ x0) rfl)) ?_
         refine at_guard_yes rfl rfl rfl ?_
         refine av rfl (r_len_sl Try.underlying35 rfl) ?_
         refine at_guard_yes rfl rfl rfl ?_
         refine av rfl (r_igtr rfl rfl) ?_
         refine av rfl (r_pick rfl rfl rfl) ?_
         refine nwt [(1, _), (67, _)] ⟨rfl, rfl, trivial⟩ ?_
         rcases of_ite hF with ⟨h153, hF⟩ | ⟨h153, hF⟩
         ·refine at_cond_true rfl h153 ?_
          refine sr ?_
          refine av rfl (r_assign rfl) ?_
          refine at_nil ?_
          refine at_drop (H := _) .z ?_
          refine at_weak [(2, _)] ⟨rfl, trivial⟩ ?_
          refine at_then_normal ?_
          refine rt ?_
          have K := of_some hF
          subst K
          exact at_return1 rfl rfl (fun w1 hw => ⟨rfl, hw.below⟩)
         ·refine at_cond_false rfl h153 ?_
          refine sn ?_
          refine at_seq ?_
          refine sr ?_
          refine av rfl (r_assign rfl) ?_
          refine nwt [(1, _), (5, _)] ⟨rfl, rfl, trivial⟩ ?_
          refine at_block ?_
          obtain ⟨q154, hq154, hF⟩ := of_bindM hF
          refine at_weak [(1, _), (5, _)] ⟨rfl, rfl, trivial⟩ ?_
          refine at_loop_r (B := 0) (r := r) (q := q154) (A := fun (_ : Unit) Y => At 82 [] (Wd w []) Y) ?_ ?_
          ·intro K
           refine crawlwayref32_RightPeer.l11.partial_correctness x0 (motive := fun i155 x => KR (fun (_ : Unit) Y => At 82 [] (Wd w []) Y) _ 0 r x → Round (fun Y => At 82 [(1, .pointer (some ⟨b1, 0, none⟩)), (5, .int .i64 i155)] (Wd w [cellsE b1 (Cd.cs c_api_PeerChange (g0_, x0)) 37]) Y) _ _ _) ?_ _ _ hq154 K
           ·clear K hF
            intro g ih i155 x hF K
            refine at_round ?_
            refine at_seq ?_
            refine sr ?_
            refine av rfl (r_move rfl) ?_
            refine av rfl (r_fieldAddr (fo := 89) Try.underlying37 rfl rfl (fun w => ⟨_, Try.sizeOf35 w⟩) rfl) ?_
            refine av rfl (r_load_cell Try.isAgg35 rfl (lens_cell0 (c := cHd) (y := ⟨g0_.1, List.length x0.f_Allowed, g0_.2⟩) .z (c_api_PeerChange_f_Allowed g0_ x0) rfl)) ?_
            refine av rfl (r_len_sl Try.underlying35 rfl) ?_
            refine av rfl (r_ilss rfl rfl) ?_
            refine nwt [(1, _), (5, _), (72, _)] ⟨rfl, rfl, rfl, trivial⟩ ?_
            rcases of_ite hF with ⟨h156, hF⟩ | ⟨h156, hF⟩
            ·refine at_cond_true rfl h156 ?_
             refine sn ?_
             refine at_seq ?_
             refine at_block ?_
             refine sr ?_
             refine av rfl (r_fieldAddr (fo := 89) Try.underlying37 rfl rfl (fun w => ⟨_, Try.sizeOf35 w⟩) rfl) ?_
             refine av rfl (r_load_cell Try.isAgg35 rfl (lens_cell0 (c := cHd) (y := ⟨g0_.1, List.length x0.f_Allowed, g0_.2⟩) .z (c_api_PeerChange_f_Allowed g0_ x0) rfl)) ?_
             refine av rfl (r_move rfl) ?_
             obtain ⟨h157, hF⟩ := of_guard hF
             obtain ⟨b159, o160, hp158⟩ := row_ptr hn0 h157
             refine av rfl (r_idx Try.underlying35 Try.sizeOf46 rfl rfl h157 hp158) ?_
             refine av rfl (r_load_aggc (c := c_api_Prefix) (z := lget x0.f_Allowed i155) Try.isAgg46 Try.sizeOf46 rfl (row_cell (fun _ h => h.below) hn0 h157 hp158)) ?_
             obtain ⟨t161, ht161, hF⟩ := of_bindM hF
             refine at_callB Try.func57 rfl (by kernel_rfl) rfl rfl (fun w hw => crawlwayref11_Right_ok _ _ ht161 w) ?_
             refine av rfl (r_not rfl) ?_
             refine nwt [(1, _), (5, _), (81, _)] ⟨rfl, rfl, rfl, trivial⟩ ?_
             rcases of_ite hF with ⟨h162, hF⟩ | ⟨h162, hF⟩
             ·refine at_cond_true rfl h162 ?_
              refine sr ?_
              refine av rfl (r_assign rfl) ?_
              refine at_nil ?_
              refine at_drop (H := _) .z ?_
              refine at_weak [(2, _)] ⟨rfl, trivial⟩ ?_
              refine at_then_normal ?_
              refine at_ret ?_
              refine at_blk_ret (at_then_ret (at_then_ret (at_blk_ret (at_then_ret ?_))))
              obtain rfl := of_some hF
              subst K
              exact at_return1 rfl rfl (fun w1 hw => ⟨rfl, hw.below⟩)
             ·refine at_cond_false rfl h162 ?_
              refine at_skip ?_
              refine at_blk_normal (at_then_normal ?_)
              refine at_region ?_
              refine av rfl (r_move rfl) ?_
              refine av rfl (r_iadd rfl rfl) ?_
              refine av rfl (r_assign rfl) ?_
              refine nwt [(1, _), (5, _)] ⟨rfl, rfl, trivial⟩ ?_
              exact at_weak_k (ih _ _ hF K) ⟨rfl, rfl, trivial⟩
            ·refine at_cond_false rfl h156 ?_
             refine at_exit ?_
             refine at_then_exit (at_then_exit ?_)
             refine at_drop (H := _) .z ?_
             obtain rfl := of_some hF
             exact at_weak_k K trivial
          ·cases q154 with
           | ret r' => exact of_some hF
           | nx sq154 =>
            skip
            refine at_blk_same ?_
            refine at_then_normal ?_
            refine sr ?_
            refine av rfl (r_assign rfl) ?_
            refine nwt [(2, _)] ⟨rfl, trivial⟩ ?_
            refine at_ret ?_
            have K := of_some hF
            subst K
            exact at_return1 rfl rfl (fun w1 hw => ⟨rfl, hw.below⟩)
   ·refine at_fix (g := 26) rfl h110 ?_
    refine at_guard_no rfl rfl rfl rfl rfl ?_
    refine at_guard_no rfl rfl rfl rfl rfl ?_
    refine at_guard_no rfl rfl rfl rfl rfl ?_
    refine at_guard_no rfl rfl rfl rfl rfl ?_
    refine at_guard_yes rfl rfl rfl ?_
    refine av rfl (r_pick rfl rfl rfl) ?_
    refine av rfl (r_pick rfl rfl rfl) ?_
    refine av rfl (r_move rfl) ?_
    refine at_guard_yes rfl rfl rfl ?_
    refine av rfl (r_fieldAddr (fo := 67) Try.underlying37 rfl rfl (fun w => ⟨_, Try.sizeOf4 w⟩) rfl) ?_
    refine at_guard_yes rfl rfl rfl ?_
    refine av rfl (r_load_cell Try.isAgg4 rfl (lens_cell0 (c := cBool) (y := x0.f_HasEnd) (.s (.s .z)) (c_api_PeerChange_f_HasEnd g0_ x0) rfl)) ?_
    refine at_guard_yes rfl rfl rfl ?_
    refine av rfl (r_not rfl) ?_
    refine at_guard_yes rfl rfl rfl ?_
    refine av rfl (r_move rfl) ?_
    rcases of_ite hF with ⟨h163, hF⟩ | ⟨h163, hF⟩
    ·refine at_fix (g := 37) rfl h163 ?_
     refine at_guard_yes rfl rfl rfl ?_
     refine av rfl (r_fieldAddr (fo := 68) Try.underlying37 rfl rfl (fun w => ⟨_, Try.sizeOf34 w⟩) rfl) ?_
     refine at_guard_yes rfl rfl rfl ?_
     refine av rfl (r_load_aggc (c := c_api_Endpoint) (z := x0.f_End) Try.isAgg34 Try.sizeOf34 rfl (lens_cell (.s (.s .z)) (c_api_PeerChange_f_End g0_ x0))) ?_
     refine at_guard_yes rfl rfl rfl ?_
     refine av rfl (r_load_aggc (c := c_api_Endpoint) (z := zqG3_0) Try.isAgg34 Try.sizeOf34 rfl (lens_cell .z (Lens.whole _ _))) ?_
     refine at_guard_yes rfl rfl rfl ?_
     refine av rfl (r_eqagg (c := c_api_Endpoint) (a := x0.f_End) (b := zqG3_0) (eq_api_Endpoint_34) rfl Try.eqGuardType34 rfl rfl (.inr rfl) rfl) ?_
     refine at_guard_yes rfl rfl rfl ?_
     refine av rfl (r_pick rfl rfl rfl) ?_
     refine av rfl (r_pick rfl rfl rfl) ?_
     refine at_nil ?_
     refine at_drop (H := _) .z ?_
     refine at_drop (H := _) .z ?_
     refine at_weak [(1, _), (43, _)] ⟨rfl, rfl, trivial⟩ ?_
     refine at_then_normal ?_
     rcases of_ite hF with ⟨h164, hF⟩ | ⟨h164, hF⟩
     ·refine at_cond_true rfl h164 ?_
      refine sr ?_
      refine av rfl (r_assign rfl) ?_
      refine at_nil ?_
      refine at_drop (H := _) .z ?_
      refine at_weak [(2, _)] ⟨rfl, trivial⟩ ?_
      refine at_then_normal ?_
      refine rt ?_
      have K := of_some hF
      subst K
      exact at_return1 rfl rfl (fun w1 hw => ⟨rfl, hw.below⟩)
     ·refine at_cond_false rfl h164 ?_
      refine sn ?_
      refine at_seq ?_
      refine sr ?_
      refine av rfl (r_fieldAddr (fo := 87) Try.underlying37 rfl rfl (fun w => ⟨_, Try.sizeOf3 w⟩) rfl) ?_
      refine av rfl (r_load_cell Try.isAgg3 rfl (lens_cell0 (c := (cInt .i64)) (y := x0.f_Keep) .z (c_api_PeerChange_f_Keep g0_ x0) rfl)) ?_
      refine av rfl (r_ilss rfl rfl) ?_
      refine av rfl (r_move rfl) ?_
      rcases of_ite hF with ⟨h165, hF⟩ | ⟨h165, hF⟩
      ·refine at_fix (g := 47) rfl h165 ?_
       refine at_guard_no rfl rfl rfl rfl rfl ?_
       refine at_guard_no rfl rfl rfl rfl rfl ?_
       refine at_guard_no rfl rfl rfl rfl rfl ?_
       refine av rfl (r_pick rfl rfl rfl) ?_
       refine av rfl (r_move rfl) ?_
       refine at_guard_no rfl rfl rfl rfl rfl ?_
       refine at_guard_no rfl rfl rfl rfl rfl ?_
       refine at_guard_no rfl rfl rfl rfl rfl ?_
       refine at_guard_no rfl rfl rfl rfl rfl ?_
       refine at_guard_undef rfl rfl rfl rfl ?_
       refine at_guard_undef rfl rfl rfl rfl ?_
       refine at_guard_undef rfl rfl rfl rfl ?_
       refine at_guard_no rfl rfl rfl rfl rfl ?_
       refine av rfl (r_pick rfl rfl rfl) ?_
       refine av rfl (r_move rfl) ?_
       refine at_guard_no rfl rfl rfl rfl rfl ?_
       refine at_guard_no rfl rfl rfl rfl rfl ?_
       refine at_guard_no rfl rfl rfl rfl rfl ?_
       refine at_guard_no rfl rfl rfl rfl rfl ?_
       refine av rfl (r_pick rfl rfl rfl) ?_
       refine nwt [(1, _), (67, _)] ⟨rfl, rfl, trivial⟩ ?_
       refine at_cond_true rfl rfl ?_
       refine sr ?_
       refine av rfl (r_assign rfl) ?_
       refine at_nil ?_
       refine at_drop (H := _) .z ?_
       refine at_weak [(2, _)] ⟨rfl, trivial⟩ ?_
       refine at_then_normal ?_
       refine rt ?_
       have K := of_some hF
       subst K
       exact at_return1 rfl rfl (fun w1 hw => ⟨rfl, hw.below⟩)
      ·refine at_fix (g := 47) rfl h165 ?_
       refine at_guard_yes rfl rfl rfl ?_
       refine av rfl (r_fieldAddr (fo := 87) Try.underlying37 rfl rfl (fun w => ⟨_, Try.sizeOf3 w⟩) rfl) ?_
       refine at_guard_yes rfl rfl rfl ?_
       refine av rfl (r_load_cell Try.isAgg3 rfl (lens_cell0 (c := (cInt .i64)) (y := x0.f_Keep) .z (c_api_PeerChange_f_Keep g0_ x0) rfl)) ?_
       refine at_guard_yes rfl rfl rfl ?_
       refine av rfl (r_igtr rfl rfl) ?_
       refine av rfl (r_pick rfl rfl rfl) ?_
       refine av rfl (r_move rfl) ?_
       rcases of_ite hF with ⟨h166, hF⟩ | ⟨h166, hF⟩
       ·refine at_fix (g := 52) rfl h166 ?_
        refine at_guard_no rfl rfl rfl rfl rfl ?_
        refine at_guard_no rfl rfl rfl rfl rfl ?_
        refine at_guard_no rfl rfl rfl rfl rfl ?_
        refine at_guard_no rfl rfl rfl rfl rfl ?_
        refine at_guard_undef rfl rfl rfl rfl ?_
        refine at_guard_undef rfl rfl rfl rfl ?_
        refine at_guard_undef rfl rfl rfl rfl ?_
        refine at_guard_no rfl rfl rfl rfl rfl ?_
        refine av rfl (r_pick rfl rfl rfl) ?_
        refine av rfl (r_move rfl) ?_
        refine at_guard_no rfl rfl rfl rfl rfl ?_
        refine at_guard_no rfl rfl rfl rfl rfl ?_
        refine at_guard_no rfl rfl rfl rfl rfl ?_
        refine at_guard_no rfl rfl rfl rfl rfl ?_
        refine av rfl (r_pick rfl rfl rfl) ?_
        refine nwt [(1, _), (67, _)] ⟨rfl, rfl, trivial⟩ ?_
        refine at_cond_true rfl rfl ?_
        refine sr ?_
        refine av rfl (r_assign rfl) ?_
        refine at_nil ?_
        refine at_drop (H := _) .z ?_
        refine at_weak [(2, _)] ⟨rfl, trivial⟩ ?_
        refine at_then_normal ?_
        refine rt ?_
        have K := of_some hF
        subst K
        exact at_return1 rfl rfl (fun w1 hw => ⟨rfl, hw.below⟩)
       ·refine at_fix (g := 52) rfl h166 ?_
        refine at_guard_yes rfl rfl rfl ?_
        refine av rfl (r_fieldAddr (fo := 86) Try.underlying37 rfl rfl (fun w => ⟨_, Try.sizeOf4 w⟩) rfl) ?_
        refine at_guard_yes rfl rfl rfl ?_
        refine av rfl (r_load_cell Try.isAgg4 rfl (lens_cell0 (c := cBool) (y := x0.f_HasKeep) .z (c_api_PeerChange_f_HasKeep g0_ x0) rfl)) ?_
        refine at_guard_yes rfl rfl rfl ?_
        refine av rfl (r_not rfl) ?_
        refine at_guard_yes rfl rfl rfl ?_
        refine av rfl (r_move rfl) ?_
        rcases of_ite hF with ⟨h167, hF⟩ | ⟨h167, hF⟩
        ·refine at_fix (g := 56) rfl h167 ?_
         refine at_guard_yes rfl rfl rfl ?_
         refine av rfl (r_fieldAddr (fo := 87) Try.underlying37 rfl rfl (fun w => ⟨_, Try.sizeOf3 w⟩) rfl) ?_
         refine at_guard_yes rfl rfl rfl ?_
         refine av rfl (r_load_cell Try.isAgg3 rfl (lens_cell0 (c := (cInt .i64)) (y := x0.f_Keep) .z (c_api_PeerChange_f_Keep g0_ x0) rfl)) ?_
         refine at_guard_yes rfl rfl rfl ?_
         refine av rfl (r_ineq rfl rfl) ?_
         refine at_guard_yes rfl rfl rfl ?_
         refine av rfl (r_pick rfl rfl rfl) ?_
         refine av rfl (r_pick rfl rfl rfl) ?_
         refine av rfl (r_move rfl) ?_
         rcases of_ite hF with ⟨h168, hF⟩ | ⟨h168, hF⟩
         ·refine at_fix (g := 62) rfl h168 ?_
          refine at_guard_no rfl rfl rfl rfl rfl ?_
          refine at_guard_no rfl rfl rfl rfl rfl ?_
          refine at_guard_no rfl rfl rfl rfl rfl ?_
          refine at_guard_no rfl rfl rfl rfl rfl ?_
          refine av rfl (r_pick rfl rfl rfl) ?_
          refine nwt [(1, _), (67, _)] ⟨rfl, rfl, trivial⟩ ?_
          refine at_cond_true rfl rfl ?_
          refine sr ?_
          refine av rfl (r_assign rfl) ?_
          refine at_nil ?_
          refine at_drop (H := _) .z ?_
          refine at_weak [(2, _)] ⟨rfl, trivial⟩ ?_
          refine at_then_normal ?_
          refine rt ?_
          have K := of_some hF
          subst K
          exact at_return1 rfl rfl (fun w1 hw => ⟨rfl, hw.below⟩)
         ·refine at_fix (g := 62) rfl h168 ?_
          refine at_guard_yes rfl rfl rfl ?_
          refine av rfl (r_fieldAddr (fo := 89) Try.underlying37 rfl rfl (fun w => ⟨_, Try.sizeOf35 w⟩) rfl) ?_
          refine at_guard_yes rfl rfl rfl ?_
          refine av rfl (r_load_cell Try.isAgg35 rfl (lens_cell0 (c := cHd) (y := ⟨g0_.1, List.length x0.f_Allowed, g0_.2⟩) .z (c_api_PeerChange_f_Allowed g0_ x0) rfl)) ?_
          refine at_guard_yes rfl rfl rfl ?_
          refine av rfl (r_len_sl Try.underlying35 rfl) ?_
          refine at_guard_yes rfl rfl rfl ?_
          refine av rfl (r_igtr rfl rfl) ?_
          refine av rfl (r_pick rfl rfl rfl) ?_
          refine nwt [(1, _), (67, _)] ⟨rfl, rfl, trivial⟩ ?_
          rcases of_ite hF with ⟨h169, hF⟩ | ⟨h169, hF⟩
          ·refine at_cond_true rfl h169 ?_
           refine sr ?_
           refine av rfl (r_assign rfl) ?_
           refine at_nil ?_
           refine at_drop (H := _) .z ?_
           refine at_weak [(2, _)] ⟨rfl, trivial⟩ ?_
           refine at_then_normal ?_
           refine rt ?_
           have K := of_some hF
           subst K
           exact at_return1 rfl rfl (fun w1 hw => ⟨rfl, hw.below⟩)
          ·refine at_cond_false rfl h169 ?_
           refine sn ?_
           refine at_seq ?_
           refine sr ?_
           refine av rfl (r_assign rfl) ?_
           refine nwt [(1, _), (5, _)] ⟨rfl, rfl, trivial⟩ ?_
           refine at_block ?_
           obtain ⟨q170, hq170, hF⟩ := of_bindM hF
           refine at_weak [(1, _), (5, _)] ⟨rfl, rfl, trivial⟩ ?_
           refine at_loop_r (B := 0) (r := r) (q := q170) (A := fun (_ : Unit) Y => At 82 [] (Wd w []) Y) ?_ ?_
           ·intro K
            refine crawlwayref32_RightPeer.l12.partial_correctness x0 (motive := fun i171 x => KR (fun (_ : Unit) Y => At 82 [] (Wd w []) Y) _ 0 r x → Round (fun Y => At 82 [(1, .pointer (some ⟨b1, 0, none⟩)), (5, .int .i64 i171)] (Wd w [cellsE b1 (Cd.cs c_api_PeerChange (g0_, x0)) 37]) Y) _ _ _) ?_ _ _ hq170 K
            ·clear K hF
             intro g ih i171 x hF K
             refine at_round ?_
             refine at_seq ?_
             refine sr ?_
             refine av rfl (r_move rfl) ?_
             refine av rfl (r_fieldAddr (fo := 89) Try.underlying37 rfl rfl (fun w => ⟨_, Try.sizeOf35 w⟩) rfl) ?_
             refine av rfl (r_load_cell Try.isAgg35 rfl (lens_cell0 (c := cHd) (y := ⟨g0_.1, List.length x0.f_Allowed, g0_.2⟩) .z (c_api_PeerChange_f_Allowed g0_ x0) rfl)) ?_
             refine av rfl (r_len_sl Try.underlying35 rfl) ?_
             refine av rfl (r_ilss rfl rfl) ?_
             refine nwt [(1, _), (5, _), (72, _)] ⟨rfl, rfl, rfl, trivial⟩ ?_
             rcases of_ite hF with ⟨h172, hF⟩ | ⟨h172, hF⟩
             ·refine at_cond_true rfl h172 ?_
              refine sn ?_
              refine at_seq ?_
              refine at_block ?_
              refine sr ?_
              refine av rfl (r_fieldAddr (fo := 89) Try.underlying37 rfl rfl (fun w => ⟨_, Try.sizeOf35 w⟩) rfl) ?_
              refine av rfl (r_load_cell Try.isAgg35 rfl (lens_cell0 (c := cHd) (y := ⟨g0_.1, List.length x0.f_Allowed, g0_.2⟩) .z (c_api_PeerChange_f_Allowed g0_ x0) rfl)) ?_
              refine av rfl (r_move rfl) ?_
              obtain ⟨h173, hF⟩ := of_guard hF
              obtain ⟨b175, o176, hp174⟩ := row_ptr hn0 h173
              refine av rfl (r_idx Try.underlying35 Try.sizeOf46 rfl rfl h173 hp174) ?_
              refine av rfl (r_load_aggc (c := c_api_Prefix) (z := lget x0.f_Allowed i171) Try.isAgg46 Try.sizeOf46 rfl (row_cell (fun _ h => h.below) hn0 h173 hp174)) ?_
              obtain ⟨t177, ht177, hF⟩ := of_bindM hF
              refine at_callB Try.func57 rfl (by kernel_rfl) rfl rfl (fun w hw => crawlwayref11_Right_ok _ _ ht177 w) ?_
              refine av rfl (r_not rfl) ?_
              refine nwt [(1, _), (5, _), (81, _)] ⟨rfl, rfl, rfl, trivial⟩ ?_
              rcases of_ite hF with ⟨h178, hF⟩ | ⟨h178, hF⟩
              ·refine at_cond_true rfl h178 ?_
               refine sr ?_
               refine av rfl (r_assign rfl) ?_
               refine at_nil ?_
               refine at_drop (H := _) .z ?_
               refine at_weak [(2, _)] ⟨rfl, trivial⟩ ?_
               refine at_then_normal ?_
               refine at_ret ?_
               refine at_blk_ret (at_then_ret (at_then_ret (at_blk_ret (at_then_ret ?_))))
               obtain rfl := of_some hF
               subst K
               exact at_return1 rfl rfl (fun w1 hw => ⟨rfl, hw.below⟩)
              ·refine at_cond_false rfl h178 ?_
               refine at_skip ?_
               refine at_blk_normal (at_then_normal ?_)
               refine at_region ?_
               refine av rfl (r_move rfl) ?_
               refine av rfl (r_iadd rfl rfl) ?_
               refine av rfl (r_assign rfl) ?_
               refine nwt [(1, _), (5, _)] ⟨rfl, rfl, trivial⟩ ?_
               exact at_weak_k (ih _ _ hF K) ⟨rfl, rfl, trivial⟩
             ·refine at_cond_false rfl h172 ?_
              refine at_exit ?_
              refine at_then_exit (at_then_exit ?_)
              refine at_drop (H := _) .z ?_
              obtain rfl := of_some hF
              exact at_weak_k K trivial
           ·cases q170 with
            | ret r' => exact of_some hF
            | nx sq170 =>
             skip
             refine at_blk_same ?_
             refine at_then_normal ?_
             refine sr ?_
             refine av rfl (r_assign rfl) ?_
             refine nwt [(2, _)] ⟨rfl, trivial⟩ ?_
             refine at_ret ?_
             have K := of_some hF
             subst K
             exact at_return1 rfl rfl (fun w1 hw => ⟨rfl, hw.below⟩)
        ·refine at_fix (g := 56) rfl h167 ?_
         refine at_guard_no rfl rfl rfl rfl rfl ?_
         refine at_guard_no rfl rfl rfl rfl rfl ?_
         refine at_guard_no rfl rfl rfl rfl rfl ?_
         refine at_guard_yes rfl rfl rfl ?_
         refine av rfl (r_pick rfl rfl rfl) ?_
         refine av rfl (r_pick rfl rfl rfl) ?_
         refine av rfl (r_move rfl) ?_
         refine at_guard_yes rfl rfl rfl ?_
         refine av rfl (r_fieldAddr (fo := 89) Try.underlying37 rfl rfl (fun w => ⟨_, Try.sizeOf35 w⟩) rfl) ?_
         refine at_guard_yes rfl rfl rfl ?_
         refine av rfl (r_load_cell Try.isAgg35 rfl (lens_cell0 (c := cHd) (y := ⟨g0_.1, List.length x0.f_Allowed, g0_.2⟩) .z (c_api_PeerChange_f_Allowed g0_ x0) rfl)) ?_
         refine at_guard_yes rfl rfl rfl ?_
         refine av rfl (r_len_sl Try.underlying35 rfl) ?_
         refine at_guard_yes rfl rfl rfl ?_
         refine av rfl (r_igtr rfl rfl) ?_
         refine av rfl (r_pick rfl rfl rfl) ?_
         refine nwt [(1, _), (67, _)] ⟨rfl, rfl, trivial⟩ ?_
         rcases of_ite hF with ⟨h179, hF⟩ | ⟨h179, hF⟩
         ·refine at_cond_true rfl h179 ?_
          refine sr ?_
          refine av rfl (r_assign rfl) ?_
          refine at_nil ?_
          refine at_drop (H := _) .z ?_
          refine at_weak [(2, _)] ⟨rfl, trivial⟩ ?_
          refine at_then_normal ?_
          refine rt ?_
          have K := of_some hF
          subst K
          exact at_return1 rfl rfl (fun w1 hw => ⟨rfl, hw.below⟩)
         ·refine at_cond_false rfl h179 ?_
          refine sn ?_
          refine at_seq ?_
          refine sr ?_
          refine av rfl (r_assign rfl) ?_
          refine nwt [(1, _), (5, _)] ⟨rfl, rfl, trivial⟩ ?_
          refine at_block ?_
          obtain ⟨q180, hq180, hF⟩ := of_bindM hF
          refine at_weak [(1, _), (5, _)] ⟨rfl, rfl, trivial⟩ ?_
          refine at_loop_r (B := 0) (r := r) (q := q180) (A := fun (_ : Unit) Y => At 82 [] (Wd w []) Y) ?_ ?_
          ·intro K
           refine crawlwayref32_RightPeer.l13.partial_correctness x0 (motive := fun i181 x => KR (fun (_ : Unit) Y => At 82 [] (Wd w []) Y) _ 0 r x → Round (fun Y => At 82 [(1, .pointer (some ⟨b1, 0, none⟩)), (5, .int .i64 i181)] (Wd w [cellsE b1 (Cd.cs c_api_PeerChange (g0_, x0)) 37]) Y) _ _ _) ?_ _ _ hq180 K
           ·clear K hF
            intro g ih i181 x hF K
            refine at_round ?_
            refine at_seq ?_
            refine sr ?_
            refine av rfl (r_move rfl) ?_
            refine av rfl (r_fieldAddr (fo := 89) Try.underlying37 rfl rfl (fun w => ⟨_, Try.sizeOf35 w⟩) rfl) ?_
            refine av rfl (r_load_cell Try.isAgg35 rfl (lens_cell0 (c := cHd) (y := ⟨g0_.1, List.length x0.f_Allowed, g0_.2⟩) .z (c_api_PeerChange_f_Allowed g0_ x0) rfl)) ?_
            refine av rfl (r_len_sl Try.underlying35 rfl) ?_
            refine av rfl (r_ilss rfl rfl) ?_
            refine nwt [(1, _), (5, _), (72, _)] ⟨rfl, rfl, rfl, trivial⟩ ?_
            rcases of_ite hF with ⟨h182, hF⟩ | ⟨h182, hF⟩
            ·refine at_cond_true rfl h182 ?_
             refine sn ?_
             refine at_seq ?_
             refine at_block ?_
             refine sr ?_
             refine av rfl (r_fieldAddr (fo := 89) Try.underlying37 rfl rfl (fun w => ⟨_, Try.sizeOf35 w⟩) rfl) ?_
             refine av rfl (r_load_cell Try.isAgg35 rfl (lens_cell0 (c := cHd) (y := ⟨g0_.1, List.length x0.f_Allowed, g0_.2⟩) .z (c_api_PeerChange_f_Allowed g0_ x0) rfl)) ?_
             refine av rfl (r_move rfl) ?_
             obtain ⟨h183, hF⟩ := of_guard hF
             obtain ⟨b185, o186, hp184⟩ := row_ptr hn0 h183
             refine av rfl (r_idx Try.underlying35 Try.sizeOf46 rfl rfl h183 hp184) ?_
             refine av rfl (r_load_aggc (c := c_api_Prefix) (z := lget x0.f_Allowed i181) Try.isAgg46 Try.sizeOf46 rfl (row_cell (fun _ h => h.below) hn0 h183 hp184)) ?_
             obtain ⟨t187, ht187, hF⟩ := of_bindM hF
             refine at_callB Try.func57 rfl (by kernel_rfl) rfl rfl (fun w hw => crawlwayref11_Right_ok _ _ ht187 w) ?_
             refine av rfl (r_not rfl) ?_
             refine nwt [(1, _), (5, _), (81, _)] ⟨rfl, rfl, rfl, trivial⟩ ?_
             rcases of_ite hF with ⟨h188, hF⟩ | ⟨h188, hF⟩
             ·refine at_cond_true rfl h188 ?_
              refine sr ?_
              refine av rfl (r_assign rfl) ?_
              refine at_nil ?_
              refine at_drop (H := _) .z ?_
              refine at_weak [(2, _)] ⟨rfl, trivial⟩ ?_
              refine at_then_normal ?_
              refine at_ret ?_
              refine at_blk_ret (at_then_ret (at_then_ret (at_blk_ret (at_then_ret ?_))))
              obtain rfl := of_some hF
              subst K
              exact at_return1 rfl rfl (fun w1 hw => ⟨rfl, hw.below⟩)
             ·refine at_cond_false rfl h188 ?_
              refine at_skip ?_
              refine at_blk_normal (at_then_normal ?_)
              refine at_region ?_
              refine av rfl (r_move rfl) ?_
              refine av rfl (r_iadd rfl rfl) ?_
              refine av rfl (r_assign rfl) ?_
              refine nwt [(1, _), (5, _)] ⟨rfl, rfl, trivial⟩ ?_
              exact at_weak_k (ih _ _ hF K) ⟨rfl, rfl, trivial⟩
            ·refine at_cond_false rfl h182 ?_
             refine at_exit ?_
             refine at_then_exit (at_then_exit ?_)
             refine at_drop (H := _) .z ?_
             obtain rfl := of_some hF
             exact at_weak_k K trivial
          ·cases q180 with
           | ret r' => exact of_some hF
           | nx sq180 =>
            skip
            refine at_blk_same ?_
            refine at_then_normal ?_
            refine sr ?_
            refine av rfl (r_assign rfl) ?_
            refine nwt [(2, _)] ⟨rfl, trivial⟩ ?_
            refine at_ret ?_
            have K := of_some hF
            subst K
            exact at_return1 rfl rfl (fun w1 hw => ⟨rfl, hw.below⟩)
    ·refine at_fix (g := 37) rfl h163 ?_
     refine at_guard_no rfl rfl rfl rfl rfl ?_
     refine at_guard_no rfl rfl rfl rfl rfl ?_
     refine at_guard_no rfl rfl rfl rfl rfl ?_
     refine at_guard_no rfl rfl rfl rfl rfl ?_
     refine at_guard_yes rfl rfl rfl ?_
     refine av rfl (r_pick rfl rfl rfl) ?_
     refine av rfl (r_pick rfl rfl rfl) ?_
     refine at_nil ?_
     refine at_drop (H := _) .z ?_
     refine at_drop (H := _) .z ?_
     refine at_weak [(1, _), (43, _)] ⟨rfl, rfl, trivial⟩ ?_
     refine at_then_normal ?_
     refine at_cond_false rfl rfl ?_
     refine sn ?_
     refine at_seq ?_
     refine sr ?_
     refine av rfl (r_fieldAddr (fo := 87) Try.underlying37 rfl rfl (fun w => ⟨_, Try.sizeOf3 w⟩) rfl) ?_
     refine av rfl (r_load_cell Try.isAgg3 rfl (lens_cell0 (c := (cInt .i64)) (y := x0.f_Keep) .z (c_api_PeerChange_f_Keep g0_ x0) rfl)) ?_
     refine av rfl (r_ilss rfl rfl) ?_
     refine av rfl (r_move rfl) ?_
     rcases of_ite hF with ⟨h189, hF⟩ | ⟨h189, hF⟩
     ·refine at_fix (g := 47) rfl h189 ?_
      refine at_guard_no rfl rfl rfl rfl rfl ?_
      refine at_guard_no rfl rfl rfl rfl rfl ?_
      refine at_guard_no rfl rfl rfl rfl rfl ?_
      refine av rfl (r_pick rfl rfl rfl) ?_
      refine av rfl (r_move rfl) ?_
      refine at_guard_no rfl rfl rfl rfl rfl ?_
      refine at_guard_no rfl rfl rfl rfl rfl ?_
      refine at_guard_no rfl rfl rfl rfl rfl ?_
      refine at_guard_no rfl rfl rfl rfl rfl ?_
      refine at_guard_undef rfl rfl rfl rfl ?_
      refine at_guard_undef rfl rfl rfl rfl ?_
      refine at_guard_undef rfl rfl rfl rfl ?_
      refine at_guard_no rfl rfl rfl rfl rfl ?_
      refine av rfl (r_pick rfl rfl rfl) ?_
      refine av rfl (r_move rfl) ?_
      refine at_guard_no rfl rfl rfl rfl rfl ?_
      refine at_guard_no rfl rfl rfl rfl rfl ?_
      refine at_guard_no rfl rfl rfl rfl rfl ?_
      refine at_guard_no rfl rfl rfl rfl rfl ?_
      refine av rfl (r_pick rfl rfl rfl) ?_
      refine nwt [(1, _), (67, _)] ⟨rfl, rfl, trivial⟩ ?_
      refine at_cond_true rfl rfl ?_
      refine sr ?_
      refine av rfl (r_assign rfl) ?_
      refine at_nil ?_
      refine at_drop (H := _) .z ?_
      refine at_weak [(2, _)] ⟨rfl, trivial⟩ ?_
      refine at_then_normal ?_
      refine rt ?_
      have K := of_some hF
      subst K
      exact at_return1 rfl rfl (fun w1 hw => ⟨rfl, hw.below⟩)
     ·refine at_fix (g := 47) rfl h189 ?_
      refine at_guard_yes rfl rfl rfl ?_
      refine av rfl (r_fieldAddr (fo := 87) Try.underlying37 rfl rfl (fun w => ⟨_, Try.sizeOf3 w⟩) rfl) ?_
      refine at_guard_yes rfl rfl rfl ?_
      refine av rfl (r_load_cell Try.isAgg3 rfl (lens_cell0 (c := (cInt .i64)) (y := x0.f_Keep) .z (c_api_PeerChange_f_Keep g0_ x0) rfl)) ?_
      refine at_guard_yes rfl rfl rfl ?_
      refine av rfl (r_igtr rfl rfl) ?_
      refine av rfl (r_pick rfl rfl rfl) ?_
      refine av rfl (r_move rfl) ?_
      rcases of_ite hF with ⟨h190, hF⟩ | ⟨h190, hF⟩
      ·refine at_fix (g := 52) rfl h190 ?_
       refine at_guard_no rfl rfl rfl rfl rfl ?_
       refine at_guard_no rfl rfl rfl rfl rfl ?_
       refine at_guard_no rfl rfl rfl rfl rfl ?_
       refine at_guard_no rfl rfl rfl rfl rfl ?_
       refine at_guard_undef rfl rfl rfl rfl ?_
       refine at_guard_undef rfl rfl rfl rfl ?_
       refine at_guard_undef rfl rfl rfl rfl ?_
       refine at_guard_no rfl rfl rfl rfl rfl ?_
       refine av rfl (r_pick rfl rfl rfl) ?_
       refine av rfl (r_move rfl) ?_
       refine at_guard_no rfl rfl rfl rfl rfl ?_
       refine at_guard_no rfl rfl rfl rfl rfl ?_
       refine at_guard_no rfl rfl rfl rfl rfl ?_
       refine at_guard_no rfl rfl rfl rfl rfl ?_
       refine av rfl (r_pick rfl rfl rfl) ?_
       refine nwt [(1, _), (67, _)] ⟨rfl, rfl, trivial⟩ ?_
       refine at_cond_true rfl rfl ?_
       refine sr ?_
       refine av rfl (r_assign rfl) ?_
       refine at_nil ?_
       refine at_drop (H := _) .z ?_
       refine at_weak [(2, _)] ⟨rfl, trivial⟩ ?_
       refine at_then_normal ?_
       refine rt ?_
       have K := of_some hF
       subst K
       exact at_return1 rfl rfl (fun w1 hw => ⟨rfl, hw.below⟩)
      ·refine at_fix (g := 52) rfl h190 ?_
       refine at_guard_yes rfl rfl rfl ?_
       refine av rfl (r_fieldAddr (fo := 86) Try.underlying37 rfl rfl (fun w => ⟨_, Try.sizeOf4 w⟩) rfl) ?_
       refine at_guard_yes rfl rfl rfl ?_
       refine av rfl (r_load_cell Try.isAgg4 rfl (lens_cell0 (c := cBool) (y := x0.f_HasKeep) .z (c_api_PeerChange_f_HasKeep g0_ x0) rfl)) ?_
       refine at_guard_yes rfl rfl rfl ?_
       refine av rfl (r_not rfl) ?_
       refine at_guard_yes rfl rfl rfl ?_
       refine av rfl (r_move rfl) ?_
       rcases of_ite hF with ⟨h191, hF⟩ | ⟨h191, hF⟩
       ·refine at_fix (g := 56) rfl h191 ?_
        refine at_guard_yes rfl rfl rfl ?_
        refine av rfl (r_fieldAddr (fo := 87) Try.underlying37 rfl rfl (fun w => ⟨_, Try.sizeOf3 w⟩) rfl) ?_
        refine at_guard_yes rfl rfl rfl ?_
        refine av rfl (r_load_cell Try.isAgg3 rfl (lens_cell0 (c := (cInt .i64)) (y := x0.f_Keep) .z (c_api_PeerChange_f_Keep g0_ x0) rfl)) ?_
        refine at_guard_yes rfl rfl rfl ?_
        refine av rfl (r_ineq rfl rfl) ?_
        refine at_guard_yes rfl rfl rfl ?_
        refine av rfl (r_pick rfl rfl rfl) ?_
        refine av rfl (r_pick rfl rfl rfl) ?_
        refine av rfl (r_move rfl) ?_
        rcases of_ite hF with ⟨h192, hF⟩ | ⟨h192, hF⟩
        ·refine at_fix (g := 62) rfl h192 ?_
         refine at_guard_no rfl rfl rfl rfl rfl ?_
         refine at_guard_no rfl rfl rfl rfl rfl ?_
         refine at_guard_no rfl rfl rfl rfl rfl ?_
         refine at_guard_no rfl rfl rfl rfl rfl ?_
         refine av rfl (r_pick rfl rfl rfl) ?_
         refine nwt [(1, _), (67, _)] ⟨rfl, rfl, trivial⟩ ?_
         refine at_cond_true rfl rfl ?_
         refine sr ?_
         refine av rfl (r_assign rfl) ?_
         refine at_nil ?_
         refine at_drop (H := _) .z ?_
         refine at_weak [(2, _)] ⟨rfl, trivial⟩ ?_
         refine at_then_normal ?_
         refine rt ?_
         have K := of_some hF
         subst K
         exact at_return1 rfl rfl (fun w1 hw => ⟨rfl, hw.below⟩)
        ·refine at_fix (g := 62) rfl h192 ?_
         refine at_guard_yes rfl rfl rfl ?_
         refine av rfl (r_fieldAddr (fo := 89) Try.underlying37 rfl rfl (fun w => ⟨_, Try.sizeOf35 w⟩) rfl) ?_
         refine at_guard_yes rfl rfl rfl ?_
         refine av rfl (r_load_cell Try.isAgg35 rfl (lens_cell0 (c := cHd) (y := ⟨g0_.1, List.length x0.f_Allowed, g0_.2⟩) .z (c_api_PeerChange_f_Allowed g0_ x0) rfl)) ?_
         refine at_guard_yes rfl rfl rfl ?_
         refine av rfl (r_len_sl Try.underlying35 rfl) ?_
         refine at_guard_yes rfl rfl rfl ?_
         refine av rfl (r_igtr rfl rfl) ?_
         refine av rfl (r_pick rfl rfl rfl) ?_
         refine nwt [(1, _), (67, _)] ⟨rfl, rfl, trivial⟩ ?_
         rcases of_ite hF with ⟨h193, hF⟩ | ⟨h193, hF⟩
         ·refine at_cond_true rfl h193 ?_
          refine sr ?_
          refine av rfl (r_assign rfl) ?_
          refine at_nil ?_
          refine at_drop (H := _) .z ?_
          refine at_weak [(2, _)] ⟨rfl, trivial⟩ ?_
          refine at_then_normal ?_
          refine rt ?_
          have K := of_some hF
          subst K
          exact at_return1 rfl rfl (fun w1 hw => ⟨rfl, hw.below⟩)
         ·refine at_cond_false rfl h193 ?_
          refine sn ?_
          refine at_seq ?_
          refine sr ?_
          refine av rfl (r_assign rfl) ?_
          refine nwt [(1, _), (5, _)] ⟨rfl, rfl, trivial⟩ ?_
          refine at_block ?_
          obtain ⟨q194, hq194, hF⟩ := of_bindM hF
          refine at_weak [(1, _), (5, _)] ⟨rfl, rfl, trivial⟩ ?_
          refine at_loop_r (B := 0) (r := r) (q := q194) (A := fun (_ : Unit) Y => At 82 [] (Wd w []) Y) ?_ ?_
          ·intro K
           refine crawlwayref32_RightPeer.l14.partial_correctness x0 (motive := fun i195 x => KR (fun (_ : Unit) Y => At 82 [] (Wd w []) Y) _ 0 r x → Round (fun Y => At 82 [(1, .pointer (some ⟨b1, 0, none⟩)), (5, .int .i64 i195)] (Wd w [cellsE b1 (Cd.cs c_api_PeerChange (g0_, x0)) 37]) Y) _ _ _) ?_ _ _ hq194 K
           ·clear K hF
            intro g ih i195 x hF K
            refine at_round ?_
            refine at_seq ?_
            refine sr ?_
            refine av rfl (r_move rfl) ?_
            refine av rfl (r_fieldAddr (fo := 89) Try.underlying37 rfl rfl (fun w => ⟨_, Try.sizeOf35 w⟩) rfl) ?_
            refine av rfl (r_load_cell Try.isAgg35 rfl (lens_cell0 (c := cHd) (y := ⟨g0_.1, List.length x0.f_Allowed, g0_.2⟩) .z (c_api_PeerChange_f_Allowed g0_ x0) rfl)) ?_
            refine av rfl (r_len_sl Try.underlying35 rfl) ?_
            refine av rfl (r_ilss rfl rfl) ?_
            refine nwt [(1, _), (5, _), (72, _)] ⟨rfl, rfl, rfl, trivial⟩ ?_
            rcases of_ite hF with ⟨h196, hF⟩ | ⟨h196, hF⟩
            ·refine at_cond_true rfl h196 ?_
             refine sn ?_
             refine at_seq ?_
             refine at_block ?_
             refine sr ?_
             refine av rfl (r_fieldAddr (fo := 89) Try.underlying37 rfl rfl (fun w => ⟨_, Try.sizeOf35 w⟩) rfl) ?_
             refine av rfl (r_load_cell Try.isAgg35 rfl (lens_cell0 (c := cHd) (y := ⟨g0_.1, List.length x0.f_Allowed, g0_.2⟩) .z (c_api_PeerChange_f_Allowed g0_ x0) rfl)) ?_
             refine av rfl (r_move rfl) ?_
             obtain ⟨h197, hF⟩ := of_guard hF
             obtain ⟨b199, o200, hp198⟩ := row_ptr hn0 h197
             refine av rfl (r_idx Try.underlying35 Try.sizeOf46 rfl rfl h197 hp198) ?_
             refine av rfl (r_load_aggc (c := c_api_Prefix) (z := lget x0.f_Allowed i195) Try.isAgg46 Try.sizeOf46 rfl (row_cell (fun _ h => h.below) hn0 h197 hp198)) ?_
             obtain ⟨t201, ht201, hF⟩ := of_bindM hF
             refine at_callB Try.func57 rfl (by kernel_rfl) rfl rfl (fun w hw => crawlwayref11_Right_ok _ _ ht201 w) ?_
             refine av rfl (r_not rfl) ?_
             refine nwt [(1, _), (5, _), (81, _)] ⟨rfl, rfl, rfl, trivial⟩ ?_
             rcases of_ite hF with ⟨h202, hF⟩ | ⟨h202, hF⟩
             ·refine at_cond_true rfl h202 ?_
              refine sr ?_
              refine av rfl (r_assign rfl) ?_
              refine at_nil ?_
              refine at_drop (H := _) .z ?_
              refine at_weak [(2, _)] ⟨rfl, trivial⟩ ?_
              refine at_then_normal ?_
              refine at_ret ?_
              refine at_blk_ret (at_then_ret (at_then_ret (at_blk_ret (at_then_ret ?_))))
              obtain rfl := of_some hF
              subst K
              exact at_return1 rfl rfl (fun w1 hw => ⟨rfl, hw.below⟩)
             ·refine at_cond_false rfl h202 ?_
              refine at_skip ?_
              refine at_blk_normal (at_then_normal ?_)
              refine at_region ?_
              refine av rfl (r_move rfl) ?_
              refine av rfl (r_iadd rfl rfl) ?_
              refine av rfl (r_assign rfl) ?_
              refine nwt [(1, _), (5, _)] ⟨rfl, rfl, trivial⟩ ?_
              exact at_weak_k (ih _ _ hF K) ⟨rfl, rfl, trivial⟩
            ·refine at_cond_false rfl h196 ?_
             refine at_exit ?_
             refine at_then_exit (at_then_exit ?_)
             refine at_drop (H := _) .z ?_
             obtain rfl := of_some hF
             exact at_weak_k K trivial
          ·cases q194 with
           | ret r' => exact of_some hF
           | nx sq194 =>
            skip
            refine at_blk_same ?_
            refine at_then_normal ?_
            refine sr ?_
            refine av rfl (r_assign rfl) ?_
            refine nwt [(2, _)] ⟨rfl, trivial⟩ ?_
            refine at_ret ?_
            have K := of_some hF
            subst K
            exact at_return1 rfl rfl (fun w1 hw => ⟨rfl, hw.below⟩)
       ·refine at_fix (g := 56) rfl h191 ?_
        refine at_guard_no rfl rfl rfl rfl rfl ?_
        refine at_guard_no rfl rfl rfl rfl rfl ?_
        refine at_guard_no rfl rfl rfl rfl rfl ?_
        refine at_guard_yes rfl rfl rfl ?_
        refine av rfl (r_pick rfl rfl rfl) ?_
        refine av rfl (r_pick rfl rfl rfl) ?_
        refine av rfl (r_move rfl) ?_
        refine at_guard_yes rfl rfl rfl ?_
        refine av rfl (r_fieldAddr (fo := 89) Try.underlying37 rfl rfl (fun w => ⟨_, Try.sizeOf35 w⟩) rfl) ?_
        refine at_guard_yes rfl rfl rfl ?_
        refine av rfl (r_load_cell Try.isAgg35 rfl (lens_cell0 (c := cHd) (y := ⟨g0_.1, List.length x0.f_Allowed, g0_.2⟩) .z (c_api_PeerChange_f_Allowed g0_ x0) rfl)) ?_
        refine at_guard_yes rfl rfl rfl ?_
        refine av rfl (r_len_sl Try.underlying35 rfl) ?_
        refine at_guard_yes rfl rfl rfl ?_
        refine av rfl (r_igtr rfl rfl) ?_
        refine av rfl (r_pick rfl rfl rfl) ?_
        refine nwt [(1, _), (67, _)] ⟨rfl, rfl, trivial⟩ ?_
        rcases of_ite hF with ⟨h203, hF⟩ | ⟨h203, hF⟩
        ·refine at_cond_true rfl h203 ?_
         refine sr ?_
         refine av rfl (r_assign rfl) ?_
         refine at_nil ?_
         refine at_drop (H := _) .z ?_
         refine at_weak [(2, _)] ⟨rfl, trivial⟩ ?_
         refine at_then_normal ?_
         refine rt ?_
         have K := of_some hF
         subst K
         exact at_return1 rfl rfl (fun w1 hw => ⟨rfl, hw.below⟩)
        ·refine at_cond_false rfl h203 ?_
         refine sn ?_
         refine at_seq ?_
         refine sr ?_
         refine av rfl (r_assign rfl) ?_
         refine nwt [(1, _), (5, _)] ⟨rfl, rfl, trivial⟩ ?_
         refine at_block ?_
         obtain ⟨q204, hq204, hF⟩ := of_bindM hF
         refine at_weak [(1, _), (5, _)] ⟨rfl, rfl, trivial⟩ ?_
         refine at_loop_r (B := 0) (r := r) (q := q204) (A := fun (_ : Unit) Y => At 82 [] (Wd w []) Y) ?_ ?_
         ·intro K
          refine crawlwayref32_RightPeer.l15.partial_correctness x0 (motive := fun i205 x => KR (fun (_ : Unit) Y => At 82 [] (Wd w []) Y) _ 0 r x → Round (fun Y => At 82 [(1, .pointer (some ⟨b1, 0, none⟩)), (5, .int .i64 i205)] (Wd w [cellsE b1 (Cd.cs c_api_PeerChange (g0_, x0)) 37]) Y) _ _ _) ?_ _ _ hq204 K
          ·clear K hF
           intro g ih i205 x hF K
           refine at_round ?_
           refine at_seq ?_
           refine sr ?_
           refine av rfl (r_move rfl) ?_
           refine av rfl (r_fieldAddr (fo := 89) Try.underlying37 rfl rfl (fun w => ⟨_, Try.sizeOf35 w⟩) rfl) ?_
           refine av rfl (r_load_cell Try.isAgg35 rfl (lens_cell0 (c := cHd) (y := ⟨g0_.1, List.length x0.f_Allowed, g0_.2⟩) .z (c_api_PeerChange_f_Allowed g0_ x0) rfl)) ?_
           refine av rfl (r_len_sl Try.underlying35 rfl) ?_
           refine av rfl (r_ilss rfl rfl) ?_
           refine nwt [(1, _), (5, _), (72, _)] ⟨rfl, rfl, rfl, trivial⟩ ?_
           rcases of_ite hF with ⟨h206, hF⟩ | ⟨h206, hF⟩
           ·refine at_cond_true rfl h206 ?_
            refine sn ?_
            refine at_seq ?_
            refine at_block ?_
            refine sr ?_
            refine av rfl (r_fieldAddr (fo := 89) Try.underlying37 rfl rfl (fun w => ⟨_, Try.sizeOf35 w⟩) rfl) ?_
            refine av rfl (r_load_cell Try.isAgg35 rfl (lens_cell0 (c := cHd) (y := ⟨g0_.1, List.length x0.f_Allowed, g0_.2⟩) .z (c_api_PeerChange_f_Allowed g0_ x0) rfl)) ?_
            refine av rfl (r_move rfl) ?_
            obtain ⟨h207, hF⟩ := of_guard hF
            obtain ⟨b209, o210, hp208⟩ := row_ptr hn0 h207
            refine av rfl (r_idx Try.underlying35 Try.sizeOf46 rfl rfl h207 hp208) ?_
            refine av rfl (r_load_aggc (c := c_api_Prefix) (z := lget x0.f_Allowed i205) Try.isAgg46 Try.sizeOf46 rfl (row_cell (fun _ h => h.below) hn0 h207 hp208)) ?_
            obtain ⟨t211, ht211, hF⟩ := of_bindM hF
            refine at_callB Try.func57 rfl (by kernel_rfl) rfl rfl (fun w hw => crawlwayref11_Right_ok _ _ ht211 w) ?_
            refine av rfl (r_not rfl) ?_
            refine nwt [(1, _), (5, _), (81, _)] ⟨rfl, rfl, rfl, trivial⟩ ?_
            rcases of_ite hF with ⟨h212, hF⟩ | ⟨h212, hF⟩
            ·refine at_cond_true rfl h212 ?_
             refine sr ?_
             refine av rfl (r_assign rfl) ?_
             refine at_nil ?_
             refine at_drop (H := _) .z ?_
             refine at_weak [(2, _)] ⟨rfl, trivial⟩ ?_
             refine at_then_normal ?_
             refine at_ret ?_
             refine at_blk_ret (at_then_ret (at_then_ret (at_blk_ret (at_then_ret ?_))))
             obtain rfl := of_some hF
             subst K
             exact at_return1 rfl rfl (fun w1 hw => ⟨rfl, hw.below⟩)
            ·refine at_cond_false rfl h212 ?_
             refine at_skip ?_
             refine at_blk_normal (at_then_normal ?_)
             refine at_region ?_
             refine av rfl (r_move rfl) ?_
             refine av rfl (r_iadd rfl rfl) ?_
             refine av rfl (r_assign rfl) ?_
             refine nwt [(1, _), (5, _)] ⟨rfl, rfl, trivial⟩ ?_
             exact at_weak_k (ih _ _ hF K) ⟨rfl, rfl, trivial⟩
           ·refine at_cond_false rfl h206 ?_
            refine at_exit ?_
            refine at_then_exit (at_then_exit ?_)
            refine at_drop (H := _) .z ?_
            obtain rfl := of_some hF
            exact at_weak_k K trivial
         ·cases q204 with
          | ret r' => exact of_some hF
          | nx sq204 =>
           skip
           refine at_blk_same ?_
           refine at_then_normal ?_
           refine sr ?_
           refine av rfl (r_assign rfl) ?_
           refine nwt [(2, _)] ⟨rfl, trivial⟩ ?_
           refine at_ret ?_
           have K := of_some hF
           subst K
           exact at_return1 rfl rfl (fun w1 hw => ⟨rfl, hw.below⟩)
end Go.Proofs.Ythccncpephpdjaa
namespace Go.Proofs.Ythccncpephpdjaa
open E Go.RowKit
def crawlwayref32_Right.l0 (x0 : S_api_Request) (i12 : Int) : Option (Ctl (Bool) (Unit)) :=
  if (decide (i12 < (x0.f_Peers.length : Int))) = true then (if (0 : Int) ≤ i12 ∧ i12 < (x0.f_Peers.length : Int) then crawlwayref32_RightPeer (lget x0.f_Peers i12) >>= fun t24 => if (!t24) = true then (some (.ret false)) else (crawlwayref32_Right.l0 x0 (wr .i64 (i12 + 1))) else none) else (some (.nx ()))
  partial_fixpoint
def crawlwayref32_Right.l1 (x0 : S_api_Request) (i28 : Int) : Option (Ctl (Bool) (Unit)) :=
  if (decide (i28 < (x0.f_Peers.length : Int))) = true then (if (0 : Int) ≤ i28 ∧ i28 < (x0.f_Peers.length : Int) then crawlwayref32_RightPeer (lget x0.f_Peers i28) >>= fun t40 => if (!t40) = true then (some (.ret false)) else (crawlwayref32_Right.l1 x0 (wr .i64 (i28 + 1))) else none) else (some (.nx ()))
  partial_fixpoint
def crawlwayref32_Right.l2 (x0 : S_api_Request) (i46 : Int) : Option (Ctl (Bool) (Unit)) :=
  if (decide (i46 < (x0.f_Peers.length : Int))) = true then (if (0 : Int) ≤ i46 ∧ i46 < (x0.f_Peers.length : Int) then crawlwayref32_RightPeer (lget x0.f_Peers i46) >>= fun t58 => if (!t58) = true then (some (.ret false)) else (crawlwayref32_Right.l2 x0 (wr .i64 (i46 + 1))) else none) else (some (.nx ()))
  partial_fixpoint
def crawlwayref32_Right.l3 (x0 : S_api_Request) (i62 : Int) : Option (Ctl (Bool) (Unit)) :=
  if (decide (i62 < (x0.f_Peers.length : Int))) = true then (if (0 : Int) ≤ i62 ∧ i62 < (x0.f_Peers.length : Int) then crawlwayref32_RightPeer (lget x0.f_Peers i62) >>= fun t74 => if (!t74) = true then (some (.ret false)) else (crawlwayref32_Right.l3 x0 (wr .i64 (i62 + 1))) else none) else (some (.nx ()))
  partial_fixpoint
def crawlwayref32_Right.l4 (x0 : S_api_Request) (i84 : Int) : Option (Ctl (Bool) (Unit)) :=
  if (decide (i84 < (x0.f_Peers.length : Int))) = true then (if (0 : Int) ≤ i84 ∧ i84 < (x0.f_Peers.length : Int) then crawlwayref32_RightPeer (lget x0.f_Peers i84) >>= fun t96 => if (!t96) = true then (some (.ret false)) else (crawlwayref32_Right.l4 x0 (wr .i64 (i84 + 1))) else none) else (some (.nx ()))
  partial_fixpoint
def crawlwayref32_Right.l5 (x0 : S_api_Request) (i100 : Int) : Option (Ctl (Bool) (Unit)) :=
  if (decide (i100 < (x0.f_Peers.length : Int))) = true then (if (0 : Int) ≤ i100 ∧ i100 < (x0.f_Peers.length : Int) then crawlwayref32_RightPeer (lget x0.f_Peers i100) >>= fun t112 => if (!t112) = true then (some (.ret false)) else (crawlwayref32_Right.l5 x0 (wr .i64 (i100 + 1))) else none) else (some (.nx ()))
  partial_fixpoint
def crawlwayref32_Right.l6 (x0 : S_api_Request) (i118 : Int) : Option (Ctl (Bool) (Unit)) :=
  if (decide (i118 < (x0.f_Peers.length : Int))) = true then (if (0 : Int) ≤ i118 ∧ i118 < (x0.f_Peers.length : Int) then crawlwayref32_RightPeer (lget x0.f_Peers i118) >>= fun t130 => if (!t130) = true then (some (.ret false)) else (crawlwayref32_Right.l6 x0 (wr .i64 (i118 + 1))) else none) else (some (.nx ()))
  partial_fixpoint
def crawlwayref32_Right.l7 (x0 : S_api_Request) (i134 : Int) : Option (Ctl (Bool) (Unit)) :=
  if (decide (i134 < (x0.f_Peers.length : Int))) = true then (if (0 : Int) ≤ i134 ∧ i134 < (x0.f_Peers.length : Int) then crawlwayref32_RightPeer (lget x0.f_Peers i134) >>= fun t146 => if (!t146) = true then (some (.ret false)) else (crawlwayref32_Right.l7 x0 (wr .i64 (i134 + 1))) else none) else (some (.nx ()))
  partial_fixpoint
def crawlwayref32_Right (x0 : S_api_Request) : Option (Bool) :=
  if (!x0.f_HasPrivate) = true then (if (!decide (x0.f_Private = (Vector.replicate 32 (0 : Int) : (Vector Int 32)))) = true then (some false) else (if (decide (x0.f_Port < 0)) = true then (some false) else (if (decide (x0.f_Port > 65535)) = true then (some false) else (if (!x0.f_HasPort) = true then (if (x0.f_Port != 0) = true then (some false) else (if (!x0.f_HasMark) = true then (if (x0.f_Mark != 0) = true then (some false) else (if (decide ((x0.f_Peers.length : Int) > 64)) = true then (some false) else (crawlwayref32_Right.l0 x0 0 >>= fun q11 => match q11 with | .ret r' => some r' | .nx sq11 => (some true)))) else (if (decide ((x0.f_Peers.length : Int) > 64)) = true then (some false) else (crawlwayref32_Right.l1 x0 0 >>= fun q27 => match q27 with | .ret r' => some r' | .nx sq27 => (some true))))) else (if (!x0.f_HasMark) = true then (if (x0.f_Mark != 0) = true then (some false) else (if (decide ((x0.f_Peers.length : Int) > 64)) = true then (some false) else (crawlwayref32_Right.l2 x0 0 >>= fun q45 => match q45 with | .ret r' => some r' | .nx sq45 => (some true)))) else (if (decide ((x0.f_Peers.length : Int) > 64)) = true then (some false) else (crawlwayref32_Right.l3 x0 0 >>= fun q61 => match q61 with | .ret r' => some r' | .nx sq61 => (some true)))))))) else (if (decide (x0.f_Port < 0)) = true then (some false) else (if (decide (x0.f_Port > 65535)) = true then (some false) else (if (!x0.f_HasPort) = true then (if (x0.f_Port != 0) = true then (some false) else (if (!x0.f_HasMark) = true then (if (x0.f_Mark != 0) = true then (some false) else (if (decide ((x0.f_Peers.length : Int) > 64)) = true then (some false) else (crawlwayref32_Right.l4 x0 0 >>= fun q83 => match q83 with | .ret r' => some r' | .nx sq83 => (some true)))) else (if (decide ((x0.f_Peers.length : Int) > 64)) = true then (some false) else (crawlwayref32_Right.l5 x0 0 >>= fun q99 => match q99 with | .ret r' => some r' | .nx sq99 => (some true))))) else (if (!x0.f_HasMark) = true then (if (x0.f_Mark != 0) = true then (some false) else (if (decide ((x0.f_Peers.length : Int) > 64)) = true then (some false) else (crawlwayref32_Right.l6 x0 0 >>= fun q117 => match q117 with | .ret r' => some r' | .nx sq117 => (some true)))) else (if (decide ((x0.f_Peers.length : Int) > 64)) = true then (some false) else (crawlwayref32_Right.l7 x0 0 >>= fun q133 => match q133 with | .ret r' => some r' | .nx sq133 => (some true)))))))
theorem crawlwayref32_Right_ok (g0_ : G_api_Request) (x0 : S_api_Request) (r : Bool) (hF : crawlwayref32_Right x0 = some r) (w : World) (hn0 : N_api_Request w (g0_, x0)) :
    Calls Try.prog 18 #[.agg (Cd.cs c_api_Request (g0_, x0)).toArray] w (fun e w' => e = .returned (.bool r) ∧ Below w.heap.size w w') := by
 unfold crawlwayref32_Right at hF
 refine calls_enter (l := [.agg (Cd.cs c_api_Request (g0_, x0)).toArray]) Try.func18 rfl rfl rfl ?_
 refine at_start ?_
 refine at_weak [(0, _)] ⟨rfl, trivial⟩ ?_
 refine sr ?_
 refine at_box (cs := Cd.cs c_api_Request (g0_, x0)) rfl rfl rfl ?_
 intro b1
 refine av rfl (r_assign rfl) ?_
 refine nwt [(1, _)] ⟨rfl, trivial⟩ ?_
 refine at_seq ?_
 refine sr ?_
 refine av rfl (r_fieldAddr (fo := 0) Try.underlying27 rfl rfl (fun w => ⟨_, Try.sizeOf4 w⟩) rfl) ?_
 refine av rfl (r_load_cell Try.isAgg4 rfl (lens_cell0 (c := cBool) (y := x0.f_HasPrivate) .z (c_api_Request_f_HasPrivate g0_ x0) rfl)) ?_
 refine av rfl (r_not rfl) ?_
 refine av rfl (r_move rfl) ?_
 rcases of_ite hF with ⟨h2, hF⟩ | ⟨h2, hF⟩
 ·refine at_fix (g := 7) rfl h2 ?_
  refine at_guard_yes rfl rfl rfl ?_
  refine av rfl (r_fieldAddr (fo := 1) Try.underlying27 rfl rfl (fun w => ⟨_, Try.sizeOf23 w⟩) rfl) ?_
  refine at_guard_yes rfl rfl rfl ?_
  refine av rfl (r_load_aggc (c := (cVec (cInt .u8) 32 (by decide))) (z := x0.f_Private) Try.isAgg23 Try.sizeOf23 rfl (lens_cell .z (c_api_Request_f_Private g0_ x0))) ?_
  refine at_guard_yes rfl rfl rfl ?_
  refine av rfl (r_build_array (zs := Cd.cs (cVec (cInt .u8) 32 (by decide)) (Vector.replicate 32 (0 : Int) : (Vector Int 32))) (cs := Cd.cs (cVec (cInt .u8) 32 (by decide)) (Vector.replicate 32 (0 : Int) : (Vector Int 32))) Try.underlying23 Try.zeroValue23 rfl Try.sizeOf5 rfl rfl) ?_
  refine at_guard_yes rfl rfl rfl ?_
  refine av rfl (r_eqagg (c := (cVec (cInt .u8) 32 (by decide))) (a := x0.f_Private) (b := (Vector.replicate 32 (0 : Int) : (Vector Int 32))) (eqs_vec Try.underlying23 infoT5 Try.sizeOf5 Try.isAgg5 (.inr rfl) (eqs_int Try.underlying5)) rfl Try.eqGuardType23 rfl rfl (.inr rfl) rfl) ?_
  refine av rfl (r_pick rfl rfl rfl) ?_
  refine av rfl (r_move rfl) ?_
  rcases of_ite hF with ⟨h3, hF⟩ | ⟨h3, hF⟩
  ·refine at_fix (g := 13) rfl h3 ?_
   refine at_guard_no rfl rfl rfl rfl rfl ?_
   refine at_guard_no rfl rfl rfl rfl rfl ?_
   refine at_guard_no rfl rfl rfl rfl rfl ?_
   refine av rfl (r_pick rfl rfl rfl) ?_
   refine av rfl (r_move rfl) ?_
   refine at_guard_no rfl rfl rfl rfl rfl ?_
   refine at_guard_no rfl rfl rfl rfl rfl ?_
   refine at_guard_no rfl rfl rfl rfl rfl ?_
   refine av rfl (r_pick rfl rfl rfl) ?_
   refine av rfl (r_move rfl) ?_
   refine at_guard_no rfl rfl rfl rfl rfl ?_
   refine at_guard_no rfl rfl rfl rfl rfl ?_
   refine at_guard_no rfl rfl rfl rfl rfl ?_
   refine at_guard_no rfl rfl rfl rfl rfl ?_
   refine at_guard_undef rfl rfl rfl rfl ?_
   refine at_guard_undef rfl rfl rfl rfl ?_
   refine at_guard_undef rfl rfl rfl rfl ?_
   refine at_guard_no rfl rfl rfl rfl rfl ?_
   refine av rfl (r_pick rfl rfl rfl) ?_
   refine av rfl (r_move rfl) ?_
   refine at_guard_no rfl rfl rfl rfl rfl ?_
   refine at_guard_no rfl rfl rfl rfl rfl ?_
   refine at_guard_no rfl rfl rfl rfl rfl ?_
   refine at_guard_no rfl rfl rfl rfl rfl ?_
   refine at_guard_undef rfl rfl rfl rfl ?_
   refine at_guard_undef rfl rfl rfl rfl ?_
   refine at_guard_undef rfl rfl rfl rfl ?_
   refine at_guard_no rfl rfl rfl rfl rfl ?_
   refine av rfl (r_pick rfl rfl rfl) ?_
   refine av rfl (r_move rfl) ?_
   refine at_guard_no rfl rfl rfl rfl rfl ?_
   refine at_guard_no rfl rfl rfl rfl rfl ?_
   refine at_guard_no rfl rfl rfl rfl rfl ?_
   refine at_guard_no rfl rfl rfl rfl rfl ?_
   refine av rfl (r_pick rfl rfl rfl) ?_
   refine nwt [(1, _), (48, _)] ⟨rfl, rfl, trivial⟩ ?_
   refine at_cond_true rfl rfl ?_
   refine sr ?_
   refine av rfl (r_assign rfl) ?_
   refine at_nil ?_
   refine at_drop (H := _) .z ?_
   refine at_weak [(2, _)] ⟨rfl, trivial⟩ ?_
   refine at_then_normal ?_
   refine rt ?_
   have K := of_some hF
   subst K
   exact at_return1 rfl rfl (fun w1 hw => ⟨rfl, hw.below⟩)
  ·refine at_fix (g := 13) rfl h3 ?_
   refine at_guard_yes rfl rfl rfl ?_
   refine av rfl (r_fieldAddr (fo := 34) Try.underlying27 rfl rfl (fun w => ⟨_, Try.sizeOf3 w⟩) rfl) ?_
   refine at_guard_yes rfl rfl rfl ?_
   refine av rfl (r_load_cell Try.isAgg3 rfl (lens_cell0 (c := (cInt .i64)) (y := x0.f_Port) .z (c_api_Request_f_Port g0_ x0) rfl)) ?_
   refine at_guard_yes rfl rfl rfl ?_
   refine av rfl (r_ilss rfl rfl) ?_
   refine av rfl (r_pick rfl rfl rfl) ?_
   refine av rfl (r_move rfl) ?_
   rcases of_ite hF with ⟨h4, hF⟩ | ⟨h4, hF⟩
   ·refine at_fix (g := 18) rfl h4 ?_
    refine at_guard_no rfl rfl rfl rfl rfl ?_
    refine at_guard_no rfl rfl rfl rfl rfl ?_
    refine at_guard_no rfl rfl rfl rfl rfl ?_
    refine av rfl (r_pick rfl rfl rfl) ?_
    refine av rfl (r_move rfl) ?_
    refine at_guard_no rfl rfl rfl rfl rfl ?_
    refine at_guard_no rfl rfl rfl rfl rfl ?_
    refine at_guard_no rfl rfl rfl rfl rfl ?_
    refine at_guard_no rfl rfl rfl rfl rfl ?_
    refine at_guard_undef rfl rfl rfl rfl ?_
    refine at_guard_undef rfl rfl rfl rfl ?_
    refine at_guard_undef rfl rfl rfl rfl ?_
    refine at_guard_no rfl rfl rfl rfl rfl ?_
    refine av rfl (r_pick rfl rfl rfl) ?_
    refine av rfl (r_move rfl) ?_
    refine at_guard_no rfl rfl rfl rfl rfl ?_
    refine at_guard_no rfl rfl rfl rfl rfl ?_
    refine at_guard_no rfl rfl rfl rfl rfl ?_
    refine at_guard_no rfl rfl rfl rfl rfl ?_
    refine at_guard_undef rfl rfl rfl rfl ?_
    refine at_guard_undef rfl rfl rfl rfl ?_
    refine at_guard_undef rfl rfl rfl rfl ?_
    refine at_guard_no rfl rfl rfl rfl rfl ?_
    refine av rfl (r_pick rfl rfl rfl) ?_
    refine av rfl (r_move rfl) ?_
    refine at_guard_no rfl rfl rfl rfl rfl ?_
    refine at_guard_no rfl rfl rfl rfl rfl ?_
    refine at_guard_no rfl rfl rfl rfl rfl ?_
    refine at_guard_no rfl rfl rfl rfl rfl ?_
    refine av rfl (r_pick rfl rfl rfl) ?_
    refine nwt [(1, _), (48, _)] ⟨rfl, rfl, trivial⟩ ?_
    refine at_cond_true rfl rfl ?_
    refine sr ?_
    refine av rfl (r_assign rfl) ?_
    refine at_nil ?_
    refine at_drop (H := _) .z ?_
    refine at_weak [(2, _)] ⟨rfl, trivial⟩ ?_
    refine at_then_normal ?_
    refine rt ?_
    have K := of_some hF
    subst K
    exact at_return1 rfl rfl (fun w1 hw => ⟨rfl, hw.below⟩)
   ·refine at_fix (g := 18) rfl h4 ?_
    refine at_guard_yes rfl rfl rfl ?_
    refine av rfl (r_fieldAddr (fo := 34) Try.underlying27 rfl rfl (fun w => ⟨_, Try.sizeOf3 w⟩) rfl) ?_
    refine at_guard_yes rfl rfl rfl ?_
    refine av rfl (r_load_cell Try.isAgg3 rfl (lens_cell0 (c := (cInt .i64)) (y := x0.f_Port) .z (c_api_Request_f_Port g0_ x0) rfl)) ?_
    refine at_guard_yes rfl rfl rfl ?_
    refine av rfl (r_igtr rfl rfl) ?_
    refine av rfl (r_pick rfl rfl rfl) ?_
    refine av rfl (r_move rfl) ?_
    rcases of_ite hF with ⟨h5, hF⟩ | ⟨h5, hF⟩
    ·refine at_fix (g := 23) rfl h5 ?_
     refine at_guard_no rfl rfl rfl rfl rfl ?_
     refine at_guard_no rfl rfl rfl rfl rfl ?_
     refine at_guard_no rfl rfl rfl rfl rfl ?_
     refine at_guard_no rfl rfl rfl rfl rfl ?_
     refine at_guard_undef rfl rfl rfl rfl ?_
     refine at_guard_undef rfl rfl rfl rfl ?_
     refine at_guard_undef rfl rfl rfl rfl ?_
     refine at_guard_no rfl rfl rfl rfl rfl ?_
     refine av rfl (r_pick rfl rfl rfl) ?_
     refine av rfl (r_move rfl) ?_
     refine at_guard_no rfl rfl rfl rfl rfl ?_
     refine at_guard_no rfl rfl rfl rfl rfl ?_
     refine at_guard_no rfl rfl rfl rfl rfl ?_
     refine at_guard_no rfl rfl rfl rfl rfl ?_
     refine at_guard_undef rfl rfl rfl rfl ?_
     refine at_guard_undef rfl rfl rfl rfl ?_
     refine at_guard_undef rfl rfl rfl rfl ?_
     refine at_guard_no rfl rfl rfl rfl rfl ?_
     refine av rfl (r_pick rfl rfl rfl) ?_
     refine av rfl (r_move rfl) ?_
     refine at_guard_no rfl rfl rfl rfl rfl ?_
     refine at_guard_no rfl rfl rfl rfl rfl ?_
     refine at_guard_no rfl rfl rfl rfl rfl ?_
     refine at_guard_no rfl rfl rfl rfl rfl ?_
     refine av rfl (r_pick rfl rfl rfl) ?_
     refine nwt [(1, _), (48, _)] ⟨rfl, rfl, trivial⟩ ?_
     refine at_cond_true rfl rfl ?_
     refine sr ?_
     refine av rfl (r_assign rfl) ?_
     refine at_nil ?_
     refine at_drop (H := _) .z ?_
     refine at_weak [(2, _)] ⟨rfl, trivial⟩ ?_
     refine at_then_normal ?_
     refine rt ?_
     have K := of_some hF
     subst K
     exact at_return1 rfl rfl (fun w1 hw => ⟨rfl, hw.below⟩)
    ·refine at_fix (g := 23) rfl h5 ?_
     refine at_guard_yes rfl rfl rfl ?_
     refine av rfl (r_fieldAddr (fo := 33) Try.underlying27 rfl rfl (fun w => ⟨_, Try.sizeOf4 w⟩) rfl) ?_
     refine at_guard_yes rfl rfl rfl ?_
     refine av rfl (r_load_cell Try.isAgg4 rfl (lens_cell0 (c := cBool) (y := x0.f_HasPort) .z (c_api_Request_f_HasPort g0_ x0) rfl)) ?_
     refine at_guard_yes rfl rfl rfl ?_
     refine av rfl (r_not rfl) ?_
     refine at_guard_yes rfl rfl rfl ?_
     refine av rfl (r_move rfl) ?_
     rcases of_ite hF with ⟨h6, hF⟩ | ⟨h6, hF⟩
     ·refine at_fix (g := 27) rfl h6 ?_
      refine at_guard_yes rfl rfl rfl ?_
      refine av rfl (r_fieldAddr (fo := 34) Try.underlying27 rfl rfl (fun w => ⟨_, Try.sizeOf3 w⟩) rfl) ?_
      refine at_guard_yes rfl rfl rfl ?_
      refine av rfl (r_load_cell Try.isAgg3 rfl (lens_cell0 (c := (cInt .i64)) (y := x0.f_Port) .z (c_api_Request_f_Port g0_ x0) rfl)) ?_
      refine at_guard_yes rfl rfl rfl ?_
      refine av rfl (r_ineq rfl rfl) ?_
      refine at_guard_yes rfl rfl rfl ?_
      refine av rfl (r_pick rfl rfl rfl) ?_
      refine av rfl (r_pick rfl rfl rfl) ?_
      refine av rfl (r_move rfl) ?_
      rcases of_ite hF with ⟨h7, hF⟩ | ⟨h7, hF⟩
      ·refine at_fix (g := 33) rfl h7 ?_
       refine at_guard_no rfl rfl rfl rfl rfl ?_
       refine at_guard_no rfl rfl rfl rfl rfl ?_
       refine at_guard_no rfl rfl rfl rfl rfl ?_
       refine at_guard_no rfl rfl rfl rfl rfl ?_
       refine at_guard_undef rfl rfl rfl rfl ?_
       refine at_guard_undef rfl rfl rfl rfl ?_
       refine at_guard_undef rfl rfl rfl rfl ?_
       refine at_guard_no rfl rfl rfl rfl rfl ?_
       refine av rfl (r_pick rfl rfl rfl) ?_
       refine av rfl (r_move rfl) ?_
       refine at_guard_no rfl rfl rfl rfl rfl ?_
       refine at_guard_no rfl rfl rfl rfl rfl ?_
       refine at_guard_no rfl rfl rfl rfl rfl ?_
       refine at_guard_no rfl rfl rfl rfl rfl ?_
       refine av rfl (r_pick rfl rfl rfl) ?_
       refine nwt [(1, _), (48, _)] ⟨rfl, rfl, trivial⟩ ?_
       refine at_cond_true rfl rfl ?_
       refine sr ?_
       refine av rfl (r_assign rfl) ?_
       refine at_nil ?_
       refine at_drop (H := _) .z ?_
       refine at_weak [(2, _)] ⟨rfl, trivial⟩ ?_
       refine at_then_normal ?_
       refine rt ?_
       have K := of_some hF
       subst K
       exact at_return1 rfl rfl (fun w1 hw => ⟨rfl, hw.below⟩)
      ·refine at_fix (g := 33) rfl h7 ?_
       refine at_guard_yes rfl rfl rfl ?_
       refine av rfl (r_fieldAddr (fo := 35) Try.underlying27 rfl rfl (fun w => ⟨_, Try.sizeOf4 w⟩) rfl) ?_
       refine at_guard_yes rfl rfl rfl ?_
       refine av rfl (r_load_cell Try.isAgg4 rfl (lens_cell0 (c := cBool) (y := x0.f_HasMark) .z (c_api_Request_f_HasMark g0_ x0) rfl)) ?_
       refine at_guard_yes rfl rfl rfl ?_
       refine av rfl (r_not rfl) ?_
       refine at_guard_yes rfl rfl rfl ?_
       refine av rfl (r_move rfl) ?_
       rcases of_ite hF with ⟨h8, hF⟩ | ⟨h8, hF⟩
       ·refine at_fix (g := 37) rfl h8 ?_
        refine at_guard_yes rfl rfl rfl ?_
        refine av rfl (r_fieldAddr (fo := 36) Try.underlying27 rfl rfl (fun w => ⟨_, Try.sizeOf24 w⟩) rfl) ?_
        refine at_guard_yes rfl rfl rfl ?_
        refine av rfl (r_load_cell Try.isAgg24 rfl (lens_cell0 (c := (cInt .u32)) (y := x0.f_Mark) .z (c_api_Request_f_Mark g0_ x0) rfl)) ?_
        refine at_guard_yes rfl rfl rfl ?_
        refine av rfl (r_ineq rfl rfl) ?_
        refine at_guard_yes rfl rfl rfl ?_
        refine av rfl (r_pick rfl rfl rfl) ?_
        refine av rfl (r_pick rfl rfl rfl) ?_
        refine av rfl (r_move rfl) ?_
        rcases of_ite hF with ⟨h9, hF⟩ | ⟨h9, hF⟩
        ·refine at_fix (g := 43) rfl h9 ?_
         refine at_guard_no rfl rfl rfl rfl rfl ?_
         refine at_guard_no rfl rfl rfl rfl rfl ?_
         refine at_guard_no rfl rfl rfl rfl rfl ?_
         refine at_guard_no rfl rfl rfl rfl rfl ?_
         refine av rfl (r_pick rfl rfl rfl) ?_
         refine nwt [(1, _), (48, _)] ⟨rfl, rfl, trivial⟩ ?_
         refine at_cond_true rfl rfl ?_
         refine sr ?_
         refine av rfl (r_assign rfl) ?_
         refine at_nil ?_
         refine at_drop (H := _) .z ?_
         refine at_weak [(2, _)] ⟨rfl, trivial⟩ ?_
         refine at_then_normal ?_
         refine rt ?_
         have K := of_some hF
         subst K
         exact at_return1 rfl rfl (fun w1 hw => ⟨rfl, hw.below⟩)
        ·refine at_fix (g := 43) rfl h9 ?_
         refine at_guard_yes rfl rfl rfl ?_
         refine av rfl (r_fieldAddr (fo := 38) Try.underlying27 rfl rfl (fun w => ⟨_, Try.sizeOf25 w⟩) rfl) ?_
         refine at_guard_yes rfl rfl rfl ?_
         refine av rfl (r_load_cell Try.isAgg25 rfl (lens_cell0 (c := cHd) (y := ⟨g0_.1, List.length x0.f_Peers, g0_.2⟩) .z (c_api_Request_f_Peers g0_ x0) rfl)) ?_
         refine at_guard_yes rfl rfl rfl ?_
         refine av rfl (r_len_sl Try.underlying25 rfl) ?_
         refine at_guard_yes rfl rfl rfl ?_
         refine av rfl (r_igtr rfl rfl) ?_
         refine av rfl (r_pick rfl rfl rfl) ?_
         refine nwt [(1, _), (48, _)] ⟨rfl, rfl, trivial⟩ ?_
         rcases of_ite hF with ⟨h10, hF⟩ | ⟨h10, hF⟩
         ·refine at_cond_true rfl h10 ?_
          refine sr ?_
          refine av rfl (r_assign rfl) ?_
          refine at_nil ?_
          refine at_drop (H := _) .z ?_
          refine at_weak [(2, _)] ⟨rfl, trivial⟩ ?_
          refine at_then_normal ?_
          refine rt ?_
          have K := of_some hF
          subst K
          exact at_return1 rfl rfl (fun w1 hw => ⟨rfl, hw.below⟩)
         ·refine at_cond_false rfl h10 ?_
          refine sn ?_
          refine at_seq ?_
          refine sr ?_
          refine av rfl (r_assign rfl) ?_
          refine nwt [(1, _), (3, _)] ⟨rfl, rfl, trivial⟩ ?_
          refine at_block ?_
          obtain ⟨q11, hq11, hF⟩ := of_bindM hF
          refine at_weak [(1, _), (3, _)] ⟨rfl, rfl, trivial⟩ ?_
          refine at_loop_r (B := 0) (r := r) (q := q11) (A := fun (_ : Unit) Y => At 63 [] (Wd w []) Y) ?_ ?_
          ·intro K
           refine crawlwayref32_Right.l0.partial_correctness x0 (motive := fun i12 x => KR (fun (_ : Unit) Y => At 63 [] (Wd w []) Y) _ 0 r x → Round (fun Y => At 63 [(1, .pointer (some ⟨b1, 0, none⟩)), (3, .int .i64 i12)] (Wd w [cellsE b1 (Cd.cs c_api_Request (g0_, x0)) 27]) Y) _ _ _) ?_ _ _ hq11 K
           ·clear K hF
            intro g ih i12 x hF K
            refine at_round ?_
            refine at_seq ?_
            refine sr ?_
            refine av rfl (r_move rfl) ?_
            refine av rfl (r_fieldAddr (fo := 38) Try.underlying27 rfl rfl (fun w => ⟨_, Try.sizeOf25 w⟩) rfl) ?_
            refine av rfl (r_load_cell Try.isAgg25 rfl (lens_cell0 (c := cHd) (y := ⟨g0_.1, List.length x0.f_Peers, g0_.2⟩) .z (c_api_Request_f_Peers g0_ x0) rfl)) ?_
            refine av rfl (r_len_sl Try.underlying25 rfl) ?_
            refine av rfl (r_ilss rfl rfl) ?_
            refine nwt [(1, _), (3, _), (53, _)] ⟨rfl, rfl, rfl, trivial⟩ ?_
            rcases of_ite hF with ⟨h13, hF⟩ | ⟨h13, hF⟩
            ·refine at_cond_true rfl h13 ?_
             refine sn ?_
             refine at_seq ?_
             refine at_block ?_
             refine sr ?_
             refine av rfl (r_fieldAddr (fo := 38) Try.underlying27 rfl rfl (fun w => ⟨_, Try.sizeOf25 w⟩) rfl) ?_
             refine av rfl (r_load_cell Try.isAgg25 rfl (lens_cell0 (c := cHd) (y := ⟨g0_.1, List.length x0.f_Peers, g0_.2⟩) .z (c_api_Request_f_Peers g0_ x0) rfl)) ?_
             refine av rfl (r_move rfl) ?_
             obtain ⟨h14, hF⟩ := of_guard hF
             obtain ⟨zs18, hz19, hr20, hn21⟩ := hn0
             obtain ⟨b16, o17, hp15⟩ := row_ptr hr20 (zidx hz19 h14)
             obtain ⟨g22, hg23⟩ := zget hz19 i12
             refine av rfl (r_idx Try.underlying25 Try.sizeOf37 rfl rfl h14 hp15) ?_
             refine av rfl (r_load_aggc (c := c_api_PeerChange) (z := (g22, lget x0.f_Peers i12)) Try.isAgg37 Try.sizeOf37 rfl (ncell (fun _ h => h.below) hr20 (zidx hz19 h14) hp15 hg23)) ?_
             obtain ⟨t24, ht24, hF⟩ := of_bindM hF
             refine at_callB Try.func16 rfl (by kernel_rfl) rfl rfl (fun w hw => crawlwayref32_RightPeer_ok _ _ _ ht24 w (N_api_PeerChange.below (nz hg23 hn21 (zidx hz19 h14)) hw.below)) ?_
             refine av rfl (r_not rfl) ?_
             refine nwt [(1, _), (3, _), (62, _)] ⟨rfl, rfl, rfl, trivial⟩ ?_
             rcases of_ite hF with ⟨h25, hF⟩ | ⟨h25, hF⟩
             ·refine at_cond_true rfl h25 ?_
              refine sr ?_
              refine av rfl (r_assign rfl) ?_
              refine at_nil ?_
              refine at_drop (H := _) .z ?_
              refine at_weak [(2, _)] ⟨rfl, trivial⟩ ?_
              refine at_then_normal ?_
              refine at_ret ?_
              refine at_blk_ret (at_then_ret (at_then_ret (at_blk_ret (at_then_ret ?_))))
              obtain rfl := of_some hF
              subst K
              exact at_return1 rfl rfl (fun w1 hw => ⟨rfl, hw.below⟩)
             ·refine at_cond_false rfl h25 ?_
              refine at_skip ?_
              refine at_blk_normal (at_then_normal ?_)
              refine at_region ?_
              refine av rfl (r_move rfl) ?_
              refine av rfl (r_iadd rfl rfl) ?_
              refine av rfl (r_assign rfl) ?_
              refine nwt [(1, _), (3, _)] ⟨rfl, rfl, trivial⟩ ?_
              exact at_weak_k (ih _ _ hF K) ⟨rfl, rfl, trivial⟩
            ·refine at_cond_false rfl h13 ?_
             refine at_exit ?_
             refine at_then_exit (at_then_exit ?_)
             refine at_drop (H := _) .z ?_
             obtain rfl := of_some hF
             exact at_weak_k K trivial
          ·cases q11 with
           | ret r' => exact of_some hF
           | nx sq11 =>
            skip
            refine at_blk_same ?_
            refine at_then_normal ?_
            refine sr ?_
            refine av rfl (r_assign rfl) ?_
            refine nwt [(2, _)] ⟨rfl, trivial⟩ ?_
            refine at_ret ?_
            have K := of_some hF
            subst K
            exact at_return1 rfl rfl (fun w1 hw => ⟨rfl, hw.below⟩)
       ·refine at_fix (g := 37) rfl h8 ?_
        refine at_guard_no rfl rfl rfl rfl rfl ?_
        refine at_guard_no rfl rfl rfl rfl rfl ?_
        refine at_guard_no rfl rfl rfl rfl rfl ?_
        refine at_guard_yes rfl rfl rfl ?_
        refine av rfl (r_pick rfl rfl rfl) ?_
        refine av rfl (r_pick rfl rfl rfl) ?_
        refine av rfl (r_move rfl) ?_
        refine at_guard_yes rfl rfl rfl ?_
        refine av rfl (r_fieldAddr (fo := 38) Try.underlying27 rfl rfl (fun w => ⟨_, Try.sizeOf25 w⟩) rfl) ?_
        refine at_guard_yes rfl rfl rfl ?_
        refine av rfl (r_load_cell Try.isAgg25 rfl (lens_cell0 (c := cHd) (y := ⟨g0_.1, List.length x0.f_Peers, g0_.2⟩) .z (c_api_Request_f_Peers g0_ x0) rfl)) ?_
        refine at_guard_yes rfl rfl rfl ?_
        refine av rfl (r_len_sl Try.underlying25 rfl) ?_
        refine at_guard_yes rfl rfl rfl ?_
        refine av rfl (r_igtr rfl rfl) ?_
        refine av rfl (r_pick rfl rfl rfl) ?_
        refine nwt [(1, _), (48, _)] ⟨rfl, rfl, trivial⟩ ?_
        rcases of_ite hF with ⟨h26, hF⟩ | ⟨h26, hF⟩
        ·refine at_cond_true rfl h26 ?_
         refine sr ?_
         refine av rfl (r_assign rfl) ?_
         refine at_nil ?_
         refine at_drop (H := _) .z ?_
         refine at_weak [(2, _)] ⟨rfl, trivial⟩ ?_
         refine at_then_normal ?_
         refine rt ?_
         have K := of_some hF
         subst K
         exact at_return1 rfl rfl (fun w1 hw => ⟨rfl, hw.below⟩)
        ·refine at_cond_false rfl h26 ?_
         refine sn ?_
         refine at_seq ?_
         refine sr ?_
         refine av rfl (r_assign rfl) ?_
         refine nwt [(1, _), (3, _)] ⟨rfl, rfl, trivial⟩ ?_
         refine at_block ?_
         obtain ⟨q27, hq27, hF⟩ := of_bindM hF
         refine at_weak [(1, _), (3, _)] ⟨rfl, rfl, trivial⟩ ?_
         refine at_loop_r (B := 0) (r := r) (q := q27) (A := fun (_ : Unit) Y => At 63 [] (Wd w []) Y) ?_ ?_
         ·intro K
          refine crawlwayref32_Right.l1.partial_correctness x0 (motive := fun i28 x => KR (fun (_ : Unit) Y => At 63 [] (Wd w []) Y) _ 0 r x → Round (fun Y => At 63 [(1, .pointer (some ⟨b1, 0, none⟩)), (3, .int .i64 i28)] (Wd w [cellsE b1 (Cd.cs c_api_Request (g0_, x0)) 27]) Y) _ _ _) ?_ _ _ hq27 K
          ·clear K hF
           intro g ih i28 x hF K
           refine at_round ?_
           refine at_seq ?_
           refine sr ?_
           refine av rfl (r_move rfl) ?_
           refine av rfl (r_fieldAddr (fo := 38) Try.underlying27 rfl rfl (fun w => ⟨_, Try.sizeOf25 w⟩) rfl) ?_
           refine av rfl (r_load_cell Try.isAgg25 rfl (lens_cell0 (c := cHd) (y := ⟨g0_.1, List.length x0.f_Peers, g0_.2⟩) .z (c_api_Request_f_Peers g0_ x0) rfl)) ?_
           refine av rfl (r_len_sl Try.underlying25 rfl) ?_
           refine av rfl (r_ilss rfl rfl) ?_
           refine nwt [(1, _), (3, _), (53, _)] ⟨rfl, rfl, rfl, trivial⟩ ?_
           rcases of_ite hF with ⟨h29, hF⟩ | ⟨h29, hF⟩
           ·refine at_cond_true rfl h29 ?_
            refine sn ?_
            refine at_seq ?_
            refine at_block ?_
            refine sr ?_
            refine av rfl (r_fieldAddr (fo := 38) Try.underlying27 rfl rfl (fun w => ⟨_, Try.sizeOf25 w⟩) rfl) ?_
            refine av rfl (r_load_cell Try.isAgg25 rfl (lens_cell0 (c := cHd) (y := ⟨g0_.1, List.length x0.f_Peers, g0_.2⟩) .z (c_api_Request_f_Peers g0_ x0) rfl)) ?_
            refine av rfl (r_move rfl) ?_
            obtain ⟨h30, hF⟩ := of_guard hF
            obtain ⟨zs34, hz35, hr36, hn37⟩ := hn0
            obtain ⟨b32, o33, hp31⟩ := row_ptr hr36 (zidx hz35 h30)
            obtain ⟨g38, hg39⟩ := zget hz35 i28
            refine av rfl (r_idx Try.underlying25 Try.sizeOf37 rfl rfl h30 hp31) ?_
            refine av rfl (r_load_aggc (c := c_api_PeerChange) (z := (g38, lget x0.f_Peers i28)) Try.isAgg37 Try.sizeOf37 rfl (ncell (fun _ h => h.below) hr36 (zidx hz35 h30) hp31 hg39)) ?_
            obtain ⟨t40, ht40, hF⟩ := of_bindM hF
            refine at_callB Try.func16 rfl (by kernel_rfl) rfl rfl (fun w hw => crawlwayref32_RightPeer_ok _ _ _ ht40 w (N_api_PeerChange.below (nz hg39 hn37 (zidx hz35 h30)) hw.below)) ?_
            refine av rfl (r_not rfl) ?_
            refine nwt [(1, _), (3, _), (62, _)] ⟨rfl, rfl, rfl, trivial⟩ ?_
            rcases of_ite hF with ⟨h41, hF⟩ | ⟨h41, hF⟩
            ·refine at_cond_true rfl h41 ?_
             refine sr ?_
             refine av rfl (r_assign rfl) ?_
             refine at_nil ?_
             refine at_drop (H := _) .z ?_
             refine at_weak [(2, _)] ⟨rfl, trivial⟩ ?_
             refine at_then_normal ?_
             refine at_ret ?_
             refine at_blk_ret (at_then_ret (at_then_ret (at_blk_ret (at_then_ret ?_))))
             obtain rfl := of_some hF
             subst K
             exact at_return1 rfl rfl (fun w1 hw => ⟨rfl, hw.below⟩)
            ·refine at_cond_false rfl h41 ?_
             refine at_skip ?_
             refine at_blk_normal (at_then_normal ?_)
             refine at_region ?_
             refine av rfl (r_move rfl) ?_
             refine av rfl (r_iadd rfl rfl) ?_
             refine av rfl (r_assign rfl) ?_
             refine nwt [(1, _), (3, _)] ⟨rfl, rfl, trivial⟩ ?_
             exact at_weak_k (ih _ _ hF K) ⟨rfl, rfl, trivial⟩
           ·refine at_cond_false rfl h29 ?_
            refine at_exit ?_
            refine at_then_exit (at_then_exit ?_)
            refine at_drop (H := _) .z ?_
            obtain rfl := of_some hF
            exact at_weak_k K trivial
         ·cases q27 with
          | ret r' => exact of_some hF
          | nx sq27 =>
           skip
           refine at_blk_same ?_
           refine at_then_normal ?_
           refine sr ?_
           refine av rfl (r_assign rfl) ?_
           refine nwt [(2, _)] ⟨rfl, trivial⟩ ?_
           refine at_ret ?_
           have K := of_some hF
           subst K
           exact at_return1 rfl rfl (fun w1 hw => ⟨rfl, hw.below⟩)
     ·refine at_fix (g := 27) rfl h6 ?_
      refine at_guard_no rfl rfl rfl rfl rfl ?_
      refine at_guard_no rfl rfl rfl rfl rfl ?_
      refine at_guard_no rfl rfl rfl rfl rfl ?_
      refine at_guard_yes rfl rfl rfl ?_
      refine av rfl (r_pick rfl rfl rfl) ?_
      refine av rfl (r_pick rfl rfl rfl) ?_
      refine av rfl (r_move rfl) ?_
      refine at_guard_yes rfl rfl rfl ?_
      refine av rfl (r_fieldAddr (fo := 35) Try.underlying27 rfl rfl (fun w => ⟨_, Try.sizeOf4 w⟩) rfl) ?_
      refine at_guard_yes rfl rfl rfl ?_
      refine av rfl (r_load_cell Try.isAgg4 rfl (lens_cell0 (c := cBool) (y := x0.f_HasMark) .z (c_api_Request_f_HasMark g0_ x0) rfl)) ?_
      refine at_guard_yes rfl rfl rfl ?_
      refine av rfl (r_not rfl) ?_
      refine at_guard_yes rfl rfl rfl ?_
      refine av rfl (r_move rfl) ?_
      rcases of_ite hF with ⟨h42, hF⟩ | ⟨h42, hF⟩
      ·refine at_fix (g := 37) rfl h42 ?_
       refine at_guard_yes rfl rfl rfl ?_
       refine av rfl (r_fieldAddr (fo := 36) Try.underlying27 rfl rfl (fun w => ⟨_, Try.sizeOf24 w⟩) rfl) ?_
       refine at_guard_yes rfl rfl rfl ?_
       refine av rfl (r_load_cell Try.isAgg24 rfl (lens_cell0 (c := (cInt .u32)) (y := x0.f_Mark) .z (c_api_Request_f_Mark g0_ x0) rfl)) ?_
       refine at_guard_yes rfl rfl rfl ?_
       refine av rfl (r_ineq rfl rfl) ?_
       refine at_guard_yes rfl rfl rfl ?_
       refine av rfl (r_pick rfl rfl rfl) ?_
       refine av rfl (r_pick rfl rfl rfl) ?_
       refine av rfl (r_move rfl) ?_
       rcases of_ite hF with ⟨h43, hF⟩ | ⟨h43, hF⟩
       ·refine at_fix (g := 43) rfl h43 ?_
        refine at_guard_no rfl rfl rfl rfl rfl ?_
        refine at_guard_no rfl rfl rfl rfl rfl ?_
        refine at_guard_no rfl rfl rfl rfl rfl ?_
        refine at_guard_no rfl rfl rfl rfl rfl ?_
        refine av rfl (r_pick rfl rfl rfl) ?_
        refine nwt [(1, _), (48, _)] ⟨rfl, rfl, trivial⟩ ?_
        refine at_cond_true rfl rfl ?_
        refine sr ?_
        refine av rfl (r_assign rfl) ?_
        refine at_nil ?_
        refine at_drop (H := _) .z ?_
        refine at_weak [(2, _)] ⟨rfl, trivial⟩ ?_
        refine at_then_normal ?_
        refine rt ?_
        have K := of_some hF
        subst K
        exact at_return1 rfl rfl (fun w1 hw => ⟨rfl, hw.below⟩)
       ·refine at_fix (g := 43) rfl h43 ?_
        refine at_guard_yes rfl rfl rfl ?_
        refine av rfl (r_fieldAddr (fo := 38) Try.underlying27 rfl rfl (fun w => ⟨_, Try.sizeOf25 w⟩) rfl) ?_
        refine at_guard_yes rfl rfl rfl ?_
        refine av rfl (r_load_cell Try.isAgg25 rfl (lens_cell0 (c := cHd) (y := ⟨g0_.1, List.length x0.f_Peers, g0_.2⟩) .z (c_api_Request_f_Peers g0_ x0) rfl)) ?_
        refine at_guard_yes rfl rfl rfl ?_
        refine av rfl (r_len_sl Try.underlying25 rfl) ?_
        refine at_guard_yes rfl rfl rfl ?_
        refine av rfl (r_igtr rfl rfl) ?_
        refine av rfl (r_pick rfl rfl rfl) ?_
        refine nwt [(1, _), (48, _)] ⟨rfl, rfl, trivial⟩ ?_
        rcases of_ite hF with ⟨h44, hF⟩ | ⟨h44, hF⟩
        ·refine at_cond_true rfl h44 ?_
         refine sr ?_
         refine av rfl (r_assign rfl) ?_
         refine at_nil ?_
         refine at_drop (H := _) .z ?_
         refine at_weak [(2, _)] ⟨rfl, trivial⟩ ?_
         refine at_then_normal ?_
         refine rt ?_
         have K := of_some hF
         subst K
         exact at_return1 rfl rfl (fun w1 hw => ⟨rfl, hw.below⟩)
        ·refine at_cond_false rfl h44 ?_
         refine sn ?_
         refine at_seq ?_
         refine sr ?_
         refine av rfl (r_assign rfl) ?_
         refine nwt [(1, _), (3, _)] ⟨rfl, rfl, trivial⟩ ?_
         refine at_block ?_
         obtain ⟨q45, hq45, hF⟩ := of_bindM hF
         refine at_weak [(1, _), (3, _)] ⟨rfl, rfl, trivial⟩ ?_
         refine at_loop_r (B := 0) (r := r) (q := q45) (A := fun (_ : Unit) Y => At 63 [] (Wd w []) Y) ?_ ?_
         ·intro K
          refine crawlwayref32_Right.l2.partial_correctness x0 (motive := fun i46 x => KR (fun (_ : Unit) Y => At 63 [] (Wd w []) Y) _ 0 r x → Round (fun Y => At 63 [(1, .pointer (some ⟨b1, 0, none⟩)), (3, .int .i64 i46)] (Wd w [cellsE b1 (Cd.cs c_api_Request (g0_, x0)) 27]) Y) _ _ _) ?_ _ _ hq45 K
          ·clear K hF
           intro g ih i46 x hF K
           refine at_round ?_
           refine at_seq ?_
           refine sr ?_
           refine av rfl (r_move rfl) ?_
           refine av rfl (r_fieldAddr (fo := 38) Try.underlying27 rfl rfl (fun w => ⟨_, Try.sizeOf25 w⟩) rfl) ?_
           refine av rfl (r_load_cell Try.isAgg25 rfl (lens_cell0 (c := cHd) (y := ⟨g0_.1, List.length x0.f_Peers, g0_.2⟩) .z (c_api_Request_f_Peers g0_ x0) rfl)) ?_
           refine av rfl (r_len_sl Try.underlying25 rfl) ?_
           refine av rfl (r_ilss rfl rfl) ?_
           refine nwt [(1, _), (3, _), (53, _)] ⟨rfl, rfl, rfl, trivial⟩ ?_
           rcases of_ite hF with ⟨h47, hF⟩ | ⟨h47, hF⟩
           ·refine at_cond_true rfl h47 ?_
            refine sn ?_
            refine at_seq ?_
            refine at_block ?_
            refine sr ?_
            refine av rfl (r_fieldAddr (fo := 38) Try.underlying27 rfl rfl (fun w => ⟨_, Try.sizeOf25 w⟩) rfl) ?_
            refine av rfl (r_load_cell Try.isAgg25 rfl (lens_cell0 (c := cHd) (y := ⟨g0_.1, List.length x0.f_Peers, g0_.2⟩) .z (c_api_Request_f_Peers g0_ x0) rfl)) ?_
            refine av rfl (r_move rfl) ?_
            obtain ⟨h48, hF⟩ := of_guard hF
            obtain ⟨zs52, hz53, hr54, hn55⟩ := hn0
            obtain ⟨b50, o51, hp49⟩ := row_ptr hr54 (zidx hz53 h48)
            obtain ⟨g56, hg57⟩ := zget hz53 i46
            refine av rfl (r_idx Try.underlying25 Try.sizeOf37 rfl rfl h48 hp49) ?_
            refine av rfl (r_load_aggc (c := c_api_PeerChange) (z := (g56, lget x0.f_Peers i46)) Try.isAgg37 Try.sizeOf37 rfl (ncell (fun _ h => h.below) hr54 (zidx hz53 h48) hp49 hg57)) ?_
            obtain ⟨t58, ht58, hF⟩ := of_bindM hF
            refine at_callB Try.func16 rfl (by kernel_rfl) rfl rfl (fun w hw => crawlwayref32_RightPeer_ok _ _ _ ht58 w (N_api_PeerChange.below (nz hg57 hn55 (zidx hz53 h48)) hw.below)) ?_
            refine av rfl (r_not rfl) ?_
            refine nwt [(1, _), (3, _), (62, _)] ⟨rfl, rfl, rfl, trivial⟩ ?_
            rcases of_ite hF with ⟨h59, hF⟩ | ⟨h59, hF⟩
            ·refine at_cond_true rfl h59 ?_
             refine sr ?_
             refine av rfl (r_assign rfl) ?_
             refine at_nil ?_
             refine at_drop (H := _) .z ?_
             refine at_weak [(2, _)] ⟨rfl, trivial⟩ ?_
             refine at_then_normal ?_
             refine at_ret ?_
             refine at_blk_ret (at_then_ret (at_then_ret (at_blk_ret (at_then_ret ?_))))
             obtain rfl := of_some hF
             subst K
             exact at_return1 rfl rfl (fun w1 hw => ⟨rfl, hw.below⟩)
            ·refine at_cond_false rfl h59 ?_
             refine at_skip ?_
             refine at_blk_normal (at_then_normal ?_)
             refine at_region ?_
             refine av rfl (r_move rfl) ?_
             refine av rfl (r_iadd rfl rfl) ?_
             refine av rfl (r_assign rfl) ?_
             refine nwt [(1, _), (3, _)] ⟨rfl, rfl, trivial⟩ ?_
             exact at_weak_k (ih _ _ hF K) ⟨rfl, rfl, trivial⟩
           ·refine at_cond_false rfl h47 ?_
            refine at_exit ?_
            refine at_then_exit (at_then_exit ?_)
            refine at_drop (H := _) .z ?_
            obtain rfl := of_some hF
            exact at_weak_k K trivial
         ·cases q45 with
          | ret r' => exact of_some hF
          | nx sq45 =>
           skip
           refine at_blk_same ?_
           refine at_then_normal ?_
           refine sr ?_
           refine av rfl (r_assign rfl) ?_
           refine nwt [(2, _)] ⟨rfl, trivial⟩ ?_
           refine at_ret ?_
           have K := of_some hF
           subst K
           exact at_return1 rfl rfl (fun w1 hw => ⟨rfl, hw.below⟩)
      ·refine at_fix (g := 37) rfl h42 ?_
       refine at_guard_no rfl rfl rfl rfl rfl ?_
       refine at_guard_no rfl rfl rfl rfl rfl ?_
       refine at_guard_no rfl rfl rfl rfl rfl ?_
       refine at_guard_yes rfl rfl rfl ?_
       refine av rfl (r_pick rfl rfl rfl) ?_
       refine av rfl (r_pick rfl rfl rfl) ?_
       refine av rfl (r_move rfl) ?_
       refine at_guard_yes rfl rfl rfl ?_
       refine av rfl (r_fieldAddr (fo := 38) Try.underlying27 rfl rfl (fun w => ⟨_, Try.sizeOf25 w⟩) rfl) ?_
       refine at_guard_yes rfl rfl rfl ?_
       refine av rfl (r_load_cell Try.isAgg25 rfl (lens_cell0 (c := cHd) (y := ⟨g0_.1, List.length x0.f_Peers, g0_.2⟩) .z (c_api_Request_f_Peers g0_ x0) rfl)) ?_
       refine at_guard_yes rfl rfl rfl ?_
       refine av rfl (r_len_sl Try.underlying25 rfl) ?_
       refine at_guard_yes rfl rfl rfl ?_
       refine av rfl (r_igtr rfl rfl) ?_
       refine av rfl (r_pick rfl rfl rfl) ?_
       refine nwt [(1, _), (48, _)] ⟨rfl, rfl, trivial⟩ ?_
       rcases of_ite hF with ⟨h60, hF⟩ | ⟨h60, hF⟩
       ·refine at_cond_true rfl h60 ?_
        refine sr ?_
        refine av rfl (r_assign rfl) ?_
        refine at_nil ?_
        refine at_drop (H := _) .z ?_
        refine at_weak [(2, _)] ⟨rfl, trivial⟩ ?_
        refine at_then_normal ?_
        refine rt ?_
        have K := of_some hF
        subst K
        exact at_return1 rfl rfl (fun w1 hw => ⟨rfl, hw.below⟩)
       ·refine at_cond_false rfl h60 ?_
        refine sn ?_
        refine at_seq ?_
        refine sr ?_
        refine av rfl (r_assign rfl) ?_
        refine nwt [(1, _), (3, _)] ⟨rfl, rfl, trivial⟩ ?_
        refine at_block ?_
        obtain ⟨q61, hq61, hF⟩ := of_bindM hF
        refine at_weak [(1, _), (3, _)] ⟨rfl, rfl, trivial⟩ ?_
        refine at_loop_r (B := 0) (r := r) (q := q61) (A := fun (_ : Unit) Y => At 63 [] (Wd w []) Y) ?_ ?_
        ·intro K
         refine crawlwayref32_Right.l3.partial_correctness x0 (motive := fun i62 x => KR (fun (_ : Unit) Y => At 63 [] (Wd w []) Y) _ 0 r x → Round (fun Y => At 63 [(1, .pointer (some ⟨b1, 0, none⟩)), (3, .int .i64 i62)] (Wd w [cellsE b1 (Cd.cs c_api_Request (g0_, x0)) 27]) Y) _ _ _) ?_ _ _ hq61 K
         ·clear K hF
          intro g ih i62 x hF K
          refine at_round ?_
          refine at_seq ?_
          refine sr ?_
          refine av rfl (r_move rfl) ?_
          refine av rfl (r_fieldAddr (fo := 38) Try.underlying27 rfl rfl (fun w => ⟨_, Try.sizeOf25 w⟩) rfl) ?_
          refine av rfl (r_load_cell Try.isAgg25 rfl (lens_cell0 (c := cHd) (y := ⟨g0_.1, List.length x0.f_Peers, g0_.2⟩) .z (c_api_Request_f_Peers g0_ x0) rfl)) ?_
          refine av rfl (r_len_sl Try.underlying25 rfl) ?_
          refine av rfl (r_ilss rfl rfl) ?_
          refine nwt [(1, _), (3, _), (53, _)] ⟨rfl, rfl, rfl, trivial⟩ ?_
          rcases of_ite hF with ⟨h63, hF⟩ | ⟨h63, hF⟩
          ·refine at_cond_true rfl h63 ?_
           refine sn ?_
           refine at_seq ?_
           refine at_block ?_
           refine sr ?_
           refine av rfl (r_fieldAddr (fo := 38) Try.underlying27 rfl rfl (fun w => ⟨_, Try.sizeOf25 w⟩) rfl) ?_
           refine av rfl (r_load_cell Try.isAgg25 rfl (lens_cell0 (c := cHd) (y := ⟨g0_.1, List.length x0.f_Peers, g0_.2⟩) .z (c_api_Request_f_Peers g0_ x0) rfl)) ?_
           refine av rfl (r_move rfl) ?_
           obtain ⟨h64, hF⟩ := of_guard hF
           obtain ⟨zs68, hz69, hr70, hn71⟩ := hn0
           obtain ⟨b66, o67, hp65⟩ := row_ptr hr70 (zidx hz69 h64)
           obtain ⟨g72, hg73⟩ := zget hz69 i62
           refine av rfl (r_idx Try.underlying25 Try.sizeOf37 rfl rfl h64 hp65) ?_
           refine av rfl (r_load_aggc (c := c_api_PeerChange) (z := (g72, lget x0.f_Peers i62)) Try.isAgg37 Try.sizeOf37 rfl (ncell (fun _ h => h.below) hr70 (zidx hz69 h64) hp65 hg73)) ?_
           obtain ⟨t74, ht74, hF⟩ := of_bindM hF
           refine at_callB Try.func16 rfl (by kernel_rfl) rfl rfl (fun w hw => crawlwayref32_RightPeer_ok _ _ _ ht74 w (N_api_PeerChange.below (nz hg73 hn71 (zidx hz69 h64)) hw.below)) ?_
           refine av rfl (r_not rfl) ?_
           refine nwt [(1, _), (3, _), (62, _)] ⟨rfl, rfl, rfl, trivial⟩ ?_
           rcases of_ite hF with ⟨h75, hF⟩ | ⟨h75, hF⟩
           ·refine at_cond_true rfl h75 ?_
            refine sr ?_
            refine av rfl (r_assign rfl) ?_
            refine at_nil ?_
            refine at_drop (H := _) .z ?_
            refine at_weak [(2, _)] ⟨rfl, trivial⟩ ?_
            refine at_then_normal ?_
            refine at_ret ?_
            refine at_blk_ret (at_then_ret (at_then_ret (at_blk_ret (at_then_ret ?_))))
            obtain rfl := of_some hF
            subst K
            exact at_return1 rfl rfl (fun w1 hw => ⟨rfl, hw.below⟩)
           ·refine at_cond_false rfl h75 ?_
            refine at_skip ?_
            refine at_blk_normal (at_then_normal ?_)
            refine at_region ?_
            refine av rfl (r_move rfl) ?_
            refine av rfl (r_iadd rfl rfl) ?_
            refine av rfl (r_assign rfl) ?_
            refine nwt [(1, _), (3, _)] ⟨rfl, rfl, trivial⟩ ?_
            exact at_weak_k (ih _ _ hF K) ⟨rfl, rfl, trivial⟩
          ·refine at_cond_false rfl h63 ?_
           refine at_exit ?_
           refine at_then_exit (at_then_exit ?_)
           refine at_drop (H := _) .z ?_
           obtain rfl := of_some hF
           exact at_weak_k K trivial
        ·cases q61 with
         | ret r' => exact of_some hF
         | nx sq61 =>
          skip
          refine at_blk_same ?_
          refine at_then_normal ?_
          refine sr ?_
          refine av rfl (r_assign rfl) ?_
          refine nwt [(2, _)] ⟨rfl, trivial⟩ ?_
          refine at_ret ?_
          have K := of_some hF
          subst K
          exact at_return1 rfl rfl (fun w1 hw => ⟨rfl, hw.below⟩)
 ·refine at_fix (g := 7) rfl h2 ?_
  refine at_guard_no rfl rfl rfl rfl rfl ?_
  refine at_guard_no rfl rfl rfl rfl rfl ?_
  refine at_guard_no rfl rfl rfl rfl rfl ?_
  refine at_guard_no rfl rfl rfl rfl rfl ?_
  refine av rfl (r_pick rfl rfl rfl) ?_
  refine av rfl (r_move rfl) ?_
  refine at_guard_yes rfl rfl rfl ?_
  refine av rfl (r_fieldAddr (fo := 34) Try.underlying27 rfl rfl (fun w => ⟨_, Try.sizeOf3 w⟩) rfl) ?_
  refine at_guard_yes rfl rfl rfl ?_
  refine av rfl (r_load_cell Try.isAgg3 rfl (lens_cell0 (c := (cInt .i64)) (y := x0.f_Port) .z (c_api_Request_f_Port g0_ x0) rfl)) ?_
  refine at_guard_yes rfl rfl rfl ?_
  refine av rfl (r_ilss rfl rfl) ?_
  refine av rfl (r_pick rfl rfl rfl) ?_
  refine av rfl (r_move rfl) ?_
  rcases of_ite hF with ⟨h76, hF⟩ | ⟨h76, hF⟩
  ·refine at_fix (g := 18) rfl h76 ?_
   refine at_guard_no rfl rfl rfl rfl rfl ?_
   refine at_guard_no rfl rfl rfl rfl rfl ?_
   refine at_guard_no rfl rfl rfl rfl rfl ?_
   refine av rfl (r_pick rfl rfl rfl) ?_
   refine av rfl (r_move rfl) ?_
   refine at_guard_no rfl rfl rfl rfl rfl ?_
   refine at_guard_no rfl rfl rfl rfl rfl ?_
   refine at_guard_no rfl rfl rfl rfl rfl ?_
   refine at_guard_no rfl rfl rfl rfl rfl ?_
   refine at_guard_undef rfl rfl rfl rfl ?_
   refine at_guard_undef rfl rfl rfl rfl ?_
   refine at_guard_undef rfl rfl rfl rfl ?_
   refine at_guard_no rfl rfl rfl rfl rfl ?_
   refine av rfl (r_pick rfl rfl rfl) ?_
   refine av rfl (r_move rfl) ?_
   refine at_guard_no rfl rfl rfl rfl rfl ?_
   refine at_guard_no rfl rfl rfl rfl rfl ?_
   refine at_guard_no rfl rfl rfl rfl rfl ?_
   refine at_guard_no rfl rfl rfl rfl rfl ?_
   refine at_guard_undef rfl rfl rfl rfl ?_
   refine at_guard_undef rfl rfl rfl rfl ?_
   refine at_guard_undef rfl rfl rfl rfl ?_
   refine at_guard_no rfl rfl rfl rfl rfl ?_
   refine av rfl (r_pick rfl rfl rfl) ?_
   refine av rfl (r_move rfl) ?_
   refine at_guard_no rfl rfl rfl rfl rfl ?_
   refine at_guard_no rfl rfl rfl rfl rfl ?_
   refine at_guard_no rfl rfl rfl rfl rfl ?_
   refine at_guard_no rfl rfl rfl rfl rfl ?_
   refine av rfl (r_pick rfl rfl rfl) ?_
   refine nwt [(1, _), (48, _)] ⟨rfl, rfl, trivial⟩ ?_
   refine at_cond_true rfl rfl ?_
   refine sr ?_
   refine av rfl (r_assign rfl) ?_
   refine at_nil ?_
   refine at_drop (H := _) .z ?_
   refine at_weak [(2, _)] ⟨rfl, trivial⟩ ?_
   refine at_then_normal ?_
   refine rt ?_
   have K := of_some hF
   subst K
   exact at_return1 rfl rfl (fun w1 hw => ⟨rfl, hw.below⟩)
  ·refine at_fix (g := 18) rfl h76 ?_
   refine at_guard_yes rfl rfl rfl ?_
   refine av rfl (r_fieldAddr (fo := 34) Try.underlying27 rfl rfl (fun w => ⟨_, Try.sizeOf3 w⟩) rfl) ?_
   refine at_guard_yes rfl rfl rfl ?_
   refine av rfl (r_load_cell Try.isAgg3 rfl (lens_cell0 (c := (cInt .i64)) (y := x0.f_Port) .z (c_api_Request_f_Port g0_ x0) rfl)) ?_
   refine at_guard_yes rfl rfl rfl ?_
   refine av rfl (r_igtr rfl rfl) ?_
   refine av rfl (r_pick rfl rfl rfl) ?_
   refine av rfl (r_move rfl) ?_
   rcases of_ite hF with ⟨h77, hF⟩ | ⟨h77, hF⟩
   ·refine at_fix (g := 23) rfl h77 ?_
    refine at_guard_no rfl rfl rfl rfl rfl ?_
    refine at_guard_no rfl rfl rfl rfl rfl ?_
    refine at_guard_no rfl rfl rfl rfl rfl ?_
    refine at_guard_no rfl rfl rfl rfl rfl ?_
    refine at_guard_undef rfl rfl rfl rfl ?_
    refine at_guard_undef rfl rfl rfl rfl ?_
    refine at_guard_undef rfl rfl rfl rfl ?_
    refine at_guard_no rfl rfl rfl rfl rfl ?_
    refine av rfl (r_pick rfl rfl rfl) ?_
    refine av rfl (r_move rfl) ?_
    refine at_guard_no rfl rfl rfl rfl rfl ?_
    refine at_guard_no rfl rfl rfl rfl rfl ?_
    refine at_guard_no rfl rfl rfl rfl rfl ?_
    refine at_guard_no rfl rfl rfl rfl rfl ?_
    refine at_guard_undef rfl rfl rfl rfl ?_
    refine at_guard_undef rfl rfl rfl rfl ?_
    refine at_guard_undef rfl rfl rfl rfl ?_
    refine at_guard_no rfl rfl rfl rfl rfl ?_
    refine av rfl (r_pick rfl rfl rfl) ?_
    refine av rfl (r_move rfl) ?_
    refine at_guard_no rfl rfl rfl rfl rfl ?_
    refine at_guard_no rfl rfl rfl rfl rfl ?_
    refine at_guard_no rfl rfl rfl rfl rfl ?_
    refine at_guard_no rfl rfl rfl rfl rfl ?_
    refine av rfl (r_pick rfl rfl rfl) ?_
    refine nwt [(1, _), (48, _)] ⟨rfl, rfl, trivial⟩ ?_
    refine at_cond_true rfl rfl ?_
    refine sr ?_
    refine av rfl (r_assign rfl) ?_
    refine at_nil ?_
    refine at_drop (H := _) .z ?_
    refine at_weak [(2, _)] ⟨rfl, trivial⟩ ?_
    refine at_then_normal ?_
    refine rt ?_
    have K := of_some hF
    subst K
    exact at_return1 rfl rfl (fun w1 hw => ⟨rfl, hw.below⟩)
   ·refine at_fix (g := 23) rfl h77 ?_
    refine at_guard_yes rfl rfl rfl ?_
    refine av rfl (r_fieldAddr (fo := 33) Try.underlying27 rfl rfl (fun w => ⟨_, Try.sizeOf4 w⟩) rfl) ?_
    refine at_guard_yes rfl rfl rfl ?_
    refine av rfl (r_load_cell Try.isAgg4 rfl (lens_cell0 (c := cBool) (y := x0.f_HasPort) .z (c_api_Request_f_HasPort g0_ x0) rfl)) ?_
    refine at_guard_yes rfl rfl rfl ?_
    refine av rfl (r_not rfl) ?_
    refine at_guard_yes rfl rfl rfl ?_
    refine av rfl (r_move rfl) ?_
    rcases of_ite hF with ⟨h78, hF⟩ | ⟨h78, hF⟩
    ·refine at_fix (g := 27) rfl h78 ?_
     refine at_guard_yes rfl rfl rfl ?_
     refine av rfl (r_fieldAddr (fo := 34) Try.underlying27 rfl rfl (fun w => ⟨_, Try.sizeOf3 w⟩) rfl) ?_
     refine at_guard_yes rfl rfl rfl ?_
     refine av rfl (r_load_cell Try.isAgg3 rfl (lens_cell0 (c := (cInt .i64)) (y := x0.f_Port) .z (c_api_Request_f_Port g0_ x0) rfl)) ?_
     refine at_guard_yes rfl rfl rfl ?_
     refine av rfl (r_ineq rfl rfl) ?_
     refine at_guard_yes rfl rfl rfl ?_
     refine av rfl (r_pick rfl rfl rfl) ?_
     refine av rfl (r_pick rfl rfl rfl) ?_
     refine av rfl (r_move rfl) ?_
     rcases of_ite hF with ⟨h79, hF⟩ | ⟨h79, hF⟩
     ·refine at_fix (g := 33) rfl h79 ?_
      refine at_guard_no rfl rfl rfl rfl rfl ?_
      refine at_guard_no rfl rfl rfl rfl rfl ?_
      refine at_guard_no rfl rfl rfl rfl rfl ?_
      refine at_guard_no rfl rfl rfl rfl rfl ?_
      refine at_guard_undef rfl rfl rfl rfl ?_
      refine at_guard_undef rfl rfl rfl rfl ?_
      refine at_guard_undef rfl rfl rfl rfl ?_
      refine at_guard_no rfl rfl rfl rfl rfl ?_
      refine av rfl (r_pick rfl rfl rfl) ?_
      refine av rfl (r_move rfl) ?_
      refine at_guard_no rfl rfl rfl rfl rfl ?_
      refine at_guard_no rfl rfl rfl rfl rfl ?_
      refine at_guard_no rfl rfl rfl rfl rfl ?_
      refine at_guard_no rfl rfl rfl rfl rfl ?_
      refine av rfl (r_pick rfl rfl rfl) ?_
      refine nwt [(1, _), (48, _)] ⟨rfl, rfl, trivial⟩ ?_
      refine at_cond_true rfl rfl ?_
      refine sr ?_
      refine av rfl (r_assign rfl) ?_
      refine at_nil ?_
      refine at_drop (H := _) .z ?_
      refine at_weak [(2, _)] ⟨rfl, trivial⟩ ?_
      refine at_then_normal ?_
      refine rt ?_
      have K := of_some hF
      subst K
      exact at_return1 rfl rfl (fun w1 hw => ⟨rfl, hw.below⟩)
     ·refine at_fix (g := 33) rfl h79 ?_
      refine at_guard_yes rfl rfl rfl ?_
      refine av rfl (r_fieldAddr (fo := 35) Try.underlying27 rfl rfl (fun w => ⟨_, Try.sizeOf4 w⟩) rfl) ?_
      refine at_guard_yes rfl rfl rfl ?_
      refine av rfl (r_load_cell Try.isAgg4 rfl (lens_cell0 (c := cBool) (y := x0.f_HasMark) .z (c_api_Request_f_HasMark g0_ x0) rfl)) ?_
      refine at_guard_yes rfl rfl rfl ?_
      refine av rfl (r_not rfl) ?_
      refine at_guard_yes rfl rfl rfl ?_
      refine av rfl (r_move rfl) ?_
      rcases of_ite hF with ⟨h80, hF⟩ | ⟨h80, hF⟩
      ·refine at_fix (g := 37) rfl h80 ?_
       refine at_guard_yes rfl rfl rfl ?_
       refine av rfl (r_fieldAddr (fo := 36) Try.underlying27 rfl rfl (fun w => ⟨_, Try.sizeOf24 w⟩) rfl) ?_
       refine at_guard_yes rfl rfl rfl ?_
       refine av rfl (r_load_cell Try.isAgg24 rfl (lens_cell0 (c := (cInt .u32)) (y := x0.f_Mark) .z (c_api_Request_f_Mark g0_ x0) rfl)) ?_
       refine at_guard_yes rfl rfl rfl ?_
       refine av rfl (r_ineq rfl rfl) ?_
       refine at_guard_yes rfl rfl rfl ?_
       refine av rfl (r_pick rfl rfl rfl) ?_
       refine av rfl (r_pick rfl rfl rfl) ?_
       refine av rfl (r_move rfl) ?_
       rcases of_ite hF with ⟨h81, hF⟩ | ⟨h81, hF⟩
       ·refine at_fix (g := 43) rfl h81 ?_
        refine at_guard_no rfl rfl rfl rfl rfl ?_
        refine at_guard_no rfl rfl rfl rfl rfl ?_
        refine at_guard_no rfl rfl rfl rfl rfl ?_
        refine at_guard_no rfl rfl rfl rfl rfl ?_
        refine av rfl (r_pick rfl rfl rfl) ?_
        refine nwt [(1, _), (48, _)] ⟨rfl, rfl, trivial⟩ ?_
        refine at_cond_true rfl rfl ?_
        refine sr ?_
        refine av rfl (r_assign rfl) ?_
        refine at_nil ?_
        refine at_drop (H := _) .z ?_
        refine at_weak [(2, _)] ⟨rfl, trivial⟩ ?_
        refine at_then_normal ?_
        refine rt ?_
        have K := of_some hF
        subst K
        exact at_return1 rfl rfl (fun w1 hw => ⟨rfl, hw.below⟩)
       ·refine at_fix (g := 43) rfl h81 ?_
        refine at_guard_yes rfl rfl rfl ?_
        refine av rfl (r_fieldAddr (fo := 38) Try.underlying27 rfl rfl (fun w => ⟨_, Try.sizeOf25 w⟩) rfl) ?_
        refine at_guard_yes rfl rfl rfl ?_
        refine av rfl (r_load_cell Try.isAgg25 rfl (lens_cell0 (c := cHd) (y := ⟨g0_.1, List.length x0.f_Peers, g0_.2⟩) .z (c_api_Request_f_Peers g0_ x0) rfl)) ?_
        refine at_guard_yes rfl rfl rfl ?_
        refine av rfl (r_len_sl Try.underlying25 rfl) ?_
        refine at_guard_yes rfl rfl rfl ?_
        refine av rfl (r_igtr rfl rfl) ?_
        refine av rfl (r_pick rfl rfl rfl) ?_
        refine nwt [(1, _), (48, _)] ⟨rfl, rfl, trivial⟩ ?_
        rcases of_ite hF with ⟨h82, hF⟩ | ⟨h82, hF⟩
        ·refine at_cond_true rfl h82 ?_
         refine sr ?_
         refine av rfl (r_assign rfl) ?_
         refine at_nil ?_
         refine at_drop (H := _) .z ?_
         refine at_weak [(2, _)] ⟨rfl, trivial⟩ ?_
         refine at_then_normal ?_
         refine rt ?_
         have K := of_some hF
         subst K
         exact at_return1 rfl rfl (fun w1 hw => ⟨rfl, hw.below⟩)
        ·refine at_cond_false rfl h82 ?_
         refine sn ?_
         refine at_seq ?_
         refine sr ?_
         refine av rfl (r_assign rfl) ?_
         refine nwt [(1, _), (3, _)] ⟨rfl, rfl, trivial⟩ ?_
         refine at_block ?_
         obtain ⟨q83, hq83, hF⟩ := of_bindM hF
         refine at_weak [(1, _), (3, _)] ⟨rfl, rfl, trivial⟩ ?_
         refine at_loop_r (B := 0) (r := r) (q := q83) (A := fun (_ : Unit) Y => At 63 [] (Wd w []) Y) ?_ ?_
         ·intro K
          refine crawlwayref32_Right.l4.partial_correctness x0 (motive := fun i84 x => KR (fun (_ : Unit) Y => At 63 [] (Wd w []) Y) _ 0 r x → Round (fun Y => At 63 [(1, .pointer (some ⟨b1, 0, none⟩)), (3, .int .i64 i84)] (Wd w [cellsE b1 (Cd.cs c_api_Request (g0_, x0)) 27]) Y) _ _ _) ?_ _ _ hq83 K
          ·clear K hF
           intro g ih i84 x hF K
           refine at_round ?_
           refine at_seq ?_
           refine sr ?_
           refine av rfl (r_move rfl) ?_
           refine av rfl (r_fieldAddr (fo := 38) Try.underlying27 rfl rfl (fun w => ⟨_, Try.sizeOf25 w⟩) rfl) ?_
           refine av rfl (r_load_cell Try.isAgg25 rfl (lens_cell0 (c := cHd) (y := ⟨g0_.1, List.length x0.f_Peers, g0_.2⟩) .z (c_api_Request_f_Peers g0_ x0) rfl)) ?_
           refine av rfl (r_len_sl Try.underlying25 rfl) ?_
           refine av rfl (r_ilss rfl rfl) ?_
           refine nwt [(1, _), (3, _), (53, _)] ⟨rfl, rfl, rfl, trivial⟩ ?_
           rcases of_ite hF with ⟨h85, hF⟩ | ⟨h85, hF⟩
           ·refine at_cond_true rfl h85 ?_
            refine sn ?_
            refine at_seq ?_
            refine at_block ?_
            refine sr ?_
            refine av rfl (r_fieldAddr (fo := 38) Try.underlying27 rfl rfl (fun w => ⟨_, Try.sizeOf25 w⟩) rfl) ?_
            refine av rfl (r_load_cell Try.isAgg25 rfl (lens_cell0 (c := cHd) (y := ⟨g0_.1, List.length x0.f_Peers, g0_.2⟩) .z (c_api_Request_f_Peers g0_ x0) rfl)) ?_
            refine av rfl (r_move rfl) ?_
            obtain ⟨h86, hF⟩ := of_guard hF
            obtain ⟨zs90, hz91, hr92, hn93⟩ := hn0
            obtain ⟨b88, o89, hp87⟩ := row_ptr hr92 (zidx hz91 h86)
            obtain ⟨g94, hg95⟩ := zget hz91 i84
            refine av rfl (r_idx Try.underlying25 Try.sizeOf37 rfl rfl h86 hp87) ?_
            refine av rfl (r_load_aggc (c := c_api_PeerChange) (z := (g94, lget x0.f_Peers i84)) Try.isAgg37 Try.sizeOf37 rfl (ncell (fun _ h => h.below) hr92 (zidx hz91 h86) hp87 hg95)) ?_
            obtain ⟨t96, ht96, hF⟩ := of_bindM hF
            refine at_callB Try.func16 rfl (by kernel_rfl) rfl rfl (fun w hw => crawlwayref32_RightPeer_ok _ _ _ ht96 w (N_api_PeerChange.below (nz hg95 hn93 (zidx hz91 h86)) hw.below)) ?_
            refine av rfl (r_not rfl) ?_
            refine nwt [(1, _), (3, _), (62, _)] ⟨rfl, rfl, rfl, trivial⟩ ?_
            rcases of_ite hF with ⟨h97, hF⟩ | ⟨h97, hF⟩
            ·refine at_cond_true rfl h97 ?_
             refine sr ?_
             refine av rfl (r_assign rfl) ?_
             refine at_nil ?_
             refine at_drop (H := _) .z ?_
             refine at_weak [(2, _)] ⟨rfl, trivial⟩ ?_
             refine at_then_normal ?_
             refine at_ret ?_
             refine at_blk_ret (at_then_ret (at_then_ret (at_blk_ret (at_then_ret ?_))))
             obtain rfl := of_some hF
             subst K
             exact at_return1 rfl rfl (fun w1 hw => ⟨rfl, hw.below⟩)
            ·refine at_cond_false rfl h97 ?_
             refine at_skip ?_
             refine at_blk_normal (at_then_normal ?_)
             refine at_region ?_
             refine av rfl (r_move rfl) ?_
             refine av rfl (r_iadd rfl rfl) ?_
             refine av rfl (r_assign rfl) ?_
             refine nwt [(1, _), (3, _)] ⟨rfl, rfl, trivial⟩ ?_
             exact at_weak_k (ih _ _ hF K) ⟨rfl, rfl, trivial⟩
           ·refine at_cond_false rfl h85 ?_
            refine at_exit ?_
            refine at_then_exit (at_then_exit ?_)
            refine at_drop (H := _) .z ?_
            obtain rfl := of_some hF
            exact at_weak_k K trivial
         ·cases q83 with
          | ret r' => exact of_some hF
          | nx sq83 =>
           skip
           refine at_blk_same ?_
           refine at_then_normal ?_
           refine sr ?_
           refine av rfl (r_assign rfl) ?_
           refine nwt [(2, _)] ⟨rfl, trivial⟩ ?_
           refine at_ret ?_
           have K := of_some hF
           subst K
           exact at_return1 rfl rfl (fun w1 hw => ⟨rfl, hw.below⟩)
      ·refine at_fix (g := 37) rfl h80 ?_
       refine at_guard_no rfl rfl rfl rfl rfl ?_
       refine at_guard_no rfl rfl rfl rfl rfl ?_
       refine at_guard_no rfl rfl rfl rfl rfl ?_
       refine at_guard_yes rfl rfl rfl ?_
       refine av rfl (r_pick rfl rfl rfl) ?_
       refine av rfl (r_pick rfl rfl rfl) ?_
       refine av rfl (r_move rfl) ?_
       refine at_guard_yes rfl rfl rfl ?_
       refine av rfl (r_fieldAddr (fo := 38) Try.underlying27 rfl rfl (fun w => ⟨_, Try.sizeOf25 w⟩) rfl) ?_
       refine at_guard_yes rfl rfl rfl ?_
       refine av rfl (r_load_cell Try.isAgg25 rfl (lens_cell0 (c := cHd) (y := ⟨g0_.1, List.length x0.f_Peers, g0_.2⟩) .z (c_api_Request_f_Peers g0_ x0) rfl)) ?_
       refine at_guard_yes rfl rfl rfl ?_
       refine av rfl (r_len_sl Try.underlying25 rfl) ?_
       refine at_guard_yes rfl rfl rfl ?_
       refine av rfl (r_igtr rfl rfl) ?_
       refine av rfl (r_pick rfl rfl rfl) ?_
       refine nwt [(1, _), (48, _)] ⟨rfl, rfl, trivial⟩ ?_
       rcases of_ite hF with ⟨h98, hF⟩ | ⟨h98, hF⟩
       ·refine at_cond_true rfl h98 ?_
        refine sr ?_
        refine av rfl (r_assign rfl) ?_
        refine at_nil ?_
        refine at_drop (H := _) .z ?_
        refine at_weak [(2, _)] ⟨rfl, trivial⟩ ?_
        refine at_then_normal ?_
        refine rt ?_
        have K := of_some hF
        subst K
        exact at_return1 rfl rfl (fun w1 hw => ⟨rfl, hw.below⟩)
       ·refine at_cond_false rfl h98 ?_
        refine sn ?_
        refine at_seq ?_
        refine sr ?_
        refine av rfl (r_assign rfl) ?_
        refine nwt [(1, _), (3, _)] ⟨rfl, rfl, trivial⟩ ?_
        refine at_block ?_
        obtain ⟨q99, hq99, hF⟩ := of_bindM hF
        refine at_weak [(1, _), (3, _)] ⟨rfl, rfl, trivial⟩ ?_
        refine at_loop_r (B := 0) (r := r) (q := q99) (A := fun (_ : Unit) Y => At 63 [] (Wd w []) Y) ?_ ?_
        ·intro K
         refine crawlwayref32_Right.l5.partial_correctness x0 (motive := fun i100 x => KR (fun (_ : Unit) Y => At 63 [] (Wd w []) Y) _ 0 r x → Round (fun Y => At 63 [(1, .pointer (some ⟨b1, 0, none⟩)), (3, .int .i64 i100)] (Wd w [cellsE b1 (Cd.cs c_api_Request (g0_, x0)) 27]) Y) _ _ _) ?_ _ _ hq99 K
         ·clear K hF
          intro g ih i100 x hF K
          refine at_round ?_
          refine at_seq ?_
          refine sr ?_
          refine av rfl (r_move rfl) ?_
          refine av rfl (r_fieldAddr (fo := 38) Try.underlying27 rfl rfl (fun w => ⟨_, Try.sizeOf25 w⟩) rfl) ?_
          refine av rfl (r_load_cell Try.isAgg25 rfl (lens_cell0 (c := cHd) (y := ⟨g0_.1, List.length x0.f_Peers, g0_.2⟩) .z (c_api_Request_f_Peers g0_ x0) rfl)) ?_
          refine av rfl (r_len_sl Try.underlying25 rfl) ?_
          refine av rfl (r_ilss rfl rfl) ?_
          refine nwt [(1, _), (3, _), (53, _)] ⟨rfl, rfl, rfl, trivial⟩ ?_
          rcases of_ite hF with ⟨h101, hF⟩ | ⟨h101, hF⟩
          ·refine at_cond_true rfl h101 ?_
           refine sn ?_
           refine at_seq ?_
           refine at_block ?_
           refine sr ?_
           refine av rfl (r_fieldAddr (fo := 38) Try.underlying27 rfl rfl (fun w => ⟨_, Try.sizeOf25 w⟩) rfl) ?_
           refine av rfl (r_load_cell Try.isAgg25 rfl (lens_cell0 (c := cHd) (y := ⟨g0_.1, List.length x0.f_Peers, g0_.2⟩) .z (c_api_Request_f_Peers g0_ x0) rfl)) ?_
           refine av rfl (r_move rfl) ?_
           obtain ⟨h102, hF⟩ := of_guard hF
           obtain ⟨zs106, hz107, hr108, hn109⟩ := hn0
           obtain ⟨b104, o105, hp103⟩ := row_ptr hr108 (zidx hz107 h102)
           obtain ⟨g110, hg111⟩ := zget hz107 i100
           refine av rfl (r_idx Try.underlying25 Try.sizeOf37 rfl rfl h102 hp103) ?_
           refine av rfl (r_load_aggc (c := c_api_PeerChange) (z := (g110, lget x0.f_Peers i100)) Try.isAgg37 Try.sizeOf37 rfl (ncell (fun _ h => h.below) hr108 (zidx hz107 h102) hp103 hg111)) ?_
           obtain ⟨t112, ht112, hF⟩ := of_bindM hF
           refine at_callB Try.func16 rfl (by kernel_rfl) rfl rfl (fun w hw => crawlwayref32_RightPeer_ok _ _ _ ht112 w (N_api_PeerChange.below (nz hg111 hn109 (zidx hz107 h102)) hw.below)) ?_
           refine av rfl (r_not rfl) ?_
           refine nwt [(1, _), (3, _), (62, _)] ⟨rfl, rfl, rfl, trivial⟩ ?_
           rcases of_ite hF with ⟨h113, hF⟩ | ⟨h113, hF⟩
           ·refine at_cond_true rfl h113 ?_
            refine sr ?_
            refine av rfl (r_assign rfl) ?_
            refine at_nil ?_
            refine at_drop (H := _) .z ?_
            refine at_weak [(2, _)] ⟨rfl, trivial⟩ ?_
            refine at_then_normal ?_
            refine at_ret ?_
            refine at_blk_ret (at_then_ret (at_then_ret (at_blk_ret (at_then_ret ?_))))
            obtain rfl := of_some hF
            subst K
            exact at_return1 rfl rfl (fun w1 hw => ⟨rfl, hw.below⟩)
           ·refine at_cond_false rfl h113 ?_
            refine at_skip ?_
            refine at_blk_normal (at_then_normal ?_)
            refine at_region ?_
            refine av rfl (r_move rfl) ?_
            refine av rfl (r_iadd rfl rfl) ?_
            refine av rfl (r_assign rfl) ?_
            refine nwt [(1, _), (3, _)] ⟨rfl, rfl, trivial⟩ ?_
            exact at_weak_k (ih _ _ hF K) ⟨rfl, rfl, trivial⟩
          ·refine at_cond_false rfl h101 ?_
           refine at_exit ?_
           refine at_then_exit (at_then_exit ?_)
           refine at_drop (H := _) .z ?_
           obtain rfl := of_some hF
           exact at_weak_k K trivial
        ·cases q99 with
         | ret r' => exact of_some hF
         | nx sq99 =>
          skip
          refine at_blk_same ?_
          refine at_then_normal ?_
          refine sr ?_
          refine av rfl (r_assign rfl) ?_
          refine nwt [(2, _)] ⟨rfl, trivial⟩ ?_
          refine at_ret ?_
          have K := of_some hF
          subst K
          exact at_return1 rfl rfl (fun w1 hw => ⟨rfl, hw.below⟩)
    ·refine at_fix (g := 27) rfl h78 ?_
     refine at_guard_no rfl rfl rfl rfl rfl ?_
     refine at_guard_no rfl rfl rfl rfl rfl ?_
     refine at_guard_no rfl rfl rfl rfl rfl ?_
     refine at_guard_yes rfl rfl rfl ?_
     refine av rfl (r_pick rfl rfl rfl) ?_
     refine av rfl (r_pick rfl rfl rfl) ?_
     refine av rfl (r_move rfl) ?_
     refine at_guard_yes rfl rfl rfl ?_
     refine av rfl (r_fieldAddr (fo := 35) Try.underlying27 rfl rfl (fun w => ⟨_, Try.sizeOf4 w⟩) rfl) ?_
     refine at_guard_yes rfl rfl rfl ?_
     refine av rfl (r_load_cell Try.isAgg4 rfl (lens_cell0 (c := cBool) (y := x0.f_HasMark) .z (c_api_Request_f_HasMark g0_ x0) rfl)) ?_
     refine at_guard_yes rfl rfl rfl ?_
     refine av rfl (r_not rfl) ?_
     refine at_guard_yes rfl rfl rfl ?_
     refine av rfl (r_move rfl) ?_
     rcases of_ite hF with ⟨h114, hF⟩ | ⟨h114, hF⟩
     ·refine at_fix (g := 37) rfl h114 ?_
      refine at_guard_yes rfl rfl rfl ?_
      refine av rfl (r_fieldAddr (fo := 36) Try.underlying27 rfl rfl (fun w => ⟨_, Try.sizeOf24 w⟩) rfl) ?_
      refine at_guard_yes rfl rfl rfl ?_
      refine av rfl (r_load_cell Try.isAgg24 rfl (lens_cell0 (c := (cInt .u32)) (y := x0.f_Mark) .z (c_api_Request_f_Mark g0_ x0) rfl)) ?_
      refine at_guard_yes rfl rfl rfl ?_
      refine av rfl (r_ineq rfl rfl) ?_
      refine at_guard_yes rfl rfl rfl ?_
      refine av rfl (r_pick rfl rfl rfl) ?_
      refine av rfl (r_pick rfl rfl rfl) ?_
      refine av rfl (r_move rfl) ?_
      rcases of_ite hF with ⟨h115, hF⟩ | ⟨h115, hF⟩
      ·refine at_fix (g := 43) rfl h115 ?_
       refine at_guard_no rfl rfl rfl rfl rfl ?_
       refine at_guard_no rfl rfl rfl rfl rfl ?_
       refine at_guard_no rfl rfl rfl rfl rfl ?_
       refine at_guard_no rfl rfl rfl rfl rfl ?_
       refine av rfl (r_pick rfl rfl rfl) ?_
       refine nwt [(1, _), (48, _)] ⟨rfl, rfl, trivial⟩ ?_
       refine at_cond_true rfl rfl ?_
       refine sr ?_
       refine av rfl (r_assign rfl) ?_
       refine at_nil ?_
       refine at_drop (H := _) .z ?_
       refine at_weak [(2, _)] ⟨rfl, trivial⟩ ?_
       refine at_then_normal ?_
       refine rt ?_
       have K := of_some hF
       subst K
       exact at_return1 rfl rfl (fun w1 hw => ⟨rfl, hw.below⟩)
      ·refine at_fix (g := 43) rfl h115 ?_
       refine at_guard_yes rfl rfl rfl ?_
       refine av rfl (r_fieldAddr (fo := 38) Try.underlying27 rfl rfl (fun w => ⟨_, Try.sizeOf25 w⟩) rfl) ?_
       refine at_guard_yes rfl rfl rfl ?_
       refine av rfl (r_load_cell Try.isAgg25 rfl (lens_cell0 (c := cHd) (y := ⟨g0_.1, List.length x0.f_Peers, g0_.2⟩) .z (c_api_Request_f_Peers g0_ x0) rfl)) ?_
       refine at_guard_yes rfl rfl rfl ?_
       refine av rfl (r_len_sl Try.underlying25 rfl) ?_
       refine at_guard_yes rfl rfl rfl ?_
       refine av rfl (r_igtr rfl rfl) ?_
       refine av rfl (r_pick rfl rfl rfl) ?_
       refine nwt [(1, _), (48, _)] ⟨rfl, rfl, trivial⟩ ?_
       rcases of_ite hF with ⟨h116, hF⟩ | ⟨h116, hF⟩
       ·refine at_cond_true rfl h116 ?_
        refine sr ?_
        refine av rfl (r_assign rfl) ?_
        refine at_nil ?_
        refine at_drop (H := _) .z ?_
        refine at_weak [(2, _)] ⟨rfl, trivial⟩ ?_
        refine at_then_normal ?_
        refine rt ?_
        have K := of_some hF
        subst K
        exact at_return1 rfl rfl (fun w1 hw => ⟨rfl, hw.below⟩)
       ·refine at_cond_false rfl h116 ?_
        refine sn ?_
        refine at_seq ?_
        refine sr ?_
        refine av rfl (r_assign rfl) ?_
        refine nwt [(1, _), (3, _)] ⟨rfl, rfl, trivial⟩ ?_
        refine at_block ?_
        obtain ⟨q117, hq117, hF⟩ := of_bindM hF
        refine at_weak [(1, _), (3, _)] ⟨rfl, rfl, trivial⟩ ?_
        refine at_loop_r (B := 0) (r := r) (q := q117) (A := fun (_ : Unit) Y => At 63 [] (Wd w []) Y) ?_ ?_
        ·intro K
         refine crawlwayref32_Right.l6.partial_correctness x0 (motive := fun i118 x => KR (fun (_ : Unit) Y => At 63 [] (Wd w []) Y) _ 0 r x → Round (fun Y => At 63 [(1, .pointer (some ⟨b1, 0, none⟩)), (3, .int .i64 i118)] (Wd w [cellsE b1 (Cd.cs c_api_Request (g0_, x0)) 27]) Y) _ _ _) ?_ _ _ hq117 K
         ·clear K hF
          intro g ih i118 x hF K
          refine at_round ?_
          refine at_seq ?_
          refine sr ?_
          refine av rfl (r_move rfl) ?_
          refine av rfl (r_fieldAddr (fo := 38) Try.underlying27 rfl rfl (fun w => ⟨_, Try.sizeOf25 w⟩) rfl) ?_
          refine av rfl (r_load_cell Try.isAgg25 rfl (lens_cell0 (c := cHd) (y := ⟨g0_.1, List.length x0.f_Peers, g0_.2⟩) .z (c_api_Request_f_Peers g0_ x0) rfl)) ?_
          refine av rfl (r_len_sl Try.underlying25 rfl) ?_
          refine av rfl (r_ilss rfl rfl) ?_
          refine nwt [(1, _), (3, _), (53, _)] ⟨rfl, rfl, rfl, trivial⟩ ?_
          rcases of_ite hF with ⟨h119, hF⟩ | ⟨h119, hF⟩
          ·refine at_cond_true rfl h119 ?_
           refine sn ?_
           refine at_seq ?_
           refine at_block ?_
           refine sr ?_
           refine av rfl (r_fieldAddr (fo := 38) Try.underlying27 rfl rfl (fun w => ⟨_, Try.sizeOf25 w⟩) rfl) ?_
           refine av rfl (r_load_cell Try.isAgg25 rfl (lens_cell0 (c := cHd) (y := ⟨g0_.1, List.length x0.f_Peers, g0_.2⟩) .z (c_api_Request_f_Peers g0_ x0) rfl)) ?_
           refine av rfl (r_move rfl) ?_
           obtain ⟨h120, hF⟩ := of_guard hF
           obtain ⟨zs124, hz125, hr126, hn127⟩ := hn0
           obtain ⟨b122, o123, hp121⟩ := row_ptr hr126 (zidx hz125 h120)
           obtain ⟨g128, hg129⟩ := zget hz125 i118
           refine av rfl (r_idx Try.underlying25 Try.sizeOf37 rfl rfl h120 hp121) ?_
           refine av rfl (r_load_aggc (c := c_api_PeerChange) (z := (g128, lget x0.f_Peers i118)) Try.isAgg37 Try.sizeOf37 rfl (ncell (fun _ h => h.below) hr126 (zidx hz125 h120) hp121 hg129)) ?_
           obtain ⟨t130, ht130, hF⟩ := of_bindM hF
           refine at_callB Try.func16 rfl (by kernel_rfl) rfl rfl (fun w hw => crawlwayref32_RightPeer_ok _ _ _ ht130 w (N_api_PeerChange.below (nz hg129 hn127 (zidx hz125 h120)) hw.below)) ?_
           refine av rfl (r_not rfl) ?_
           refine nwt [(1, _), (3, _), (62, _)] ⟨rfl, rfl, rfl, trivial⟩ ?_
           rcases of_ite hF with ⟨h131, hF⟩ | ⟨h131, hF⟩
           ·refine at_cond_true rfl h131 ?_
            refine sr ?_
            refine av rfl (r_assign rfl) ?_
            refine at_nil ?_
            refine at_drop (H := _) .z ?_
            refine at_weak [(2, _)] ⟨rfl, trivial⟩ ?_
            refine at_then_normal ?_
            refine at_ret ?_
            refine at_blk_ret (at_then_ret (at_then_ret (at_blk_ret (at_then_ret ?_))))
            obtain rfl := of_some hF
            subst K
            exact at_return1 rfl rfl (fun w1 hw => ⟨rfl, hw.below⟩)
           ·refine at_cond_false rfl h131 ?_
            refine at_skip ?_
            refine at_blk_normal (at_then_normal ?_)
            refine at_region ?_
            refine av rfl (r_move rfl) ?_
            refine av rfl (r_iadd rfl rfl) ?_
            refine av rfl (r_assign rfl) ?_
            refine nwt [(1, _), (3, _)] ⟨rfl, rfl, trivial⟩ ?_
            exact at_weak_k (ih _ _ hF K) ⟨rfl, rfl, trivial⟩
          ·refine at_cond_false rfl h119 ?_
           refine at_exit ?_
           refine at_then_exit (at_then_exit ?_)
           refine at_drop (H := _) .z ?_
           obtain rfl := of_some hF
           exact at_weak_k K trivial
        ·cases q117 with
         | ret r' => exact of_some hF
         | nx sq117 =>
          skip
          refine at_blk_same ?_
          refine at_then_normal ?_
          refine sr ?_
          refine av rfl (r_assign rfl) ?_
          refine nwt [(2, _)] ⟨rfl, trivial⟩ ?_
          refine at_ret ?_
          have K := of_some hF
          subst K
          exact at_return1 rfl rfl (fun w1 hw => ⟨rfl, hw.below⟩)
     ·refine at_fix (g := 37) rfl h114 ?_
      refine at_guard_no rfl rfl rfl rfl rfl ?_
      refine at_guard_no rfl rfl rfl rfl rfl ?_
      refine at_guard_no rfl rfl rfl rfl rfl ?_
      refine at_guard_yes rfl rfl rfl ?_
      refine av rfl (r_pick rfl rfl rfl) ?_
      refine av rfl (r_pick rfl rfl rfl) ?_
      refine av rfl (r_move rfl) ?_
      refine at_guard_yes rfl rfl rfl ?_
      refine av rfl (r_fieldAddr (fo := 38) Try.underlying27 rfl rfl (fun w => ⟨_, Try.sizeOf25 w⟩) rfl) ?_
      refine at_guard_yes rfl rfl rfl ?_
      refine av rfl (r_load_cell Try.isAgg25 rfl (lens_cell0 (c := cHd) (y := ⟨g0_.1, List.length x0.f_Peers, g0_.2⟩) .z (c_api_Request_f_Peers g0_ x0) rfl)) ?_
      refine at_guard_yes rfl rfl rfl ?_
      refine av rfl (r_len_sl Try.underlying25 rfl) ?_
      refine at_guard_yes rfl rfl rfl ?_
      refine av rfl (r_igtr rfl rfl) ?_
      refine av rfl (r_pick rfl rfl rfl) ?_
      refine nwt [(1, _), (48, _)] ⟨rfl, rfl, trivial⟩ ?_
      rcases of_ite hF with ⟨h132, hF⟩ | ⟨h132, hF⟩
      ·refine at_cond_true rfl h132 ?_
       refine sr ?_
       refine av rfl (r_assign rfl) ?_
       refine at_nil ?_
       refine at_drop (H := _) .z ?_
       refine at_weak [(2, _)] ⟨rfl, trivial⟩ ?_
       refine at_then_normal ?_
       refine rt ?_
       have K := of_some hF
       subst K
       exact at_return1 rfl rfl (fun w1 hw => ⟨rfl, hw.below⟩)
      ·refine at_cond_false rfl h132 ?_
       refine sn ?_
       refine at_seq ?_
       refine sr ?_
       refine av rfl (r_assign rfl) ?_
       refine nwt [(1, _), (3, _)] ⟨rfl, rfl, trivial⟩ ?_
       refine at_block ?_
       obtain ⟨q133, hq133, hF⟩ := of_bindM hF
       refine at_weak [(1, _), (3, _)] ⟨rfl, rfl, trivial⟩ ?_
       refine at_loop_r (B := 0) (r := r) (q := q133) (A := fun (_ : Unit) Y => At 63 [] (Wd w []) Y) ?_ ?_
       ·intro K
        refine crawlwayref32_Right.l7.partial_correctness x0 (motive := fun i134 x => KR (fun (_ : Unit) Y => At 63 [] (Wd w []) Y) _ 0 r x → Round (fun Y => At 63 [(1, .pointer (some ⟨b1, 0, none⟩)), (3, .int .i64 i134)] (Wd w [cellsE b1 (Cd.cs c_api_Request (g0_, x0)) 27]) Y) _ _ _) ?_ _ _ hq133 K
        ·clear K hF
         intro g ih i134 x hF K
         refine at_round ?_
         refine at_seq ?_
         refine sr ?_
         refine av rfl (r_move rfl) ?_
         refine av rfl (r_fieldAddr (fo := 38) Try.underlying27 rfl rfl (fun w => ⟨_, Try.sizeOf25 w⟩) rfl) ?_
         refine av rfl (r_load_cell Try.isAgg25 rfl (lens_cell0 (c := cHd) (y := ⟨g0_.1, List.length x0.f_Peers, g0_.2⟩) .z (c_api_Request_f_Peers g0_ x0) rfl)) ?_
         refine av rfl (r_len_sl Try.underlying25 rfl) ?_
         refine av rfl (r_ilss rfl rfl) ?_
         refine nwt [(1, _), (3, _), (53, _)] ⟨rfl, rfl, rfl, trivial⟩ ?_
         rcases of_ite hF with ⟨h135, hF⟩ | ⟨h135, hF⟩
         ·refine at_cond_true rfl h135 ?_
          refine sn ?_
          refine at_seq ?_
          refine at_block ?_
          refine sr ?_
          refine av rfl (r_fieldAddr (fo := 38) Try.underlying27 rfl rfl (fun w => ⟨_, Try.sizeOf25 w⟩) rfl) ?_
          refine av rfl (r_load_cell Try.isAgg25 rfl (lens_cell0 (c := cHd) (y := ⟨g0_.1, List.length x0.f_Peers, g0_.2⟩) .z (c_api_Request_f_Peers g0_ x0) rfl)) ?_
          refine av rfl (r_move rfl) ?_
          obtain ⟨h136, hF⟩ := of_guard hF
          obtain ⟨zs140, hz141, hr142, hn143⟩ := hn0
          obtain ⟨b138, o139, hp137⟩ := row_ptr hr142 (zidx hz141 h136)
          obtain ⟨g144, hg145⟩ := zget hz141 i134
          refine av rfl (r_idx Try.underlying25 Try.sizeOf37 rfl rfl h136 hp137) ?_
          refine av rfl (r_load_aggc (c := c_api_PeerChange) (z := (g144, lget x0.f_Peers i134)) Try.isAgg37 Try.sizeOf37 rfl (ncell (fun _ h => h.below) hr142 (zidx hz141 h136) hp137 hg145)) ?_
          obtain ⟨t146, ht146, hF⟩ := of_bindM hF
          refine at_callB Try.func16 rfl (by kernel_rfl) rfl rfl (fun w hw => crawlwayref32_RightPeer_ok _ _ _ ht146 w (N_api_PeerChange.below (nz hg145 hn143 (zidx hz141 h136)) hw.below)) ?_
          refine av rfl (r_not rfl) ?_
          refine nwt [(1, _), (3, _), (62, _)] ⟨rfl, rfl, rfl, trivial⟩ ?_
          rcases of_ite hF with ⟨h147, hF⟩ | ⟨h147, hF⟩
          ·refine at_cond_true rfl h147 ?_
           refine sr ?_
           refine av rfl (r_assign rfl) ?_
           refine at_nil ?_
           refine at_drop (H := _) .z ?_
           refine at_weak [(2, _)] ⟨rfl, trivial⟩ ?_
           refine at_then_normal ?_
           refine at_ret ?_
           refine at_blk_ret (at_then_ret (at_then_ret (at_blk_ret (at_then_ret ?_))))
           obtain rfl := of_some hF
           subst K
           exact at_return1 rfl rfl (fun w1 hw => ⟨rfl, hw.below⟩)
          ·refine at_cond_false rfl h147 ?_
           refine at_skip ?_
           refine at_blk_normal (at_then_normal ?_)
           refine at_region ?_
           refine av rfl (r_move rfl) ?_
           refine av rfl (r_iadd rfl rfl) ?_
           refine av rfl (r_assign rfl) ?_
           refine nwt [(1, _), (3, _)] ⟨rfl, rfl, trivial⟩ ?_
           exact at_weak_k (ih _ _ hF K) ⟨rfl, rfl, trivial⟩
         ·refine at_cond_false rfl h135 ?_
          refine at_exit ?_
          refine at_then_exit (at_then_exit ?_)
          refine at_drop (H := _) .z ?_
          obtain rfl := of_some hF
          exact at_weak_k K trivial
       ·cases q133 with
        | ret r' => exact of_some hF
        | nx sq133 =>
         skip
         refine at_blk_same ?_
         refine at_then_normal ?_
         refine sr ?_
         refine av rfl (r_assign rfl) ?_
         refine nwt [(2, _)] ⟨rfl, trivial⟩ ?_
         refine at_ret ?_
         have K := of_some hF
         subst K
         exact at_return1 rfl rfl (fun w1 hw => ⟨rfl, hw.below⟩)
end Go.Proofs.Ythccncpephpdjaa
