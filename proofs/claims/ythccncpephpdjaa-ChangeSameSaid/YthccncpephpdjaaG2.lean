/- Functions with the same answers as the Go functions that they are named for, and the proofs of it, by a program of this project (gen.py). -/
import Derived.Test.YthccncpephpdjaaT
import Derived.Test.YthccncpephpdjaaShelf
import Derived.Test.YthccncpephpdjaaW
import Derived.Test.YthccncpephpdjaaL
import Derived.Test.YthccncpephpdjaaR
import Derived.Test.YthccncpephpdjaaN
import Derived.Test.YthccncpephpdjaaProg
import Derived.Test.YthccncpephpdjaaG1
set_option linter.unusedVariables false
set_option linter.unusedSimpArgs false
namespace Go.Proofs.Ythccncpephpdjaa
open E Go.RowKit


def change_only_api_Key (x0 : Bool) (x1 : (Vector Int 32)) : Option (Bool) :=
  if x0 = true then (some true) else (some (decide (x1 = (Vector.replicate 32 (0 : Int) : (Vector Int 32)))))
theorem change_only_api_Key_ok (x0 : Bool) (x1 : (Vector Int 32)) (r : Bool) (hF : change_only_api_Key x0 x1 = some r) (w : World) :
    Calls Try.prog 48 #[.bool x0, .agg (Cd.cs (cVec (cInt .u8) 32 (by decide)) x1).toArray] w (fun e w' => e = .returned (.bool r) ∧ Below w.heap.size w w') := by
  unfold change_only_api_Key at hF
  refine calls_enter (l := [.bool x0, .agg (Cd.cs (cVec (cInt .u8) 32 (by decide)) x1).toArray]) Try.func48 rfl rfl rfl ?_
  refine at_start ?_
  refine at_weak [(0, _), (1, _)] ⟨rfl, rfl, trivial⟩ ?_
  refine at_seq ?_
  refine at_region ?_
  refine at_box (cs := Cd.cs (cVec (cInt .u8) 32 (by decide)) x1) rfl rfl rfl ?_
  intro b1
  refine at_val rfl rfl rfl (r_assign rfl) ?_
  refine at_nil ?_
  refine at_weak [(0, _), (3, _)] ⟨rfl, rfl, trivial⟩ ?_
  refine at_then_normal ?_
  refine at_seq ?_
  refine at_region ?_
  refine at_alloc (cs := Cd.cs (cVec (cInt .u8) 32 (by decide)) (Vector.replicate 32 (0 : Int) : (Vector Int 32))) Try.zeroValue23 rfl rfl ?_
  intro b2
  refine at_nil ?_
  refine at_weak [(0, _), (3, _), (5, _)] ⟨rfl, rfl, rfl, trivial⟩ ?_
  refine at_then_normal ?_
  refine at_seq ?_
  refine at_region ?_
  refine at_val rfl rfl rfl (r_move rfl) ?_
  refine at_val rfl rfl rfl (r_move rfl) ?_
  rcases of_ite hF with ⟨h3, hF⟩ | ⟨h3, hF⟩
  · refine at_fix (g := 7) rfl h3 ?_
    refine at_guard_no rfl rfl rfl rfl rfl ?_
    refine at_guard_no rfl rfl rfl rfl rfl ?_
    refine at_guard_no rfl rfl rfl rfl rfl ?_
    refine at_val rfl rfl rfl (r_pick rfl rfl rfl) ?_
    refine at_val rfl rfl rfl (r_assign rfl) ?_
    refine at_nil ?_
    refine at_drop (H := _) .z ?_
    refine at_drop (H := _) .z ?_
    refine at_weak [(4, _)] ⟨rfl, trivial⟩ ?_
    refine at_then_normal ?_
    refine at_ret ?_
    have K := of_some hF
    subst K
    exact at_return1 rfl rfl (fun w1 hw => ⟨rfl, hw.below⟩)
  · refine at_fix (g := 7) rfl h3 ?_
    refine at_guard_yes rfl rfl rfl ?_
    refine at_val rfl rfl rfl (r_load_aggc (c := (cVec (cInt .u8) 32 (by decide))) (z := x1) Try.isAgg23 Try.sizeOf23 rfl (lens_cell (.s .z) (Lens.whole _ _))) ?_
    refine at_guard_yes rfl rfl rfl ?_
    refine at_val rfl rfl rfl (r_load_aggc (c := (cVec (cInt .u8) 32 (by decide))) (z := (Vector.replicate 32 (0 : Int) : (Vector Int 32))) Try.isAgg23 Try.sizeOf23 rfl (lens_cell .z (Lens.whole _ _))) ?_
    refine at_guard_yes rfl rfl rfl ?_
    refine at_val rfl rfl rfl (r_eqagg (c := (cVec (cInt .u8) 32 (by decide))) (a := x1) (b := (Vector.replicate 32 (0 : Int) : (Vector Int 32))) (eqs_vec Try.underlying23 infoT5 Try.sizeOf5 Try.isAgg5 (.inr rfl) (eqs_int Try.underlying5)) rfl Try.eqGuardType23 rfl rfl (.inl rfl) rfl) ?_
    refine at_val rfl rfl rfl (r_pick rfl rfl rfl) ?_
    refine at_val rfl rfl rfl (r_assign rfl) ?_
    refine at_nil ?_
    refine at_drop (H := _) .z ?_
    refine at_drop (H := _) .z ?_
    refine at_weak [(4, _)] ⟨rfl, trivial⟩ ?_
    refine at_then_normal ?_
    refine at_ret ?_
    have K := of_some hF
    subst K
    exact at_return1 rfl rfl (fun w1 hw => ⟨rfl, hw.below⟩)

def change_only_api_Endpoint (x0 : Bool) (x1 : S_api_Endpoint) : Option (Bool) :=
  if x0 = true then (some true) else (some (decide (x1 = ({ f_A := ({ f_V := (0 : Int), f_B := (Vector.replicate 16 (0 : Int) : (Vector Int 16)) } : S_api_Addr), f_Port := (0 : Int) } : S_api_Endpoint))))
theorem change_only_api_Endpoint_ok (x0 : Bool) (x1 : S_api_Endpoint) (r : Bool) (hF : change_only_api_Endpoint x0 x1 = some r) (w : World) :
    Calls Try.prog 49 #[.bool x0, .agg (Cd.cs c_api_Endpoint x1).toArray] w (fun e w' => e = .returned (.bool r) ∧ Below w.heap.size w w') := by
  unfold change_only_api_Endpoint at hF
  refine calls_enter (l := [.bool x0, .agg (Cd.cs c_api_Endpoint x1).toArray]) Try.func49 rfl rfl rfl ?_
  refine at_start ?_
  refine at_weak [(0, _), (1, _)] ⟨rfl, rfl, trivial⟩ ?_
  refine at_seq ?_
  refine at_region ?_
  refine at_box (cs := Cd.cs c_api_Endpoint x1) rfl rfl rfl ?_
  intro b1
  refine at_val rfl rfl rfl (r_assign rfl) ?_
  refine at_nil ?_
  refine at_weak [(0, _), (3, _)] ⟨rfl, rfl, trivial⟩ ?_
  refine at_then_normal ?_
  refine at_seq ?_
  refine at_region ?_
  refine at_alloc (cs := Cd.cs c_api_Endpoint ({ f_A := ({ f_V := (0 : Int), f_B := (Vector.replicate 16 (0 : Int) : (Vector Int 16)) } : S_api_Addr), f_Port := (0 : Int) } : S_api_Endpoint)) Try.zeroValue34 rfl rfl ?_
  intro b2
  refine at_nil ?_
  refine at_weak [(0, _), (3, _), (5, _)] ⟨rfl, rfl, rfl, trivial⟩ ?_
  refine at_then_normal ?_
  refine at_seq ?_
  refine at_region ?_
  refine at_val rfl rfl rfl (r_move rfl) ?_
  refine at_val rfl rfl rfl (r_move rfl) ?_
  rcases of_ite hF with ⟨h3, hF⟩ | ⟨h3, hF⟩
  · refine at_fix (g := 7) rfl h3 ?_
    refine at_guard_no rfl rfl rfl rfl rfl ?_
    refine at_guard_no rfl rfl rfl rfl rfl ?_
    refine at_guard_no rfl rfl rfl rfl rfl ?_
    refine at_val rfl rfl rfl (r_pick rfl rfl rfl) ?_
    refine at_val rfl rfl rfl (r_assign rfl) ?_
    refine at_nil ?_
    refine at_drop (H := _) .z ?_
    refine at_drop (H := _) .z ?_
    refine at_weak [(4, _)] ⟨rfl, trivial⟩ ?_
    refine at_then_normal ?_
    refine at_ret ?_
    have K := of_some hF
    subst K
    exact at_return1 rfl rfl (fun w1 hw => ⟨rfl, hw.below⟩)
  · refine at_fix (g := 7) rfl h3 ?_
    refine at_guard_yes rfl rfl rfl ?_
    refine at_val rfl rfl rfl (r_load_aggc (c := c_api_Endpoint) (z := x1) Try.isAgg34 Try.sizeOf34 rfl (lens_cell (.s .z) (Lens.whole _ _))) ?_
    refine at_guard_yes rfl rfl rfl ?_
    refine at_val rfl rfl rfl (r_load_aggc (c := c_api_Endpoint) (z := ({ f_A := ({ f_V := (0 : Int), f_B := (Vector.replicate 16 (0 : Int) : (Vector Int 16)) } : S_api_Addr), f_Port := (0 : Int) } : S_api_Endpoint)) Try.isAgg34 Try.sizeOf34 rfl (lens_cell .z (Lens.whole _ _))) ?_
    refine at_guard_yes rfl rfl rfl ?_
    refine at_val rfl rfl rfl (r_eqagg (c := c_api_Endpoint) (a := x1) (b := ({ f_A := ({ f_V := (0 : Int), f_B := (Vector.replicate 16 (0 : Int) : (Vector Int 16)) } : S_api_Addr), f_Port := (0 : Int) } : S_api_Endpoint)) (eq_api_Endpoint_34) rfl Try.eqGuardType34 rfl rfl (.inl rfl) rfl) ?_
    refine at_val rfl rfl rfl (r_pick rfl rfl rfl) ?_
    refine at_val rfl rfl rfl (r_assign rfl) ?_
    refine at_nil ?_
    refine at_drop (H := _) .z ?_
    refine at_drop (H := _) .z ?_
    refine at_weak [(4, _)] ⟨rfl, trivial⟩ ?_
    refine at_then_normal ?_
    refine at_ret ?_
    have K := of_some hF
    subst K
    exact at_return1 rfl rfl (fun w1 hw => ⟨rfl, hw.below⟩)

def change_only_int (x0 : Bool) (x1 : Int) : Option (Bool) :=
  if x0 = true then (some true) else (some (x1 == 0))
theorem change_only_int_ok (x0 : Bool) (x1 : Int) (r : Bool) (hF : change_only_int x0 x1 = some r) (w : World) :
    Calls Try.prog 52 #[.bool x0, .int .i64 x1] w (fun e w' => e = .returned (.bool r) ∧ w' = w) := by
  unfold change_only_int at hF
  refine calls_enter (l := [.bool x0, .int .i64 x1]) Try.func52 rfl rfl rfl ?_
  refine at_weak [(0, _), (1, _)] ⟨rfl, rfl, trivial⟩ ?_
  refine at_seq ?_
  refine at_region ?_
  refine at_val rfl rfl rfl (r_assign rfl) ?_
  refine at_nil ?_
  refine at_weak [(0, _), (1, _)] ⟨rfl, rfl, trivial⟩ ?_
  refine at_then_normal ?_
  refine at_seq ?_
  refine at_region ?_
  refine at_val rfl rfl rfl (r_assign rfl) ?_
  refine at_nil ?_
  refine at_weak [(0, _), (1, _), (5, _)] ⟨rfl, rfl, rfl, trivial⟩ ?_
  refine at_then_normal ?_
  refine at_seq ?_
  refine at_region ?_
  refine at_val rfl rfl rfl (r_move rfl) ?_
  refine at_val rfl rfl rfl (r_move rfl) ?_
  rcases of_ite hF with ⟨h1, hF⟩ | ⟨h1, hF⟩
  · refine at_fix (g := 7) rfl h1 ?_
    refine at_guard_no rfl rfl rfl rfl rfl ?_
    refine at_guard_no rfl rfl rfl rfl rfl ?_
    refine at_guard_no rfl rfl rfl rfl rfl ?_
    refine at_val rfl rfl rfl (r_pick rfl rfl rfl) ?_
    refine at_val rfl rfl rfl (r_assign rfl) ?_
    refine at_nil ?_
    refine at_weak [(4, _)] ⟨rfl, trivial⟩ ?_
    refine at_then_normal ?_
    refine at_ret ?_
    have K := of_some hF
    subst K
    exact at_return1 rfl rfl (fun w1 hw => ⟨rfl, hw⟩)
  · refine at_fix (g := 7) rfl h1 ?_
    refine at_guard_yes rfl rfl rfl ?_
    refine at_val rfl rfl rfl (r_move rfl) ?_
    refine at_guard_yes rfl rfl rfl ?_
    refine at_val rfl rfl rfl (r_move rfl) ?_
    refine at_guard_yes rfl rfl rfl ?_
    refine at_val rfl rfl rfl (r_ieql rfl rfl) ?_
    refine at_val rfl rfl rfl (r_pick rfl rfl rfl) ?_
    refine at_val rfl rfl rfl (r_assign rfl) ?_
    refine at_nil ?_
    refine at_weak [(4, _)] ⟨rfl, trivial⟩ ?_
    refine at_then_normal ?_
    refine at_ret ?_
    have K := of_some hF
    subst K
    exact at_return1 rfl rfl (fun w1 hw => ⟨rfl, hw⟩)

def change_only_uint32 (x0 : Bool) (x1 : Int) : Option (Bool) :=
  if x0 = true then (some true) else (some (x1 == 0))
theorem change_only_uint32_ok (x0 : Bool) (x1 : Int) (r : Bool) (hF : change_only_uint32 x0 x1 = some r) (w : World) :
    Calls Try.prog 58 #[.bool x0, .int .u32 x1] w (fun e w' => e = .returned (.bool r) ∧ w' = w) := by
  unfold change_only_uint32 at hF
  refine calls_enter (l := [.bool x0, .int .u32 x1]) Try.func58 rfl rfl rfl ?_
  refine at_weak [(0, _), (1, _)] ⟨rfl, rfl, trivial⟩ ?_
  refine at_seq ?_
  refine at_region ?_
  refine at_val rfl rfl rfl (r_assign rfl) ?_
  refine at_nil ?_
  refine at_weak [(0, _), (1, _)] ⟨rfl, rfl, trivial⟩ ?_
  refine at_then_normal ?_
  refine at_seq ?_
  refine at_region ?_
  refine at_val rfl rfl rfl (r_assign rfl) ?_
  refine at_nil ?_
  refine at_weak [(0, _), (1, _), (5, _)] ⟨rfl, rfl, rfl, trivial⟩ ?_
  refine at_then_normal ?_
  refine at_seq ?_
  refine at_region ?_
  refine at_val rfl rfl rfl (r_move rfl) ?_
  refine at_val rfl rfl rfl (r_move rfl) ?_
  rcases of_ite hF with ⟨h1, hF⟩ | ⟨h1, hF⟩
  · refine at_fix (g := 7) rfl h1 ?_
    refine at_guard_no rfl rfl rfl rfl rfl ?_
    refine at_guard_no rfl rfl rfl rfl rfl ?_
    refine at_guard_no rfl rfl rfl rfl rfl ?_
    refine at_val rfl rfl rfl (r_pick rfl rfl rfl) ?_
    refine at_val rfl rfl rfl (r_assign rfl) ?_
    refine at_nil ?_
    refine at_weak [(4, _)] ⟨rfl, trivial⟩ ?_
    refine at_then_normal ?_
    refine at_ret ?_
    have K := of_some hF
    subst K
    exact at_return1 rfl rfl (fun w1 hw => ⟨rfl, hw⟩)
  · refine at_fix (g := 7) rfl h1 ?_
    refine at_guard_yes rfl rfl rfl ?_
    refine at_val rfl rfl rfl (r_move rfl) ?_
    refine at_guard_yes rfl rfl rfl ?_
    refine at_val rfl rfl rfl (r_move rfl) ?_
    refine at_guard_yes rfl rfl rfl ?_
    refine at_val rfl rfl rfl (r_ieql rfl rfl) ?_
    refine at_val rfl rfl rfl (r_pick rfl rfl rfl) ?_
    refine at_val rfl rfl rfl (r_assign rfl) ?_
    refine at_nil ?_
    refine at_weak [(4, _)] ⟨rfl, trivial⟩ ?_
    refine at_then_normal ?_
    refine at_ret ?_
    have K := of_some hF
    subst K
    exact at_return1 rfl rfl (fun w1 hw => ⟨rfl, hw⟩)

def change_short (x0 : Int) : Option (Bool) :=
  if (decide (x0 ≥ 0)) = true then (some (decide (x0 ≤ 65535))) else (some false)
theorem change_short_ok (x0 : Int) (r : Bool) (hF : change_short x0 = some r) (w : World) :
    Calls Try.prog 51 #[.int .i64 x0] w (fun e w' => e = .returned (.bool r) ∧ w' = w) := by
  unfold change_short at hF
  refine calls_enter (l := [.int .i64 x0]) Try.func51 rfl rfl rfl ?_
  refine at_weak [(0, _)] ⟨rfl, trivial⟩ ?_
  refine at_seq ?_
  refine at_region ?_
  refine at_val rfl rfl rfl (r_assign rfl) ?_
  refine at_nil ?_
  refine at_weak [(0, _)] ⟨rfl, trivial⟩ ?_
  refine at_then_normal ?_
  refine at_seq ?_
  refine at_region ?_
  refine at_val rfl rfl rfl (r_move rfl) ?_
  refine at_val rfl rfl rfl (r_igeq rfl rfl) ?_
  refine at_val rfl rfl rfl (r_move rfl) ?_
  rcases of_ite hF with ⟨h1, hF⟩ | ⟨h1, hF⟩
  · refine at_fix (g := 5) rfl h1 ?_
    refine at_guard_yes rfl rfl rfl ?_
    refine at_val rfl rfl rfl (r_move rfl) ?_
    refine at_guard_yes rfl rfl rfl ?_
    refine at_val rfl rfl rfl (r_ileq rfl rfl) ?_
    refine at_val rfl rfl rfl (r_pick rfl rfl rfl) ?_
    refine at_val rfl rfl rfl (r_assign rfl) ?_
    refine at_nil ?_
    refine at_weak [(2, _)] ⟨rfl, trivial⟩ ?_
    refine at_then_normal ?_
    refine at_ret ?_
    have K := of_some hF
    subst K
    exact at_return1 rfl rfl (fun w1 hw => ⟨rfl, hw⟩)
  · refine at_fix (g := 5) rfl h1 ?_
    refine at_guard_no rfl rfl rfl rfl rfl ?_
    refine at_guard_no rfl rfl rfl rfl rfl ?_
    refine at_val rfl rfl rfl (r_pick rfl rfl rfl) ?_
    refine at_val rfl rfl rfl (r_assign rfl) ?_
    refine at_nil ?_
    refine at_weak [(2, _)] ⟨rfl, trivial⟩ ?_
    refine at_then_normal ?_
    refine at_ret ?_
    have K := of_some hF
    subst K
    exact at_return1 rfl rfl (fun w1 hw => ⟨rfl, hw⟩)

def change_RightPeer_1 (x0 : S_api_Prefix) : Option (Bool) :=
  cidr_Right x0 >>= fun t2 => some (!t2)
theorem change_RightPeer_1_ok (x0 : S_api_Prefix) (r : Bool) (hF : change_RightPeer_1 x0 = some r) (w : World) :
    Calls Try.prog 54 #[.agg (Cd.cs c_api_Prefix x0).toArray] w (fun e w' => e = .returned (.bool r) ∧ Below w.heap.size w w') := by
  unfold change_RightPeer_1 at hF
  refine calls_enter (l := [.agg (Cd.cs c_api_Prefix x0).toArray]) Try.func54 rfl rfl rfl ?_
  refine at_start ?_
  refine at_weak [(0, _)] ⟨rfl, trivial⟩ ?_
  refine at_seq ?_
  refine at_region ?_
  refine at_box (cs := Cd.cs c_api_Prefix x0) rfl rfl rfl ?_
  intro b1
  refine at_val rfl rfl rfl (r_assign rfl) ?_
  refine at_nil ?_
  refine at_weak [(1, _)] ⟨rfl, trivial⟩ ?_
  refine at_then_normal ?_
  refine at_seq ?_
  refine at_region ?_
  refine at_val rfl rfl rfl (r_load_aggc (c := c_api_Prefix) (z := x0) Try.isAgg46 Try.sizeOf46 rfl (lens_cell .z (Lens.whole _ _))) ?_
  obtain ⟨t2, ht2, hF⟩ := of_bindM hF
  refine at_callB Try.func55 rfl (by kernel_rfl) rfl rfl (fun w hw => cidr_Right_ok _ _ ht2 w) ?_
  refine at_val rfl rfl rfl (r_not rfl) ?_
  refine at_val rfl rfl rfl (r_assign rfl) ?_
  refine at_nil ?_
  refine at_drop (H := _) .z ?_
  refine at_weak [(2, _)] ⟨rfl, trivial⟩ ?_
  refine at_then_normal ?_
  refine at_ret ?_
  have K := of_some hF
  subst K
  exact at_return1 rfl rfl (fun w1 hw => ⟨rfl, hw.below⟩)

def slices_IndexFunc_api_Prefix__change_RightPeer_1.l0 (x0 : List S_api_Prefix) (i2 : Int) : Option (Ctl (Int) (Unit)) :=
  if (decide (i2 < (x0.length : Int))) = true then (if (0 : Int) ≤ i2 ∧ i2 < (x0.length : Int) then change_RightPeer_1 (lget x0 i2) >>= fun t8 => if t8 = true then (some (.ret i2)) else (slices_IndexFunc_api_Prefix__change_RightPeer_1.l0 x0 (wr .i64 (i2 + 1))) else none) else (some (.nx ()))
  partial_fixpoint
def slices_IndexFunc_api_Prefix__change_RightPeer_1 (x0 : List S_api_Prefix) : Option (Int) :=
  slices_IndexFunc_api_Prefix__change_RightPeer_1.l0 x0 0 >>= fun q1 => match q1 with | .ret r' => some r' | .nx sq1 => (some (-1))
theorem slices_IndexFunc_api_Prefix__change_RightPeer_1_ok (x0 : List S_api_Prefix) (p0_ : Option Addr) (c0_ : Nat) (r : Int) (hF : slices_IndexFunc_api_Prefix__change_RightPeer_1 x0 = some r) (w : World) (hr0 : Row c_api_Prefix w p0_ c0_ x0) :
    Calls Try.prog 83 #[.slice p0_ x0.length c0_, .func (.func 54) #[] #[]] w (fun e w' => e = .returned (.int .i64 r) ∧ Below w.heap.size w w') := by
  unfold slices_IndexFunc_api_Prefix__change_RightPeer_1 at hF
  refine calls_enter (l := [.slice p0_ x0.length c0_, .func (.func 54) #[] #[]]) Try.func83 rfl rfl rfl ?_
  refine at_start ?_
  refine at_weak [(0, _), (1, _)] ⟨rfl, rfl, trivial⟩ ?_
  refine at_seq ?_
  refine at_region ?_
  refine at_val rfl rfl rfl (r_assign rfl) ?_
  refine at_nil ?_
  refine at_weak [(0, _), (1, _)] ⟨rfl, rfl, trivial⟩ ?_
  refine at_then_normal ?_
  refine at_seq ?_
  refine at_seq ?_
  refine at_region ?_
  refine at_val rfl rfl rfl (r_move rfl) ?_
  refine at_val rfl rfl rfl (r_len_sl Try.underlying35 rfl) ?_
  refine at_val rfl rfl rfl (r_move rfl) ?_
  refine at_nil ?_
  refine at_weak [(0, _), (1, _), (7, _), (8, _)] ⟨rfl, rfl, rfl, rfl, trivial⟩ ?_
  refine at_then_normal ?_
  refine at_block ?_
  obtain ⟨q1, hq1, hF⟩ := of_bindM hF
  refine at_weak [(0, _), (1, _), (7, _), (8, _)] ⟨rfl, rfl, rfl, rfl, trivial⟩ ?_
  refine at_loop_r (B := 0) (r := r) (q := q1) (A := fun (_ : Unit) Y => At 19 [] (Wd w []) Y) ?_ ?_
  · intro K
    refine slices_IndexFunc_api_Prefix__change_RightPeer_1.l0.partial_correctness x0 (motive := fun i2 x => KR (fun (_ : Unit) Y => At 19 [] (Wd w []) Y) _ 0 r x → Round (fun Y => At 19 [(0, .slice p0_ x0.length c0_), (1, .func (.func 54) #[] #[]), (7, .int .i64 (x0.length : Int)), (8, .int .i64 i2)] (Wd w []) Y) _ _ _) ?_ _ _ hq1 K
    · clear K hF
      intro g ih i2 x hF K
      refine at_round ?_
      refine at_seq ?_
      refine at_region ?_
      refine at_val rfl rfl rfl (r_ilss rfl rfl) ?_
      refine at_nil ?_
      refine at_weak [(0, _), (1, _), (7, _), (8, _), (9, _)] ⟨rfl, rfl, rfl, rfl, rfl, trivial⟩ ?_
      refine at_then_normal ?_
      refine at_seq ?_
      rcases of_ite hF with ⟨h3, hF⟩ | ⟨h3, hF⟩
      · refine at_cond_true rfl h3 ?_
        refine at_skip ?_
        refine at_then_normal ?_
        refine at_seq ?_
        refine at_block ?_
        refine at_seq ?_
        refine at_region ?_
        refine at_val rfl rfl rfl (r_move rfl) ?_
        refine at_val rfl rfl rfl (r_assign rfl) ?_
        refine at_nil ?_
        refine at_weak [(0, _), (1, _), (5, _), (7, _), (8, _)] ⟨rfl, rfl, rfl, rfl, rfl, trivial⟩ ?_
        refine at_then_normal ?_
        refine at_seq ?_
        refine at_region ?_
        refine at_val rfl rfl rfl (r_move rfl) ?_
        refine at_val rfl rfl rfl (r_move rfl) ?_
        refine at_val rfl rfl rfl (r_move rfl) ?_
        obtain ⟨h4, hF⟩ := of_guard hF
        obtain ⟨b6, o7, hp5⟩ := row_ptr hr0 h4
        refine at_val rfl rfl rfl (r_idx Try.underlying35 Try.sizeOf46 rfl rfl h4 hp5) ?_
        refine at_val rfl rfl rfl (r_load_aggc (c := c_api_Prefix) (z := lget x0 i2) Try.isAgg46 Try.sizeOf46 rfl (row_cell (fun _ h => h.below) hr0 h4 hp5)) ?_
        refine at_callee rfl ?_
        obtain ⟨t8, ht8, hF⟩ := of_bindM hF
        refine at_callB Try.func54 rfl (by kernel_rfl) rfl rfl (fun w hw => change_RightPeer_1_ok _ _ ht8 w) ?_
        refine at_nil ?_
        refine at_weak [(0, _), (1, _), (5, _), (7, _), (8, _), (16, _)] ⟨rfl, rfl, rfl, rfl, rfl, rfl, trivial⟩ ?_
        refine at_then_normal ?_
        rcases of_ite hF with ⟨h9, hF⟩ | ⟨h9, hF⟩
        · refine at_cond_true rfl h9 ?_
          refine at_seq ?_
          refine at_region ?_
          refine at_val rfl rfl rfl (r_move rfl) ?_
          refine at_val rfl rfl rfl (r_assign rfl) ?_
          refine at_nil ?_
          refine at_weak [(4, _)] ⟨rfl, trivial⟩ ?_
          refine at_then_normal ?_
          refine at_ret ?_
          refine at_blk_ret (at_then_ret (at_then_ret (at_blk_ret (at_then_ret ?_))))
          obtain rfl := of_some hF
          subst K
          exact at_return1 rfl rfl (fun w1 hw => ⟨rfl, hw.below⟩)
        · refine at_cond_false rfl h9 ?_
          refine at_skip ?_
          refine at_blk_normal (at_then_normal ?_)
          refine at_region ?_
          refine at_val rfl rfl rfl (r_iadd rfl rfl) ?_
          refine at_val rfl rfl rfl (r_move rfl) ?_
          refine at_nil ?_
          refine at_weak [(0, _), (1, _), (7, _), (8, _)] ⟨rfl, rfl, rfl, rfl, trivial⟩ ?_
          refine at_then_normal ?_
          exact at_weak_k (ih _ _ hF K) ⟨rfl, rfl, rfl, rfl, trivial⟩
      · refine at_cond_false rfl h3 ?_
        refine at_exit ?_
        refine at_then_exit (at_then_exit ?_)
        obtain rfl := of_some hF
        exact at_weak_k K trivial
  · cases q1 with
    | ret r' => exact of_some hF
    | nx sq1 =>
      skip
      refine at_blk_same ?_
      refine at_then_normal ?_
      refine at_seq ?_
      refine at_region ?_
      refine at_val rfl rfl rfl (r_assign rfl) ?_
      refine at_nil ?_
      refine at_weak [(4, _)] ⟨rfl, trivial⟩ ?_
      refine at_then_normal ?_
      refine at_ret ?_
      have K := of_some hF
      subst K
      exact at_return1 rfl rfl (fun w1 hw => ⟨rfl, hw.below⟩)

def slices_ContainsFunc_api_Prefix__change_RightPeer_1 (x0 : List S_api_Prefix) : Option (Bool) :=
  slices_IndexFunc_api_Prefix__change_RightPeer_1 x0 >>= fun t1 => some (decide (t1 ≥ 0))
theorem slices_ContainsFunc_api_Prefix__change_RightPeer_1_ok (x0 : List S_api_Prefix) (p0_ : Option Addr) (c0_ : Nat) (r : Bool) (hF : slices_ContainsFunc_api_Prefix__change_RightPeer_1 x0 = some r) (w : World) (hr0 : Row c_api_Prefix w p0_ c0_ x0) :
    Calls Try.prog 53 #[.slice p0_ x0.length c0_, .func (.func 54) #[] #[]] w (fun e w' => e = .returned (.bool r) ∧ Below w.heap.size w w') := by
  unfold slices_ContainsFunc_api_Prefix__change_RightPeer_1 at hF
  refine calls_enter (l := [.slice p0_ x0.length c0_, .func (.func 54) #[] #[]]) Try.func53 rfl rfl rfl ?_
  refine at_start ?_
  refine at_weak [(0, _), (1, _)] ⟨rfl, rfl, trivial⟩ ?_
  refine at_seq ?_
  refine at_region ?_
  refine at_val rfl rfl rfl (r_assign rfl) ?_
  refine at_nil ?_
  refine at_weak [(0, _), (1, _)] ⟨rfl, rfl, trivial⟩ ?_
  refine at_then_normal ?_
  refine at_seq ?_
  refine at_region ?_
  refine at_val rfl rfl rfl (r_move rfl) ?_
  refine at_val rfl rfl rfl (r_move rfl) ?_
  obtain ⟨t1, ht1, hF⟩ := of_bindM hF
  refine at_callB Try.func83 rfl (by kernel_rfl) rfl rfl (fun w hw => slices_IndexFunc_api_Prefix__change_RightPeer_1_ok _ _ _ _ ht1 w (hr0.below hw.below)) ?_
  refine at_val rfl rfl rfl (r_igeq rfl rfl) ?_
  refine at_val rfl rfl rfl (r_assign rfl) ?_
  refine at_nil ?_
  refine at_weak [(4, _)] ⟨rfl, trivial⟩ ?_
  refine at_then_normal ?_
  refine at_ret ?_
  have K := of_some hF
  subst K
  exact at_return1 rfl rfl (fun w1 hw => ⟨rfl, hw.below⟩)

def change_RightPeer (x0 : S_api_PeerChange) : Option (Bool) :=
  if (decide (x0.f_Key = (Vector.replicate 32 (0 : Int) : (Vector Int 32)))) = true then (some false) else (change_only_api_Key x0.f_HasPsk x0.f_Psk >>= fun t3 => if (!t3) = true then (some false) else (change_only_api_Endpoint x0.f_HasEnd x0.f_End >>= fun t5 => if (!t5) = true then (some false) else (if x0.f_HasEnd = true then (hostport_Right x0.f_End >>= fun t8 => if (!t8) = true then (some false) else (change_short x0.f_Keep >>= fun t10 => if (!t10) = true then (some false) else (change_only_int x0.f_HasKeep x0.f_Keep >>= fun t12 => if (!t12) = true then (some false) else (if (decide ((x0.f_Allowed.length : Int) ≤ 64)) = true then (slices_ContainsFunc_api_Prefix__change_RightPeer_1 x0.f_Allowed >>= fun t15 => some (!t15)) else (some false))))) else (change_short x0.f_Keep >>= fun t16 => if (!t16) = true then (some false) else (change_only_int x0.f_HasKeep x0.f_Keep >>= fun t18 => if (!t18) = true then (some false) else (if (decide ((x0.f_Allowed.length : Int) ≤ 64)) = true then (slices_ContainsFunc_api_Prefix__change_RightPeer_1 x0.f_Allowed >>= fun t21 => some (!t21)) else (some false)))))))
theorem change_RightPeer_ok (g0_ : G_api_PeerChange) (x0 : S_api_PeerChange) (r : Bool) (hF : change_RightPeer x0 = some r) (w : World) (hn0 : N_api_PeerChange w (g0_, x0)) :
    Calls Try.prog 15 #[.agg (Cd.cs c_api_PeerChange (g0_, x0)).toArray] w (fun e w' => e = .returned (.bool r) ∧ Below w.heap.size w w') := by
  unfold change_RightPeer at hF
  refine calls_enter (l := [.agg (Cd.cs c_api_PeerChange (g0_, x0)).toArray]) Try.func15 rfl rfl rfl ?_
  refine at_start ?_
  refine at_weak [(0, _)] ⟨rfl, trivial⟩ ?_
  refine at_seq ?_
  refine at_region ?_
  refine at_box (cs := Cd.cs c_api_PeerChange (g0_, x0)) rfl rfl rfl ?_
  intro b1
  refine at_val rfl rfl rfl (r_assign rfl) ?_
  refine at_nil ?_
  refine at_weak [(1, _)] ⟨rfl, trivial⟩ ?_
  refine at_then_normal ?_
  refine at_seq ?_
  refine at_block ?_
  refine at_seq ?_
  refine at_region ?_
  refine at_val rfl rfl rfl (r_fieldAddr (fo := 0) Try.underlying37 rfl rfl (fun w => ⟨_, Try.sizeOf23 w⟩) rfl) ?_
  refine at_val rfl rfl rfl (r_load_aggc (c := (cVec (cInt .u8) 32 (by decide))) (z := x0.f_Key) Try.isAgg23 Try.sizeOf23 rfl (lens_cell .z (c_api_PeerChange_f_Key g0_ x0))) ?_
  refine at_val rfl rfl rfl (r_build_array (zs := Cd.cs (cVec (cInt .u8) 32 (by decide)) (Vector.replicate 32 (0 : Int) : (Vector Int 32))) (cs := Cd.cs (cVec (cInt .u8) 32 (by decide)) (Vector.replicate 32 (0 : Int) : (Vector Int 32))) Try.underlying23 Try.zeroValue23 rfl Try.sizeOf5 rfl rfl) ?_
  refine at_val rfl rfl rfl (r_eqagg (c := (cVec (cInt .u8) 32 (by decide))) (a := x0.f_Key) (b := (Vector.replicate 32 (0 : Int) : (Vector Int 32))) (eqs_vec Try.underlying23 infoT5 Try.sizeOf5 Try.isAgg5 (.inr rfl) (eqs_int Try.underlying5)) rfl Try.eqGuardType23 rfl rfl (.inl rfl) rfl) ?_
  refine at_val rfl rfl rfl (r_move rfl) ?_
  rcases of_ite hF with ⟨h2, hF⟩ | ⟨h2, hF⟩
  · refine at_fix (g := 8) rfl h2 ?_
    refine at_guard_no rfl rfl rfl rfl rfl ?_
    refine at_guard_no rfl rfl rfl rfl rfl ?_
    refine at_guard_no rfl rfl rfl rfl rfl ?_
    refine at_guard_no rfl rfl rfl rfl rfl ?_
    refine at_guard_no rfl rfl rfl rfl rfl ?_
    refine at_guard_no rfl rfl rfl rfl rfl ?_
    refine at_val rfl rfl rfl (r_pick rfl rfl rfl) ?_
    refine at_val rfl rfl rfl (r_assign rfl) ?_
    refine at_nil ?_
    refine at_weak [(1, _), (3, _)] ⟨rfl, rfl, trivial⟩ ?_
    refine at_then_normal ?_
    refine at_cond_true rfl rfl ?_
    refine at_seq ?_
    refine at_region ?_
    refine at_val rfl rfl rfl (r_assign rfl) ?_
    refine at_nil ?_
    refine at_drop (H := _) .z ?_
    refine at_weak [(2, _)] ⟨rfl, trivial⟩ ?_
    refine at_then_normal ?_
    refine at_ret ?_
    refine at_blk_ret (at_then_ret ?_)
    have K := of_some hF
    subst K
    exact at_return1 rfl rfl (fun w1 hw => ⟨rfl, hw.below⟩)
  · refine at_fix (g := 8) rfl h2 ?_
    refine at_guard_yes rfl rfl rfl ?_
    refine at_val rfl rfl rfl (r_fieldAddr (fo := 34) Try.underlying37 rfl rfl (fun w => ⟨_, Try.sizeOf4 w⟩) rfl) ?_
    refine at_guard_yes rfl rfl rfl ?_
    refine at_val rfl rfl rfl (r_load_cell Try.isAgg4 rfl (lens_cell0 (c := cBool) (y := x0.f_HasPsk) .z (c_api_PeerChange_f_HasPsk g0_ x0) rfl)) ?_
    refine at_guard_yes rfl rfl rfl ?_
    refine at_val rfl rfl rfl (r_fieldAddr (fo := 35) Try.underlying37 rfl rfl (fun w => ⟨_, Try.sizeOf23 w⟩) rfl) ?_
    refine at_guard_yes rfl rfl rfl ?_
    refine at_val rfl rfl rfl (r_load_aggc (c := (cVec (cInt .u8) 32 (by decide))) (z := x0.f_Psk) Try.isAgg23 Try.sizeOf23 rfl (lens_cell .z (c_api_PeerChange_f_Psk g0_ x0))) ?_
    refine at_guard_yes rfl rfl rfl ?_
    obtain ⟨t3, ht3, hF⟩ := of_bindM hF
    refine at_callB Try.func48 rfl (by kernel_rfl) rfl rfl (fun w hw => change_only_api_Key_ok _ _ _ ht3 w) ?_
    refine at_guard_yes rfl rfl rfl ?_
    refine at_val rfl rfl rfl (r_not rfl) ?_
    refine at_val rfl rfl rfl (r_pick rfl rfl rfl) ?_
    refine at_val rfl rfl rfl (r_assign rfl) ?_
    refine at_nil ?_
    refine at_weak [(1, _), (3, _)] ⟨rfl, rfl, trivial⟩ ?_
    refine at_then_normal ?_
    rcases of_ite hF with ⟨h4, hF⟩ | ⟨h4, hF⟩
    · refine at_cond_true rfl h4 ?_
      refine at_seq ?_
      refine at_region ?_
      refine at_val rfl rfl rfl (r_assign rfl) ?_
      refine at_nil ?_
      refine at_drop (H := _) .z ?_
      refine at_weak [(2, _)] ⟨rfl, trivial⟩ ?_
      refine at_then_normal ?_
      refine at_ret ?_
      refine at_blk_ret (at_then_ret ?_)
      have K := of_some hF
      subst K
      exact at_return1 rfl rfl (fun w1 hw => ⟨rfl, hw.below⟩)
    · refine at_cond_false rfl h4 ?_
      refine at_seq ?_
      refine at_region ?_
      refine at_val rfl rfl rfl (r_fieldAddr (fo := 67) Try.underlying37 rfl rfl (fun w => ⟨_, Try.sizeOf4 w⟩) rfl) ?_
      refine at_val rfl rfl rfl (r_load_cell Try.isAgg4 rfl (lens_cell0 (c := cBool) (y := x0.f_HasEnd) .z (c_api_PeerChange_f_HasEnd g0_ x0) rfl)) ?_
      refine at_val rfl rfl rfl (r_fieldAddr (fo := 68) Try.underlying37 rfl rfl (fun w => ⟨_, Try.sizeOf34 w⟩) rfl) ?_
      refine at_val rfl rfl rfl (r_load_aggc (c := c_api_Endpoint) (z := x0.f_End) Try.isAgg34 Try.sizeOf34 rfl (lens_cell .z (c_api_PeerChange_f_End g0_ x0))) ?_
      obtain ⟨t5, ht5, hF⟩ := of_bindM hF
      refine at_callB Try.func49 rfl (by kernel_rfl) rfl rfl (fun w hw => change_only_api_Endpoint_ok _ _ _ ht5 w) ?_
      refine at_val rfl rfl rfl (r_not rfl) ?_
      refine at_val rfl rfl rfl (r_move rfl) ?_
      rcases of_ite hF with ⟨h6, hF⟩ | ⟨h6, hF⟩
      · refine at_fix (g := 23) rfl h6 ?_
        refine at_guard_no rfl rfl rfl rfl rfl ?_
        refine at_guard_no rfl rfl rfl rfl rfl ?_
        refine at_guard_no rfl rfl rfl rfl rfl ?_
        refine at_guard_undef rfl rfl rfl rfl ?_
        refine at_guard_undef rfl rfl rfl rfl ?_
        refine at_guard_undef rfl rfl rfl rfl ?_
        refine at_guard_undef rfl rfl rfl rfl ?_
        refine at_guard_no rfl rfl rfl rfl rfl ?_
        refine at_val rfl rfl rfl (r_pick rfl rfl rfl) ?_
        refine at_val rfl rfl rfl (r_assign rfl) ?_
        refine at_nil ?_
        refine at_weak [(1, _), (16, _)] ⟨rfl, rfl, trivial⟩ ?_
        refine at_then_normal ?_
        refine at_cond_true rfl rfl ?_
        refine at_seq ?_
        refine at_region ?_
        refine at_val rfl rfl rfl (r_assign rfl) ?_
        refine at_nil ?_
        refine at_drop (H := _) .z ?_
        refine at_weak [(2, _)] ⟨rfl, trivial⟩ ?_
        refine at_then_normal ?_
        refine at_ret ?_
        refine at_blk_ret (at_then_ret ?_)
        have K := of_some hF
        subst K
        exact at_return1 rfl rfl (fun w1 hw => ⟨rfl, hw.below⟩)
      · refine at_fix (g := 23) rfl h6 ?_
        refine at_guard_yes rfl rfl rfl ?_
        refine at_val rfl rfl rfl (r_fieldAddr (fo := 67) Try.underlying37 rfl rfl (fun w => ⟨_, Try.sizeOf4 w⟩) rfl) ?_
        refine at_guard_yes rfl rfl rfl ?_
        refine at_val rfl rfl rfl (r_load_cell Try.isAgg4 rfl (lens_cell0 (c := cBool) (y := x0.f_HasEnd) .z (c_api_PeerChange_f_HasEnd g0_ x0) rfl)) ?_
        refine at_guard_yes rfl rfl rfl ?_
        refine at_val rfl rfl rfl (r_move rfl) ?_
        rcases of_ite hF with ⟨h7, hF⟩ | ⟨h7, hF⟩
        · refine at_fix (g := 26) rfl h7 ?_
          refine at_guard_yes rfl rfl rfl ?_
          refine at_val rfl rfl rfl (r_fieldAddr (fo := 68) Try.underlying37 rfl rfl (fun w => ⟨_, Try.sizeOf34 w⟩) rfl) ?_
          refine at_guard_yes rfl rfl rfl ?_
          refine at_val rfl rfl rfl (r_load_aggc (c := c_api_Endpoint) (z := x0.f_End) Try.isAgg34 Try.sizeOf34 rfl (lens_cell .z (c_api_PeerChange_f_End g0_ x0))) ?_
          refine at_guard_yes rfl rfl rfl ?_
          obtain ⟨t8, ht8, hF⟩ := of_bindM hF
          refine at_callB Try.func50 rfl (by kernel_rfl) rfl rfl (fun w hw => hostport_Right_ok _ _ ht8 w) ?_
          refine at_guard_yes rfl rfl rfl ?_
          refine at_val rfl rfl rfl (r_not rfl) ?_
          refine at_guard_yes rfl rfl rfl ?_
          refine at_val rfl rfl rfl (r_pick rfl rfl rfl) ?_
          refine at_val rfl rfl rfl (r_pick rfl rfl rfl) ?_
          refine at_val rfl rfl rfl (r_assign rfl) ?_
          refine at_nil ?_
          refine at_weak [(1, _), (16, _)] ⟨rfl, rfl, trivial⟩ ?_
          refine at_then_normal ?_
          rcases of_ite hF with ⟨h9, hF⟩ | ⟨h9, hF⟩
          · refine at_cond_true rfl h9 ?_
            refine at_seq ?_
            refine at_region ?_
            refine at_val rfl rfl rfl (r_assign rfl) ?_
            refine at_nil ?_
            refine at_drop (H := _) .z ?_
            refine at_weak [(2, _)] ⟨rfl, trivial⟩ ?_
            refine at_then_normal ?_
            refine at_ret ?_
            refine at_blk_ret (at_then_ret ?_)
            have K := of_some hF
            subst K
            exact at_return1 rfl rfl (fun w1 hw => ⟨rfl, hw.below⟩)
          · refine at_cond_false rfl h9 ?_
            refine at_seq ?_
            refine at_region ?_
            refine at_val rfl rfl rfl (r_fieldAddr (fo := 87) Try.underlying37 rfl rfl (fun w => ⟨_, Try.sizeOf3 w⟩) rfl) ?_
            refine at_val rfl rfl rfl (r_load_cell Try.isAgg3 rfl (lens_cell0 (c := (cInt .i64)) (y := x0.f_Keep) .z (c_api_PeerChange_f_Keep g0_ x0) rfl)) ?_
            obtain ⟨t10, ht10, hF⟩ := of_bindM hF
            refine at_call0 Try.func51 rfl (by kernel_rfl) rfl rfl (fun w => change_short_ok _ _ ht10 w) ?_
            refine at_val rfl rfl rfl (r_not rfl) ?_
            refine at_val rfl rfl rfl (r_move rfl) ?_
            rcases of_ite hF with ⟨h11, hF⟩ | ⟨h11, hF⟩
            · refine at_fix (g := 38) rfl h11 ?_
              refine at_guard_no rfl rfl rfl rfl rfl ?_
              refine at_guard_no rfl rfl rfl rfl rfl ?_
              refine at_guard_no rfl rfl rfl rfl rfl ?_
              refine at_guard_no rfl rfl rfl rfl rfl ?_
              refine at_guard_no rfl rfl rfl rfl rfl ?_
              refine at_guard_no rfl rfl rfl rfl rfl ?_
              refine at_val rfl rfl rfl (r_pick rfl rfl rfl) ?_
              refine at_val rfl rfl rfl (r_assign rfl) ?_
              refine at_nil ?_
              refine at_weak [(1, _), (33, _)] ⟨rfl, rfl, trivial⟩ ?_
              refine at_then_normal ?_
              refine at_cond_true rfl rfl ?_
              refine at_seq ?_
              refine at_region ?_
              refine at_val rfl rfl rfl (r_assign rfl) ?_
              refine at_nil ?_
              refine at_drop (H := _) .z ?_
              refine at_weak [(2, _)] ⟨rfl, trivial⟩ ?_
              refine at_then_normal ?_
              refine at_ret ?_
              refine at_blk_ret (at_then_ret ?_)
              have K := of_some hF
              subst K
              exact at_return1 rfl rfl (fun w1 hw => ⟨rfl, hw.below⟩)
            · refine at_fix (g := 38) rfl h11 ?_
              refine at_guard_yes rfl rfl rfl ?_
              refine at_val rfl rfl rfl (r_fieldAddr (fo := 86) Try.underlying37 rfl rfl (fun w => ⟨_, Try.sizeOf4 w⟩) rfl) ?_
              refine at_guard_yes rfl rfl rfl ?_
              refine at_val rfl rfl rfl (r_load_cell Try.isAgg4 rfl (lens_cell0 (c := cBool) (y := x0.f_HasKeep) .z (c_api_PeerChange_f_HasKeep g0_ x0) rfl)) ?_
              refine at_guard_yes rfl rfl rfl ?_
              refine at_val rfl rfl rfl (r_fieldAddr (fo := 87) Try.underlying37 rfl rfl (fun w => ⟨_, Try.sizeOf3 w⟩) rfl) ?_
              refine at_guard_yes rfl rfl rfl ?_
              refine at_val rfl rfl rfl (r_load_cell Try.isAgg3 rfl (lens_cell0 (c := (cInt .i64)) (y := x0.f_Keep) .z (c_api_PeerChange_f_Keep g0_ x0) rfl)) ?_
              refine at_guard_yes rfl rfl rfl ?_
              obtain ⟨t12, ht12, hF⟩ := of_bindM hF
              refine at_call0 Try.func52 rfl (by kernel_rfl) rfl rfl (fun w => change_only_int_ok _ _ _ ht12 w) ?_
              refine at_guard_yes rfl rfl rfl ?_
              refine at_val rfl rfl rfl (r_not rfl) ?_
              refine at_val rfl rfl rfl (r_pick rfl rfl rfl) ?_
              refine at_val rfl rfl rfl (r_assign rfl) ?_
              refine at_nil ?_
              refine at_weak [(1, _), (33, _)] ⟨rfl, rfl, trivial⟩ ?_
              refine at_then_normal ?_
              rcases of_ite hF with ⟨h13, hF⟩ | ⟨h13, hF⟩
              · refine at_cond_true rfl h13 ?_
                refine at_seq ?_
                refine at_region ?_
                refine at_val rfl rfl rfl (r_assign rfl) ?_
                refine at_nil ?_
                refine at_drop (H := _) .z ?_
                refine at_weak [(2, _)] ⟨rfl, trivial⟩ ?_
                refine at_then_normal ?_
                refine at_ret ?_
                refine at_blk_ret (at_then_ret ?_)
                have K := of_some hF
                subst K
                exact at_return1 rfl rfl (fun w1 hw => ⟨rfl, hw.below⟩)
              · refine at_cond_false rfl h13 ?_
                refine at_skip ?_
                refine at_blk_normal (at_then_normal ?_)
                refine at_seq ?_
                refine at_region ?_
                refine at_val rfl rfl rfl (r_fieldAddr (fo := 89) Try.underlying37 rfl rfl (fun w => ⟨_, Try.sizeOf35 w⟩) rfl) ?_
                refine at_val rfl rfl rfl (r_load_cell Try.isAgg35 rfl (lens_cell0 (c := cHd) (y := ⟨g0_.1, List.length x0.f_Allowed, g0_.2⟩) .z (c_api_PeerChange_f_Allowed g0_ x0) rfl)) ?_
                refine at_val rfl rfl rfl (r_len_sl Try.underlying35 rfl) ?_
                refine at_val rfl rfl rfl (r_ileq rfl rfl) ?_
                refine at_val rfl rfl rfl (r_move rfl) ?_
                rcases of_ite hF with ⟨h14, hF⟩ | ⟨h14, hF⟩
                · refine at_fix (g := 50) rfl h14 ?_
                  refine at_guard_yes rfl rfl rfl ?_
                  refine at_val rfl rfl rfl (r_fieldAddr (fo := 89) Try.underlying37 rfl rfl (fun w => ⟨_, Try.sizeOf35 w⟩) rfl) ?_
                  refine at_guard_yes rfl rfl rfl ?_
                  refine at_val rfl rfl rfl (r_load_cell Try.isAgg35 rfl (lens_cell0 (c := cHd) (y := ⟨g0_.1, List.length x0.f_Allowed, g0_.2⟩) .z (c_api_PeerChange_f_Allowed g0_ x0) rfl)) ?_
                  refine at_guard_yes rfl rfl rfl ?_
                  obtain ⟨t15, ht15, hF⟩ := of_bindM hF
                  refine at_callB Try.func53 rfl (by kernel_rfl) rfl rfl (fun w hw => slices_ContainsFunc_api_Prefix__change_RightPeer_1_ok _ _ _ _ ht15 w (hn0.below hw.below)) ?_
                  refine at_guard_yes rfl rfl rfl ?_
                  refine at_val rfl rfl rfl (r_not rfl) ?_
                  refine at_val rfl rfl rfl (r_pick rfl rfl rfl) ?_
                  refine at_val rfl rfl rfl (r_assign rfl) ?_
                  refine at_nil ?_
                  refine at_drop (H := _) .z ?_
                  refine at_weak [(2, _)] ⟨rfl, trivial⟩ ?_
                  refine at_then_normal ?_
                  refine at_ret ?_
                  have K := of_some hF
                  subst K
                  exact at_return1 rfl rfl (fun w1 hw => ⟨rfl, hw.below⟩)
                · refine at_fix (g := 50) rfl h14 ?_
                  refine at_guard_no rfl rfl rfl rfl rfl ?_
                  refine at_guard_no rfl rfl rfl rfl rfl ?_
                  refine at_guard_no rfl rfl rfl rfl rfl ?_
                  refine at_guard_no rfl rfl rfl rfl rfl ?_
                  refine at_val rfl rfl rfl (r_pick rfl rfl rfl) ?_
                  refine at_val rfl rfl rfl (r_assign rfl) ?_
                  refine at_nil ?_
                  refine at_drop (H := _) .z ?_
                  refine at_weak [(2, _)] ⟨rfl, trivial⟩ ?_
                  refine at_then_normal ?_
                  refine at_ret ?_
                  have K := of_some hF
                  subst K
                  exact at_return1 rfl rfl (fun w1 hw => ⟨rfl, hw.below⟩)
        · refine at_fix (g := 26) rfl h7 ?_
          refine at_guard_no rfl rfl rfl rfl rfl ?_
          refine at_guard_no rfl rfl rfl rfl rfl ?_
          refine at_guard_no rfl rfl rfl rfl rfl ?_
          refine at_guard_no rfl rfl rfl rfl rfl ?_
          refine at_guard_yes rfl rfl rfl ?_
          refine at_val rfl rfl rfl (r_pick rfl rfl rfl) ?_
          refine at_val rfl rfl rfl (r_pick rfl rfl rfl) ?_
          refine at_val rfl rfl rfl (r_assign rfl) ?_
          refine at_nil ?_
          refine at_weak [(1, _), (16, _)] ⟨rfl, rfl, trivial⟩ ?_
          refine at_then_normal ?_
          refine at_cond_false rfl rfl ?_
          refine at_seq ?_
          refine at_region ?_
          refine at_val rfl rfl rfl (r_fieldAddr (fo := 87) Try.underlying37 rfl rfl (fun w => ⟨_, Try.sizeOf3 w⟩) rfl) ?_
          refine at_val rfl rfl rfl (r_load_cell Try.isAgg3 rfl (lens_cell0 (c := (cInt .i64)) (y := x0.f_Keep) .z (c_api_PeerChange_f_Keep g0_ x0) rfl)) ?_
          obtain ⟨t16, ht16, hF⟩ := of_bindM hF
          refine at_call0 Try.func51 rfl (by kernel_rfl) rfl rfl (fun w => change_short_ok _ _ ht16 w) ?_
          refine at_val rfl rfl rfl (r_not rfl) ?_
          refine at_val rfl rfl rfl (r_move rfl) ?_
          rcases of_ite hF with ⟨h17, hF⟩ | ⟨h17, hF⟩
          · refine at_fix (g := 38) rfl h17 ?_
            refine at_guard_no rfl rfl rfl rfl rfl ?_
            refine at_guard_no rfl rfl rfl rfl rfl ?_
            refine at_guard_no rfl rfl rfl rfl rfl ?_
            refine at_guard_no rfl rfl rfl rfl rfl ?_
            refine at_guard_no rfl rfl rfl rfl rfl ?_
            refine at_guard_no rfl rfl rfl rfl rfl ?_
            refine at_val rfl rfl rfl (r_pick rfl rfl rfl) ?_
            refine at_val rfl rfl rfl (r_assign rfl) ?_
            refine at_nil ?_
            refine at_weak [(1, _), (33, _)] ⟨rfl, rfl, trivial⟩ ?_
            refine at_then_normal ?_
            refine at_cond_true rfl rfl ?_
            refine at_seq ?_
            refine at_region ?_
            refine at_val rfl rfl rfl (r_assign rfl) ?_
            refine at_nil ?_
            refine at_drop (H := _) .z ?_
            refine at_weak [(2, _)] ⟨rfl, trivial⟩ ?_
            refine at_then_normal ?_
            refine at_ret ?_
            refine at_blk_ret (at_then_ret ?_)
            have K := of_some hF
            subst K
            exact at_return1 rfl rfl (fun w1 hw => ⟨rfl, hw.below⟩)
          · refine at_fix (g := 38) rfl h17 ?_
            refine at_guard_yes rfl rfl rfl ?_
            refine at_val rfl rfl rfl (r_fieldAddr (fo := 86) Try.underlying37 rfl rfl (fun w => ⟨_, Try.sizeOf4 w⟩) rfl) ?_
            refine at_guard_yes rfl rfl rfl ?_
            refine at_val rfl rfl rfl (r_load_cell Try.isAgg4 rfl (lens_cell0 (c := cBool) (y := x0.f_HasKeep) .z (c_api_PeerChange_f_HasKeep g0_ x0) rfl)) ?_
            refine at_guard_yes rfl rfl rfl ?_
            refine at_val rfl rfl rfl (r_fieldAddr (fo := 87) Try.underlying37 rfl rfl (fun w => ⟨_, Try.sizeOf3 w⟩) rfl) ?_
            refine at_guard_yes rfl rfl rfl ?_
            refine at_val rfl rfl rfl (r_load_cell Try.isAgg3 rfl (lens_cell0 (c := (cInt .i64)) (y := x0.f_Keep) .z (c_api_PeerChange_f_Keep g0_ x0) rfl)) ?_
            refine at_guard_yes rfl rfl rfl ?_
            obtain ⟨t18, ht18, hF⟩ := of_bindM hF
            refine at_call0 Try.func52 rfl (by kernel_rfl) rfl rfl (fun w => change_only_int_ok _ _ _ ht18 w) ?_
            refine at_guard_yes rfl rfl rfl ?_
            refine at_val rfl rfl rfl (r_not rfl) ?_
            refine at_val rfl rfl rfl (r_pick rfl rfl rfl) ?_
            refine at_val rfl rfl rfl (r_assign rfl) ?_
            refine at_nil ?_
            refine at_weak [(1, _), (33, _)] ⟨rfl, rfl, trivial⟩ ?_
            refine at_then_normal ?_
            rcases of_ite hF with ⟨h19, hF⟩ | ⟨h19, hF⟩
            · refine at_cond_true rfl h19 ?_
              refine at_seq ?_
              refine at_region ?_
              refine at_val rfl rfl rfl (r_assign rfl) ?_
              refine at_nil ?_
              refine at_drop (H := _) .z ?_
              refine at_weak [(2, _)] ⟨rfl, trivial⟩ ?_
              refine at_then_normal ?_
              refine at_ret ?_
              refine at_blk_ret (at_then_ret ?_)
              have K := of_some hF
              subst K
              exact at_return1 rfl rfl (fun w1 hw => ⟨rfl, hw.below⟩)
            · refine at_cond_false rfl h19 ?_
              refine at_skip ?_
              refine at_blk_normal (at_then_normal ?_)
              refine at_seq ?_
              refine at_region ?_
              refine at_val rfl rfl rfl (r_fieldAddr (fo := 89) Try.underlying37 rfl rfl (fun w => ⟨_, Try.sizeOf35 w⟩) rfl) ?_
              refine at_val rfl rfl rfl (r_load_cell Try.isAgg35 rfl (lens_cell0 (c := cHd) (y := ⟨g0_.1, List.length x0.f_Allowed, g0_.2⟩) .z (c_api_PeerChange_f_Allowed g0_ x0) rfl)) ?_
              refine at_val rfl rfl rfl (r_len_sl Try.underlying35 rfl) ?_
              refine at_val rfl rfl rfl (r_ileq rfl rfl) ?_
              refine at_val rfl rfl rfl (r_move rfl) ?_
              rcases of_ite hF with ⟨h20, hF⟩ | ⟨h20, hF⟩
              · refine at_fix (g := 50) rfl h20 ?_
                refine at_guard_yes rfl rfl rfl ?_
                refine at_val rfl rfl rfl (r_fieldAddr (fo := 89) Try.underlying37 rfl rfl (fun w => ⟨_, Try.sizeOf35 w⟩) rfl) ?_
                refine at_guard_yes rfl rfl rfl ?_
                refine at_val rfl rfl rfl (r_load_cell Try.isAgg35 rfl (lens_cell0 (c := cHd) (y := ⟨g0_.1, List.length x0.f_Allowed, g0_.2⟩) .z (c_api_PeerChange_f_Allowed g0_ x0) rfl)) ?_
                refine at_guard_yes rfl rfl rfl ?_
                obtain ⟨t21, ht21, hF⟩ := of_bindM hF
                refine at_callB Try.func53 rfl (by kernel_rfl) rfl rfl (fun w hw => slices_ContainsFunc_api_Prefix__change_RightPeer_1_ok _ _ _ _ ht21 w (hn0.below hw.below)) ?_
                refine at_guard_yes rfl rfl rfl ?_
                refine at_val rfl rfl rfl (r_not rfl) ?_
                refine at_val rfl rfl rfl (r_pick rfl rfl rfl) ?_
                refine at_val rfl rfl rfl (r_assign rfl) ?_
                refine at_nil ?_
                refine at_drop (H := _) .z ?_
                refine at_weak [(2, _)] ⟨rfl, trivial⟩ ?_
                refine at_then_normal ?_
                refine at_ret ?_
                have K := of_some hF
                subst K
                exact at_return1 rfl rfl (fun w1 hw => ⟨rfl, hw.below⟩)
              · refine at_fix (g := 50) rfl h20 ?_
                refine at_guard_no rfl rfl rfl rfl rfl ?_
                refine at_guard_no rfl rfl rfl rfl rfl ?_
                refine at_guard_no rfl rfl rfl rfl rfl ?_
                refine at_guard_no rfl rfl rfl rfl rfl ?_
                refine at_val rfl rfl rfl (r_pick rfl rfl rfl) ?_
                refine at_val rfl rfl rfl (r_assign rfl) ?_
                refine at_nil ?_
                refine at_drop (H := _) .z ?_
                refine at_weak [(2, _)] ⟨rfl, trivial⟩ ?_
                refine at_then_normal ?_
                refine at_ret ?_
                have K := of_some hF
                subst K
                exact at_return1 rfl rfl (fun w1 hw => ⟨rfl, hw.below⟩)

def change_Right_1 (x0 : S_api_PeerChange) : Option (Bool) :=
  change_RightPeer x0 >>= fun t2 => some (!t2)
theorem change_Right_1_ok (g0_ : G_api_PeerChange) (x0 : S_api_PeerChange) (r : Bool) (hF : change_Right_1 x0 = some r) (w : World) (hn0 : N_api_PeerChange w (g0_, x0)) :
    Calls Try.prog 60 #[.agg (Cd.cs c_api_PeerChange (g0_, x0)).toArray] w (fun e w' => e = .returned (.bool r) ∧ Below w.heap.size w w') := by
  unfold change_Right_1 at hF
  refine calls_enter (l := [.agg (Cd.cs c_api_PeerChange (g0_, x0)).toArray]) Try.func60 rfl rfl rfl ?_
  refine at_start ?_
  refine at_weak [(0, _)] ⟨rfl, trivial⟩ ?_
  refine at_seq ?_
  refine at_region ?_
  refine at_box (cs := Cd.cs c_api_PeerChange (g0_, x0)) rfl rfl rfl ?_
  intro b1
  refine at_val rfl rfl rfl (r_assign rfl) ?_
  refine at_nil ?_
  refine at_weak [(1, _)] ⟨rfl, trivial⟩ ?_
  refine at_then_normal ?_
  refine at_seq ?_
  refine at_region ?_
  refine at_val rfl rfl rfl (r_load_aggc (c := c_api_PeerChange) (z := (g0_, x0)) Try.isAgg37 Try.sizeOf37 rfl (lens_cell .z (Lens.whole _ _))) ?_
  obtain ⟨t2, ht2, hF⟩ := of_bindM hF
  refine at_callB Try.func15 rfl (by kernel_rfl) rfl rfl (fun w hw => change_RightPeer_ok _ _ _ ht2 w (N_api_PeerChange.below hn0 hw.below)) ?_
  refine at_val rfl rfl rfl (r_not rfl) ?_
  refine at_val rfl rfl rfl (r_assign rfl) ?_
  refine at_nil ?_
  refine at_drop (H := _) .z ?_
  refine at_weak [(2, _)] ⟨rfl, trivial⟩ ?_
  refine at_then_normal ?_
  refine at_ret ?_
  have K := of_some hF
  subst K
  exact at_return1 rfl rfl (fun w1 hw => ⟨rfl, hw.below⟩)

def slices_IndexFunc_api_PeerChange__change_Right_1.l0 (x0 : List S_api_PeerChange) (i2 : Int) : Option (Ctl (Int) (Unit)) :=
  if (decide (i2 < (x0.length : Int))) = true then (if (0 : Int) ≤ i2 ∧ i2 < (x0.length : Int) then change_Right_1 (lget x0 i2) >>= fun t14 => if t14 = true then (some (.ret i2)) else (slices_IndexFunc_api_PeerChange__change_Right_1.l0 x0 (wr .i64 (i2 + 1))) else none) else (some (.nx ()))
  partial_fixpoint
def slices_IndexFunc_api_PeerChange__change_Right_1 (x0 : List S_api_PeerChange) : Option (Int) :=
  slices_IndexFunc_api_PeerChange__change_Right_1.l0 x0 0 >>= fun q1 => match q1 with | .ret r' => some r' | .nx sq1 => (some (-1))
theorem slices_IndexFunc_api_PeerChange__change_Right_1_ok (x0 : List S_api_PeerChange) (p0_ : Option Addr) (c0_ : Nat) (r : Int) (hF : slices_IndexFunc_api_PeerChange__change_Right_1 x0 = some r) (w : World) (hr0 : NR_api_PeerChange w p0_ c0_ x0) :
    Calls Try.prog 87 #[.slice p0_ x0.length c0_, .func (.func 60) #[] #[]] w (fun e w' => e = .returned (.int .i64 r) ∧ Below w.heap.size w w') := by
  unfold slices_IndexFunc_api_PeerChange__change_Right_1 at hF
  refine calls_enter (l := [.slice p0_ x0.length c0_, .func (.func 60) #[] #[]]) Try.func87 rfl rfl rfl ?_
  refine at_start ?_
  refine at_weak [(0, _), (1, _)] ⟨rfl, rfl, trivial⟩ ?_
  refine at_seq ?_
  refine at_region ?_
  refine at_val rfl rfl rfl (r_assign rfl) ?_
  refine at_nil ?_
  refine at_weak [(0, _), (1, _)] ⟨rfl, rfl, trivial⟩ ?_
  refine at_then_normal ?_
  refine at_seq ?_
  refine at_seq ?_
  refine at_region ?_
  refine at_val rfl rfl rfl (r_move rfl) ?_
  refine at_val rfl rfl rfl (r_len_sl Try.underlying25 rfl) ?_
  refine at_val rfl rfl rfl (r_move rfl) ?_
  refine at_nil ?_
  refine at_weak [(0, _), (1, _), (7, _), (8, _)] ⟨rfl, rfl, rfl, rfl, trivial⟩ ?_
  refine at_then_normal ?_
  refine at_block ?_
  obtain ⟨q1, hq1, hF⟩ := of_bindM hF
  refine at_weak [(0, _), (1, _), (7, _), (8, _)] ⟨rfl, rfl, rfl, rfl, trivial⟩ ?_
  refine at_loop_r (B := 0) (r := r) (q := q1) (A := fun (_ : Unit) Y => At 19 [] (Wd w []) Y) ?_ ?_
  · intro K
    refine slices_IndexFunc_api_PeerChange__change_Right_1.l0.partial_correctness x0 (motive := fun i2 x => KR (fun (_ : Unit) Y => At 19 [] (Wd w []) Y) _ 0 r x → Round (fun Y => At 19 [(0, .slice p0_ x0.length c0_), (1, .func (.func 60) #[] #[]), (7, .int .i64 (x0.length : Int)), (8, .int .i64 i2)] (Wd w []) Y) _ _ _) ?_ _ _ hq1 K
    · clear K hF
      intro g ih i2 x hF K
      refine at_round ?_
      refine at_seq ?_
      refine at_region ?_
      refine at_val rfl rfl rfl (r_ilss rfl rfl) ?_
      refine at_nil ?_
      refine at_weak [(0, _), (1, _), (7, _), (8, _), (9, _)] ⟨rfl, rfl, rfl, rfl, rfl, trivial⟩ ?_
      refine at_then_normal ?_
      refine at_seq ?_
      rcases of_ite hF with ⟨h3, hF⟩ | ⟨h3, hF⟩
      · refine at_cond_true rfl h3 ?_
        refine at_skip ?_
        refine at_then_normal ?_
        refine at_seq ?_
        refine at_block ?_
        refine at_seq ?_
        refine at_region ?_
        refine at_val rfl rfl rfl (r_move rfl) ?_
        refine at_val rfl rfl rfl (r_assign rfl) ?_
        refine at_nil ?_
        refine at_weak [(0, _), (1, _), (5, _), (7, _), (8, _)] ⟨rfl, rfl, rfl, rfl, rfl, trivial⟩ ?_
        refine at_then_normal ?_
        refine at_seq ?_
        refine at_region ?_
        refine at_val rfl rfl rfl (r_move rfl) ?_
        refine at_val rfl rfl rfl (r_move rfl) ?_
        refine at_val rfl rfl rfl (r_move rfl) ?_
        obtain ⟨h4, hF⟩ := of_guard hF
        obtain ⟨zs8, hz9, hr10, hn11⟩ := hr0
        obtain ⟨b6, o7, hp5⟩ := row_ptr hr10 (zidx hz9 h4)
        obtain ⟨g12, hg13⟩ := zget hz9 i2
        refine at_val rfl rfl rfl (r_idx Try.underlying25 Try.sizeOf37 rfl rfl h4 hp5) ?_
        refine at_val rfl rfl rfl (r_load_aggc (c := c_api_PeerChange) (z := (g12, lget x0 i2)) Try.isAgg37 Try.sizeOf37 rfl (ncell (fun _ h => h.below) hr10 (zidx hz9 h4) hp5 hg13)) ?_
        refine at_callee rfl ?_
        obtain ⟨t14, ht14, hF⟩ := of_bindM hF
        refine at_callB Try.func60 rfl (by kernel_rfl) rfl rfl (fun w hw => change_Right_1_ok _ _ _ ht14 w (N_api_PeerChange.below (nz hg13 hn11 (zidx hz9 h4)) hw.below)) ?_
        refine at_nil ?_
        refine at_weak [(0, _), (1, _), (5, _), (7, _), (8, _), (16, _)] ⟨rfl, rfl, rfl, rfl, rfl, rfl, trivial⟩ ?_
        refine at_then_normal ?_
        rcases of_ite hF with ⟨h15, hF⟩ | ⟨h15, hF⟩
        · refine at_cond_true rfl h15 ?_
          refine at_seq ?_
          refine at_region ?_
          refine at_val rfl rfl rfl (r_move rfl) ?_
          refine at_val rfl rfl rfl (r_assign rfl) ?_
          refine at_nil ?_
          refine at_weak [(4, _)] ⟨rfl, trivial⟩ ?_
          refine at_then_normal ?_
          refine at_ret ?_
          refine at_blk_ret (at_then_ret (at_then_ret (at_blk_ret (at_then_ret ?_))))
          obtain rfl := of_some hF
          subst K
          exact at_return1 rfl rfl (fun w1 hw => ⟨rfl, hw.below⟩)
        · refine at_cond_false rfl h15 ?_
          refine at_skip ?_
          refine at_blk_normal (at_then_normal ?_)
          refine at_region ?_
          refine at_val rfl rfl rfl (r_iadd rfl rfl) ?_
          refine at_val rfl rfl rfl (r_move rfl) ?_
          refine at_nil ?_
          refine at_weak [(0, _), (1, _), (7, _), (8, _)] ⟨rfl, rfl, rfl, rfl, trivial⟩ ?_
          refine at_then_normal ?_
          exact at_weak_k (ih _ _ hF K) ⟨rfl, rfl, rfl, rfl, trivial⟩
      · refine at_cond_false rfl h3 ?_
        refine at_exit ?_
        refine at_then_exit (at_then_exit ?_)
        obtain rfl := of_some hF
        exact at_weak_k K trivial
  · cases q1 with
    | ret r' => exact of_some hF
    | nx sq1 =>
      skip
      refine at_blk_same ?_
      refine at_then_normal ?_
      refine at_seq ?_
      refine at_region ?_
      refine at_val rfl rfl rfl (r_assign rfl) ?_
      refine at_nil ?_
      refine at_weak [(4, _)] ⟨rfl, trivial⟩ ?_
      refine at_then_normal ?_
      refine at_ret ?_
      have K := of_some hF
      subst K
      exact at_return1 rfl rfl (fun w1 hw => ⟨rfl, hw.below⟩)

def slices_ContainsFunc_api_PeerChange__change_Right_1 (x0 : List S_api_PeerChange) : Option (Bool) :=
  slices_IndexFunc_api_PeerChange__change_Right_1 x0 >>= fun t1 => some (decide (t1 ≥ 0))
theorem slices_ContainsFunc_api_PeerChange__change_Right_1_ok (x0 : List S_api_PeerChange) (p0_ : Option Addr) (c0_ : Nat) (r : Bool) (hF : slices_ContainsFunc_api_PeerChange__change_Right_1 x0 = some r) (w : World) (hr0 : NR_api_PeerChange w p0_ c0_ x0) :
    Calls Try.prog 59 #[.slice p0_ x0.length c0_, .func (.func 60) #[] #[]] w (fun e w' => e = .returned (.bool r) ∧ Below w.heap.size w w') := by
  unfold slices_ContainsFunc_api_PeerChange__change_Right_1 at hF
  refine calls_enter (l := [.slice p0_ x0.length c0_, .func (.func 60) #[] #[]]) Try.func59 rfl rfl rfl ?_
  refine at_start ?_
  refine at_weak [(0, _), (1, _)] ⟨rfl, rfl, trivial⟩ ?_
  refine at_seq ?_
  refine at_region ?_
  refine at_val rfl rfl rfl (r_assign rfl) ?_
  refine at_nil ?_
  refine at_weak [(0, _), (1, _)] ⟨rfl, rfl, trivial⟩ ?_
  refine at_then_normal ?_
  refine at_seq ?_
  refine at_region ?_
  refine at_val rfl rfl rfl (r_move rfl) ?_
  refine at_val rfl rfl rfl (r_move rfl) ?_
  obtain ⟨t1, ht1, hF⟩ := of_bindM hF
  refine at_callB Try.func87 rfl (by kernel_rfl) rfl rfl (fun w hw => slices_IndexFunc_api_PeerChange__change_Right_1_ok _ _ _ _ ht1 w (NR_api_PeerChange.below hr0 hw.below)) ?_
  refine at_val rfl rfl rfl (r_igeq rfl rfl) ?_
  refine at_val rfl rfl rfl (r_assign rfl) ?_
  refine at_nil ?_
  refine at_weak [(4, _)] ⟨rfl, trivial⟩ ?_
  refine at_then_normal ?_
  refine at_ret ?_
  have K := of_some hF
  subst K
  exact at_return1 rfl rfl (fun w1 hw => ⟨rfl, hw.below⟩)

def change_Right (x0 : S_api_Request) : Option (Bool) :=
  change_only_api_Key x0.f_HasPrivate x0.f_Private >>= fun t2 => if (!t2) = true then (some false) else (change_only_int x0.f_HasPort x0.f_Port >>= fun t4 => if (!t4) = true then (some false) else (change_only_uint32 x0.f_HasMark x0.f_Mark >>= fun t6 => if (!t6) = true then (some false) else (change_short x0.f_Port >>= fun t8 => if (!t8) = true then (some false) else (if (decide ((x0.f_Peers.length : Int) > 64)) = true then (some false) else (slices_ContainsFunc_api_PeerChange__change_Right_1 x0.f_Peers >>= fun t11 => some (!t11))))))
theorem change_Right_ok (g0_ : G_api_Request) (x0 : S_api_Request) (r : Bool) (hF : change_Right x0 = some r) (w : World) (hn0 : N_api_Request w (g0_, x0)) :
    Calls Try.prog 17 #[.agg (Cd.cs c_api_Request (g0_, x0)).toArray] w (fun e w' => e = .returned (.bool r) ∧ Below w.heap.size w w') := by
  unfold change_Right at hF
  refine calls_enter (l := [.agg (Cd.cs c_api_Request (g0_, x0)).toArray]) Try.func17 rfl rfl rfl ?_
  refine at_start ?_
  refine at_weak [(0, _)] ⟨rfl, trivial⟩ ?_
  refine at_seq ?_
  refine at_region ?_
  refine at_box (cs := Cd.cs c_api_Request (g0_, x0)) rfl rfl rfl ?_
  intro b1
  refine at_val rfl rfl rfl (r_assign rfl) ?_
  refine at_nil ?_
  refine at_weak [(1, _)] ⟨rfl, trivial⟩ ?_
  refine at_then_normal ?_
  refine at_seq ?_
  refine at_block ?_
  refine at_seq ?_
  refine at_region ?_
  refine at_val rfl rfl rfl (r_fieldAddr (fo := 0) Try.underlying27 rfl rfl (fun w => ⟨_, Try.sizeOf4 w⟩) rfl) ?_
  refine at_val rfl rfl rfl (r_load_cell Try.isAgg4 rfl (lens_cell0 (c := cBool) (y := x0.f_HasPrivate) .z (c_api_Request_f_HasPrivate g0_ x0) rfl)) ?_
  refine at_val rfl rfl rfl (r_fieldAddr (fo := 1) Try.underlying27 rfl rfl (fun w => ⟨_, Try.sizeOf23 w⟩) rfl) ?_
  refine at_val rfl rfl rfl (r_load_aggc (c := (cVec (cInt .u8) 32 (by decide))) (z := x0.f_Private) Try.isAgg23 Try.sizeOf23 rfl (lens_cell .z (c_api_Request_f_Private g0_ x0))) ?_
  obtain ⟨t2, ht2, hF⟩ := of_bindM hF
  refine at_callB Try.func48 rfl (by kernel_rfl) rfl rfl (fun w hw => change_only_api_Key_ok _ _ _ ht2 w) ?_
  refine at_val rfl rfl rfl (r_not rfl) ?_
  refine at_val rfl rfl rfl (r_move rfl) ?_
  rcases of_ite hF with ⟨h3, hF⟩ | ⟨h3, hF⟩
  · refine at_fix (g := 10) rfl h3 ?_
    refine at_guard_no rfl rfl rfl rfl rfl ?_
    refine at_guard_no rfl rfl rfl rfl rfl ?_
    refine at_guard_no rfl rfl rfl rfl rfl ?_
    refine at_guard_no rfl rfl rfl rfl rfl ?_
    refine at_guard_no rfl rfl rfl rfl rfl ?_
    refine at_guard_no rfl rfl rfl rfl rfl ?_
    refine at_val rfl rfl rfl (r_pick rfl rfl rfl) ?_
    refine at_val rfl rfl rfl (r_move rfl) ?_
    refine at_guard_no rfl rfl rfl rfl rfl ?_
    refine at_guard_no rfl rfl rfl rfl rfl ?_
    refine at_guard_no rfl rfl rfl rfl rfl ?_
    refine at_guard_no rfl rfl rfl rfl rfl ?_
    refine at_guard_no rfl rfl rfl rfl rfl ?_
    refine at_guard_no rfl rfl rfl rfl rfl ?_
    refine at_val rfl rfl rfl (r_pick rfl rfl rfl) ?_
    refine at_val rfl rfl rfl (r_assign rfl) ?_
    refine at_nil ?_
    refine at_weak [(1, _), (3, _)] ⟨rfl, rfl, trivial⟩ ?_
    refine at_then_normal ?_
    refine at_cond_true rfl rfl ?_
    refine at_seq ?_
    refine at_region ?_
    refine at_val rfl rfl rfl (r_assign rfl) ?_
    refine at_nil ?_
    refine at_drop (H := _) .z ?_
    refine at_weak [(2, _)] ⟨rfl, trivial⟩ ?_
    refine at_then_normal ?_
    refine at_ret ?_
    refine at_blk_ret (at_then_ret ?_)
    have K := of_some hF
    subst K
    exact at_return1 rfl rfl (fun w1 hw => ⟨rfl, hw.below⟩)
  · refine at_fix (g := 10) rfl h3 ?_
    refine at_guard_yes rfl rfl rfl ?_
    refine at_val rfl rfl rfl (r_fieldAddr (fo := 33) Try.underlying27 rfl rfl (fun w => ⟨_, Try.sizeOf4 w⟩) rfl) ?_
    refine at_guard_yes rfl rfl rfl ?_
    refine at_val rfl rfl rfl (r_load_cell Try.isAgg4 rfl (lens_cell0 (c := cBool) (y := x0.f_HasPort) .z (c_api_Request_f_HasPort g0_ x0) rfl)) ?_
    refine at_guard_yes rfl rfl rfl ?_
    refine at_val rfl rfl rfl (r_fieldAddr (fo := 34) Try.underlying27 rfl rfl (fun w => ⟨_, Try.sizeOf3 w⟩) rfl) ?_
    refine at_guard_yes rfl rfl rfl ?_
    refine at_val rfl rfl rfl (r_load_cell Try.isAgg3 rfl (lens_cell0 (c := (cInt .i64)) (y := x0.f_Port) .z (c_api_Request_f_Port g0_ x0) rfl)) ?_
    refine at_guard_yes rfl rfl rfl ?_
    obtain ⟨t4, ht4, hF⟩ := of_bindM hF
    refine at_call0 Try.func52 rfl (by kernel_rfl) rfl rfl (fun w => change_only_int_ok _ _ _ ht4 w) ?_
    refine at_guard_yes rfl rfl rfl ?_
    refine at_val rfl rfl rfl (r_not rfl) ?_
    refine at_val rfl rfl rfl (r_pick rfl rfl rfl) ?_
    refine at_val rfl rfl rfl (r_move rfl) ?_
    rcases of_ite hF with ⟨h5, hF⟩ | ⟨h5, hF⟩
    · refine at_fix (g := 18) rfl h5 ?_
      refine at_guard_no rfl rfl rfl rfl rfl ?_
      refine at_guard_no rfl rfl rfl rfl rfl ?_
      refine at_guard_no rfl rfl rfl rfl rfl ?_
      refine at_guard_no rfl rfl rfl rfl rfl ?_
      refine at_guard_no rfl rfl rfl rfl rfl ?_
      refine at_guard_no rfl rfl rfl rfl rfl ?_
      refine at_val rfl rfl rfl (r_pick rfl rfl rfl) ?_
      refine at_val rfl rfl rfl (r_assign rfl) ?_
      refine at_nil ?_
      refine at_weak [(1, _), (3, _)] ⟨rfl, rfl, trivial⟩ ?_
      refine at_then_normal ?_
      refine at_cond_true rfl rfl ?_
      refine at_seq ?_
      refine at_region ?_
      refine at_val rfl rfl rfl (r_assign rfl) ?_
      refine at_nil ?_
      refine at_drop (H := _) .z ?_
      refine at_weak [(2, _)] ⟨rfl, trivial⟩ ?_
      refine at_then_normal ?_
      refine at_ret ?_
      refine at_blk_ret (at_then_ret ?_)
      have K := of_some hF
      subst K
      exact at_return1 rfl rfl (fun w1 hw => ⟨rfl, hw.below⟩)
    · refine at_fix (g := 18) rfl h5 ?_
      refine at_guard_yes rfl rfl rfl ?_
      refine at_val rfl rfl rfl (r_fieldAddr (fo := 35) Try.underlying27 rfl rfl (fun w => ⟨_, Try.sizeOf4 w⟩) rfl) ?_
      refine at_guard_yes rfl rfl rfl ?_
      refine at_val rfl rfl rfl (r_load_cell Try.isAgg4 rfl (lens_cell0 (c := cBool) (y := x0.f_HasMark) .z (c_api_Request_f_HasMark g0_ x0) rfl)) ?_
      refine at_guard_yes rfl rfl rfl ?_
      refine at_val rfl rfl rfl (r_fieldAddr (fo := 36) Try.underlying27 rfl rfl (fun w => ⟨_, Try.sizeOf24 w⟩) rfl) ?_
      refine at_guard_yes rfl rfl rfl ?_
      refine at_val rfl rfl rfl (r_load_cell Try.isAgg24 rfl (lens_cell0 (c := (cInt .u32)) (y := x0.f_Mark) .z (c_api_Request_f_Mark g0_ x0) rfl)) ?_
      refine at_guard_yes rfl rfl rfl ?_
      obtain ⟨t6, ht6, hF⟩ := of_bindM hF
      refine at_call0 Try.func58 rfl (by kernel_rfl) rfl rfl (fun w => change_only_uint32_ok _ _ _ ht6 w) ?_
      refine at_guard_yes rfl rfl rfl ?_
      refine at_val rfl rfl rfl (r_not rfl) ?_
      refine at_val rfl rfl rfl (r_pick rfl rfl rfl) ?_
      refine at_val rfl rfl rfl (r_assign rfl) ?_
      refine at_nil ?_
      refine at_weak [(1, _), (3, _)] ⟨rfl, rfl, trivial⟩ ?_
      refine at_then_normal ?_
      rcases of_ite hF with ⟨h7, hF⟩ | ⟨h7, hF⟩
      · refine at_cond_true rfl h7 ?_
        refine at_seq ?_
        refine at_region ?_
        refine at_val rfl rfl rfl (r_assign rfl) ?_
        refine at_nil ?_
        refine at_drop (H := _) .z ?_
        refine at_weak [(2, _)] ⟨rfl, trivial⟩ ?_
        refine at_then_normal ?_
        refine at_ret ?_
        refine at_blk_ret (at_then_ret ?_)
        have K := of_some hF
        subst K
        exact at_return1 rfl rfl (fun w1 hw => ⟨rfl, hw.below⟩)
      · refine at_cond_false rfl h7 ?_
        refine at_seq ?_
        refine at_region ?_
        refine at_val rfl rfl rfl (r_fieldAddr (fo := 34) Try.underlying27 rfl rfl (fun w => ⟨_, Try.sizeOf3 w⟩) rfl) ?_
        refine at_val rfl rfl rfl (r_load_cell Try.isAgg3 rfl (lens_cell0 (c := (cInt .i64)) (y := x0.f_Port) .z (c_api_Request_f_Port g0_ x0) rfl)) ?_
        obtain ⟨t8, ht8, hF⟩ := of_bindM hF
        refine at_call0 Try.func51 rfl (by kernel_rfl) rfl rfl (fun w => change_short_ok _ _ ht8 w) ?_
        refine at_val rfl rfl rfl (r_not rfl) ?_
        refine at_val rfl rfl rfl (r_move rfl) ?_
        rcases of_ite hF with ⟨h9, hF⟩ | ⟨h9, hF⟩
        · refine at_fix (g := 31) rfl h9 ?_
          refine at_guard_no rfl rfl rfl rfl rfl ?_
          refine at_guard_no rfl rfl rfl rfl rfl ?_
          refine at_guard_no rfl rfl rfl rfl rfl ?_
          refine at_guard_no rfl rfl rfl rfl rfl ?_
          refine at_val rfl rfl rfl (r_pick rfl rfl rfl) ?_
          refine at_val rfl rfl rfl (r_assign rfl) ?_
          refine at_nil ?_
          refine at_weak [(1, _), (26, _)] ⟨rfl, rfl, trivial⟩ ?_
          refine at_then_normal ?_
          refine at_cond_true rfl rfl ?_
          refine at_seq ?_
          refine at_region ?_
          refine at_val rfl rfl rfl (r_assign rfl) ?_
          refine at_nil ?_
          refine at_drop (H := _) .z ?_
          refine at_weak [(2, _)] ⟨rfl, trivial⟩ ?_
          refine at_then_normal ?_
          refine at_ret ?_
          refine at_blk_ret (at_then_ret ?_)
          have K := of_some hF
          subst K
          exact at_return1 rfl rfl (fun w1 hw => ⟨rfl, hw.below⟩)
        · refine at_fix (g := 31) rfl h9 ?_
          refine at_guard_yes rfl rfl rfl ?_
          refine at_val rfl rfl rfl (r_fieldAddr (fo := 38) Try.underlying27 rfl rfl (fun w => ⟨_, Try.sizeOf25 w⟩) rfl) ?_
          refine at_guard_yes rfl rfl rfl ?_
          refine at_val rfl rfl rfl (r_load_cell Try.isAgg25 rfl (lens_cell0 (c := cHd) (y := ⟨g0_.1, List.length x0.f_Peers, g0_.2⟩) .z (c_api_Request_f_Peers g0_ x0) rfl)) ?_
          refine at_guard_yes rfl rfl rfl ?_
          refine at_val rfl rfl rfl (r_len_sl Try.underlying25 rfl) ?_
          refine at_guard_yes rfl rfl rfl ?_
          refine at_val rfl rfl rfl (r_igtr rfl rfl) ?_
          refine at_val rfl rfl rfl (r_pick rfl rfl rfl) ?_
          refine at_val rfl rfl rfl (r_assign rfl) ?_
          refine at_nil ?_
          refine at_weak [(1, _), (26, _)] ⟨rfl, rfl, trivial⟩ ?_
          refine at_then_normal ?_
          rcases of_ite hF with ⟨h10, hF⟩ | ⟨h10, hF⟩
          · refine at_cond_true rfl h10 ?_
            refine at_seq ?_
            refine at_region ?_
            refine at_val rfl rfl rfl (r_assign rfl) ?_
            refine at_nil ?_
            refine at_drop (H := _) .z ?_
            refine at_weak [(2, _)] ⟨rfl, trivial⟩ ?_
            refine at_then_normal ?_
            refine at_ret ?_
            refine at_blk_ret (at_then_ret ?_)
            have K := of_some hF
            subst K
            exact at_return1 rfl rfl (fun w1 hw => ⟨rfl, hw.below⟩)
          · refine at_cond_false rfl h10 ?_
            refine at_skip ?_
            refine at_blk_normal (at_then_normal ?_)
            refine at_seq ?_
            refine at_region ?_
            refine at_val rfl rfl rfl (r_fieldAddr (fo := 38) Try.underlying27 rfl rfl (fun w => ⟨_, Try.sizeOf25 w⟩) rfl) ?_
            refine at_val rfl rfl rfl (r_load_cell Try.isAgg25 rfl (lens_cell0 (c := cHd) (y := ⟨g0_.1, List.length x0.f_Peers, g0_.2⟩) .z (c_api_Request_f_Peers g0_ x0) rfl)) ?_
            obtain ⟨t11, ht11, hF⟩ := of_bindM hF
            refine at_callB Try.func59 rfl (by kernel_rfl) rfl rfl (fun w hw => slices_ContainsFunc_api_PeerChange__change_Right_1_ok _ _ _ _ ht11 w (NR_api_PeerChange.below hn0 hw.below)) ?_
            refine at_val rfl rfl rfl (r_not rfl) ?_
            refine at_val rfl rfl rfl (r_assign rfl) ?_
            refine at_nil ?_
            refine at_drop (H := _) .z ?_
            refine at_weak [(2, _)] ⟨rfl, trivial⟩ ?_
            refine at_then_normal ?_
            refine at_ret ?_
            have K := of_some hF
            subst K
            exact at_return1 rfl rfl (fun w1 hw => ⟨rfl, hw.below⟩)

def crawlwaylaw32_alive : Option (Bool) :=
  change_Right ({ f_HasPrivate := false, f_Private := (Vector.replicate 32 (0 : Int) : (Vector Int 32)), f_HasPort := false, f_Port := (0 : Int), f_HasMark := false, f_Mark := (0 : Int), f_Replace := false, f_Peers := ([] : List S_api_PeerChange) } : S_api_Request) >>= fun t1 => if t1 = true then (change_Right ({ ({ f_HasPrivate := false, f_Private := (Vector.replicate 32 (0 : Int) : (Vector Int 32)), f_HasPort := false, f_Port := (0 : Int), f_HasMark := false, f_Mark := (0 : Int), f_Replace := false, f_Peers := ([] : List S_api_PeerChange) } : S_api_Request) with f_Peers := ([({ f_Key := (Vector.replicate 32 (0 : Int) : (Vector Int 32)), f_Remove := false, f_Update := false, f_HasPsk := false, f_Psk := (Vector.replicate 32 (0 : Int) : (Vector Int 32)), f_HasEnd := false, f_End := ({ f_A := ({ f_V := (0 : Int), f_B := (Vector.replicate 16 (0 : Int) : (Vector Int 16)) } : S_api_Addr), f_Port := (0 : Int) } : S_api_Endpoint), f_HasKeep := false, f_Keep := (0 : Int), f_Replace := false, f_Allowed := ([] : List S_api_Prefix) } : S_api_PeerChange)] : List S_api_PeerChange) }) >>= fun t4 => if (!t4) = true then (change_RightPeer ({ ({ f_Key := (Vector.replicate 32 (0 : Int) : (Vector Int 32)), f_Remove := false, f_Update := false, f_HasPsk := false, f_Psk := (Vector.replicate 32 (0 : Int) : (Vector Int 32)), f_HasEnd := false, f_End := ({ f_A := ({ f_V := (0 : Int), f_B := (Vector.replicate 16 (0 : Int) : (Vector Int 16)) } : S_api_Addr), f_Port := (0 : Int) } : S_api_Endpoint), f_HasKeep := false, f_Keep := (0 : Int), f_Replace := false, f_Allowed := ([] : List S_api_Prefix) } : S_api_PeerChange) with f_Key := vset (Vector.replicate 32 (0 : Int) : (Vector Int 32)) 0 1 }) >>= fun t6 => some t6) else (some false)) else (some false)
theorem crawlwaylaw32_alive_ok (r : Bool) (hF : crawlwaylaw32_alive  = some r) (w : World) :
    Calls Try.prog 14 #[] w (fun e w' => e = .returned (.bool r) ∧ Below w.heap.size w w') := by
  unfold crawlwaylaw32_alive at hF
  refine calls_enter (l := []) Try.func14 rfl rfl rfl ?_
  refine at_start ?_
  refine at_weak [] trivial ?_
  refine at_seq ?_
  refine at_region ?_
  refine at_val rfl rfl rfl (r_assign rfl) ?_
  refine at_nil ?_
  refine at_weak [] trivial ?_
  refine at_then_normal ?_
  refine at_seq ?_
  refine at_region ?_
  refine at_val rfl rfl rfl (r_build_struct (zs := Cd.cs c_api_Request (((none : Option Addr), (0 : Nat)), ({ f_HasPrivate := false, f_Private := (Vector.replicate 32 (0 : Int) : (Vector Int 32)), f_HasPort := false, f_Port := (0 : Int), f_HasMark := false, f_Mark := (0 : Int), f_Replace := false, f_Peers := ([] : List S_api_PeerChange) } : S_api_Request))) (cs := Cd.cs c_api_Request (((none : Option Addr), (0 : Nat)), ({ f_HasPrivate := false, f_Private := (Vector.replicate 32 (0 : Int) : (Vector Int 32)), f_HasPort := false, f_Port := (0 : Int), f_HasMark := false, f_Mark := (0 : Int), f_Replace := false, f_Peers := ([] : List S_api_PeerChange) } : S_api_Request))) Try.underlying27 Try.zeroValue27 rfl (places_api_Request_27) rfl rfl) ?_
  obtain ⟨t1, ht1, hF⟩ := of_bindM hF
  refine at_callB Try.func17 rfl (by kernel_rfl) rfl rfl (fun w hw => change_Right_ok _ _ _ ht1 w (NRow.nil ..)) ?_
  refine at_val rfl rfl rfl (r_move rfl) ?_
  rcases of_ite hF with ⟨h2, hF⟩ | ⟨h2, hF⟩
  · refine at_fix (g := 3) rfl h2 ?_
    refine at_guard_yes rfl rfl rfl ?_
    refine at_val rfl rfl rfl (r_build_struct (zs := Cd.cs c_api_PeerChange (((none : Option Addr), (0 : Nat)), ({ f_Key := (Vector.replicate 32 (0 : Int) : (Vector Int 32)), f_Remove := false, f_Update := false, f_HasPsk := false, f_Psk := (Vector.replicate 32 (0 : Int) : (Vector Int 32)), f_HasEnd := false, f_End := ({ f_A := ({ f_V := (0 : Int), f_B := (Vector.replicate 16 (0 : Int) : (Vector Int 16)) } : S_api_Addr), f_Port := (0 : Int) } : S_api_Endpoint), f_HasKeep := false, f_Keep := (0 : Int), f_Replace := false, f_Allowed := ([] : List S_api_Prefix) } : S_api_PeerChange))) (cs := Cd.cs c_api_PeerChange (((none : Option Addr), (0 : Nat)), ({ f_Key := (Vector.replicate 32 (0 : Int) : (Vector Int 32)), f_Remove := false, f_Update := false, f_HasPsk := false, f_Psk := (Vector.replicate 32 (0 : Int) : (Vector Int 32)), f_HasEnd := false, f_End := ({ f_A := ({ f_V := (0 : Int), f_B := (Vector.replicate 16 (0 : Int) : (Vector Int 16)) } : S_api_Addr), f_Port := (0 : Int) } : S_api_Endpoint), f_HasKeep := false, f_Keep := (0 : Int), f_Replace := false, f_Allowed := ([] : List S_api_Prefix) } : S_api_PeerChange))) Try.underlying37 Try.zeroValue37 rfl (places_api_PeerChange_37) rfl rfl) ?_
    refine at_guard_yes rfl rfl rfl ?_
    refine at_litG (cs := Cd.all c_api_PeerChange ([(((none : Option Addr), (0 : Nat)), ({ f_Key := (Vector.replicate 32 (0 : Int) : (Vector Int 32)), f_Remove := false, f_Update := false, f_HasPsk := false, f_Psk := (Vector.replicate 32 (0 : Int) : (Vector Int 32)), f_HasEnd := false, f_End := ({ f_A := ({ f_V := (0 : Int), f_B := (Vector.replicate 16 (0 : Int) : (Vector Int 16)) } : S_api_Addr), f_Port := (0 : Int) } : S_api_Endpoint), f_HasKeep := false, f_Keep := (0 : Int), f_Replace := false, f_Allowed := ([] : List S_api_Prefix) } : S_api_PeerChange))] : List (G_api_PeerChange × S_api_PeerChange))) Try.underlying25 Try.sizeOf37 Try.zeroValue37 rfl rfl rfl (by kernel_rfl) rfl ?_
    intro b3
    refine at_guard_yes rfl rfl rfl ?_
    refine at_val rfl rfl rfl (r_build_struct (zs := Cd.cs c_api_Request (((none : Option Addr), (0 : Nat)), ({ f_HasPrivate := false, f_Private := (Vector.replicate 32 (0 : Int) : (Vector Int 32)), f_HasPort := false, f_Port := (0 : Int), f_HasMark := false, f_Mark := (0 : Int), f_Replace := false, f_Peers := ([] : List S_api_PeerChange) } : S_api_Request))) (cs := Cd.cs c_api_Request (((some ⟨b3, 0, none⟩ : Option Addr), 1), { ({ f_HasPrivate := false, f_Private := (Vector.replicate 32 (0 : Int) : (Vector Int 32)), f_HasPort := false, f_Port := (0 : Int), f_HasMark := false, f_Mark := (0 : Int), f_Replace := false, f_Peers := ([] : List S_api_PeerChange) } : S_api_Request) with f_Peers := ([({ f_Key := (Vector.replicate 32 (0 : Int) : (Vector Int 32)), f_Remove := false, f_Update := false, f_HasPsk := false, f_Psk := (Vector.replicate 32 (0 : Int) : (Vector Int 32)), f_HasEnd := false, f_End := ({ f_A := ({ f_V := (0 : Int), f_B := (Vector.replicate 16 (0 : Int) : (Vector Int 16)) } : S_api_Addr), f_Port := (0 : Int) } : S_api_Endpoint), f_HasKeep := false, f_Keep := (0 : Int), f_Replace := false, f_Allowed := ([] : List S_api_Prefix) } : S_api_PeerChange)] : List S_api_PeerChange) })) Try.underlying27 Try.zeroValue27 rfl (places_api_Request_27) rfl (fill_step (c := cHd) (z := ⟨(some ⟨b3, 0, none⟩ : Option Addr), List.length ([({ f_Key := (Vector.replicate 32 (0 : Int) : (Vector Int 32)), f_Remove := false, f_Update := false, f_HasPsk := false, f_Psk := (Vector.replicate 32 (0 : Int) : (Vector Int 32)), f_HasEnd := false, f_End := ({ f_A := ({ f_V := (0 : Int), f_B := (Vector.replicate 16 (0 : Int) : (Vector Int 16)) } : S_api_Addr), f_Port := (0 : Int) } : S_api_Endpoint), f_HasKeep := false, f_Keep := (0 : Int), f_Replace := false, f_Allowed := ([] : List S_api_Prefix) } : S_api_PeerChange)] : List S_api_PeerChange), 1⟩) rfl (c_api_Request_f_Peers ((none : Option Addr), (0 : Nat)) ({ f_HasPrivate := false, f_Private := (Vector.replicate 32 (0 : Int) : (Vector Int 32)), f_HasPort := false, f_Port := (0 : Int), f_HasMark := false, f_Mark := (0 : Int), f_Replace := false, f_Peers := ([] : List S_api_PeerChange) } : S_api_Request)) rfl rfl)) ?_
    refine at_guard_yes rfl rfl rfl ?_
    obtain ⟨t4, ht4, hF⟩ := of_bindM hF
    refine at_callB Try.func17 rfl (by kernel_rfl) rfl rfl (fun w hw => change_Right_ok _ _ _ ht4 w ⟨([(((none : Option Addr), (0 : Nat)), ({ f_Key := (Vector.replicate 32 (0 : Int) : (Vector Int 32)), f_Remove := false, f_Update := false, f_HasPsk := false, f_Psk := (Vector.replicate 32 (0 : Int) : (Vector Int 32)), f_HasEnd := false, f_End := ({ f_A := ({ f_V := (0 : Int), f_B := (Vector.replicate 16 (0 : Int) : (Vector Int 16)) } : S_api_Addr), f_Port := (0 : Int) } : S_api_Endpoint), f_HasKeep := false, f_Keep := (0 : Int), f_Replace := false, f_Allowed := ([] : List S_api_Prefix) } : S_api_PeerChange))] : List (G_api_PeerChange × S_api_PeerChange)), rfl, cells_row (hw.ok (Upd.mem .z)), (all_cons (Row.nil ..) all_nil)⟩) ?_
    refine at_guard_yes rfl rfl rfl ?_
    refine at_val rfl rfl rfl (r_not rfl) ?_
    refine at_val rfl rfl rfl (r_pick rfl rfl rfl) ?_
    refine at_val rfl rfl rfl (r_move rfl) ?_
    rcases of_ite hF with ⟨h5, hF⟩ | ⟨h5, hF⟩
    · refine at_fix (g := 10) rfl h5 ?_
      refine at_guard_yes rfl rfl rfl ?_
      refine at_val rfl rfl rfl (r_build_array (zs := Cd.cs (cVec (cInt .u8) 32 (by decide)) (Vector.replicate 32 (0 : Int) : (Vector Int 32))) (cs := Cd.cs (cVec (cInt .u8) 32 (by decide)) (vset (Vector.replicate 32 (0 : Int) : (Vector Int 32)) 0 1)) Try.underlying23 Try.zeroValue23 rfl Try.sizeOf5 rfl (fill_step (c := (cInt .u8)) (z := 1) rfl (Lens.vec (cInt .u8) (by decide) (Vector.replicate 32 (0 : Int) : (Vector Int 32)) 0 (by decide)) rfl rfl)) ?_
      refine at_guard_yes rfl rfl rfl ?_
      refine at_val rfl rfl rfl (r_build_struct (zs := Cd.cs c_api_PeerChange (((none : Option Addr), (0 : Nat)), ({ f_Key := (Vector.replicate 32 (0 : Int) : (Vector Int 32)), f_Remove := false, f_Update := false, f_HasPsk := false, f_Psk := (Vector.replicate 32 (0 : Int) : (Vector Int 32)), f_HasEnd := false, f_End := ({ f_A := ({ f_V := (0 : Int), f_B := (Vector.replicate 16 (0 : Int) : (Vector Int 16)) } : S_api_Addr), f_Port := (0 : Int) } : S_api_Endpoint), f_HasKeep := false, f_Keep := (0 : Int), f_Replace := false, f_Allowed := ([] : List S_api_Prefix) } : S_api_PeerChange))) (cs := Cd.cs c_api_PeerChange (((none : Option Addr), (0 : Nat)), { ({ f_Key := (Vector.replicate 32 (0 : Int) : (Vector Int 32)), f_Remove := false, f_Update := false, f_HasPsk := false, f_Psk := (Vector.replicate 32 (0 : Int) : (Vector Int 32)), f_HasEnd := false, f_End := ({ f_A := ({ f_V := (0 : Int), f_B := (Vector.replicate 16 (0 : Int) : (Vector Int 16)) } : S_api_Addr), f_Port := (0 : Int) } : S_api_Endpoint), f_HasKeep := false, f_Keep := (0 : Int), f_Replace := false, f_Allowed := ([] : List S_api_Prefix) } : S_api_PeerChange) with f_Key := vset (Vector.replicate 32 (0 : Int) : (Vector Int 32)) 0 1 })) Try.underlying37 Try.zeroValue37 rfl (places_api_PeerChange_37) rfl (fill_step (c := (cVec (cInt .u8) 32 (by decide))) (z := vset (Vector.replicate 32 (0 : Int) : (Vector Int 32)) 0 1) rfl (c_api_PeerChange_f_Key ((none : Option Addr), (0 : Nat)) ({ f_Key := (Vector.replicate 32 (0 : Int) : (Vector Int 32)), f_Remove := false, f_Update := false, f_HasPsk := false, f_Psk := (Vector.replicate 32 (0 : Int) : (Vector Int 32)), f_HasEnd := false, f_End := ({ f_A := ({ f_V := (0 : Int), f_B := (Vector.replicate 16 (0 : Int) : (Vector Int 16)) } : S_api_Addr), f_Port := (0 : Int) } : S_api_Endpoint), f_HasKeep := false, f_Keep := (0 : Int), f_Replace := false, f_Allowed := ([] : List S_api_Prefix) } : S_api_PeerChange)) rfl rfl)) ?_
      refine at_guard_yes rfl rfl rfl ?_
      obtain ⟨t6, ht6, hF⟩ := of_bindM hF
      refine at_callB Try.func15 rfl (by kernel_rfl) rfl rfl (fun w hw => change_RightPeer_ok _ _ _ ht6 w (Row.nil ..)) ?_
      refine at_val rfl rfl rfl (r_pick rfl rfl rfl) ?_
      refine at_val rfl rfl rfl (r_assign rfl) ?_
      refine at_nil ?_
      refine at_drop (H := _) .z ?_
      refine at_weak [(0, _)] ⟨rfl, trivial⟩ ?_
      refine at_then_normal ?_
      refine at_ret ?_
      have K := of_some hF
      subst K
      exact at_return1 rfl rfl (fun w1 hw => ⟨rfl, hw.below⟩)
    · refine at_fix (g := 10) rfl h5 ?_
      refine at_guard_no rfl rfl rfl rfl rfl ?_
      refine at_guard_no rfl rfl rfl rfl rfl ?_
      refine at_guard_no rfl rfl rfl rfl rfl ?_
      refine at_val rfl rfl rfl (r_pick rfl rfl rfl) ?_
      refine at_val rfl rfl rfl (r_assign rfl) ?_
      refine at_nil ?_
      refine at_drop (H := _) .z ?_
      refine at_weak [(0, _)] ⟨rfl, trivial⟩ ?_
      refine at_then_normal ?_
      refine at_ret ?_
      have K := of_some hF
      subst K
      exact at_return1 rfl rfl (fun w1 hw => ⟨rfl, hw.below⟩)
  · refine at_fix (g := 3) rfl h2 ?_
    refine at_guard_no rfl rfl rfl rfl rfl ?_
    refine at_guard_no rfl rfl rfl rfl rfl ?_
    refine at_guard_no rfl rfl rfl rfl rfl ?_
    refine at_guard_no rfl rfl rfl rfl rfl ?_
    refine at_guard_no rfl rfl rfl rfl rfl ?_
    refine at_val rfl rfl rfl (r_pick rfl rfl rfl) ?_
    refine at_val rfl rfl rfl (r_move rfl) ?_
    refine at_guard_no rfl rfl rfl rfl rfl ?_
    refine at_guard_no rfl rfl rfl rfl rfl ?_
    refine at_guard_no rfl rfl rfl rfl rfl ?_
    refine at_val rfl rfl rfl (r_pick rfl rfl rfl) ?_
    refine at_val rfl rfl rfl (r_assign rfl) ?_
    refine at_nil ?_
    refine at_weak [(0, _)] ⟨rfl, trivial⟩ ?_
    refine at_then_normal ?_
    refine at_ret ?_
    have K := of_some hF
    subst K
    exact at_return1 rfl rfl (fun w1 hw => ⟨rfl, hw.below⟩)

def crawlwayref32_Large.l0 (x0 : S_api_Request) (i4 : Int) : Option (Ctl (Bool) (Unit)) :=
  if (decide (i4 < (x0.f_Peers.length : Int))) = true then (if (0 : Int) ≤ i4 ∧ i4 < (x0.f_Peers.length : Int) then if (decide ((((lget x0.f_Peers i4).f_Allowed).length : Int) > 80)) = true then (some (.ret true)) else (crawlwayref32_Large.l0 x0 (wr .i64 (i4 + 1))) else none) else (some (.nx ()))
  partial_fixpoint
def crawlwayref32_Large (x0 : S_api_Request) : Option (Bool) :=
  if (decide ((x0.f_Peers.length : Int) > 80)) = true then (some true) else (crawlwayref32_Large.l0 x0 0 >>= fun q3 => match q3 with | .ret r' => some r' | .nx sq3 => (some false))
theorem crawlwayref32_Large_ok (g0_ : G_api_Request) (x0 : S_api_Request) (r : Bool) (hF : crawlwayref32_Large x0 = some r) (w : World) (hn0 : N_api_Request w (g0_, x0)) :
    Calls Try.prog 13 #[.agg (Cd.cs c_api_Request (g0_, x0)).toArray] w (fun e w' => e = .returned (.bool r) ∧ Below w.heap.size w w') := by
  unfold crawlwayref32_Large at hF
  refine calls_enter (l := [.agg (Cd.cs c_api_Request (g0_, x0)).toArray]) Try.func13 rfl rfl rfl ?_
  refine at_start ?_
  refine at_weak [(0, _)] ⟨rfl, trivial⟩ ?_
  refine at_seq ?_
  refine at_region ?_
  refine at_box (cs := Cd.cs c_api_Request (g0_, x0)) rfl rfl rfl ?_
  intro b1
  refine at_val rfl rfl rfl (r_assign rfl) ?_
  refine at_nil ?_
  refine at_weak [(1, _)] ⟨rfl, trivial⟩ ?_
  refine at_then_normal ?_
  refine at_seq ?_
  refine at_seq ?_
  refine at_region ?_
  refine at_val rfl rfl rfl (r_fieldAddr (fo := 38) Try.underlying27 rfl rfl (fun w => ⟨_, Try.sizeOf25 w⟩) rfl) ?_
  refine at_val rfl rfl rfl (r_load_cell Try.isAgg25 rfl (lens_cell0 (c := cHd) (y := ⟨g0_.1, List.length x0.f_Peers, g0_.2⟩) .z (c_api_Request_f_Peers g0_ x0) rfl)) ?_
  refine at_val rfl rfl rfl (r_len_sl Try.underlying25 rfl) ?_
  refine at_val rfl rfl rfl (r_igtr rfl rfl) ?_
  refine at_nil ?_
  refine at_weak [(1, _), (7, _)] ⟨rfl, rfl, trivial⟩ ?_
  refine at_then_normal ?_
  rcases of_ite hF with ⟨h2, hF⟩ | ⟨h2, hF⟩
  · refine at_cond_true rfl h2 ?_
    refine at_seq ?_
    refine at_region ?_
    refine at_val rfl rfl rfl (r_assign rfl) ?_
    refine at_nil ?_
    refine at_drop (H := _) .z ?_
    refine at_weak [(2, _)] ⟨rfl, trivial⟩ ?_
    refine at_then_normal ?_
    refine at_ret ?_
    refine at_then_ret ?_
    have K := of_some hF
    subst K
    exact at_return1 rfl rfl (fun w1 hw => ⟨rfl, hw.below⟩)
  · refine at_cond_false rfl h2 ?_
    refine at_skip ?_
    refine at_then_normal ?_
    refine at_seq ?_
    refine at_seq ?_
    refine at_region ?_
    refine at_val rfl rfl rfl (r_assign rfl) ?_
    refine at_nil ?_
    refine at_weak [(1, _), (3, _)] ⟨rfl, rfl, trivial⟩ ?_
    refine at_then_normal ?_
    refine at_block ?_
    obtain ⟨q3, hq3, hF⟩ := of_bindM hF
    refine at_weak [(1, _), (3, _)] ⟨rfl, rfl, trivial⟩ ?_
    refine at_loop_r (B := 0) (r := r) (q := q3) (A := fun (_ : Unit) Y => At 23 [] (Wd w []) Y) ?_ ?_
    · intro K
      refine crawlwayref32_Large.l0.partial_correctness x0 (motive := fun i4 x => KR (fun (_ : Unit) Y => At 23 [] (Wd w []) Y) _ 0 r x → Round (fun Y => At 23 [(1, .pointer (some ⟨b1, 0, none⟩)), (3, .int .i64 i4)] (Wd w [cellsE b1 (Cd.cs c_api_Request (g0_, x0)) 27]) Y) _ _ _) ?_ _ _ hq3 K
      · clear K hF
        intro g ih i4 x hF K
        refine at_round ?_
        refine at_seq ?_
        refine at_seq ?_
        refine at_region ?_
        refine at_val rfl rfl rfl (r_move rfl) ?_
        refine at_val rfl rfl rfl (r_fieldAddr (fo := 38) Try.underlying27 rfl rfl (fun w => ⟨_, Try.sizeOf25 w⟩) rfl) ?_
        refine at_val rfl rfl rfl (r_load_cell Try.isAgg25 rfl (lens_cell0 (c := cHd) (y := ⟨g0_.1, List.length x0.f_Peers, g0_.2⟩) .z (c_api_Request_f_Peers g0_ x0) rfl)) ?_
        refine at_val rfl rfl rfl (r_len_sl Try.underlying25 rfl) ?_
        refine at_val rfl rfl rfl (r_ilss rfl rfl) ?_
        refine at_nil ?_
        refine at_weak [(1, _), (3, _), (12, _)] ⟨rfl, rfl, rfl, trivial⟩ ?_
        refine at_then_normal ?_
        rcases of_ite hF with ⟨h5, hF⟩ | ⟨h5, hF⟩
        · refine at_cond_true rfl h5 ?_
          refine at_skip ?_
          refine at_then_normal ?_
          refine at_seq ?_
          refine at_block ?_
          refine at_seq ?_
          refine at_region ?_
          refine at_val rfl rfl rfl (r_fieldAddr (fo := 38) Try.underlying27 rfl rfl (fun w => ⟨_, Try.sizeOf25 w⟩) rfl) ?_
          refine at_val rfl rfl rfl (r_load_cell Try.isAgg25 rfl (lens_cell0 (c := cHd) (y := ⟨g0_.1, List.length x0.f_Peers, g0_.2⟩) .z (c_api_Request_f_Peers g0_ x0) rfl)) ?_
          refine at_val rfl rfl rfl (r_move rfl) ?_
          obtain ⟨h6, hF⟩ := of_guard hF
          obtain ⟨zs10, hz11, hr12, hn13⟩ := hn0
          obtain ⟨b8, o9, hp7⟩ := row_ptr hr12 (zidx hz11 h6)
          obtain ⟨g14, hg15⟩ := zget hz11 i4
          refine at_val rfl rfl rfl (r_idx Try.underlying25 Try.sizeOf37 rfl rfl h6 hp7) ?_
          refine at_val rfl rfl rfl (r_fieldAddr (fo := 89) Try.underlying37 rfl rfl (fun w => ⟨_, Try.sizeOf35 w⟩) rfl) ?_
          refine at_val rfl rfl rfl (r_load_cell Try.isAgg35 rfl (nlens0 (c' := cHd) (y := ⟨g14.1, List.length ((lget x0.f_Peers i4).f_Allowed), g14.2⟩) (fun _ h => h.below) hr12 (zidx hz11 h6) hp7 hg15 (c_api_PeerChange_f_Allowed g14 (lget x0.f_Peers i4)) rfl)) ?_
          refine at_val rfl rfl rfl (r_len_sl Try.underlying35 rfl) ?_
          refine at_val rfl rfl rfl (r_igtr rfl rfl) ?_
          refine at_nil ?_
          refine at_weak [(1, _), (3, _), (22, _)] ⟨rfl, rfl, rfl, trivial⟩ ?_
          refine at_then_normal ?_
          rcases of_ite hF with ⟨h16, hF⟩ | ⟨h16, hF⟩
          · refine at_cond_true rfl h16 ?_
            refine at_seq ?_
            refine at_region ?_
            refine at_val rfl rfl rfl (r_assign rfl) ?_
            refine at_nil ?_
            refine at_drop (H := _) .z ?_
            refine at_weak [(2, _)] ⟨rfl, trivial⟩ ?_
            refine at_then_normal ?_
            refine at_ret ?_
            refine at_blk_ret (at_then_ret (at_then_ret (at_blk_ret (at_then_ret ?_))))
            obtain rfl := of_some hF
            subst K
            exact at_return1 rfl rfl (fun w1 hw => ⟨rfl, hw.below⟩)
          · refine at_cond_false rfl h16 ?_
            refine at_skip ?_
            refine at_blk_normal (at_then_normal ?_)
            refine at_region ?_
            refine at_val rfl rfl rfl (r_move rfl) ?_
            refine at_val rfl rfl rfl (r_iadd rfl rfl) ?_
            refine at_val rfl rfl rfl (r_assign rfl) ?_
            refine at_nil ?_
            refine at_weak [(1, _), (3, _)] ⟨rfl, rfl, trivial⟩ ?_
            refine at_then_normal ?_
            exact at_weak_k (ih _ _ hF K) ⟨rfl, rfl, trivial⟩
        · refine at_cond_false rfl h5 ?_
          refine at_exit ?_
          refine at_then_exit (at_then_exit ?_)
          refine at_drop (H := _) .z ?_
          obtain rfl := of_some hF
          exact at_weak_k K trivial
    · cases q3 with
      | ret r' => exact of_some hF
      | nx sq3 =>
        skip
        refine at_blk_same ?_
        refine at_then_normal ?_
        refine at_seq ?_
        refine at_region ?_
        refine at_val rfl rfl rfl (r_assign rfl) ?_
        refine at_nil ?_
        refine at_weak [(2, _)] ⟨rfl, trivial⟩ ?_
        refine at_then_normal ?_
        refine at_ret ?_
        have K := of_some hF
        subst K
        exact at_return1 rfl rfl (fun w1 hw => ⟨rfl, hw.below⟩)
end Go.Proofs.Ythccncpephpdjaa
