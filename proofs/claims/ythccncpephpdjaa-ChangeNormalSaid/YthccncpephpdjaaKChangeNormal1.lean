/- Texts of this claim, those in one that belong together; printed by a program of this project. -/
import Derived.Test.YthccncpephpdjaaProg
import Derived.Test.YthccncpephpdjaaKChangeNormal0
set_option linter.unusedVariables false
set_option linter.unusedSimpArgs false
namespace Go.Proofs.Ythccncpephpdjaa
open E Go.RowKit
abbrev zqG1_0 : S_api_Prefix := ({ f_A := ({ f_V := (0 : Int), f_B := (Vector.replicate 16 (0 : Int) : (Vector Int 16)) } : S_api_Addr), f_Bits := (0 : Int) } : S_api_Prefix)
abbrev zqG1_1 : S_api_Addr := ({ f_V := (0 : Int), f_B := (Vector.replicate 16 (0 : Int) : (Vector Int 16)) } : S_api_Addr)
def addr_Four (x0 : (Vector Int 4)) : Option (S_api_Addr) :=
  some ({ { ({ f_V := (0 : Int), f_B := (Vector.replicate 16 (0 : Int) : (Vector Int 16)) } : S_api_Addr) with f_V := 4 } with f_B := vcopy (({ ({ f_V := (0 : Int), f_B := (Vector.replicate 16 (0 : Int) : (Vector Int 16)) } : S_api_Addr) with f_V := 4 }).f_B) (Int.toNat 0) (List.take (Int.toNat (16 - 0)) (Vector.toList x0)) })
set_option maxHeartbeats 3200000 in
theorem addr_Four_ok (x0 : (Vector Int 4)) (r : S_api_Addr) (hF : addr_Four x0 = some r) (w : World) :
    Calls Try.prog 91 #[.agg (Cd.cs (cVec (cInt .u8) 4 (by decide)) x0).toArray] w (fun e w' => e = .returned (.agg (Cd.cs c_api_Addr r).toArray) ∧ Below w.heap.size w w') := by
 unfold addr_Four at hF
 refine calls_enter (l := [.agg (Cd.cs (cVec (cInt .u8) 4 (by decide)) x0).toArray]) Try.func91 rfl rfl rfl ?_
 refine at_start ?_
 refine at_weak [(0, _)] ⟨rfl, trivial⟩ ?_
 refine sr ?_
 refine at_box (cs := Cd.cs (cVec (cInt .u8) 4 (by decide)) x0) rfl rfl rfl ?_
 intro b1
 refine at_alloc (cs := Cd.cs c_api_Addr zqG1_1) Try.zeroValue32 rfl rfl ?_
 intro b2
 refine nws [(1, _), (2, _)] ⟨rfl, rfl, trivial⟩ ?_
 refine av rfl (r_build_struct (zs := Cd.cs c_api_Addr zqG1_1) (cs := Cd.cs c_api_Addr ({ zqG1_1 with f_V := 4 })) Try.underlying32 Try.zeroValue32 rfl (places_api_Addr_32) rfl (fill_step (c := (cInt .i64)) (z := 4) rfl (c_api_Addr_f_V zqG1_1) rfl rfl)) ?_
 refine at_alloc (cs := Cd.cs c_api_Addr zqG1_1) Try.zeroValue32 rfl rfl ?_
 intro b3
 refine at_store (c := c_api_Addr) (z := { zqG1_1 with f_V := 4 }) .z (Lens.whole _ _) Try.sizeOf32 rfl rfl rfl ?_
 refine nwt [(1, _), (2, _), (3, _)] ⟨rfl, rfl, rfl, trivial⟩ ?_
 refine at_seq ?_
 refine at_weak [(1, _), (2, _), (3, _)] ⟨rfl, rfl, rfl, trivial⟩ ?_
 refine at_inv [.q 5 (fun g4 => .pointer (some ⟨b3, 0 + 1, none⟩)) [] 0 0, .q 6 (fun g4 => .slice (some ⟨b3, 0 + 1, none⟩) (Vector.toList (({ zqG1_1 with f_V := 4 }).f_B)).length 16) [0] 0 0, .q 7 (fun g4 => .slice (some ⟨b1, 0, none⟩) (Vector.toList x0).length 4) [] 0 0, .st 0 (some (8, fun g4 => .int .i64 (min (List.length (Vector.toList x0)) (Int.toNat (16 - 0)) : Nat))) [1, 2]] (fun g4 s => match s with | 0 => (Wd w [cellsE b3 (Cd.cs c_api_Addr ({ zqG1_1 with f_V := 4 })) 32, cellsE b2 (Cd.cs c_api_Addr zqG1_1) 32, cellsE b1 (Cd.cs (cVec (cInt .u8) 4 (by decide)) x0) 129]) | _ => (Wd w [cellsE b3 (Cd.cs c_api_Addr ({ { zqG1_1 with f_V := 4 } with f_B := vcopy (({ zqG1_1 with f_V := 4 }).f_B) (Int.toNat 0) (List.take (Int.toNat (16 - 0)) (Vector.toList x0)) })) 32, cellsE b2 (Cd.cs c_api_Addr zqG1_1) 32, cellsE b1 (Cd.cs (cVec (cInt .u8) 4 (by decide)) x0) 129])) 1 (by kernel_rfl) (by kernel_rfl) (by kernel_rfl) (by kernel_rfl) (by kernel_rfl) ⟨fun _ _ _ => rfl, fun _ _ _ => rfl, fun _ _ _ => rfl, fun _ _ _ => rfl, trivial⟩ (by kernel_rfl) (fun w_ h => ⟨fun _ => g3 0 none 0 none w_, h.drew⟩) ⟨?_, ?_, ?_, ?_, trivial⟩ ?_
 ·intro Lx g4 s K hl hh k
  show At 10 ((1, _) :: (2, _) :: (3, _) :: Lx) _ _
  refine av rfl (r_fieldAddr (fo := 1) Try.underlying32 rfl rfl (fun w => ⟨_, Try.sizeOf30 w⟩) rfl) ?_
  exact at_nil k
 ·intro Lx g4 s K hl hh k
  show At 10 ((5, _) :: (1, _) :: (2, _) :: (3, _) :: Lx) _ _
  obtain rfl : s = 0 := by omega
  refine av rfl (r_view_all (c := (cInt .u8)) (({ zqG1_1 with f_V := 4 }).f_B) (by decide) Try.underlying30 Try.sizeOf5 rfl) ?_
  exact at_nil k
 ·intro Lx g4 s K hl hh k
  show At 10 ((1, _) :: (2, _) :: (3, _) :: Lx) _ _
  obtain rfl : s = 0 := by omega
  refine av rfl (r_slice_vec x0 Try.underlying129 Try.sizeOf5 rfl) ?_
  exact at_nil k
 ·intro Lx g4 K k
  show At 10 ((6, _) :: (7, _) :: (1, _) :: (2, _) :: (3, _) :: Lx) _ _
  refine at_copy (lo := 0) (hi := 16) (xs := Vector.toList x0) .z (Lens.comp (Lens.whole _ _) (fun z => { { zqG1_1 with f_V := 4 } with f_B := z }) (c_api_Addr_f_B ({ zqG1_1 with f_V := 4 }))) rfl (by decide) Try.underlying130 (by kernel_rfl) rfl (rsp_zero (by decide)) (by simp) rfl ⟨_, rfl⟩ (fun w1 hw => (vec_row (hw.ok (Upd.mem (.s (.s .z)))))) rfl ?_
  exact at_nil k
 intro g4
 show At 10 [(5, _), (6, _), (7, _), (8, _), (1, _), (2, _), (3, _)] _ _
 refine at_drop (H := _) (.s (.s .z)) ?_
 refine at_weak [(2, _), (3, _)] ⟨rfl, rfl, trivial⟩ ?_
 refine at_then_normal ?_
 refine sr ?_
 refine av rfl (r_load_aggc (c := c_api_Addr) (z := { { zqG1_1 with f_V := 4 } with f_B := vcopy (({ zqG1_1 with f_V := 4 }).f_B) (Int.toNat 0) (List.take (Int.toNat (16 - 0)) (Vector.toList x0)) }) Try.isAgg32 Try.sizeOf32 rfl (lens_cell .z (Lens.whole _ _))) ?_
 refine at_store (c := c_api_Addr) (z := { { zqG1_1 with f_V := 4 } with f_B := vcopy (({ zqG1_1 with f_V := 4 }).f_B) (Int.toNat 0) (List.take (Int.toNat (16 - 0)) (Vector.toList x0)) }) (.s .z) (Lens.whole _ _) Try.sizeOf32 rfl rfl rfl ?_
 refine at_nil ?_
 refine at_drop (H := _) .z ?_
 refine at_weak [(2, _)] ⟨rfl, trivial⟩ ?_
 refine at_then_normal ?_
 refine at_ret ?_
 have K := of_some hF
 subst K
 exact at_res1 rfl (res_cell (c := c_api_Addr) (y := { { zqG1_1 with f_V := 4 } with f_B := vcopy (({ zqG1_1 with f_V := 4 }).f_B) (Int.toNat 0) (List.take (Int.toNat (16 - 0)) (Vector.toList x0)) }) rfl .z (Lens.whole _ _) Try.isAgg32 Try.sizeOf32 (.inl rfl)) (fun w1 hw => ⟨rfl, hw.below⟩)
def addr_Right (x0 : S_api_Addr) : Option (Bool) :=
  if (x0.f_V == 6) = true then (some true) else (if (x0.f_V == 4) = true then (if 4 ≤ (lsub (Vector.toList x0.f_B) 0 4).length then addr_Four (lvec 4 (lsub (Vector.toList x0.f_B) 0 4)) >>= fun t8 => some (decide (x0 = t8)) else none) else (some false))
theorem addr_Right_ok (x0 : S_api_Addr) (r : Bool) (hF : addr_Right x0 = some r) (w : World) :
    Calls Try.prog 69 #[.agg (Cd.cs c_api_Addr x0).toArray] w (fun e w' => e = .returned (.bool r) ∧ Below w.heap.size w w') := by
 unfold addr_Right at hF
 refine calls_enter (l := [.agg (Cd.cs c_api_Addr x0).toArray]) Try.func69 rfl rfl rfl ?_
 refine at_start ?_
 refine at_weak [(0, _)] ⟨rfl, trivial⟩ ?_
 refine sr ?_
 refine at_box (cs := Cd.cs c_api_Addr x0) rfl rfl rfl ?_
 intro b1
 refine av rfl (r_assign rfl) ?_
 refine nwt [(1, _)] ⟨rfl, trivial⟩ ?_
 refine at_seq ?_
 refine at_draw (by kernel_rfl) (by kernel_rfl) (fun _ h => h.drew) ?_
 refine atq_val rfl rfl rfl (r_fieldAddr (fo := 0) Try.underlying32 rfl rfl (fun w => ⟨_, Try.sizeOf3 w⟩) rfl) ?_
 refine atq_val rfl rfl rfl (r_load_cell Try.isAgg3 rfl (lens_cell0 (c := (cInt .i64)) (y := x0.f_V) .z (Lens.comp (Lens.whole _ _) (fun z => { x0 with f_V := z }) (c_api_Addr_f_V x0)) rfl)) ?_
 refine atq_val rfl rfl rfl (r_ieql rfl rfl) ?_
 refine atq_val rfl rfl rfl (r_move rfl) ?_
 rcases of_ite hF with ⟨h2, hF⟩ | ⟨h2, hF⟩
 ·refine atq_fix (g := 6) rfl h2 ?_
  refine atq_guard_no rfl rfl rfl rfl rfl ?_
  refine atq_guard_no rfl rfl rfl rfl rfl ?_
  refine atq_guard_no rfl rfl rfl rfl rfl ?_
  refine atq_guard_no rfl rfl rfl rfl rfl ?_
  refine atq_guard_undef rfl rfl rfl rfl ?_
  refine atq_guard_undef rfl rfl rfl rfl ?_
  refine atq_guard_undef rfl rfl rfl rfl ?_
  refine atq_guard_undef rfl rfl rfl rfl ?_
  refine atq_guard_undef rfl rfl rfl rfl ?_
  refine atq_guard_undef rfl rfl rfl rfl ?_
  refine atq_guard_undef rfl rfl rfl rfl ?_
  refine atq_guard_no rfl rfl rfl rfl rfl ?_
  refine atq_val rfl rfl rfl (r_pick rfl rfl rfl) ?_
  refine atq_val rfl rfl rfl (r_assign rfl) ?_
  refine atq_nil ?_
  refine at_drop (H := _) .z ?_
  refine at_weak [(2, _)] ⟨rfl, trivial⟩ ?_
  refine at_then_normal ?_
  refine at_ret ?_
  have K := of_some hF
  subst K
  exact at_return1 rfl rfl (fun w1 hw => ⟨rfl, hw.below⟩)
 ·refine atq_fix (g := 6) rfl h2 ?_
  refine atq_guard_yes rfl rfl rfl ?_
  refine atq_val rfl rfl rfl (r_fieldAddr (fo := 0) Try.underlying32 rfl rfl (fun w => ⟨_, Try.sizeOf3 w⟩) rfl) ?_
  refine atq_guard_yes rfl rfl rfl ?_
  refine atq_val rfl rfl rfl (r_load_cell Try.isAgg3 rfl (lens_cell0 (c := (cInt .i64)) (y := x0.f_V) .z (Lens.comp (Lens.whole _ _) (fun z => { x0 with f_V := z }) (c_api_Addr_f_V x0)) rfl)) ?_
  refine atq_guard_yes rfl rfl rfl ?_
  refine atq_val rfl rfl rfl (r_ieql rfl rfl) ?_
  refine atq_guard_yes rfl rfl rfl ?_
  refine atq_val rfl rfl rfl (r_move rfl) ?_
  rcases of_ite hF with ⟨h3, hF⟩ | ⟨h3, hF⟩
  ·refine atq_fix (g := 10) rfl h3 ?_
   refine atq_guard_yes rfl rfl rfl ?_
   refine atq_val rfl rfl rfl (r_load_aggc (c := c_api_Addr) (z := x0) Try.isAgg32 Try.sizeOf32 rfl (lens_cell .z (Lens.whole _ _))) ?_
   refine atq_guard_yes rfl rfl rfl ?_
   refine atq_val rfl rfl rfl (r_fieldAddr (fo := 1) Try.underlying32 rfl rfl (fun w => ⟨_, Try.sizeOf30 w⟩) rfl) ?_
   refine atq_guard_yes rfl rfl rfl ?_
   refine atq_val rfl rfl rfl (r_view (c := (cInt .u8)) (v := x0.f_B) (l := 0) (h := 4) Try.underlying30 Try.sizeOf5 rfl rfl ⟨_, rfl⟩ (by decide)) ?_
   refine atq_guard_yes rfl rfl rfl ?_
   obtain ⟨h4, hF⟩ := of_guard hF
   refine atq_val rfl rfl rfl (r_arrptr Try.underlying129 rfl h4) ?_
   refine atq_guard_yes rfl rfl rfl ?_
   obtain ⟨b5, o6, hp7⟩ : ∃ b o, rsp (some ⟨b1, 0 + 1, none⟩) 16 0 (Cd.sz (cInt .u8)) = some ⟨b, o, none⟩ := rsp_plain
   refine atq_val rfl rfl rfl (r_load_aggc (c := (cVec (cInt .u8) 4 (by decide))) (z := lvec 4 (lsub (Vector.toList x0.f_B) 0 4)) Try.isAgg129 Try.sizeOf129 (by rw [← hp7]; rfl) (fun w1 hw => row_lvec (Row.sub (lens_row .z (Lens.comp (Lens.whole _ _) (fun z => { x0 with f_B := z }) (c_api_Addr_f_B x0)) hw) (vbnd (by decide))) h4 hp7)) ?_
   refine atq_guard_yes rfl rfl rfl ?_
   obtain ⟨t8, ht8, hF⟩ := of_bindM hF
   refine atq_call Try.func91 rfl (by kernel_rfl) rfl rfl (fun w hw => (addr_Four_ok _ _ ht8 w).mono fun _ _ h => ⟨h.1, hw.call h.2⟩) ?_
   refine atq_guard_yes rfl rfl rfl ?_
   refine atq_val rfl rfl rfl (r_eqagg (c := c_api_Addr) (a := x0) (b := t8) (eq_api_Addr_32) rfl Try.eqGuardType32 rfl rfl (.inl rfl) rfl) ?_
   refine atq_guard_yes rfl rfl rfl ?_
   refine atq_val rfl rfl rfl (r_pick rfl rfl rfl) ?_
   refine atq_val rfl rfl rfl (r_pick rfl rfl rfl) ?_
   refine atq_val rfl rfl rfl (r_assign rfl) ?_
   refine atq_nil ?_
   refine at_drop (H := _) .z ?_
   refine at_weak [(2, _)] ⟨rfl, trivial⟩ ?_
   refine at_then_normal ?_
   refine at_ret ?_
   have K := of_some hF
   subst K
   exact at_return1 rfl rfl (fun w1 hw => ⟨rfl, hw.below⟩)
  ·refine atq_fix (g := 10) rfl h3 ?_
   refine atq_guard_no rfl rfl rfl rfl rfl ?_
   refine atq_guard_no rfl rfl rfl rfl rfl ?_
   refine atq_guard_no rfl rfl rfl rfl rfl ?_
   refine atq_guard_no rfl rfl rfl rfl rfl ?_
   refine atq_guard_no rfl rfl rfl rfl rfl ?_
   refine atq_guard_no rfl rfl rfl rfl rfl ?_
   refine atq_guard_no rfl rfl rfl rfl rfl ?_
   refine atq_guard_yes rfl rfl rfl ?_
   refine atq_val rfl rfl rfl (r_pick rfl rfl rfl) ?_
   refine atq_val rfl rfl rfl (r_pick rfl rfl rfl) ?_
   refine atq_val rfl rfl rfl (r_assign rfl) ?_
   refine atq_nil ?_
   refine at_drop (H := _) .z ?_
   refine at_weak [(2, _)] ⟨rfl, trivial⟩ ?_
   refine at_then_normal ?_
   refine at_ret ?_
   have K := of_some hF
   subst K
   exact at_return1 rfl rfl (fun w1 hw => ⟨rfl, hw.below⟩)
def hostport_Right (x0 : S_api_Endpoint) : Option (Bool) :=
  addr_Right x0.f_A >>= fun t2 => if t2 = true then (if (decide (x0.f_Port ≥ 1)) = true then (some (decide (x0.f_Port ≤ 65535))) else (some false)) else (some false)
theorem hostport_Right_ok (x0 : S_api_Endpoint) (r : Bool) (hF : hostport_Right x0 = some r) (w : World) :
    Calls Try.prog 50 #[.agg (Cd.cs c_api_Endpoint x0).toArray] w (fun e w' => e = .returned (.bool r) ∧ Below w.heap.size w w') := by
 unfold hostport_Right at hF
 refine calls_enter (l := [.agg (Cd.cs c_api_Endpoint x0).toArray]) Try.func50 rfl rfl rfl ?_
 refine at_start ?_
 refine at_weak [(0, _)] ⟨rfl, trivial⟩ ?_
 refine sr ?_
 refine at_box (cs := Cd.cs c_api_Endpoint x0) rfl rfl rfl ?_
 intro b1
 refine av rfl (r_assign rfl) ?_
 refine nws [(1, _)] ⟨rfl, trivial⟩ ?_
 refine av rfl (r_fieldAddr (fo := 0) Try.underlying34 rfl rfl (fun w => ⟨_, Try.sizeOf32 w⟩) rfl) ?_
 refine av rfl (r_load_aggc (c := c_api_Addr) (z := x0.f_A) Try.isAgg32 Try.sizeOf32 rfl (lens_cell .z (Lens.comp (Lens.whole _ _) (fun z => { x0 with f_A := z }) (c_api_Endpoint_f_A x0)))) ?_
 obtain ⟨t2, ht2, hF⟩ := of_bindM hF
 refine at_callB Try.func69 rfl (by kernel_rfl) rfl rfl (fun w hw => addr_Right_ok _ _ ht2 w) ?_
 refine av rfl (r_move rfl) ?_
 rcases of_ite hF with ⟨h3, hF⟩ | ⟨h3, hF⟩
 ·refine at_fix (g := 6) rfl h3 ?_
  refine at_guard_yes rfl rfl rfl ?_
  refine av rfl (r_fieldAddr (fo := 17) Try.underlying34 rfl rfl (fun w => ⟨_, Try.sizeOf3 w⟩) rfl) ?_
  refine at_guard_yes rfl rfl rfl ?_
  refine av rfl (r_load_cell Try.isAgg3 rfl (lens_cell0 (c := (cInt .i64)) (y := x0.f_Port) .z (Lens.comp (Lens.whole _ _) (fun z => { x0 with f_Port := z }) (c_api_Endpoint_f_Port x0)) rfl)) ?_
  refine at_guard_yes rfl rfl rfl ?_
  refine av rfl (r_igeq rfl rfl) ?_
  refine av rfl (r_pick rfl rfl rfl) ?_
  refine av rfl (r_move rfl) ?_
  rcases of_ite hF with ⟨h4, hF⟩ | ⟨h4, hF⟩
  ·refine at_fix (g := 11) rfl h4 ?_
   refine at_guard_yes rfl rfl rfl ?_
   refine av rfl (r_fieldAddr (fo := 17) Try.underlying34 rfl rfl (fun w => ⟨_, Try.sizeOf3 w⟩) rfl) ?_
   refine at_guard_yes rfl rfl rfl ?_
   refine av rfl (r_load_cell Try.isAgg3 rfl (lens_cell0 (c := (cInt .i64)) (y := x0.f_Port) .z (Lens.comp (Lens.whole _ _) (fun z => { x0 with f_Port := z }) (c_api_Endpoint_f_Port x0)) rfl)) ?_
   refine at_guard_yes rfl rfl rfl ?_
   refine av rfl (r_ileq rfl rfl) ?_
   refine av rfl (r_pick rfl rfl rfl) ?_
   refine av rfl (r_assign rfl) ?_
   refine at_nil ?_
   refine at_drop (H := _) .z ?_
   refine at_weak [(2, _)] ⟨rfl, trivial⟩ ?_
   refine at_then_normal ?_
   refine at_ret ?_
   have K := of_some hF
   subst K
   exact at_return1 rfl rfl (fun w1 hw => ⟨rfl, hw.below⟩)
  ·refine at_fix (g := 11) rfl h4 ?_
   refine at_guard_no rfl rfl rfl rfl rfl ?_
   refine at_guard_no rfl rfl rfl rfl rfl ?_
   refine at_guard_no rfl rfl rfl rfl rfl ?_
   refine av rfl (r_pick rfl rfl rfl) ?_
   refine av rfl (r_assign rfl) ?_
   refine at_nil ?_
   refine at_drop (H := _) .z ?_
   refine at_weak [(2, _)] ⟨rfl, trivial⟩ ?_
   refine at_then_normal ?_
   refine at_ret ?_
   have K := of_some hF
   subst K
   exact at_return1 rfl rfl (fun w1 hw => ⟨rfl, hw.below⟩)
 ·refine at_fix (g := 6) rfl h3 ?_
  refine at_guard_no rfl rfl rfl rfl rfl ?_
  refine at_guard_no rfl rfl rfl rfl rfl ?_
  refine at_guard_no rfl rfl rfl rfl rfl ?_
  refine av rfl (r_pick rfl rfl rfl) ?_
  refine av rfl (r_move rfl) ?_
  refine at_guard_no rfl rfl rfl rfl rfl ?_
  refine at_guard_no rfl rfl rfl rfl rfl ?_
  refine at_guard_no rfl rfl rfl rfl rfl ?_
  refine av rfl (r_pick rfl rfl rfl) ?_
  refine av rfl (r_assign rfl) ?_
  refine at_nil ?_
  refine at_drop (H := _) .z ?_
  refine at_weak [(2, _)] ⟨rfl, trivial⟩ ?_
  refine at_then_normal ?_
  refine at_ret ?_
  have K := of_some hF
  subst K
  exact at_return1 rfl rfl (fun w1 hw => ⟨rfl, hw.below⟩)
def addr_Width (x0 : S_api_Addr) : Option (Int) :=
  addr_Right x0 >>= fun t2 => if (!t2) = true then (some 0) else (if (x0.f_V == 4) = true then (some 32) else (some 128))
theorem addr_Width_ok (x0 : S_api_Addr) (r : Int) (hF : addr_Width x0 = some r) (w : World) :
    Calls Try.prog 71 #[.agg (Cd.cs c_api_Addr x0).toArray] w (fun e w' => e = .returned (.int .i64 r) ∧ Below w.heap.size w w') := by
 unfold addr_Width at hF
 refine calls_enter (l := [.agg (Cd.cs c_api_Addr x0).toArray]) Try.func71 rfl rfl rfl ?_
 refine at_start ?_
 refine at_weak [(0, _)] ⟨rfl, trivial⟩ ?_
 refine sr ?_
 refine at_box (cs := Cd.cs c_api_Addr x0) rfl rfl rfl ?_
 intro b1
 refine av rfl (r_assign rfl) ?_
 refine nwt [(1, _)] ⟨rfl, trivial⟩ ?_
 refine at_seq ?_
 refine at_block ?_
 refine sr ?_
 refine av rfl (r_load_aggc (c := c_api_Addr) (z := x0) Try.isAgg32 Try.sizeOf32 rfl (lens_cell .z (Lens.whole _ _))) ?_
 obtain ⟨t2, ht2, hF⟩ := of_bindM hF
 refine at_callB Try.func69 rfl (by kernel_rfl) rfl rfl (fun w hw => addr_Right_ok _ _ ht2 w) ?_
 refine av rfl (r_not rfl) ?_
 refine av rfl (r_assign rfl) ?_
 refine nwt [(1, _), (3, _)] ⟨rfl, rfl, trivial⟩ ?_
 rcases of_ite hF with ⟨h3, hF⟩ | ⟨h3, hF⟩
 ·refine at_cond_true rfl h3 ?_
  refine sr ?_
  refine av rfl (r_assign rfl) ?_
  refine at_nil ?_
  refine at_drop (H := _) .z ?_
  refine at_weak [(2, _)] ⟨rfl, trivial⟩ ?_
  refine at_then_normal ?_
  refine at_ret ?_
  refine at_blk_ret (at_then_ret ?_)
  have K := of_some hF
  subst K
  exact at_return1 rfl rfl (fun w1 hw => ⟨rfl, hw.below⟩)
 ·refine at_cond_false rfl h3 ?_
  refine sr ?_
  refine av rfl (r_fieldAddr (fo := 0) Try.underlying32 rfl rfl (fun w => ⟨_, Try.sizeOf3 w⟩) rfl) ?_
  refine av rfl (r_load_cell Try.isAgg3 rfl (lens_cell0 (c := (cInt .i64)) (y := x0.f_V) .z (Lens.comp (Lens.whole _ _) (fun z => { x0 with f_V := z }) (c_api_Addr_f_V x0)) rfl)) ?_
  refine av rfl (r_ieql rfl rfl) ?_
  refine av rfl (r_assign rfl) ?_
  refine at_nil ?_
  refine at_drop (H := _) .z ?_
  refine at_weak [(7, _)] ⟨rfl, trivial⟩ ?_
  refine at_then_normal ?_
  rcases of_ite hF with ⟨h4, hF⟩ | ⟨h4, hF⟩
  ·refine at_cond_true rfl h4 ?_
   refine sr ?_
   refine av rfl (r_assign rfl) ?_
   refine nwt [(2, _)] ⟨rfl, trivial⟩ ?_
   refine at_ret ?_
   refine at_blk_ret (at_then_ret ?_)
   have K := of_some hF
   subst K
   exact at_return1 rfl rfl (fun w1 hw => ⟨rfl, hw.below⟩)
  ·refine at_cond_false rfl h4 ?_
   refine at_skip ?_
   refine at_blk_normal (at_then_normal ?_)
   refine sr ?_
   refine av rfl (r_assign rfl) ?_
   refine nwt [(2, _)] ⟨rfl, trivial⟩ ?_
   refine at_ret ?_
   have K := of_some hF
   subst K
   exact at_return1 rfl rfl (fun w1 hw => ⟨rfl, hw.below⟩)
def addr_Mask.l0 (x1 : Int) (i6 : Int) (i7 : S_api_Addr) : Option (S_api_Addr) :=
  if (decide (i6 < 16)) = true then (if (decide (x1 < 0)) = true then (if (0 : Int) ≤ i6 ∧ i6 < 16 then if (0 : Int) ≤ wr .u64 (wr .i64 (8 - 0)) then if (0 : Int) ≤ i6 ∧ i6 < 16 then addr_Mask.l0 x1 (wr .i64 (i6 + 1)) ({ i7 with f_B := vset i7.f_B i6 (iand .u8 (vget i7.f_B i6) (ishl .u8 255 (wr .u64 (wr .i64 (8 - 0))))) }) else none else none else none) else (if (0 : Int) ≤ i6 ∧ i6 < 16 then if (0 : Int) ≤ wr .u64 (wr .i64 (8 - (if 8 < (if wr .i64 (x1 - (wr .i64 (8 * i6))) < 0 then 0 else wr .i64 (x1 - (wr .i64 (8 * i6)))) then 8 else (if wr .i64 (x1 - (wr .i64 (8 * i6))) < 0 then 0 else wr .i64 (x1 - (wr .i64 (8 * i6))))))) then if (0 : Int) ≤ i6 ∧ i6 < 16 then addr_Mask.l0 x1 (wr .i64 (i6 + 1)) ({ i7 with f_B := vset i7.f_B i6 (iand .u8 (vget i7.f_B i6) (ishl .u8 255 (wr .u64 (wr .i64 (8 - (if 8 < (if wr .i64 (x1 - (wr .i64 (8 * i6))) < 0 then 0 else wr .i64 (x1 - (wr .i64 (8 * i6)))) then 8 else (if wr .i64 (x1 - (wr .i64 (8 * i6))) < 0 then 0 else wr .i64 (x1 - (wr .i64 (8 * i6)))))))))) }) else none else none else none)) else (some i7)
  partial_fixpoint
def addr_Mask (x0 : S_api_Addr) (x1 : Int) : Option (S_api_Addr) :=
  addr_Right x0 >>= fun t3 => if (!t3) = true then (some ({ f_V := (0 : Int), f_B := (Vector.replicate 16 (0 : Int) : (Vector Int 16)) } : S_api_Addr)) else (addr_Mask.l0 x1 0 x0 >>= fun q5 => some q5)
theorem addr_Mask_ok (x0 : S_api_Addr) (x1 : Int) (r : S_api_Addr) (hF : addr_Mask x0 x1 = some r) (w : World) :
    Calls Try.prog 92 #[.agg (Cd.cs c_api_Addr x0).toArray, .int .i64 x1] w (fun e w' => e = .returned (.agg (Cd.cs c_api_Addr r).toArray) ∧ Below w.heap.size w w') := by
 unfold addr_Mask at hF
 refine calls_enter (l := [.agg (Cd.cs c_api_Addr x0).toArray, .int .i64 x1]) Try.func92 rfl rfl rfl ?_
 refine at_start ?_
 refine at_weak [(0, _), (1, _)] ⟨rfl, rfl, trivial⟩ ?_
 refine sr ?_
 refine at_box (cs := Cd.cs c_api_Addr x0) rfl rfl rfl ?_
 intro b1
 refine at_alloc (cs := Cd.cs c_api_Addr zqG1_1) Try.zeroValue32 rfl rfl ?_
 intro b2
 refine nwt [(1, _), (2, _), (4, _)] ⟨rfl, rfl, rfl, trivial⟩ ?_
 refine at_seq ?_
 refine sr ?_
 refine av rfl (r_load_aggc (c := c_api_Addr) (z := x0) Try.isAgg32 Try.sizeOf32 rfl (lens_cell (.s .z) (Lens.whole _ _))) ?_
 obtain ⟨t3, ht3, hF⟩ := of_bindM hF
 refine at_callB Try.func69 rfl (by kernel_rfl) rfl rfl (fun w hw => addr_Right_ok _ _ ht3 w) ?_
 refine av rfl (r_not rfl) ?_
 refine nwt [(1, _), (2, _), (4, _), (9, _)] ⟨rfl, rfl, rfl, rfl, trivial⟩ ?_
 rcases of_ite hF with ⟨h4, hF⟩ | ⟨h4, hF⟩
 ·refine at_cond_true rfl h4 ?_
  refine sr ?_
  refine av rfl (r_build_struct (zs := Cd.cs c_api_Addr zqG1_1) (cs := Cd.cs c_api_Addr zqG1_1) Try.underlying32 Try.zeroValue32 rfl (places_api_Addr_32) rfl rfl) ?_
  refine at_store (c := c_api_Addr) (z := zqG1_1) .z (Lens.whole _ _) Try.sizeOf32 rfl rfl rfl ?_
  refine at_nil ?_
  refine at_drop (H := _) (.s .z) ?_
  refine at_weak [(4, _)] ⟨rfl, trivial⟩ ?_
  refine at_then_normal ?_
  refine rt ?_
  have K := of_some hF
  subst K
  exact at_res1 rfl (res_cell (c := c_api_Addr) (y := zqG1_1) rfl .z (Lens.whole _ _) Try.isAgg32 Try.sizeOf32 (.inl rfl)) (fun w1 hw => ⟨rfl, hw.below⟩)
 ·refine at_cond_false rfl h4 ?_
  refine sn ?_
  refine at_seq ?_
  refine sr ?_
  refine av rfl (r_move rfl) ?_
  refine nwt [(1, _), (2, _), (4, _), (11, _)] ⟨rfl, rfl, rfl, rfl, trivial⟩ ?_
  refine at_block ?_
  obtain ⟨q5, hq5, hF⟩ := of_bindM hF
  refine at_weak [(1, _), (2, _), (4, _), (11, _)] ⟨rfl, rfl, rfl, rfl, trivial⟩ ?_
  refine at_loop_n (B := 0) (A := fun Y => At 35 [(2, .pointer (some ⟨b1, 0, none⟩)), (4, .pointer (some ⟨b2, 0, none⟩))] (Wd w [cellsE b2 (Cd.cs c_api_Addr zqG1_1) 32, cellsE b1 (Cd.cs c_api_Addr q5) 32]) Y) ?_ ?_
  ·intro K
   refine addr_Mask.l0.partial_correctness x1 (motive := fun i6 i7 x => KN (fun Y => At 35 [(2, .pointer (some ⟨b1, 0, none⟩)), (4, .pointer (some ⟨b2, 0, none⟩))] (Wd w [cellsE b2 (Cd.cs c_api_Addr zqG1_1) 32, cellsE b1 (Cd.cs c_api_Addr x) 32]) Y) _ 0 → Round (fun Y => At 35 [(1, .int .i64 x1), (2, .pointer (some ⟨b1, 0, none⟩)), (4, .pointer (some ⟨b2, 0, none⟩)), (11, .int .i64 i6)] (Wd w [cellsE b2 (Cd.cs c_api_Addr zqG1_1) 32, cellsE b1 (Cd.cs c_api_Addr i7) 32]) Y) _ _ _) ?_ _ _ _ hq5 K
   ·clear K hF
    intro g ih i6 i7 x hF K
    refine at_round ?_
    refine sr ?_
    refine av rfl (r_ilss rfl rfl) ?_
    refine nwt [(1, _), (2, _), (4, _), (11, _), (12, _)] ⟨rfl, rfl, rfl, rfl, rfl, trivial⟩ ?_
    refine at_seq ?_
    rcases of_ite hF with ⟨h8, hF⟩ | ⟨h8, hF⟩
    ·refine at_cond_true rfl h8 ?_
     refine sn ?_
     refine at_seq ?_
     refine at_block ?_
     refine sr ?_
     refine av rfl (r_move rfl) ?_
     refine av rfl (r_assign rfl) ?_
     refine nws [(1, _), (2, _), (4, _), (5, _), (11, _)] ⟨rfl, rfl, rfl, rfl, rfl, trivial⟩ ?_
     refine av rfl (r_move rfl) ?_
     refine av rfl (r_move rfl) ?_
     refine av rfl (r_imul rfl rfl) ?_
     refine av rfl (r_isub rfl rfl) ?_
     refine av rfl (r_max rfl rfl) ?_
     refine av rfl (r_min rfl rfl) ?_
     refine av rfl (r_assign rfl) ?_
     refine nwt [(1, _), (2, _), (4, _), (5, _), (6, _), (11, _)] ⟨rfl, rfl, rfl, rfl, rfl, rfl, trivial⟩ ?_
     refine at_seq ?_
     refine sr ?_
     refine av rfl (r_move rfl) ?_
     refine av rfl (r_ilss rfl rfl) ?_
     refine nwt [(1, _), (2, _), (4, _), (5, _), (6, _), (11, _), (21, _)] ⟨rfl, rfl, rfl, rfl, rfl, rfl, rfl, trivial⟩ ?_
     rcases of_ite hF with ⟨h9, hF⟩ | ⟨h9, hF⟩
     ·refine at_cond_true rfl h9 ?_
      refine at_region ?_
      refine av rfl (r_assign rfl) ?_
      refine nwt [(1, _), (2, _), (4, _), (5, _), (6, _), (11, _)] ⟨rfl, rfl, rfl, rfl, rfl, rfl, trivial⟩ ?_
      refine at_region ?_
      refine av rfl (r_move rfl) ?_
      refine av rfl (r_fieldAddr (fo := 1) Try.underlying32 rfl rfl (fun w => ⟨_, Try.sizeOf30 w⟩) rfl) ?_
      obtain ⟨h10, hF⟩ := of_guard hF
      refine av rfl (r_idxArr Try.underlying30 Try.sizeOf5 rfl rfl h10) ?_
      refine av rfl (r_load_cell Try.isAgg5 rfl (lens_cell0 (c := (cInt .u8)) (y := vget i7.f_B i6) (.s .z) (Lens.comp (Lens.comp (Lens.whole _ _) (fun z => { i7 with f_B := z }) (c_api_Addr_f_B i7)) (fun z => vset i7.f_B i6 z) (Lens.vec (cInt .u8) (by decide) i7.f_B i6 h10)) rfl)) ?_
      refine av rfl (r_move rfl) ?_
      refine av rfl (r_isub rfl rfl) ?_
      refine av rfl (r_conv Try.underlying3 Try.underlying131 rfl) ?_
      obtain ⟨h11, hF⟩ := of_guard hF
      refine av rfl (r_ishl rfl rfl h11) ?_
      refine av rfl (r_iand rfl rfl) ?_
      refine av rfl (r_fieldAddr (fo := 1) Try.underlying32 rfl rfl (fun w => ⟨_, Try.sizeOf30 w⟩) rfl) ?_
      obtain ⟨h12, hF⟩ := of_guard hF
      refine av rfl (r_idxArr Try.underlying30 Try.sizeOf5 rfl rfl h12) ?_
      refine at_store (c := (cInt .u8)) (z := iand .u8 (vget i7.f_B i6) (ishl .u8 255 (wr .u64 (wr .i64 (8 - 0))))) (.s .z) (Lens.comp (Lens.comp (Lens.whole _ _) (fun z => { i7 with f_B := z }) (c_api_Addr_f_B i7)) (fun z => vset i7.f_B i6 z) (Lens.vec (cInt .u8) (by decide) i7.f_B i6 h12)) Try.sizeOf5 rfl rfl rfl ?_
      refine at_nil ?_
      refine at_weak [(1, _), (2, _), (4, _), (11, _)] ⟨rfl, rfl, rfl, rfl, trivial⟩ ?_
      refine at_blk_normal (at_then_normal ?_)
      refine at_region ?_
      refine av rfl (r_iadd rfl rfl) ?_
      refine av rfl (r_move rfl) ?_
      refine nwt [(1, _), (2, _), (4, _), (11, _)] ⟨rfl, rfl, rfl, rfl, trivial⟩ ?_
      exact at_weak_k (ih _ _ _ hF K) ⟨rfl, rfl, rfl, rfl, trivial⟩
     ·refine at_cond_false rfl h9 ?_
      refine sn ?_
      refine at_region ?_
      refine av rfl (r_move rfl) ?_
      refine av rfl (r_fieldAddr (fo := 1) Try.underlying32 rfl rfl (fun w => ⟨_, Try.sizeOf30 w⟩) rfl) ?_
      obtain ⟨h13, hF⟩ := of_guard hF
      refine av rfl (r_idxArr Try.underlying30 Try.sizeOf5 rfl rfl h13) ?_
      refine av rfl (r_load_cell Try.isAgg5 rfl (lens_cell0 (c := (cInt .u8)) (y := vget i7.f_B i6) (.s .z) (Lens.comp (Lens.comp (Lens.whole _ _) (fun z => { i7 with f_B := z }) (c_api_Addr_f_B i7)) (fun z => vset i7.f_B i6 z) (Lens.vec (cInt .u8) (by decide) i7.f_B i6 h13)) rfl)) ?_
      refine av rfl (r_move rfl) ?_
      refine av rfl (r_isub rfl rfl) ?_
      refine av rfl (r_conv Try.underlying3 Try.underlying131 rfl) ?_
      obtain ⟨h14, hF⟩ := of_guard hF
      refine av rfl (r_ishl rfl rfl h14) ?_
      refine av rfl (r_iand rfl rfl) ?_
      refine av rfl (r_fieldAddr (fo := 1) Try.underlying32 rfl rfl (fun w => ⟨_, Try.sizeOf30 w⟩) rfl) ?_
      obtain ⟨h15, hF⟩ := of_guard hF
      refine av rfl (r_idxArr Try.underlying30 Try.sizeOf5 rfl rfl h15) ?_
      refine at_store (c := (cInt .u8)) (z := iand .u8 (vget i7.f_B i6) (ishl .u8 255 (wr .u64 (wr .i64 (8 - (if 8 < (if wr .i64 (x1 - (wr .i64 (8 * i6))) < 0 then 0 else wr .i64 (x1 - (wr .i64 (8 * i6)))) then 8 else (if wr .i64 (x1 - (wr .i64 (8 * i6))) < 0 then 0 else wr .i64 (x1 - (wr .i64 (8 * i6)))))))))) (.s .z) (Lens.comp (Lens.comp (Lens.whole _ _) (fun z => { i7 with f_B := z }) (c_api_Addr_f_B i7)) (fun z => vset i7.f_B i6 z) (Lens.vec (cInt .u8) (by decide) i7.f_B i6 h15)) Try.sizeOf5 rfl rfl rfl ?_
      refine at_nil ?_
      refine at_weak [(1, _), (2, _), (4, _), (11, _)] ⟨rfl, rfl, rfl, rfl, trivial⟩ ?_
      refine at_blk_normal (at_then_normal ?_)
      refine at_region ?_
      refine av rfl (r_iadd rfl rfl) ?_
      refine av rfl (r_move rfl) ?_
      refine nwt [(1, _), (2, _), (4, _), (11, _)] ⟨rfl, rfl, rfl, rfl, trivial⟩ ?_
      exact at_weak_k (ih _ _ _ hF K) ⟨rfl, rfl, rfl, rfl, trivial⟩
    ·refine at_cond_false rfl h8 ?_
     refine at_exit ?_
     refine at_then_exit (at_then_exit ?_)
     obtain rfl := of_some hF
     exact at_weak_k K ⟨rfl, rfl, trivial⟩
  ·skip
   skip
   refine at_blk_same ?_
   refine at_then_normal ?_
   refine sr ?_
   refine av rfl (r_load_aggc (c := c_api_Addr) (z := q5) Try.isAgg32 Try.sizeOf32 rfl (lens_cell (.s .z) (Lens.whole _ _))) ?_
   refine at_store (c := c_api_Addr) (z := q5) .z (Lens.whole _ _) Try.sizeOf32 rfl rfl rfl ?_
   refine at_nil ?_
   refine at_drop (H := _) (.s .z) ?_
   refine at_weak [(4, _)] ⟨rfl, trivial⟩ ?_
   refine at_then_normal ?_
   refine at_ret ?_
   have K := of_some hF
   subst K
   exact at_res1 rfl (res_cell (c := c_api_Addr) (y := q5) rfl .z (Lens.whole _ _) Try.isAgg32 Try.sizeOf32 (.inl rfl)) (fun w1 hw => ⟨rfl, hw.below⟩)
def cidr_Of (x0 : S_api_Addr) (x1 : Int) : Option (S_api_Prefix × Int) :=
  addr_Right x0 >>= fun t3 => if (!t3) = true then (some (({ f_A := ({ f_V := (0 : Int), f_B := (Vector.replicate 16 (0 : Int) : (Vector Int 16)) } : S_api_Addr), f_Bits := (0 : Int) } : S_api_Prefix), 1)) else (if (decide (x1 < 0)) = true then (some (({ f_A := ({ f_V := (0 : Int), f_B := (Vector.replicate 16 (0 : Int) : (Vector Int 16)) } : S_api_Addr), f_Bits := (0 : Int) } : S_api_Prefix), 6)) else (addr_Width x0 >>= fun t6 => if (decide (x1 > t6)) = true then (some (({ f_A := ({ f_V := (0 : Int), f_B := (Vector.replicate 16 (0 : Int) : (Vector Int 16)) } : S_api_Addr), f_Bits := (0 : Int) } : S_api_Prefix), 6)) else (addr_Mask x0 x1 >>= fun t8 => some ({ { ({ f_A := ({ f_V := (0 : Int), f_B := (Vector.replicate 16 (0 : Int) : (Vector Int 16)) } : S_api_Addr), f_Bits := (0 : Int) } : S_api_Prefix) with f_A := t8 } with f_Bits := x1 }, 0))))
theorem cidr_Of_ok (x0 : S_api_Addr) (x1 : Int) (r : S_api_Prefix × Int) (hF : cidr_Of x0 x1 = some r) (w : World) :
    Calls Try.prog 70 #[.agg (Cd.cs c_api_Addr x0).toArray, .int .i64 x1] w (fun e w' => e = .returned (.tuple #[.agg (Cd.cs c_api_Prefix r.1).toArray, .int .i64 r.2]) ∧ Below w.heap.size w w') := by
 unfold cidr_Of at hF
 refine calls_enter (l := [.agg (Cd.cs c_api_Addr x0).toArray, .int .i64 x1]) Try.func70 rfl rfl rfl ?_
 refine at_start ?_
 refine at_weak [(0, _), (1, _)] ⟨rfl, rfl, trivial⟩ ?_
 refine sr ?_
 refine at_box (cs := Cd.cs c_api_Addr x0) rfl rfl rfl ?_
 intro b1
 refine at_alloc (cs := Cd.cs c_api_Prefix zqG1_0) Try.zeroValue46 rfl rfl ?_
 intro b2
 refine av rfl (r_assign rfl) ?_
 refine nwt [(1, _), (2, _), (4, _)] ⟨rfl, rfl, rfl, trivial⟩ ?_
 refine at_seq ?_
 refine at_block ?_
 refine sr ?_
 refine av rfl (r_load_aggc (c := c_api_Addr) (z := x0) Try.isAgg32 Try.sizeOf32 rfl (lens_cell (.s .z) (Lens.whole _ _))) ?_
 obtain ⟨t3, ht3, hF⟩ := of_bindM hF
 refine at_callB Try.func69 rfl (by kernel_rfl) rfl rfl (fun w hw => addr_Right_ok _ _ ht3 w) ?_
 refine av rfl (r_not rfl) ?_
 refine av rfl (r_assign rfl) ?_
 refine nwt [(1, _), (2, _), (4, _), (6, _)] ⟨rfl, rfl, rfl, rfl, trivial⟩ ?_
 rcases of_ite hF with ⟨h4, hF⟩ | ⟨h4, hF⟩
 ·refine at_cond_true rfl h4 ?_
  refine sr ?_
  refine av rfl (r_build_struct (zs := Cd.cs c_api_Prefix zqG1_0) (cs := Cd.cs c_api_Prefix zqG1_0) Try.underlying46 Try.zeroValue46 rfl (places_api_Prefix_46) rfl rfl) ?_
  refine at_store (c := c_api_Prefix) (z := zqG1_0) .z (Lens.whole _ _) Try.sizeOf46 rfl rfl rfl ?_
  refine av rfl (r_assign rfl) ?_
  refine at_nil ?_
  refine at_drop (H := _) (.s .z) ?_
  refine at_weak [(4, _), (5, _)] ⟨rfl, rfl, trivial⟩ ?_
  refine at_then_normal ?_
  refine at_ret ?_
  refine at_blk_ret (at_then_ret ?_)
  have K := of_some hF
  subst K
  exact at_res2 rfl (res_cell (c := c_api_Prefix) (y := zqG1_0) rfl .z (Lens.whole _ _) Try.isAgg46 Try.sizeOf46 (.inl rfl)) (res_tmp rfl) (fun w1 hw => ⟨rfl, hw.below⟩)
 ·refine at_cond_false rfl h4 ?_
  refine sr ?_
  refine av rfl (r_move rfl) ?_
  refine av rfl (r_ilss rfl rfl) ?_
  refine av rfl (r_move rfl) ?_
  rcases of_ite hF with ⟨h5, hF⟩ | ⟨h5, hF⟩
  ·refine at_fix (g := 14) rfl h5 ?_
   refine at_guard_no rfl rfl rfl rfl rfl ?_
   refine at_guard_no rfl rfl rfl rfl rfl ?_
   refine at_guard_no rfl rfl rfl rfl rfl ?_
   refine at_guard_no rfl rfl rfl rfl rfl ?_
   refine av rfl (r_pick rfl rfl rfl) ?_
   refine av rfl (r_assign rfl) ?_
   refine nwt [(1, _), (2, _), (4, _), (11, _)] ⟨rfl, rfl, rfl, rfl, trivial⟩ ?_
   refine at_cond_true rfl rfl ?_
   refine sr ?_
   refine av rfl (r_build_struct (zs := Cd.cs c_api_Prefix zqG1_0) (cs := Cd.cs c_api_Prefix zqG1_0) Try.underlying46 Try.zeroValue46 rfl (places_api_Prefix_46) rfl rfl) ?_
   refine at_store (c := c_api_Prefix) (z := zqG1_0) .z (Lens.whole _ _) Try.sizeOf46 rfl rfl rfl ?_
   refine av rfl (r_assign rfl) ?_
   refine at_nil ?_
   refine at_drop (H := _) (.s .z) ?_
   refine at_weak [(4, _), (5, _)] ⟨rfl, rfl, trivial⟩ ?_
   refine at_then_normal ?_
   refine at_ret ?_
   refine at_blk_ret (at_then_ret ?_)
   have K := of_some hF
   subst K
   exact at_res2 rfl (res_cell (c := c_api_Prefix) (y := zqG1_0) rfl .z (Lens.whole _ _) Try.isAgg46 Try.sizeOf46 (.inl rfl)) (res_tmp rfl) (fun w1 hw => ⟨rfl, hw.below⟩)
  ·refine at_fix (g := 14) rfl h5 ?_
   refine at_guard_yes rfl rfl rfl ?_
   refine av rfl (r_move rfl) ?_
   refine at_guard_yes rfl rfl rfl ?_
   refine av rfl (r_load_aggc (c := c_api_Addr) (z := x0) Try.isAgg32 Try.sizeOf32 rfl (lens_cell (.s .z) (Lens.whole _ _))) ?_
   refine at_guard_yes rfl rfl rfl ?_
   obtain ⟨t6, ht6, hF⟩ := of_bindM hF
   refine at_callB Try.func71 rfl (by kernel_rfl) rfl rfl (fun w hw => addr_Width_ok _ _ ht6 w) ?_
   refine at_guard_yes rfl rfl rfl ?_
   refine av rfl (r_igtr rfl rfl) ?_
   refine av rfl (r_pick rfl rfl rfl) ?_
   refine av rfl (r_assign rfl) ?_
   refine nwt [(1, _), (2, _), (4, _), (11, _)] ⟨rfl, rfl, rfl, rfl, trivial⟩ ?_
   rcases of_ite hF with ⟨h7, hF⟩ | ⟨h7, hF⟩
   ·refine at_cond_true rfl h7 ?_
    refine sr ?_
    refine av rfl (r_build_struct (zs := Cd.cs c_api_Prefix zqG1_0) (cs := Cd.cs c_api_Prefix zqG1_0) Try.underlying46 Try.zeroValue46 rfl (places_api_Prefix_46) rfl rfl) ?_
    refine at_store (c := c_api_Prefix) (z := zqG1_0) .z (Lens.whole _ _) Try.sizeOf46 rfl rfl rfl ?_
    refine av rfl (r_assign rfl) ?_
    refine at_nil ?_
    refine at_drop (H := _) (.s .z) ?_
    refine at_weak [(4, _), (5, _)] ⟨rfl, rfl, trivial⟩ ?_
    refine at_then_normal ?_
    refine at_ret ?_
    refine at_blk_ret (at_then_ret ?_)
    have K := of_some hF
    subst K
    exact at_res2 rfl (res_cell (c := c_api_Prefix) (y := zqG1_0) rfl .z (Lens.whole _ _) Try.isAgg46 Try.sizeOf46 (.inl rfl)) (res_tmp rfl) (fun w1 hw => ⟨rfl, hw.below⟩)
   ·refine at_cond_false rfl h7 ?_
    refine at_skip ?_
    refine at_blk_normal (at_then_normal ?_)
    refine sr ?_
    refine av rfl (r_load_aggc (c := c_api_Addr) (z := x0) Try.isAgg32 Try.sizeOf32 rfl (lens_cell (.s .z) (Lens.whole _ _))) ?_
    refine av rfl (r_move rfl) ?_
    obtain ⟨t8, ht8, hF⟩ := of_bindM hF
    refine at_callB Try.func92 rfl (by kernel_rfl) rfl rfl (fun w hw => addr_Mask_ok _ _ _ ht8 w) ?_
    refine av rfl (r_move rfl) ?_
    refine av rfl (r_build_struct (zs := Cd.cs c_api_Prefix zqG1_0) (cs := Cd.cs c_api_Prefix ({ { zqG1_0 with f_A := t8 } with f_Bits := x1 })) Try.underlying46 Try.zeroValue46 rfl (places_api_Prefix_46) rfl (fill_step (c := c_api_Addr) (z := t8) rfl (c_api_Prefix_f_A zqG1_0) rfl (fill_step (c := (cInt .i64)) (z := x1) rfl (c_api_Prefix_f_Bits ({ zqG1_0 with f_A := t8 })) rfl rfl))) ?_
    refine at_store (c := c_api_Prefix) (z := { { zqG1_0 with f_A := t8 } with f_Bits := x1 }) .z (Lens.whole _ _) Try.sizeOf46 rfl rfl rfl ?_
    refine av rfl (r_assign rfl) ?_
    refine at_nil ?_
    refine at_drop (H := _) (.s .z) ?_
    refine at_weak [(4, _), (5, _)] ⟨rfl, rfl, trivial⟩ ?_
    refine at_then_normal ?_
    refine at_ret ?_
    have K := of_some hF
    subst K
    exact at_res2 rfl (res_cell (c := c_api_Prefix) (y := { { zqG1_0 with f_A := t8 } with f_Bits := x1 }) rfl .z (Lens.whole _ _) Try.isAgg46 Try.sizeOf46 (.inl rfl)) (res_tmp rfl) (fun w1 hw => ⟨rfl, hw.below⟩)
def cidr_Right (x0 : S_api_Prefix) : Option (Bool) :=
  cidr_Of x0.f_A x0.f_Bits >>= fun t2 => if (t2.2 == 0) = true then (some (decide (t2.1 = x0))) else (some false)
theorem cidr_Right_ok (x0 : S_api_Prefix) (r : Bool) (hF : cidr_Right x0 = some r) (w : World) :
    Calls Try.prog 55 #[.agg (Cd.cs c_api_Prefix x0).toArray] w (fun e w' => e = .returned (.bool r) ∧ Below w.heap.size w w') := by
 unfold cidr_Right at hF
 refine calls_enter (l := [.agg (Cd.cs c_api_Prefix x0).toArray]) Try.func55 rfl rfl rfl ?_
 refine at_start ?_
 refine at_weak [(0, _)] ⟨rfl, trivial⟩ ?_
 refine sr ?_
 refine at_box (cs := Cd.cs c_api_Prefix x0) rfl rfl rfl ?_
 intro b1
 refine av rfl (r_assign rfl) ?_
 refine nws [(1, _)] ⟨rfl, trivial⟩ ?_
 refine av rfl (r_fieldAddr (fo := 0) Try.underlying46 rfl rfl (fun w => ⟨_, Try.sizeOf32 w⟩) rfl) ?_
 refine av rfl (r_load_aggc (c := c_api_Addr) (z := x0.f_A) Try.isAgg32 Try.sizeOf32 rfl (lens_cell .z (Lens.comp (Lens.whole _ _) (fun z => { x0 with f_A := z }) (c_api_Prefix_f_A x0)))) ?_
 refine av rfl (r_fieldAddr (fo := 17) Try.underlying46 rfl rfl (fun w => ⟨_, Try.sizeOf3 w⟩) rfl) ?_
 refine av rfl (r_load_cell Try.isAgg3 rfl (lens_cell0 (c := (cInt .i64)) (y := x0.f_Bits) .z (Lens.comp (Lens.whole _ _) (fun z => { x0 with f_Bits := z }) (c_api_Prefix_f_Bits x0)) rfl)) ?_
 obtain ⟨t2, ht2, hF⟩ := of_bindM hF
 refine at_callB Try.func70 rfl (by kernel_rfl) rfl rfl (fun w hw => cidr_Of_ok _ _ _ ht2 w) ?_
 refine av rfl (r_move rfl) ?_
 refine av rfl (r_extract rfl rfl) ?_
 refine av rfl (r_extract rfl rfl) ?_
 refine at_alloc (cs := Cd.cs c_api_Prefix zqG1_0) Try.zeroValue46 rfl rfl ?_
 intro b3
 refine at_store (c := c_api_Prefix) (z := t2.1) .z (Lens.whole _ _) Try.sizeOf46 rfl rfl rfl ?_
 refine av rfl (r_assign rfl) ?_
 refine nws [(1, _), (3, _), (4, _)] ⟨rfl, rfl, rfl, trivial⟩ ?_
 refine av rfl (r_move rfl) ?_
 refine av rfl (r_ieql rfl rfl) ?_
 refine av rfl (r_move rfl) ?_
 rcases of_ite hF with ⟨h4, hF⟩ | ⟨h4, hF⟩
 ·refine at_fix (g := 15) rfl h4 ?_
  refine at_guard_yes rfl rfl rfl ?_
  refine av rfl (r_load_aggc (c := c_api_Prefix) (z := t2.1) Try.isAgg46 Try.sizeOf46 rfl (lens_cell .z (Lens.whole _ _))) ?_
  refine at_guard_yes rfl rfl rfl ?_
  refine av rfl (r_load_aggc (c := c_api_Prefix) (z := x0) Try.isAgg46 Try.sizeOf46 rfl (lens_cell (.s .z) (Lens.whole _ _))) ?_
  refine at_guard_yes rfl rfl rfl ?_
  refine av rfl (r_eqagg (c := c_api_Prefix) (a := t2.1) (b := x0) (eq_api_Prefix_46) rfl Try.eqGuardType46 rfl rfl (.inl rfl) rfl) ?_
  refine av rfl (r_pick rfl rfl rfl) ?_
  refine av rfl (r_assign rfl) ?_
  refine at_nil ?_
  refine at_drop (H := _) .z ?_
  refine at_drop (H := _) .z ?_
  refine at_weak [(2, _)] ⟨rfl, trivial⟩ ?_
  refine at_then_normal ?_
  refine at_ret ?_
  have K := of_some hF
  subst K
  exact at_return1 rfl rfl (fun w1 hw => ⟨rfl, hw.below⟩)
 ·refine at_fix (g := 15) rfl h4 ?_
  refine at_guard_no rfl rfl rfl rfl rfl ?_
  refine at_guard_no rfl rfl rfl rfl rfl ?_
  refine at_guard_no rfl rfl rfl rfl rfl ?_
  refine av rfl (r_pick rfl rfl rfl) ?_
  refine av rfl (r_assign rfl) ?_
  refine at_nil ?_
  refine at_drop (H := _) .z ?_
  refine at_drop (H := _) .z ?_
  refine at_weak [(2, _)] ⟨rfl, trivial⟩ ?_
  refine at_then_normal ?_
  refine at_ret ?_
  have K := of_some hF
  subst K
  exact at_return1 rfl rfl (fun w1 hw => ⟨rfl, hw.below⟩)
def crawlwayref10_Right.l0 (x0 : S_api_Addr) (i4 : Int) : Option (Ctl (Bool) (Unit)) :=
  if (decide (i4 < 16)) = true then (if (0 : Int) ≤ i4 ∧ i4 < 16 then if (vget x0.f_B i4 != 0) = true then (some (.ret false)) else (crawlwayref10_Right.l0 x0 (wr .i64 (i4 + 1))) else none) else (some (.nx ()))
  partial_fixpoint
def crawlwayref10_Right (x0 : S_api_Addr) : Option (Bool) :=
  if (x0.f_V == 6) = true then (some true) else (crawlwayref10_Right.l0 x0 4 >>= fun q3 => match q3 with | .ret r' => some r' | .nx sq3 => (some (x0.f_V == 4)))
theorem crawlwayref10_Right_ok (x0 : S_api_Addr) (r : Bool) (hF : crawlwayref10_Right x0 = some r) (w : World) :
    Calls Try.prog 84 #[.agg (Cd.cs c_api_Addr x0).toArray] w (fun e w' => e = .returned (.bool r) ∧ Below w.heap.size w w') := by
 unfold crawlwayref10_Right at hF
 refine calls_enter (l := [.agg (Cd.cs c_api_Addr x0).toArray]) Try.func84 rfl rfl rfl ?_
 refine at_start ?_
 refine at_weak [(0, _)] ⟨rfl, trivial⟩ ?_
 refine sr ?_
 refine at_box (cs := Cd.cs c_api_Addr x0) rfl rfl rfl ?_
 intro b1
 refine av rfl (r_assign rfl) ?_
 refine nwt [(1, _)] ⟨rfl, trivial⟩ ?_
 refine at_seq ?_
 refine sr ?_
 refine av rfl (r_fieldAddr (fo := 0) Try.underlying32 rfl rfl (fun w => ⟨_, Try.sizeOf3 w⟩) rfl) ?_
 refine av rfl (r_load_cell Try.isAgg3 rfl (lens_cell0 (c := (cInt .i64)) (y := x0.f_V) .z (Lens.comp (Lens.whole _ _) (fun z => { x0 with f_V := z }) (c_api_Addr_f_V x0)) rfl)) ?_
 refine av rfl (r_ieql rfl rfl) ?_
 refine nwt [(1, _), (6, _)] ⟨rfl, rfl, trivial⟩ ?_
 rcases of_ite hF with ⟨h2, hF⟩ | ⟨h2, hF⟩
 ·refine at_cond_true rfl h2 ?_
  refine sr ?_
  refine av rfl (r_assign rfl) ?_
  refine at_nil ?_
  refine at_drop (H := _) .z ?_
  refine at_weak [(2, _)] ⟨rfl, trivial⟩ ?_
  refine at_then_normal ?_
  refine rt ?_
  have K := of_some hF
  subst K
  exact at_return1 rfl rfl (fun w1 hw => ⟨rfl, hw.below⟩)
 ·refine at_cond_false rfl h2 ?_
  refine sn ?_
  refine at_seq ?_
  refine sr ?_
  refine av rfl (r_assign rfl) ?_
  refine nwt [(1, _), (3, _)] ⟨rfl, rfl, trivial⟩ ?_
  refine at_block ?_
  obtain ⟨q3, hq3, hF⟩ := of_bindM hF
  refine at_weak [(1, _), (3, _)] ⟨rfl, rfl, trivial⟩ ?_
  refine at_loop_r (B := 0) (r := r) (q := q3) (A := fun (_ : Unit) Y => At 19 [(1, .pointer (some ⟨b1, 0, none⟩))] (Wd w [cellsE b1 (Cd.cs c_api_Addr x0) 32]) Y) ?_ ?_
  ·intro K
   refine crawlwayref10_Right.l0.partial_correctness x0 (motive := fun i4 x => KR (fun (_ : Unit) Y => At 19 [(1, .pointer (some ⟨b1, 0, none⟩))] (Wd w [cellsE b1 (Cd.cs c_api_Addr x0) 32]) Y) _ 0 r x → Round (fun Y => At 19 [(1, .pointer (some ⟨b1, 0, none⟩)), (3, .int .i64 i4)] (Wd w [cellsE b1 (Cd.cs c_api_Addr x0) 32]) Y) _ _ _) ?_ _ _ hq3 K
   ·clear K hF
    intro g ih i4 x hF K
    refine at_round ?_
    refine at_seq ?_
    refine sr ?_
    refine av rfl (r_move rfl) ?_
    refine av rfl (r_ilss rfl rfl) ?_
    refine nwt [(1, _), (3, _), (8, _)] ⟨rfl, rfl, rfl, trivial⟩ ?_
    rcases of_ite hF with ⟨h5, hF⟩ | ⟨h5, hF⟩
    ·refine at_cond_true rfl h5 ?_
     refine sn ?_
     refine at_seq ?_
     refine at_block ?_
     refine sr ?_
     refine av rfl (r_move rfl) ?_
     refine av rfl (r_fieldAddr (fo := 1) Try.underlying32 rfl rfl (fun w => ⟨_, Try.sizeOf30 w⟩) rfl) ?_
     obtain ⟨h6, hF⟩ := of_guard hF
     refine av rfl (r_idxArr Try.underlying30 Try.sizeOf5 rfl rfl h6) ?_
     refine av rfl (r_load_cell Try.isAgg5 rfl (lens_cell0 (c := (cInt .u8)) (y := vget x0.f_B i4) .z (Lens.comp (Lens.comp (Lens.whole _ _) (fun z => { x0 with f_B := z }) (c_api_Addr_f_B x0)) (fun z => vset x0.f_B i4 z) (Lens.vec (cInt .u8) (by decide) x0.f_B i4 h6)) rfl)) ?_
     refine av rfl (r_ineq rfl rfl) ?_
     refine nwt [(1, _), (3, _), (15, _)] ⟨rfl, rfl, rfl, trivial⟩ ?_
     rcases of_ite hF with ⟨h7, hF⟩ | ⟨h7, hF⟩
     ·refine at_cond_true rfl h7 ?_
      refine sr ?_
      refine av rfl (r_assign rfl) ?_
      refine at_nil ?_
      refine at_drop (H := _) .z ?_
      refine at_weak [(2, _)] ⟨rfl, trivial⟩ ?_
      refine at_then_normal ?_
      refine at_ret ?_
      refine at_blk_ret (at_then_ret (at_then_ret (at_blk_ret (at_then_ret ?_))))
      obtain rfl := of_some hF
      subst K
      exact at_return1 rfl rfl (fun w1 hw => ⟨rfl, hw.below⟩)
     ·refine at_cond_false rfl h7 ?_
      refine at_skip ?_
      refine at_blk_normal (at_then_normal ?_)
      refine at_region ?_
      refine av rfl (r_move rfl) ?_
      refine av rfl (r_iadd rfl rfl) ?_
      refine av rfl (r_assign rfl) ?_
      refine nwt [(1, _), (3, _)] ⟨rfl, rfl, trivial⟩ ?_
      exact at_weak_k (ih _ _ hF K) ⟨rfl, rfl, trivial⟩
    ·refine at_cond_false rfl h5 ?_
     refine at_exit ?_
     refine at_then_exit (at_then_exit ?_)
     obtain rfl := of_some hF
     exact at_weak_k K ⟨rfl, trivial⟩
  ·cases q3 with
   | ret r' => exact of_some hF
   | nx sq3 =>
    skip
    refine at_blk_same ?_
    refine at_then_normal ?_
    refine sr ?_
    refine av rfl (r_fieldAddr (fo := 0) Try.underlying32 rfl rfl (fun w => ⟨_, Try.sizeOf3 w⟩) rfl) ?_
    refine av rfl (r_load_cell Try.isAgg3 rfl (lens_cell0 (c := (cInt .i64)) (y := x0.f_V) .z (Lens.comp (Lens.whole _ _) (fun z => { x0 with f_V := z }) (c_api_Addr_f_V x0)) rfl)) ?_
    refine av rfl (r_ieql rfl rfl) ?_
    refine av rfl (r_assign rfl) ?_
    refine at_nil ?_
    refine at_drop (H := _) .z ?_
    refine at_weak [(2, _)] ⟨rfl, trivial⟩ ?_
    refine at_then_normal ?_
    refine at_ret ?_
    have K := of_some hF
    subst K
    exact at_return1 rfl rfl (fun w1 hw => ⟨rfl, hw.below⟩)
def crawlwayref12_Right (x0 : S_api_Endpoint) : Option (Bool) :=
  crawlwayref10_Right x0.f_A >>= fun t2 => if t2 = true then (if (decide (x0.f_Port ≥ 1)) = true then (some (decide (x0.f_Port ≤ 65535))) else (some false)) else (some false)
theorem crawlwayref12_Right_ok (x0 : S_api_Endpoint) (r : Bool) (hF : crawlwayref12_Right x0 = some r) (w : World) :
    Calls Try.prog 56 #[.agg (Cd.cs c_api_Endpoint x0).toArray] w (fun e w' => e = .returned (.bool r) ∧ Below w.heap.size w w') := by
 unfold crawlwayref12_Right at hF
 refine calls_enter (l := [.agg (Cd.cs c_api_Endpoint x0).toArray]) Try.func56 rfl rfl rfl ?_
 refine at_start ?_
 refine at_weak [(0, _)] ⟨rfl, trivial⟩ ?_
 refine sr ?_
 refine at_box (cs := Cd.cs c_api_Endpoint x0) rfl rfl rfl ?_
 intro b1
 refine av rfl (r_assign rfl) ?_
 refine nws [(1, _)] ⟨rfl, trivial⟩ ?_
 refine av rfl (r_fieldAddr (fo := 0) Try.underlying34 rfl rfl (fun w => ⟨_, Try.sizeOf32 w⟩) rfl) ?_
 refine av rfl (r_load_aggc (c := c_api_Addr) (z := x0.f_A) Try.isAgg32 Try.sizeOf32 rfl (lens_cell .z (Lens.comp (Lens.whole _ _) (fun z => { x0 with f_A := z }) (c_api_Endpoint_f_A x0)))) ?_
 obtain ⟨t2, ht2, hF⟩ := of_bindM hF
 refine at_callB Try.func84 rfl (by kernel_rfl) rfl rfl (fun w hw => crawlwayref10_Right_ok _ _ ht2 w) ?_
 refine av rfl (r_move rfl) ?_
 rcases of_ite hF with ⟨h3, hF⟩ | ⟨h3, hF⟩
 ·refine at_fix (g := 6) rfl h3 ?_
  refine at_guard_yes rfl rfl rfl ?_
  refine av rfl (r_fieldAddr (fo := 17) Try.underlying34 rfl rfl (fun w => ⟨_, Try.sizeOf3 w⟩) rfl) ?_
  refine at_guard_yes rfl rfl rfl ?_
  refine av rfl (r_load_cell Try.isAgg3 rfl (lens_cell0 (c := (cInt .i64)) (y := x0.f_Port) .z (Lens.comp (Lens.whole _ _) (fun z => { x0 with f_Port := z }) (c_api_Endpoint_f_Port x0)) rfl)) ?_
  refine at_guard_yes rfl rfl rfl ?_
  refine av rfl (r_igeq rfl rfl) ?_
  refine av rfl (r_pick rfl rfl rfl) ?_
  refine av rfl (r_move rfl) ?_
  rcases of_ite hF with ⟨h4, hF⟩ | ⟨h4, hF⟩
  ·refine at_fix (g := 11) rfl h4 ?_
   refine at_guard_yes rfl rfl rfl ?_
   refine av rfl (r_fieldAddr (fo := 17) Try.underlying34 rfl rfl (fun w => ⟨_, Try.sizeOf3 w⟩) rfl) ?_
   refine at_guard_yes rfl rfl rfl ?_
   refine av rfl (r_load_cell Try.isAgg3 rfl (lens_cell0 (c := (cInt .i64)) (y := x0.f_Port) .z (Lens.comp (Lens.whole _ _) (fun z => { x0 with f_Port := z }) (c_api_Endpoint_f_Port x0)) rfl)) ?_
   refine at_guard_yes rfl rfl rfl ?_
   refine av rfl (r_ileq rfl rfl) ?_
   refine av rfl (r_pick rfl rfl rfl) ?_
   refine av rfl (r_assign rfl) ?_
   refine at_nil ?_
   refine at_drop (H := _) .z ?_
   refine at_weak [(2, _)] ⟨rfl, trivial⟩ ?_
   refine at_then_normal ?_
   refine at_ret ?_
   have K := of_some hF
   subst K
   exact at_return1 rfl rfl (fun w1 hw => ⟨rfl, hw.below⟩)
  ·refine at_fix (g := 11) rfl h4 ?_
   refine at_guard_no rfl rfl rfl rfl rfl ?_
   refine at_guard_no rfl rfl rfl rfl rfl ?_
   refine at_guard_no rfl rfl rfl rfl rfl ?_
   refine av rfl (r_pick rfl rfl rfl) ?_
   refine av rfl (r_assign rfl) ?_
   refine at_nil ?_
   refine at_drop (H := _) .z ?_
   refine at_weak [(2, _)] ⟨rfl, trivial⟩ ?_
   refine at_then_normal ?_
   refine at_ret ?_
   have K := of_some hF
   subst K
   exact at_return1 rfl rfl (fun w1 hw => ⟨rfl, hw.below⟩)
 ·refine at_fix (g := 6) rfl h3 ?_
  refine at_guard_no rfl rfl rfl rfl rfl ?_
  refine at_guard_no rfl rfl rfl rfl rfl ?_
  refine at_guard_no rfl rfl rfl rfl rfl ?_
  refine av rfl (r_pick rfl rfl rfl) ?_
  refine av rfl (r_move rfl) ?_
  refine at_guard_no rfl rfl rfl rfl rfl ?_
  refine at_guard_no rfl rfl rfl rfl rfl ?_
  refine at_guard_no rfl rfl rfl rfl rfl ?_
  refine av rfl (r_pick rfl rfl rfl) ?_
  refine av rfl (r_assign rfl) ?_
  refine at_nil ?_
  refine at_drop (H := _) .z ?_
  refine at_weak [(2, _)] ⟨rfl, trivial⟩ ?_
  refine at_then_normal ?_
  refine at_ret ?_
  have K := of_some hF
  subst K
  exact at_return1 rfl rfl (fun w1 hw => ⟨rfl, hw.below⟩)
def crawlwayref10_Width (x0 : S_api_Addr) : Option (Int) :=
  crawlwayref10_Right x0 >>= fun t2 => if (!t2) = true then (some 0) else (if (x0.f_V == 4) = true then (some 32) else (some 128))
theorem crawlwayref10_Width_ok (x0 : S_api_Addr) (r : Int) (hF : crawlwayref10_Width x0 = some r) (w : World) :
    Calls Try.prog 85 #[.agg (Cd.cs c_api_Addr x0).toArray] w (fun e w' => e = .returned (.int .i64 r) ∧ Below w.heap.size w w') := by
 unfold crawlwayref10_Width at hF
 refine calls_enter (l := [.agg (Cd.cs c_api_Addr x0).toArray]) Try.func85 rfl rfl rfl ?_
 refine at_start ?_
 refine at_weak [(0, _)] ⟨rfl, trivial⟩ ?_
 refine sr ?_
 refine at_box (cs := Cd.cs c_api_Addr x0) rfl rfl rfl ?_
 intro b1
 refine av rfl (r_assign rfl) ?_
 refine nwt [(1, _)] ⟨rfl, trivial⟩ ?_
 refine at_seq ?_
 refine sr ?_
 refine av rfl (r_load_aggc (c := c_api_Addr) (z := x0) Try.isAgg32 Try.sizeOf32 rfl (lens_cell .z (Lens.whole _ _))) ?_
 obtain ⟨t2, ht2, hF⟩ := of_bindM hF
 refine at_callB Try.func84 rfl (by kernel_rfl) rfl rfl (fun w hw => crawlwayref10_Right_ok _ _ ht2 w) ?_
 refine av rfl (r_not rfl) ?_
 refine nwt [(1, _), (5, _)] ⟨rfl, rfl, trivial⟩ ?_
 rcases of_ite hF with ⟨h3, hF⟩ | ⟨h3, hF⟩
 ·refine at_cond_true rfl h3 ?_
  refine sr ?_
  refine av rfl (r_assign rfl) ?_
  refine at_nil ?_
  refine at_drop (H := _) .z ?_
  refine at_weak [(2, _)] ⟨rfl, trivial⟩ ?_
  refine at_then_normal ?_
  refine rt ?_
  have K := of_some hF
  subst K
  exact at_return1 rfl rfl (fun w1 hw => ⟨rfl, hw.below⟩)
 ·refine at_cond_false rfl h3 ?_
  refine sn ?_
  refine at_seq ?_
  refine sr ?_
  refine av rfl (r_fieldAddr (fo := 0) Try.underlying32 rfl rfl (fun w => ⟨_, Try.sizeOf3 w⟩) rfl) ?_
  refine av rfl (r_load_cell Try.isAgg3 rfl (lens_cell0 (c := (cInt .i64)) (y := x0.f_V) .z (Lens.comp (Lens.whole _ _) (fun z => { x0 with f_V := z }) (c_api_Addr_f_V x0)) rfl)) ?_
  refine av rfl (r_ieql rfl rfl) ?_
  refine at_nil ?_
  refine at_drop (H := _) .z ?_
  refine at_weak [(8, _)] ⟨rfl, trivial⟩ ?_
  refine at_then_normal ?_
  rcases of_ite hF with ⟨h4, hF⟩ | ⟨h4, hF⟩
  ·refine at_cond_true rfl h4 ?_
   refine sr ?_
   refine av rfl (r_assign rfl) ?_
   refine nwt [(2, _)] ⟨rfl, trivial⟩ ?_
   refine rt ?_
   have K := of_some hF
   subst K
   exact at_return1 rfl rfl (fun w1 hw => ⟨rfl, hw.below⟩)
  ·refine at_cond_false rfl h4 ?_
   refine sns ?_
   refine av rfl (r_assign rfl) ?_
   refine nwt [(2, _)] ⟨rfl, trivial⟩ ?_
   refine at_ret ?_
   have K := of_some hF
   subst K
   exact at_return1 rfl rfl (fun w1 hw => ⟨rfl, hw.below⟩)
def crawlwayref10_digit.l0 (x1 : Int) (i4 : Int) (i5 : Int) : Option (Int) :=
  if (decide (i5 > Int.tmod x1 8)) = true then (crawlwayref10_digit.l0 x1 (wr .i64 (Int.tdiv i4 2)) (wr .i64 (i5 - 1))) else (some i4)
  partial_fixpoint
def crawlwayref10_digit (x0 : S_api_Addr) (x1 : Int) : Option (Int) :=
  if (0 : Int) ≤ wr .i64 (Int.tdiv x1 8) ∧ wr .i64 (Int.tdiv x1 8) < 16 then crawlwayref10_digit.l0 x1 (wr .i64 (vget x0.f_B (wr .i64 (Int.tdiv x1 8)))) 7 >>= fun q3 => some (Int.tmod q3 2) else none
theorem crawlwayref10_digit_ok (x0 : S_api_Addr) (x1 : Int) (r : Int) (hF : crawlwayref10_digit x0 x1 = some r) (w : World) :
    Calls Try.prog 95 #[.agg (Cd.cs c_api_Addr x0).toArray, .int .i64 x1] w (fun e w' => e = .returned (.int .i64 r) ∧ Below w.heap.size w w') := by
 unfold crawlwayref10_digit at hF
 refine calls_enter (l := [.agg (Cd.cs c_api_Addr x0).toArray, .int .i64 x1]) Try.func95 rfl rfl rfl ?_
 refine at_start ?_
 refine at_weak [(0, _), (1, _)] ⟨rfl, rfl, trivial⟩ ?_
 refine sr ?_
 refine at_box (cs := Cd.cs c_api_Addr x0) rfl rfl rfl ?_
 intro b1
 refine av rfl (r_assign rfl) ?_
 refine nws [(1, _), (2, _)] ⟨rfl, rfl, trivial⟩ ?_
 refine av rfl (r_move rfl) ?_
 refine av rfl (r_iquo rfl rfl (by decide)) ?_
 refine av rfl (r_fieldAddr (fo := 1) Try.underlying32 rfl rfl (fun w => ⟨_, Try.sizeOf30 w⟩) rfl) ?_
 obtain ⟨h2, hF⟩ := of_guard hF
 refine av rfl (r_idxArr Try.underlying30 Try.sizeOf5 rfl rfl h2) ?_
 refine av rfl (r_load_cell Try.isAgg5 rfl (lens_cell0 (c := (cInt .u8)) (y := vget x0.f_B (wr .i64 (Int.tdiv x1 8))) .z (Lens.comp (Lens.comp (Lens.whole _ _) (fun z => { x0 with f_B := z }) (c_api_Addr_f_B x0)) (fun z => vset x0.f_B (wr .i64 (Int.tdiv x1 8)) z) (Lens.vec (cInt .u8) (by decide) x0.f_B (wr .i64 (Int.tdiv x1 8)) h2)) rfl)) ?_
 refine av rfl (r_conv Try.underlying5 Try.underlying3 rfl) ?_
 refine av rfl (r_assign rfl) ?_
 refine at_nil ?_
 refine at_drop (H := _) .z ?_
 refine at_weak [(1, _), (5, _)] ⟨rfl, rfl, trivial⟩ ?_
 refine at_then_normal ?_
 refine at_seq ?_
 refine sr ?_
 refine av rfl (r_assign rfl) ?_
 refine nwt [(1, _), (5, _), (6, _)] ⟨rfl, rfl, rfl, trivial⟩ ?_
 refine at_block ?_
 obtain ⟨q3, hq3, hF⟩ := of_bindM hF
 refine at_weak [(1, _), (5, _), (6, _)] ⟨rfl, rfl, rfl, trivial⟩ ?_
 refine at_loop_n (B := 0) (A := fun Y => At 23 [(5, .int .i64 q3)] (Wd w []) Y) ?_ ?_
 ·intro K
  refine crawlwayref10_digit.l0.partial_correctness x1 (motive := fun i4 i5 x => KN (fun Y => At 23 [(5, .int .i64 x)] (Wd w []) Y) _ 0 → Round (fun Y => At 23 [(1, .int .i64 x1), (5, .int .i64 i4), (6, .int .i64 i5)] (Wd w []) Y) _ _ _) ?_ _ _ _ hq3 K
  ·clear K hF
   intro g ih i4 i5 x hF K
   refine at_round ?_
   refine at_seq ?_
   refine sr ?_
   refine av rfl (r_move rfl) ?_
   refine av rfl (r_move rfl) ?_
   refine av rfl (r_irem rfl rfl (by decide)) ?_
   refine av rfl (r_igtr rfl rfl) ?_
   refine nwt [(1, _), (5, _), (6, _), (16, _)] ⟨rfl, rfl, rfl, rfl, trivial⟩ ?_
   rcases of_ite hF with ⟨h6, hF⟩ | ⟨h6, hF⟩
   ·refine at_cond_true rfl h6 ?_
    refine sn ?_
    refine at_seq ?_
    refine at_block ?_
    refine at_region ?_
    refine av rfl (r_move rfl) ?_
    refine av rfl (r_iquo rfl rfl (by decide)) ?_
    refine av rfl (r_assign rfl) ?_
    refine at_nil ?_
    refine at_weak [(1, _), (5, _), (6, _)] ⟨rfl, rfl, rfl, trivial⟩ ?_
    refine at_blk_normal (at_then_normal ?_)
    refine at_region ?_
    refine av rfl (r_move rfl) ?_
    refine av rfl (r_isub rfl rfl) ?_
    refine av rfl (r_assign rfl) ?_
    refine nwt [(1, _), (5, _), (6, _)] ⟨rfl, rfl, rfl, trivial⟩ ?_
    exact at_weak_k (ih _ _ _ hF K) ⟨rfl, rfl, rfl, trivial⟩
   ·refine at_cond_false rfl h6 ?_
    refine at_exit ?_
    refine at_then_exit (at_then_exit ?_)
    obtain rfl := of_some hF
    exact at_weak_k K ⟨rfl, trivial⟩
 ·skip
  skip
  refine at_blk_same ?_
  refine at_then_normal ?_
  refine sr ?_
  refine av rfl (r_move rfl) ?_
  refine av rfl (r_irem rfl rfl (by decide)) ?_
  refine av rfl (r_assign rfl) ?_
  refine nwt [(4, _)] ⟨rfl, trivial⟩ ?_
  refine at_ret ?_
  have K := of_some hF
  subst K
  exact at_return1 rfl rfl (fun w1 hw => ⟨rfl, hw.below⟩)
def crawlwayref10_Mask.l1 (i8 : Int) (i15 : Int) (i16 : Int) : Option (Int) :=
  if (decide (i16 < Int.tmod i8 8)) = true then (crawlwayref10_Mask.l1 i8 (wr .i64 (Int.tdiv i15 2)) (wr .i64 (i16 + 1))) else (some i15)
  partial_fixpoint
def crawlwayref10_Mask.l0 (x0 : S_api_Addr) (x1 : Int) (t6 : Int) (i8 : Int) (i9 : S_api_Addr) : Option (S_api_Addr) :=
  if (decide (i8 < t6)) = true then (if (decide (i8 < x1)) = true then (crawlwayref10_digit x0 i8 >>= fun t12 => if (t12 == 1) = true then (crawlwayref10_Mask.l1 i8 128 0 >>= fun q14 => if (0 : Int) ≤ wr .i64 (Int.tdiv i8 8) ∧ wr .i64 (Int.tdiv i8 8) < 16 then if (0 : Int) ≤ wr .i64 (Int.tdiv i8 8) ∧ wr .i64 (Int.tdiv i8 8) < 16 then crawlwayref10_Mask.l0 x0 x1 t6 (wr .i64 (i8 + 1)) ({ i9 with f_B := vset i9.f_B (wr .i64 (Int.tdiv i8 8)) (wr .u8 ((vget i9.f_B (wr .i64 (Int.tdiv i8 8))) + (wr .u8 q14))) }) else none else none) else (crawlwayref10_Mask.l0 x0 x1 t6 (wr .i64 (i8 + 1)) i9)) else (some i9)) else (some i9)
  partial_fixpoint
def crawlwayref10_Mask (x0 : S_api_Addr) (x1 : Int) : Option (S_api_Addr) :=
  crawlwayref10_Right x0 >>= fun t3 => if (!t3) = true then (some ({ f_V := (0 : Int), f_B := (Vector.replicate 16 (0 : Int) : (Vector Int 16)) } : S_api_Addr)) else (crawlwayref10_Width x0 >>= fun t6 => crawlwayref10_Mask.l0 x0 x1 t6 0 ({ ({ f_V := (0 : Int), f_B := (Vector.replicate 16 (0 : Int) : (Vector Int 16)) } : S_api_Addr) with f_V := x0.f_V }) >>= fun q7 => some q7)
theorem crawlwayref10_Mask_ok (x0 : S_api_Addr) (x1 : Int) (r : S_api_Addr) (hF : crawlwayref10_Mask x0 x1 = some r) (w : World) :
    Calls Try.prog 86 #[.agg (Cd.cs c_api_Addr x0).toArray, .int .i64 x1] w (fun e w' => e = .returned (.agg (Cd.cs c_api_Addr r).toArray) ∧ Below w.heap.size w w') := by
 unfold crawlwayref10_Mask at hF
 refine calls_enter (l := [.agg (Cd.cs c_api_Addr x0).toArray, .int .i64 x1]) Try.func86 rfl rfl rfl ?_
 refine at_start ?_
 refine at_weak [(0, _), (1, _)] ⟨rfl, rfl, trivial⟩ ?_
 refine sr ?_
 refine at_box (cs := Cd.cs c_api_Addr x0) rfl rfl rfl ?_
 intro b1
 refine at_alloc (cs := Cd.cs c_api_Addr zqG1_1) Try.zeroValue32 rfl rfl ?_
 intro b2
 refine nwt [(1, _), (2, _), (4, _)] ⟨rfl, rfl, rfl, trivial⟩ ?_
 refine at_seq ?_
 refine sr ?_
 refine av rfl (r_load_aggc (c := c_api_Addr) (z := x0) Try.isAgg32 Try.sizeOf32 rfl (lens_cell (.s .z) (Lens.whole _ _))) ?_
 obtain ⟨t3, ht3, hF⟩ := of_bindM hF
 refine at_callB Try.func84 rfl (by kernel_rfl) rfl rfl (fun w hw => crawlwayref10_Right_ok _ _ ht3 w) ?_
 refine av rfl (r_not rfl) ?_
 refine nwt [(1, _), (2, _), (4, _), (12, _)] ⟨rfl, rfl, rfl, rfl, trivial⟩ ?_
 rcases of_ite hF with ⟨h4, hF⟩ | ⟨h4, hF⟩
 ·refine at_cond_true rfl h4 ?_
  refine sr ?_
  refine av rfl (r_build_struct (zs := Cd.cs c_api_Addr zqG1_1) (cs := Cd.cs c_api_Addr zqG1_1) Try.underlying32 Try.zeroValue32 rfl (places_api_Addr_32) rfl rfl) ?_
  refine at_store (c := c_api_Addr) (z := zqG1_1) .z (Lens.whole _ _) Try.sizeOf32 rfl rfl rfl ?_
  refine at_nil ?_
  refine at_drop (H := _) (.s .z) ?_
  refine at_weak [(4, _)] ⟨rfl, trivial⟩ ?_
  refine at_then_normal ?_
  refine rt ?_
  have K := of_some hF
  subst K
  exact at_res1 rfl (res_cell (c := c_api_Addr) (y := zqG1_1) rfl .z (Lens.whole _ _) Try.isAgg32 Try.sizeOf32 (.inl rfl)) (fun w1 hw => ⟨rfl, hw.below⟩)
 ·refine at_cond_false rfl h4 ?_
  refine sns ?_
  refine av rfl (r_fieldAddr (fo := 0) Try.underlying32 rfl rfl (fun w => ⟨_, Try.sizeOf3 w⟩) rfl) ?_
  refine av rfl (r_load_cell Try.isAgg3 rfl (lens_cell0 (c := (cInt .i64)) (y := x0.f_V) (.s .z) (Lens.comp (Lens.whole _ _) (fun z => { x0 with f_V := z }) (c_api_Addr_f_V x0)) rfl)) ?_
  refine av rfl (r_build_struct (zs := Cd.cs c_api_Addr zqG1_1) (cs := Cd.cs c_api_Addr ({ zqG1_1 with f_V := x0.f_V })) Try.underlying32 Try.zeroValue32 rfl (places_api_Addr_32) rfl (fill_step (c := (cInt .i64)) (z := x0.f_V) rfl (c_api_Addr_f_V zqG1_1) rfl rfl)) ?_
  refine at_alloc (cs := Cd.cs c_api_Addr zqG1_1) Try.zeroValue32 rfl rfl ?_
  intro b5
  refine at_store (c := c_api_Addr) (z := { zqG1_1 with f_V := x0.f_V }) .z (Lens.whole _ _) Try.sizeOf32 rfl rfl rfl ?_
  refine nws [(1, _), (2, _), (4, _), (5, _)] ⟨rfl, rfl, rfl, rfl, trivial⟩ ?_
  refine av rfl (r_load_aggc (c := c_api_Addr) (z := x0) Try.isAgg32 Try.sizeOf32 rfl (lens_cell (.s (.s .z)) (Lens.whole _ _))) ?_
  obtain ⟨t6, ht6, hF⟩ := of_bindM hF
  refine at_callB Try.func85 rfl (by kernel_rfl) rfl rfl (fun w hw => crawlwayref10_Width_ok _ _ ht6 w) ?_
  refine av rfl (r_assign rfl) ?_
  refine nwt [(1, _), (2, _), (4, _), (5, _), (6, _)] ⟨rfl, rfl, rfl, rfl, rfl, trivial⟩ ?_
  refine at_seq ?_
  refine sr ?_
  refine av rfl (r_assign rfl) ?_
  refine nwt [(1, _), (2, _), (4, _), (5, _), (6, _), (7, _)] ⟨rfl, rfl, rfl, rfl, rfl, rfl, trivial⟩ ?_
  refine at_block ?_
  obtain ⟨q7, hq7, hF⟩ := of_bindM hF
  refine at_weak [(1, _), (2, _), (4, _), (5, _), (6, _), (7, _)] ⟨rfl, rfl, rfl, rfl, rfl, rfl, trivial⟩ ?_
  refine at_loop_n (B := 0) (A := fun Y => At 54 [(4, .pointer (some ⟨b2, 0, none⟩)), (5, .pointer (some ⟨b5, 0, none⟩))] (Wd w [cellsE b5 (Cd.cs c_api_Addr q7) 32, cellsE b2 (Cd.cs c_api_Addr zqG1_1) 32]) Y) ?_ ?_
  ·intro K
   refine crawlwayref10_Mask.l0.partial_correctness x0 x1 t6 (motive := fun i8 i9 x => KN (fun Y => At 54 [(4, .pointer (some ⟨b2, 0, none⟩)), (5, .pointer (some ⟨b5, 0, none⟩))] (Wd w [cellsE b5 (Cd.cs c_api_Addr x) 32, cellsE b2 (Cd.cs c_api_Addr zqG1_1) 32]) Y) _ 0 → Round (fun Y => At 54 [(1, .int .i64 x1), (2, .pointer (some ⟨b1, 0, none⟩)), (4, .pointer (some ⟨b2, 0, none⟩)), (5, .pointer (some ⟨b5, 0, none⟩)), (6, .int .i64 t6), (7, .int .i64 i8)] (Wd w [cellsE b5 (Cd.cs c_api_Addr i9) 32, cellsE b2 (Cd.cs c_api_Addr zqG1_1) 32, cellsE b1 (Cd.cs c_api_Addr x0) 32]) Y) _ _ _) ?_ _ _ _ hq7 K
   ·clear K hF
    intro g ih i8 i9 x hF K
    refine at_round ?_
    refine at_seq ?_
    refine sr ?_
    refine av rfl (r_move rfl) ?_
    refine av rfl (r_move rfl) ?_
    refine av rfl (r_ilss rfl rfl) ?_
    refine av rfl (r_move rfl) ?_
    rcases of_ite hF with ⟨h10, hF⟩ | ⟨h10, hF⟩
    ·refine at_fix (g := 22) rfl h10 ?_
     refine at_guard_yes rfl rfl rfl ?_
     refine av rfl (r_move rfl) ?_
     refine at_guard_yes rfl rfl rfl ?_
     refine av rfl (r_move rfl) ?_
     refine at_guard_yes rfl rfl rfl ?_
     refine av rfl (r_ilss rfl rfl) ?_
     refine av rfl (r_pick rfl rfl rfl) ?_
     refine nwt [(1, _), (2, _), (4, _), (5, _), (6, _), (7, _), (26, _)] ⟨rfl, rfl, rfl, rfl, rfl, rfl, rfl, trivial⟩ ?_
     rcases of_ite hF with ⟨h11, hF⟩ | ⟨h11, hF⟩
     ·refine at_cond_true rfl h11 ?_
      refine sn ?_
      refine at_seq ?_
      refine at_block ?_
      refine sr ?_
      refine av rfl (r_load_aggc (c := c_api_Addr) (z := x0) Try.isAgg32 Try.sizeOf32 rfl (lens_cell (.s (.s .z)) (Lens.whole _ _))) ?_
      refine av rfl (r_move rfl) ?_
      obtain ⟨t12, ht12, hF⟩ := of_bindM hF
      refine at_callB Try.func95 rfl (by kernel_rfl) rfl rfl (fun w hw => crawlwayref10_digit_ok _ _ _ ht12 w) ?_
      refine av rfl (r_ieql rfl rfl) ?_
      refine nwt [(1, _), (2, _), (4, _), (5, _), (6, _), (7, _), (32, _)] ⟨rfl, rfl, rfl, rfl, rfl, rfl, rfl, trivial⟩ ?_
      rcases of_ite hF with ⟨h13, hF⟩ | ⟨h13, hF⟩
      ·refine at_cond_true rfl h13 ?_
       refine sr ?_
       refine av rfl (r_assign rfl) ?_
       refine nwt [(1, _), (2, _), (4, _), (5, _), (6, _), (7, _), (8, _)] ⟨rfl, rfl, rfl, rfl, rfl, rfl, rfl, trivial⟩ ?_
       refine at_seq ?_
       refine sr ?_
       refine av rfl (r_assign rfl) ?_
       refine nwt [(1, _), (2, _), (4, _), (5, _), (6, _), (7, _), (8, _), (9, _)] ⟨rfl, rfl, rfl, rfl, rfl, rfl, rfl, rfl, trivial⟩ ?_
       refine at_block ?_
       obtain ⟨q14, hq14, hF⟩ := of_bindM hF
       refine at_weak [(1, _), (2, _), (4, _), (5, _), (6, _), (7, _), (8, _), (9, _)] ⟨rfl, rfl, rfl, rfl, rfl, rfl, rfl, rfl, trivial⟩ ?_
       refine at_loop_n (B := 2) (A := fun Y => At 54 [(1, .int .i64 x1), (2, .pointer (some ⟨b1, 0, none⟩)), (4, .pointer (some ⟨b2, 0, none⟩)), (5, .pointer (some ⟨b5, 0, none⟩)), (6, .int .i64 t6), (7, .int .i64 i8), (8, .int .i64 q14)] (Wd w [cellsE b5 (Cd.cs c_api_Addr i9) 32, cellsE b2 (Cd.cs c_api_Addr zqG1_1) 32, cellsE b1 (Cd.cs c_api_Addr x0) 32]) Y) ?_ ?_
       ·intro K
        refine crawlwayref10_Mask.l1.partial_correctness i8 (motive := fun i15 i16 x => KN (fun Y => At 54 [(1, .int .i64 x1), (2, .pointer (some ⟨b1, 0, none⟩)), (4, .pointer (some ⟨b2, 0, none⟩)), (5, .pointer (some ⟨b5, 0, none⟩)), (6, .int .i64 t6), (7, .int .i64 i8), (8, .int .i64 x)] (Wd w [cellsE b5 (Cd.cs c_api_Addr i9) 32, cellsE b2 (Cd.cs c_api_Addr zqG1_1) 32, cellsE b1 (Cd.cs c_api_Addr x0) 32]) Y) _ 2 → Round (fun Y => At 54 [(1, .int .i64 x1), (2, .pointer (some ⟨b1, 0, none⟩)), (4, .pointer (some ⟨b2, 0, none⟩)), (5, .pointer (some ⟨b5, 0, none⟩)), (6, .int .i64 t6), (7, .int .i64 i8), (8, .int .i64 i15), (9, .int .i64 i16)] (Wd w [cellsE b5 (Cd.cs c_api_Addr i9) 32, cellsE b2 (Cd.cs c_api_Addr zqG1_1) 32, cellsE b1 (Cd.cs c_api_Addr x0) 32]) Y) _ _ _) ?_ _ _ _ hq14 K
        ·clear K hF
         intro g ih i15 i16 x hF K
         refine at_round ?_
         refine at_seq ?_
         refine sr ?_
         refine av rfl (r_move rfl) ?_
         refine av rfl (r_move rfl) ?_
         refine av rfl (r_irem rfl rfl (by decide)) ?_
         refine av rfl (r_ilss rfl rfl) ?_
         refine nwt [(1, _), (2, _), (4, _), (5, _), (6, _), (7, _), (8, _), (9, _), (36, _)] ⟨rfl, rfl, rfl, rfl, rfl, rfl, rfl, rfl, rfl, trivial⟩ ?_
         rcases of_ite hF with ⟨h17, hF⟩ | ⟨h17, hF⟩
         ·refine at_cond_true rfl h17 ?_
          refine sn ?_
          refine at_seq ?_
          refine at_block ?_
          refine at_region ?_
          refine av rfl (r_move rfl) ?_
          refine av rfl (r_iquo rfl rfl (by decide)) ?_
          refine av rfl (r_assign rfl) ?_
          refine at_nil ?_
          refine at_weak [(1, _), (2, _), (4, _), (5, _), (6, _), (7, _), (8, _), (9, _)] ⟨rfl, rfl, rfl, rfl, rfl, rfl, rfl, rfl, trivial⟩ ?_
          refine at_blk_normal (at_then_normal ?_)
          refine at_region ?_
          refine av rfl (r_move rfl) ?_
          refine av rfl (r_iadd rfl rfl) ?_
          refine av rfl (r_assign rfl) ?_
          refine nwt [(1, _), (2, _), (4, _), (5, _), (6, _), (7, _), (8, _), (9, _)] ⟨rfl, rfl, rfl, rfl, rfl, rfl, rfl, rfl, trivial⟩ ?_
          exact at_weak_k (ih _ _ _ hF K) ⟨rfl, rfl, rfl, rfl, rfl, rfl, rfl, rfl, trivial⟩
         ·refine at_cond_false rfl h17 ?_
          refine at_exit ?_
          refine at_then_exit (at_then_exit ?_)
          obtain rfl := of_some hF
          exact at_weak_k K ⟨rfl, rfl, rfl, rfl, rfl, rfl, rfl, trivial⟩
       ·skip
        skip
        refine at_blk_same ?_
        refine at_then_normal ?_
        refine at_region ?_
        refine av rfl (r_move rfl) ?_
        refine av rfl (r_iquo rfl rfl (by decide)) ?_
        refine av rfl (r_move rfl) ?_
        refine av rfl (r_iquo rfl rfl (by decide)) ?_
        refine av rfl (r_fieldAddr (fo := 1) Try.underlying32 rfl rfl (fun w => ⟨_, Try.sizeOf30 w⟩) rfl) ?_
        obtain ⟨h18, hF⟩ := of_guard hF
        refine av rfl (r_idxArr Try.underlying30 Try.sizeOf5 rfl rfl h18) ?_
        refine av rfl (r_load_cell Try.isAgg5 rfl (lens_cell0 (c := (cInt .u8)) (y := vget i9.f_B (wr .i64 (Int.tdiv i8 8))) .z (Lens.comp (Lens.comp (Lens.whole _ _) (fun z => { i9 with f_B := z }) (c_api_Addr_f_B i9)) (fun z => vset i9.f_B (wr .i64 (Int.tdiv i8 8)) z) (Lens.vec (cInt .u8) (by decide) i9.f_B (wr .i64 (Int.tdiv i8 8)) h18)) rfl)) ?_
        refine av rfl (r_move rfl) ?_
        refine av rfl (r_conv Try.underlying3 Try.underlying5 rfl) ?_
        refine av rfl (r_iadd rfl rfl) ?_
        refine av rfl (r_fieldAddr (fo := 1) Try.underlying32 rfl rfl (fun w => ⟨_, Try.sizeOf30 w⟩) rfl) ?_
        obtain ⟨h19, hF⟩ := of_guard hF
        refine av rfl (r_idxArr Try.underlying30 Try.sizeOf5 rfl rfl h19) ?_
        refine at_store (c := (cInt .u8)) (z := wr .u8 ((vget i9.f_B (wr .i64 (Int.tdiv i8 8))) + (wr .u8 q14))) .z (Lens.comp (Lens.comp (Lens.whole _ _) (fun z => { i9 with f_B := z }) (c_api_Addr_f_B i9)) (fun z => vset i9.f_B (wr .i64 (Int.tdiv i8 8)) z) (Lens.vec (cInt .u8) (by decide) i9.f_B (wr .i64 (Int.tdiv i8 8)) h19)) Try.sizeOf5 rfl rfl rfl ?_
        refine at_nil ?_
        refine at_weak [(1, _), (2, _), (4, _), (5, _), (6, _), (7, _)] ⟨rfl, rfl, rfl, rfl, rfl, rfl, trivial⟩ ?_
        refine at_blk_normal (at_then_normal ?_)
        refine at_region ?_
        refine av rfl (r_move rfl) ?_
        refine av rfl (r_iadd rfl rfl) ?_
        refine av rfl (r_assign rfl) ?_
        refine nwt [(1, _), (2, _), (4, _), (5, _), (6, _), (7, _)] ⟨rfl, rfl, rfl, rfl, rfl, rfl, trivial⟩ ?_
        exact at_weak_k (ih _ _ _ hF K) ⟨rfl, rfl, rfl, rfl, rfl, rfl, trivial⟩
      ·refine at_cond_false rfl h13 ?_
       refine at_skip ?_
       refine at_blk_normal (at_then_normal ?_)
       refine at_region ?_
       refine av rfl (r_move rfl) ?_
       refine av rfl (r_iadd rfl rfl) ?_
       refine av rfl (r_assign rfl) ?_
       refine nwt [(1, _), (2, _), (4, _), (5, _), (6, _), (7, _)] ⟨rfl, rfl, rfl, rfl, rfl, rfl, trivial⟩ ?_
       exact at_weak_k (ih _ _ _ hF K) ⟨rfl, rfl, rfl, rfl, rfl, rfl, trivial⟩
     ·refine at_cond_false rfl h11 ?_
      refine at_exit ?_
      refine at_then_exit (at_then_exit ?_)
      refine at_drop (H := _) (.s (.s .z)) ?_
      obtain rfl := of_some hF
      exact at_weak_k K ⟨rfl, rfl, trivial⟩
    ·refine at_fix (g := 22) rfl h10 ?_
     refine at_guard_no rfl rfl rfl rfl rfl ?_
     refine at_guard_no rfl rfl rfl rfl rfl ?_
     refine at_guard_no rfl rfl rfl rfl rfl ?_
     refine av rfl (r_pick rfl rfl rfl) ?_
     refine nwt [(1, _), (2, _), (4, _), (5, _), (6, _), (7, _), (26, _)] ⟨rfl, rfl, rfl, rfl, rfl, rfl, rfl, trivial⟩ ?_
     refine at_cond_false rfl rfl ?_
     refine at_exit ?_
     refine at_then_exit (at_then_exit ?_)
     refine at_drop (H := _) (.s (.s .z)) ?_
     obtain rfl := of_some hF
     exact at_weak_k K ⟨rfl, rfl, trivial⟩
  ·skip
   skip
   refine at_blk_same ?_
   refine at_then_normal ?_
   refine sr ?_
   refine av rfl (r_load_aggc (c := c_api_Addr) (z := q7) Try.isAgg32 Try.sizeOf32 rfl (lens_cell .z (Lens.whole _ _))) ?_
   refine at_store (c := c_api_Addr) (z := q7) (.s .z) (Lens.whole _ _) Try.sizeOf32 rfl rfl rfl ?_
   refine at_nil ?_
   refine at_drop (H := _) .z ?_
   refine at_weak [(4, _)] ⟨rfl, trivial⟩ ?_
   refine at_then_normal ?_
   refine at_ret ?_
   have K := of_some hF
   subst K
   exact at_res1 rfl (res_cell (c := c_api_Addr) (y := q7) rfl .z (Lens.whole _ _) Try.isAgg32 Try.sizeOf32 (.inl rfl)) (fun w1 hw => ⟨rfl, hw.below⟩)
def crawlwayref11_Right (x0 : S_api_Prefix) : Option (Bool) :=
  crawlwayref10_Right x0.f_A >>= fun t2 => if (!t2) = true then (some false) else (if (decide (x0.f_Bits < 0)) = true then (some false) else (crawlwayref10_Width x0.f_A >>= fun t5 => if (decide (x0.f_Bits > t5)) = true then (some false) else (crawlwayref10_Mask x0.f_A x0.f_Bits >>= fun t7 => some (decide (x0.f_A = t7)))))
theorem crawlwayref11_Right_ok (x0 : S_api_Prefix) (r : Bool) (hF : crawlwayref11_Right x0 = some r) (w : World) :
    Calls Try.prog 57 #[.agg (Cd.cs c_api_Prefix x0).toArray] w (fun e w' => e = .returned (.bool r) ∧ Below w.heap.size w w') := by
 unfold crawlwayref11_Right at hF
 refine calls_enter (l := [.agg (Cd.cs c_api_Prefix x0).toArray]) Try.func57 rfl rfl rfl ?_
 refine at_start ?_
 refine at_weak [(0, _)] ⟨rfl, trivial⟩ ?_
 refine sr ?_
 refine at_box (cs := Cd.cs c_api_Prefix x0) rfl rfl rfl ?_
 intro b1
 refine av rfl (r_assign rfl) ?_
 refine nwt [(1, _)] ⟨rfl, trivial⟩ ?_
 refine at_seq ?_
 refine at_seq ?_
 refine at_draw (by kernel_rfl) (by kernel_rfl) (fun _ h => h.drew) ?_
 refine atq_val rfl rfl rfl (r_fieldAddr (fo := 0) Try.underlying46 rfl rfl (fun w => ⟨_, Try.sizeOf32 w⟩) rfl) ?_
 refine atq_val rfl rfl rfl (r_load_aggc (c := c_api_Addr) (z := x0.f_A) Try.isAgg32 Try.sizeOf32 rfl (lens_cell .z (Lens.comp (Lens.whole _ _) (fun z => { x0 with f_A := z }) (c_api_Prefix_f_A x0)))) ?_
 obtain ⟨t2, ht2, hF⟩ := of_bindM hF
 refine atq_call Try.func84 rfl (by kernel_rfl) rfl rfl (fun w hw => (crawlwayref10_Right_ok _ _ ht2 w).mono fun _ _ h => ⟨h.1, hw.call h.2⟩) ?_
 refine atq_val rfl rfl rfl (r_not rfl) ?_
 refine atq_val rfl rfl rfl (r_move rfl) ?_
 rcases of_ite hF with ⟨h3, hF⟩ | ⟨h3, hF⟩
 ·refine atq_fix (g := 7) rfl h3 ?_
  refine atq_guard_no rfl rfl rfl rfl rfl ?_
  refine atq_guard_no rfl rfl rfl rfl rfl ?_
  refine atq_guard_no rfl rfl rfl rfl rfl ?_
  refine atq_val rfl rfl rfl (r_pick rfl rfl rfl) ?_
  refine atq_val rfl rfl rfl (r_move rfl) ?_
  refine atq_guard_no rfl rfl rfl rfl rfl ?_
  refine atq_guard_no rfl rfl rfl rfl rfl ?_
  refine atq_guard_no rfl rfl rfl rfl rfl ?_
  refine atq_guard_no rfl rfl rfl rfl rfl ?_
  refine atq_guard_no rfl rfl rfl rfl rfl ?_
  refine atq_guard_no rfl rfl rfl rfl rfl ?_
  refine atq_val rfl rfl rfl (r_pick rfl rfl rfl) ?_
  refine atq_nil ?_
  refine at_weak [(1, _), (19, _)] ⟨rfl, rfl, trivial⟩ ?_
  refine at_then_normal ?_
  refine at_cond_true rfl rfl ?_
  refine sr ?_
  refine av rfl (r_assign rfl) ?_
  refine at_nil ?_
  refine at_drop (H := _) .z ?_
  refine at_weak [(2, _)] ⟨rfl, trivial⟩ ?_
  refine at_then_normal ?_
  refine rt ?_
  have K := of_some hF
  subst K
  exact at_return1 rfl rfl (fun w1 hw => ⟨rfl, hw.below⟩)
 ·refine atq_fix (g := 7) rfl h3 ?_
  refine atq_guard_yes rfl rfl rfl ?_
  refine atq_val rfl rfl rfl (r_fieldAddr (fo := 17) Try.underlying46 rfl rfl (fun w => ⟨_, Try.sizeOf3 w⟩) rfl) ?_
  refine atq_guard_yes rfl rfl rfl ?_
  refine atq_val rfl rfl rfl (r_load_cell Try.isAgg3 rfl (lens_cell0 (c := (cInt .i64)) (y := x0.f_Bits) .z (Lens.comp (Lens.whole _ _) (fun z => { x0 with f_Bits := z }) (c_api_Prefix_f_Bits x0)) rfl)) ?_
  refine atq_guard_yes rfl rfl rfl ?_
  refine atq_val rfl rfl rfl (r_ilss rfl rfl) ?_
  refine atq_val rfl rfl rfl (r_pick rfl rfl rfl) ?_
  refine atq_val rfl rfl rfl (r_move rfl) ?_
  rcases of_ite hF with ⟨h4, hF⟩ | ⟨h4, hF⟩
  ·refine atq_fix (g := 12) rfl h4 ?_
   refine atq_guard_no rfl rfl rfl rfl rfl ?_
   refine atq_guard_no rfl rfl rfl rfl rfl ?_
   refine atq_guard_no rfl rfl rfl rfl rfl ?_
   refine atq_guard_no rfl rfl rfl rfl rfl ?_
   refine atq_guard_no rfl rfl rfl rfl rfl ?_
   refine atq_guard_no rfl rfl rfl rfl rfl ?_
   refine atq_val rfl rfl rfl (r_pick rfl rfl rfl) ?_
   refine atq_nil ?_
   refine at_weak [(1, _), (19, _)] ⟨rfl, rfl, trivial⟩ ?_
   refine at_then_normal ?_
   refine at_cond_true rfl rfl ?_
   refine sr ?_
   refine av rfl (r_assign rfl) ?_
   refine at_nil ?_
   refine at_drop (H := _) .z ?_
   refine at_weak [(2, _)] ⟨rfl, trivial⟩ ?_
   refine at_then_normal ?_
   refine rt ?_
   have K := of_some hF
   subst K
   exact at_return1 rfl rfl (fun w1 hw => ⟨rfl, hw.below⟩)
  ·refine atq_fix (g := 12) rfl h4 ?_
   refine atq_guard_yes rfl rfl rfl ?_
   refine atq_val rfl rfl rfl (r_fieldAddr (fo := 17) Try.underlying46 rfl rfl (fun w => ⟨_, Try.sizeOf3 w⟩) rfl) ?_
   refine atq_guard_yes rfl rfl rfl ?_
   refine atq_val rfl rfl rfl (r_load_cell Try.isAgg3 rfl (lens_cell0 (c := (cInt .i64)) (y := x0.f_Bits) .z (Lens.comp (Lens.whole _ _) (fun z => { x0 with f_Bits := z }) (c_api_Prefix_f_Bits x0)) rfl)) ?_
   refine atq_guard_yes rfl rfl rfl ?_
   refine atq_val rfl rfl rfl (r_fieldAddr (fo := 0) Try.underlying46 rfl rfl (fun w => ⟨_, Try.sizeOf32 w⟩) rfl) ?_
   refine atq_guard_yes rfl rfl rfl ?_
   refine atq_val rfl rfl rfl (r_load_aggc (c := c_api_Addr) (z := x0.f_A) Try.isAgg32 Try.sizeOf32 rfl (lens_cell .z (Lens.comp (Lens.whole _ _) (fun z => { x0 with f_A := z }) (c_api_Prefix_f_A x0)))) ?_
   refine atq_guard_yes rfl rfl rfl ?_
   obtain ⟨t5, ht5, hF⟩ := of_bindM hF
   refine atq_call Try.func85 rfl (by kernel_rfl) rfl rfl (fun w hw => (crawlwayref10_Width_ok _ _ ht5 w).mono fun _ _ h => ⟨h.1, hw.call h.2⟩) ?_
   refine atq_guard_yes rfl rfl rfl ?_
   refine atq_val rfl rfl rfl (r_igtr rfl rfl) ?_
   refine atq_val rfl rfl rfl (r_pick rfl rfl rfl) ?_
   refine atq_nil ?_
   refine at_weak [(1, _), (19, _)] ⟨rfl, rfl, trivial⟩ ?_
   refine at_then_normal ?_
   rcases of_ite hF with ⟨h6, hF⟩ | ⟨h6, hF⟩
   ·refine at_cond_true rfl h6 ?_
    refine sr ?_
    refine av rfl (r_assign rfl) ?_
    refine at_nil ?_
    refine at_drop (H := _) .z ?_
    refine at_weak [(2, _)] ⟨rfl, trivial⟩ ?_
    refine at_then_normal ?_
    refine rt ?_
    have K := of_some hF
    subst K
    exact at_return1 rfl rfl (fun w1 hw => ⟨rfl, hw.below⟩)
   ·refine at_cond_false rfl h6 ?_
    refine sn ?_
    refine at_seq ?_
    refine at_draw (by kernel_rfl) (by kernel_rfl) (fun _ h => h.drew) ?_
    refine atq_val rfl rfl rfl (r_fieldAddr (fo := 0) Try.underlying46 rfl rfl (fun w => ⟨_, Try.sizeOf32 w⟩) rfl) ?_
    refine atq_val rfl rfl rfl (r_load_aggc (c := c_api_Addr) (z := x0.f_A) Try.isAgg32 Try.sizeOf32 rfl (lens_cell .z (Lens.comp (Lens.whole _ _) (fun z => { x0 with f_A := z }) (c_api_Prefix_f_A x0)))) ?_
    refine atq_val rfl rfl rfl (r_fieldAddr (fo := 0) Try.underlying46 rfl rfl (fun w => ⟨_, Try.sizeOf32 w⟩) rfl) ?_
    refine atq_val rfl rfl rfl (r_load_aggc (c := c_api_Addr) (z := x0.f_A) Try.isAgg32 Try.sizeOf32 rfl (lens_cell .z (Lens.comp (Lens.whole _ _) (fun z => { x0 with f_A := z }) (c_api_Prefix_f_A x0)))) ?_
    refine atq_val rfl rfl rfl (r_fieldAddr (fo := 17) Try.underlying46 rfl rfl (fun w => ⟨_, Try.sizeOf3 w⟩) rfl) ?_
    refine atq_val rfl rfl rfl (r_load_cell Try.isAgg3 rfl (lens_cell0 (c := (cInt .i64)) (y := x0.f_Bits) .z (Lens.comp (Lens.whole _ _) (fun z => { x0 with f_Bits := z }) (c_api_Prefix_f_Bits x0)) rfl)) ?_
    obtain ⟨t7, ht7, hF⟩ := of_bindM hF
    refine atq_call Try.func86 rfl (by kernel_rfl) rfl rfl (fun w hw => (crawlwayref10_Mask_ok _ _ _ ht7 w).mono fun _ _ h => ⟨h.1, hw.call h.2⟩) ?_
    refine atq_val rfl rfl rfl (r_eqagg (c := c_api_Addr) (a := x0.f_A) (b := t7) (eq_api_Addr_32) rfl Try.eqGuardType32 rfl rfl (.inl rfl) rfl) ?_
    refine atq_val rfl rfl rfl (r_assign rfl) ?_
    refine atq_nil ?_
    refine at_drop (H := _) .z ?_
    refine at_weak [(2, _)] ⟨rfl, trivial⟩ ?_
    refine at_then_normal ?_
    refine at_ret ?_
    have K := of_some hF
    subst K
    exact at_return1 rfl rfl (fun w1 hw => ⟨rfl, hw.below⟩)
end Go.Proofs.Ythccncpephpdjaa
namespace Go.Proofs.Ythccncpephpdjaa
open E Go.RowKit
abbrev zqG2_0 : S_api_Request := ({ f_HasPrivate := false, f_Private := (Vector.replicate 32 (0 : Int) : (Vector Int 32)), f_HasPort := false, f_Port := (0 : Int), f_HasMark := false, f_Mark := (0 : Int), f_Replace := false, f_Peers := ([] : List S_api_PeerChange) } : S_api_Request)
abbrev zqG2_1 : S_api_Endpoint := ({ f_A := ({ f_V := (0 : Int), f_B := (Vector.replicate 16 (0 : Int) : (Vector Int 16)) } : S_api_Addr), f_Port := (0 : Int) } : S_api_Endpoint)
def change_only_api_Key (x0 : Bool) (x1 : (Vector Int 32)) : Option (Bool) :=
  if x0 = true then (some true) else (some (decide (x1 = (Vector.replicate 32 (0 : Int) : (Vector Int 32)))))
theorem change_only_api_Key_ok (x0 : Bool) (x1 : (Vector Int 32)) (r : Bool) (hF : change_only_api_Key x0 x1 = some r) (w : World) :
    Calls Try.prog 48 #[.bool x0, .agg (Cd.cs (cVec (cInt .u8) 32 (by decide)) x1).toArray] w (fun e w' => e = .returned (.bool r) ∧ Below w.heap.size w w') := by
 unfold change_only_api_Key at hF
 refine calls_enter (l := [.bool x0, .agg (Cd.cs (cVec (cInt .u8) 32 (by decide)) x1).toArray]) Try.func48 rfl rfl rfl ?_
 refine at_start ?_
 refine at_weak [(0, _), (1, _)] ⟨rfl, rfl, trivial⟩ ?_
 refine sr ?_
 refine at_box (cs := Cd.cs (cVec (cInt .u8) 32 (by decide)) x1) rfl rfl rfl ?_
 intro b1
 refine av rfl (r_assign rfl) ?_
 refine nws [(0, _), (3, _)] ⟨rfl, rfl, trivial⟩ ?_
 refine at_alloc (cs := Cd.cs (cVec (cInt .u8) 32 (by decide)) (Vector.replicate 32 (0 : Int) : (Vector Int 32))) Try.zeroValue23 rfl rfl ?_
 intro b2
 refine nws [(0, _), (3, _), (5, _)] ⟨rfl, rfl, rfl, trivial⟩ ?_
 refine av rfl (r_move rfl) ?_
 refine av rfl (r_move rfl) ?_
 rcases of_ite hF with ⟨h3, hF⟩ | ⟨h3, hF⟩
 ·refine at_fix (g := 7) rfl h3 ?_
  refine at_guard_no rfl rfl rfl rfl rfl ?_
  refine at_guard_no rfl rfl rfl rfl rfl ?_
  refine at_guard_no rfl rfl rfl rfl rfl ?_
  refine av rfl (r_pick rfl rfl rfl) ?_
  refine av rfl (r_assign rfl) ?_
  refine at_nil ?_
  refine at_drop (H := _) .z ?_
  refine at_drop (H := _) .z ?_
  refine at_weak [(4, _)] ⟨rfl, trivial⟩ ?_
  refine at_then_normal ?_
  refine at_ret ?_
  have K := of_some hF
  subst K
  exact at_return1 rfl rfl (fun w1 hw => ⟨rfl, hw.below⟩)
 ·refine at_fix (g := 7) rfl h3 ?_
  refine at_guard_yes rfl rfl rfl ?_
  refine av rfl (r_load_aggc (c := (cVec (cInt .u8) 32 (by decide))) (z := x1) Try.isAgg23 Try.sizeOf23 rfl (lens_cell (.s .z) (Lens.whole _ _))) ?_
  refine at_guard_yes rfl rfl rfl ?_
  refine av rfl (r_load_aggc (c := (cVec (cInt .u8) 32 (by decide))) (z := (Vector.replicate 32 (0 : Int) : (Vector Int 32))) Try.isAgg23 Try.sizeOf23 rfl (lens_cell .z (Lens.whole _ _))) ?_
  refine at_guard_yes rfl rfl rfl ?_
  refine av rfl (r_eqagg (c := (cVec (cInt .u8) 32 (by decide))) (a := x1) (b := (Vector.replicate 32 (0 : Int) : (Vector Int 32))) (eqs_vec Try.underlying23 infoT5 Try.sizeOf5 Try.isAgg5 (.inr rfl) (eqs_int Try.underlying5)) rfl Try.eqGuardType23 rfl rfl (.inl rfl) rfl) ?_
  refine av rfl (r_pick rfl rfl rfl) ?_
  refine av rfl (r_assign rfl) ?_
  refine at_nil ?_
  refine at_drop (H := _) .z ?_
  refine at_drop (H := _) .z ?_
  refine at_weak [(4, _)] ⟨rfl, trivial⟩ ?_
  refine at_then_normal ?_
  refine at_ret ?_
  have K := of_some hF
  subst K
  exact at_return1 rfl rfl (fun w1 hw => ⟨rfl, hw.below⟩)
def change_only_api_Endpoint (x0 : Bool) (x1 : S_api_Endpoint) : Option (Bool) :=
  if x0 = true then (some true) else (some (decide (x1 = ({ f_A := ({ f_V := (0 : Int), f_B := (Vector.replicate 16 (0 : Int) : (Vector Int 16)) } : S_api_Addr), f_Port := (0 : Int) } : S_api_Endpoint))))
theorem change_only_api_Endpoint_ok (x0 : Bool) (x1 : S_api_Endpoint) (r : Bool) (hF : change_only_api_Endpoint x0 x1 = some r) (w : World) :
    Calls Try.prog 49 #[.bool x0, .agg (Cd.cs c_api_Endpoint x1).toArray] w (fun e w' => e = .returned (.bool r) ∧ Below w.heap.size w w') := by
 unfold change_only_api_Endpoint at hF
 refine calls_enter (l := [.bool x0, .agg (Cd.cs c_api_Endpoint x1).toArray]) Try.func49 rfl rfl rfl ?_
 refine at_start ?_
 refine at_weak [(0, _), (1, _)] ⟨rfl, rfl, trivial⟩ ?_
 refine sr ?_
 refine at_box (cs := Cd.cs c_api_Endpoint x1) rfl rfl rfl ?_
 intro b1
 refine av rfl (r_assign rfl) ?_
 refine nws [(0, _), (3, _)] ⟨rfl, rfl, trivial⟩ ?_
 refine at_alloc (cs := Cd.cs c_api_Endpoint zqG2_1) Try.zeroValue34 rfl rfl ?_
 intro b2
 refine nws [(0, _), (3, _), (5, _)] ⟨rfl, rfl, rfl, trivial⟩ ?_
 refine av rfl (r_move rfl) ?_
 refine av rfl (r_move rfl) ?_
 rcases of_ite hF with ⟨h3, hF⟩ | ⟨h3, hF⟩
 ·refine at_fix (g := 7) rfl h3 ?_
  refine at_guard_no rfl rfl rfl rfl rfl ?_
  refine at_guard_no rfl rfl rfl rfl rfl ?_
  refine at_guard_no rfl rfl rfl rfl rfl ?_
  refine av rfl (r_pick rfl rfl rfl) ?_
  refine av rfl (r_assign rfl) ?_
  refine at_nil ?_
  refine at_drop (H := _) .z ?_
  refine at_drop (H := _) .z ?_
  refine at_weak [(4, _)] ⟨rfl, trivial⟩ ?_
  refine at_then_normal ?_
  refine at_ret ?_
  have K := of_some hF
  subst K
  exact at_return1 rfl rfl (fun w1 hw => ⟨rfl, hw.below⟩)
 ·refine at_fix (g := 7) rfl h3 ?_
  refine at_guard_yes rfl rfl rfl ?_
  refine av rfl (r_load_aggc (c := c_api_Endpoint) (z := x1) Try.isAgg34 Try.sizeOf34 rfl (lens_cell (.s .z) (Lens.whole _ _))) ?_
  refine at_guard_yes rfl rfl rfl ?_
  refine av rfl (r_load_aggc (c := c_api_Endpoint) (z := zqG2_1) Try.isAgg34 Try.sizeOf34 rfl (lens_cell .z (Lens.whole _ _))) ?_
  refine at_guard_yes rfl rfl rfl ?_
  refine av rfl (r_eqagg (c := c_api_Endpoint) (a := x1) (b := zqG2_1) (eq_api_Endpoint_34) rfl Try.eqGuardType34 rfl rfl (.inl rfl) rfl) ?_
  refine av rfl (r_pick rfl rfl rfl) ?_
  refine av rfl (r_assign rfl) ?_
  refine at_nil ?_
  refine at_drop (H := _) .z ?_
  refine at_drop (H := _) .z ?_
  refine at_weak [(4, _)] ⟨rfl, trivial⟩ ?_
  refine at_then_normal ?_
  refine at_ret ?_
  have K := of_some hF
  subst K
  exact at_return1 rfl rfl (fun w1 hw => ⟨rfl, hw.below⟩)
def change_only_int (x0 : Bool) (x1 : Int) : Option (Bool) :=
  if x0 = true then (some true) else (some (x1 == 0))
theorem change_only_int_ok (x0 : Bool) (x1 : Int) (r : Bool) (hF : change_only_int x0 x1 = some r) (w : World) :
    Calls Try.prog 52 #[.bool x0, .int .i64 x1] w (fun e w' => e = .returned (.bool r) ∧ w' = w) := by
 unfold change_only_int at hF
 refine calls_enter (l := [.bool x0, .int .i64 x1]) Try.func52 rfl rfl rfl ?_
 refine at_weak [(0, _), (1, _)] ⟨rfl, rfl, trivial⟩ ?_
 refine sr ?_
 refine av rfl (r_assign rfl) ?_
 refine nws [(0, _), (1, _)] ⟨rfl, rfl, trivial⟩ ?_
 refine av rfl (r_assign rfl) ?_
 refine nws [(0, _), (1, _), (5, _)] ⟨rfl, rfl, rfl, trivial⟩ ?_
 refine av rfl (r_move rfl) ?_
 refine av rfl (r_move rfl) ?_
 rcases of_ite hF with ⟨h1, hF⟩ | ⟨h1, hF⟩
 ·refine at_fix (g := 7) rfl h1 ?_
  refine at_guard_no rfl rfl rfl rfl rfl ?_
  refine at_guard_no rfl rfl rfl rfl rfl ?_
  refine at_guard_no rfl rfl rfl rfl rfl ?_
  refine av rfl (r_pick rfl rfl rfl) ?_
  refine av rfl (r_assign rfl) ?_
  refine nwt [(4, _)] ⟨rfl, trivial⟩ ?_
  refine at_ret ?_
  have K := of_some hF
  subst K
  exact at_return1 rfl rfl (fun w1 hw => ⟨rfl, hw⟩)
 ·refine at_fix (g := 7) rfl h1 ?_
  refine at_guard_yes rfl rfl rfl ?_
  refine av rfl (r_move rfl) ?_
  refine at_guard_yes rfl rfl rfl ?_
  refine av rfl (r_move rfl) ?_
  refine at_guard_yes rfl rfl rfl ?_
  refine av rfl (r_ieql rfl rfl) ?_
  refine av rfl (r_pick rfl rfl rfl) ?_
  refine av rfl (r_assign rfl) ?_
  refine nwt [(4, _)] ⟨rfl, trivial⟩ ?_
  refine at_ret ?_
  have K := of_some hF
  subst K
  exact at_return1 rfl rfl (fun w1 hw => ⟨rfl, hw⟩)
def change_only_uint32 (x0 : Bool) (x1 : Int) : Option (Bool) :=
  if x0 = true then (some true) else (some (x1 == 0))
theorem change_only_uint32_ok (x0 : Bool) (x1 : Int) (r : Bool) (hF : change_only_uint32 x0 x1 = some r) (w : World) :
    Calls Try.prog 58 #[.bool x0, .int .u32 x1] w (fun e w' => e = .returned (.bool r) ∧ w' = w) := by
 unfold change_only_uint32 at hF
 refine calls_enter (l := [.bool x0, .int .u32 x1]) Try.func58 rfl rfl rfl ?_
 refine at_weak [(0, _), (1, _)] ⟨rfl, rfl, trivial⟩ ?_
 refine sr ?_
 refine av rfl (r_assign rfl) ?_
 refine nws [(0, _), (1, _)] ⟨rfl, rfl, trivial⟩ ?_
 refine av rfl (r_assign rfl) ?_
 refine nws [(0, _), (1, _), (5, _)] ⟨rfl, rfl, rfl, trivial⟩ ?_
 refine av rfl (r_move rfl) ?_
 refine av rfl (r_move rfl) ?_
 rcases of_ite hF with ⟨h1, hF⟩ | ⟨h1, hF⟩
 ·refine at_fix (g := 7) rfl h1 ?_
  refine at_guard_no rfl rfl rfl rfl rfl ?_
  refine at_guard_no rfl rfl rfl rfl rfl ?_
  refine at_guard_no rfl rfl rfl rfl rfl ?_
  refine av rfl (r_pick rfl rfl rfl) ?_
  refine av rfl (r_assign rfl) ?_
  refine nwt [(4, _)] ⟨rfl, trivial⟩ ?_
  refine at_ret ?_
  have K := of_some hF
  subst K
  exact at_return1 rfl rfl (fun w1 hw => ⟨rfl, hw⟩)
 ·refine at_fix (g := 7) rfl h1 ?_
  refine at_guard_yes rfl rfl rfl ?_
  refine av rfl (r_move rfl) ?_
  refine at_guard_yes rfl rfl rfl ?_
  refine av rfl (r_move rfl) ?_
  refine at_guard_yes rfl rfl rfl ?_
  refine av rfl (r_ieql rfl rfl) ?_
  refine av rfl (r_pick rfl rfl rfl) ?_
  refine av rfl (r_assign rfl) ?_
  refine nwt [(4, _)] ⟨rfl, trivial⟩ ?_
  refine at_ret ?_
  have K := of_some hF
  subst K
  exact at_return1 rfl rfl (fun w1 hw => ⟨rfl, hw⟩)
def change_short (x0 : Int) : Option (Bool) :=
  if (decide (x0 ≥ 0)) = true then (some (decide (x0 ≤ 65535))) else (some false)
theorem change_short_ok (x0 : Int) (r : Bool) (hF : change_short x0 = some r) (w : World) :
    Calls Try.prog 51 #[.int .i64 x0] w (fun e w' => e = .returned (.bool r) ∧ w' = w) := by
 unfold change_short at hF
 refine calls_enter (l := [.int .i64 x0]) Try.func51 rfl rfl rfl ?_
 refine at_weak [(0, _)] ⟨rfl, trivial⟩ ?_
 refine sr ?_
 refine av rfl (r_assign rfl) ?_
 refine nws [(0, _)] ⟨rfl, trivial⟩ ?_
 refine av rfl (r_move rfl) ?_
 refine av rfl (r_igeq rfl rfl) ?_
 refine av rfl (r_move rfl) ?_
 rcases of_ite hF with ⟨h1, hF⟩ | ⟨h1, hF⟩
 ·refine at_fix (g := 5) rfl h1 ?_
  refine at_guard_yes rfl rfl rfl ?_
  refine av rfl (r_move rfl) ?_
  refine at_guard_yes rfl rfl rfl ?_
  refine av rfl (r_ileq rfl rfl) ?_
  refine av rfl (r_pick rfl rfl rfl) ?_
  refine av rfl (r_assign rfl) ?_
  refine nwt [(2, _)] ⟨rfl, trivial⟩ ?_
  refine at_ret ?_
  have K := of_some hF
  subst K
  exact at_return1 rfl rfl (fun w1 hw => ⟨rfl, hw⟩)
 ·refine at_fix (g := 5) rfl h1 ?_
  refine at_guard_no rfl rfl rfl rfl rfl ?_
  refine at_guard_no rfl rfl rfl rfl rfl ?_
  refine av rfl (r_pick rfl rfl rfl) ?_
  refine av rfl (r_assign rfl) ?_
  refine nwt [(2, _)] ⟨rfl, trivial⟩ ?_
  refine at_ret ?_
  have K := of_some hF
  subst K
  exact at_return1 rfl rfl (fun w1 hw => ⟨rfl, hw⟩)
def change_RightPeer_1 (x0 : S_api_Prefix) : Option (Bool) :=
  cidr_Right x0 >>= fun t2 => some (!t2)
theorem change_RightPeer_1_ok (x0 : S_api_Prefix) (r : Bool) (hF : change_RightPeer_1 x0 = some r) (w : World) :
    Calls Try.prog 54 #[.agg (Cd.cs c_api_Prefix x0).toArray] w (fun e w' => e = .returned (.bool r) ∧ Below w.heap.size w w') := by
 unfold change_RightPeer_1 at hF
 refine calls_enter (l := [.agg (Cd.cs c_api_Prefix x0).toArray]) Try.func54 rfl rfl rfl ?_
 refine at_start ?_
 refine at_weak [(0, _)] ⟨rfl, trivial⟩ ?_
 refine sr ?_
 refine at_box (cs := Cd.cs c_api_Prefix x0) rfl rfl rfl ?_
 intro b1
 refine av rfl (r_assign rfl) ?_
 refine nws [(1, _)] ⟨rfl, trivial⟩ ?_
 refine av rfl (r_load_aggc (c := c_api_Prefix) (z := x0) Try.isAgg46 Try.sizeOf46 rfl (lens_cell .z (Lens.whole _ _))) ?_
 obtain ⟨t2, ht2, hF⟩ := of_bindM hF
 refine at_callB Try.func55 rfl (by kernel_rfl) rfl rfl (fun w hw => cidr_Right_ok _ _ ht2 w) ?_
 refine av rfl (r_not rfl) ?_
 refine av rfl (r_assign rfl) ?_
 refine at_nil ?_
 refine at_drop (H := _) .z ?_
 refine at_weak [(2, _)] ⟨rfl, trivial⟩ ?_
 refine at_then_normal ?_
 refine at_ret ?_
 have K := of_some hF
 subst K
 exact at_return1 rfl rfl (fun w1 hw => ⟨rfl, hw.below⟩)
def slices_IndexFunc_api_Prefix__change_RightPeer_1.l0 (x0 : List S_api_Prefix) (i2 : Int) : Option (Ctl (Int) (Unit)) :=
  if (decide (i2 < (x0.length : Int))) = true then (if (0 : Int) ≤ i2 ∧ i2 < (x0.length : Int) then change_RightPeer_1 (lget x0 i2) >>= fun t8 => if t8 = true then (some (.ret i2)) else (slices_IndexFunc_api_Prefix__change_RightPeer_1.l0 x0 (wr .i64 (i2 + 1))) else none) else (some (.nx ()))
  partial_fixpoint
def slices_IndexFunc_api_Prefix__change_RightPeer_1 (x0 : List S_api_Prefix) : Option (Int) :=
  slices_IndexFunc_api_Prefix__change_RightPeer_1.l0 x0 0 >>= fun q1 => match q1 with | .ret r' => some r' | .nx sq1 => (some (-1))
theorem slices_IndexFunc_api_Prefix__change_RightPeer_1_ok (x0 : List S_api_Prefix) (p0_ : Option Addr) (c0_ : Nat) (r : Int) (hF : slices_IndexFunc_api_Prefix__change_RightPeer_1 x0 = some r) (w : World) (hr0 : Row c_api_Prefix w p0_ c0_ x0) :
    Calls Try.prog 83 #[.slice p0_ x0.length c0_, .func (.func 54) #[] #[]] w (fun e w' => e = .returned (.int .i64 r) ∧ Below w.heap.size w w') := by
 unfold slices_IndexFunc_api_Prefix__change_RightPeer_1 at hF
 refine calls_enter (l := [.slice p0_ x0.length c0_, .func (.func 54) #[] #[]]) Try.func83 rfl rfl rfl ?_
 refine at_start ?_
 refine at_weak [(0, _), (1, _)] ⟨rfl, rfl, trivial⟩ ?_
 refine sr ?_
 refine av rfl (r_assign rfl) ?_
 refine nwt [(0, _), (1, _)] ⟨rfl, rfl, trivial⟩ ?_
 refine at_seq ?_
 refine sr ?_
 refine av rfl (r_move rfl) ?_
 refine av rfl (r_len_sl Try.underlying35 rfl) ?_
 refine av rfl (r_move rfl) ?_
 refine nwt [(0, _), (1, _), (7, _), (8, _)] ⟨rfl, rfl, rfl, rfl, trivial⟩ ?_
 refine at_block ?_
 obtain ⟨q1, hq1, hF⟩ := of_bindM hF
 refine at_weak [(0, _), (1, _), (7, _), (8, _)] ⟨rfl, rfl, rfl, rfl, trivial⟩ ?_
 refine at_loop_r (B := 0) (r := r) (q := q1) (A := fun (_ : Unit) Y => At 19 [] (Wd w []) Y) ?_ ?_
 ·intro K
  refine slices_IndexFunc_api_Prefix__change_RightPeer_1.l0.partial_correctness x0 (motive := fun i2 x => KR (fun (_ : Unit) Y => At 19 [] (Wd w []) Y) _ 0 r x → Round (fun Y => At 19 [(0, .slice p0_ x0.length c0_), (1, .func (.func 54) #[] #[]), (7, .int .i64 (x0.length : Int)), (8, .int .i64 i2)] (Wd w []) Y) _ _ _) ?_ _ _ hq1 K
  ·clear K hF
   intro g ih i2 x hF K
   refine at_round ?_
   refine sr ?_
   refine av rfl (r_ilss rfl rfl) ?_
   refine nwt [(0, _), (1, _), (7, _), (8, _), (9, _)] ⟨rfl, rfl, rfl, rfl, rfl, trivial⟩ ?_
   refine at_seq ?_
   rcases of_ite hF with ⟨h3, hF⟩ | ⟨h3, hF⟩
   ·refine at_cond_true rfl h3 ?_
    refine sn ?_
    refine at_seq ?_
    refine at_block ?_
    refine sr ?_
    refine av rfl (r_move rfl) ?_
    refine av rfl (r_assign rfl) ?_
    refine nws [(0, _), (1, _), (5, _), (7, _), (8, _)] ⟨rfl, rfl, rfl, rfl, rfl, trivial⟩ ?_
    refine av rfl (r_move rfl) ?_
    refine av rfl (r_move rfl) ?_
    refine av rfl (r_move rfl) ?_
    obtain ⟨h4, hF⟩ := of_guard hF
    obtain ⟨b6, o7, hp5⟩ := row_ptr hr0 h4
    refine av rfl (r_idx Try.underlying35 Try.sizeOf46 rfl rfl h4 hp5) ?_
    refine av rfl (r_load_aggc (c := c_api_Prefix) (z := lget x0 i2) Try.isAgg46 Try.sizeOf46 rfl (row_cell (fun _ h => h.below) hr0 h4 hp5)) ?_
    refine at_callee rfl ?_
    obtain ⟨t8, ht8, hF⟩ := of_bindM hF
    refine at_callB Try.func54 rfl (by kernel_rfl) rfl rfl (fun w hw => change_RightPeer_1_ok _ _ ht8 w) ?_
    refine nwt [(0, _), (1, _), (5, _), (7, _), (8, _), (16, _)] ⟨rfl, rfl, rfl, rfl, rfl, rfl, trivial⟩ ?_
    rcases of_ite hF with ⟨h9, hF⟩ | ⟨h9, hF⟩
    ·refine at_cond_true rfl h9 ?_
     refine sr ?_
     refine av rfl (r_move rfl) ?_
     refine av rfl (r_assign rfl) ?_
     refine nwt [(4, _)] ⟨rfl, trivial⟩ ?_
     refine at_ret ?_
     refine at_blk_ret (at_then_ret (at_then_ret (at_blk_ret (at_then_ret ?_))))
     obtain rfl := of_some hF
     subst K
     exact at_return1 rfl rfl (fun w1 hw => ⟨rfl, hw.below⟩)
    ·refine at_cond_false rfl h9 ?_
     refine at_skip ?_
     refine at_blk_normal (at_then_normal ?_)
     refine at_region ?_
     refine av rfl (r_iadd rfl rfl) ?_
     refine av rfl (r_move rfl) ?_
     refine nwt [(0, _), (1, _), (7, _), (8, _)] ⟨rfl, rfl, rfl, rfl, trivial⟩ ?_
     exact at_weak_k (ih _ _ hF K) ⟨rfl, rfl, rfl, rfl, trivial⟩
   ·refine at_cond_false rfl h3 ?_
    refine at_exit ?_
    refine at_then_exit (at_then_exit ?_)
    obtain rfl := of_some hF
    exact at_weak_k K trivial
 ·cases q1 with
  | ret r' => exact of_some hF
  | nx sq1 =>
   skip
   refine at_blk_same ?_
   refine at_then_normal ?_
   refine sr ?_
   refine av rfl (r_assign rfl) ?_
   refine nwt [(4, _)] ⟨rfl, trivial⟩ ?_
   refine at_ret ?_
   have K := of_some hF
   subst K
   exact at_return1 rfl rfl (fun w1 hw => ⟨rfl, hw.below⟩)
def slices_ContainsFunc_api_Prefix__change_RightPeer_1 (x0 : List S_api_Prefix) : Option (Bool) :=
  slices_IndexFunc_api_Prefix__change_RightPeer_1 x0 >>= fun t1 => some (decide (t1 ≥ 0))
theorem slices_ContainsFunc_api_Prefix__change_RightPeer_1_ok (x0 : List S_api_Prefix) (p0_ : Option Addr) (c0_ : Nat) (r : Bool) (hF : slices_ContainsFunc_api_Prefix__change_RightPeer_1 x0 = some r) (w : World) (hr0 : Row c_api_Prefix w p0_ c0_ x0) :
    Calls Try.prog 53 #[.slice p0_ x0.length c0_, .func (.func 54) #[] #[]] w (fun e w' => e = .returned (.bool r) ∧ Below w.heap.size w w') := by
 unfold slices_ContainsFunc_api_Prefix__change_RightPeer_1 at hF
 refine calls_enter (l := [.slice p0_ x0.length c0_, .func (.func 54) #[] #[]]) Try.func53 rfl rfl rfl ?_
 refine at_start ?_
 refine at_weak [(0, _), (1, _)] ⟨rfl, rfl, trivial⟩ ?_
 refine sr ?_
 refine av rfl (r_assign rfl) ?_
 refine nws [(0, _), (1, _)] ⟨rfl, rfl, trivial⟩ ?_
 refine av rfl (r_move rfl) ?_
 refine av rfl (r_move rfl) ?_
 obtain ⟨t1, ht1, hF⟩ := of_bindM hF
 refine at_callB Try.func83 rfl (by kernel_rfl) rfl rfl (fun w hw => slices_IndexFunc_api_Prefix__change_RightPeer_1_ok _ _ _ _ ht1 w (hr0.below hw.below)) ?_
 refine av rfl (r_igeq rfl rfl) ?_
 refine av rfl (r_assign rfl) ?_
 refine nwt [(4, _)] ⟨rfl, trivial⟩ ?_
 refine at_ret ?_
 have K := of_some hF
 subst K
 exact at_return1 rfl rfl (fun w1 hw => ⟨rfl, hw.below⟩)
def change_RightPeer (x0 : S_api_PeerChange) : Option (Bool) :=
  if (decide (x0.f_Key = (Vector.replicate 32 (0 : Int) : (Vector Int 32)))) = true then (some false) else (change_only_api_Key x0.f_HasPsk x0.f_Psk >>= fun t3 => if (!t3) = true then (some false) else (change_only_api_Endpoint x0.f_HasEnd x0.f_End >>= fun t5 => if (!t5) = true then (some false) else (if x0.f_HasEnd = true then (hostport_Right x0.f_End >>= fun t8 => if (!t8) = true then (some false) else (change_short x0.f_Keep >>= fun t10 => if (!t10) = true then (some false) else (change_only_int x0.f_HasKeep x0.f_Keep >>= fun t12 => if (!t12) = true then (some false) else (if (decide ((x0.f_Allowed.length : Int) ≤ 64)) = true then (slices_ContainsFunc_api_Prefix__change_RightPeer_1 x0.f_Allowed >>= fun t15 => some (!t15)) else (some false))))) else (change_short x0.f_Keep >>= fun t16 => if (!t16) = true then (some false) else (change_only_int x0.f_HasKeep x0.f_Keep >>= fun t18 => if (!t18) = true then (some false) else (if (decide ((x0.f_Allowed.length : Int) ≤ 64)) = true then (slices_ContainsFunc_api_Prefix__change_RightPeer_1 x0.f_Allowed >>= fun t21 => some (!t21)) else (some false)))))))
theorem change_RightPeer_ok (g0_ : G_api_PeerChange) (x0 : S_api_PeerChange) (r : Bool) (hF : change_RightPeer x0 = some r) (w : World) (hn0 : N_api_PeerChange w (g0_, x0)) :
    Calls Try.prog 15 #[.agg (Cd.cs c_api_PeerChange (g0_, x0)).toArray] w (fun e w' => e = .returned (.bool r) ∧ Below w.heap.size w w') := by
 unfold change_RightPeer at hF
 refine calls_enter (l := [.agg (Cd.cs c_api_PeerChange (g0_, x0)).toArray]) Try.func15 rfl rfl rfl ?_
 refine at_start ?_
 refine at_weak [(0, _)] ⟨rfl, trivial⟩ ?_
 refine sr ?_
 refine at_box (cs := Cd.cs c_api_PeerChange (g0_, x0)) rfl rfl rfl ?_
 intro b1
 refine av rfl (r_assign rfl) ?_
 refine nwt [(1, _)] ⟨rfl, trivial⟩ ?_
 refine at_seq ?_
 refine at_block ?_
 refine sr ?_
 refine av rfl (r_fieldAddr (fo := 0) Try.underlying37 rfl rfl (fun w => ⟨_, Try.sizeOf23 w⟩) rfl) ?_
 refine av rfl (r_load_aggc (c := (cVec (cInt .u8) 32 (by decide))) (z := x0.f_Key) Try.isAgg23 Try.sizeOf23 rfl (lens_cell .z (c_api_PeerChange_f_Key g0_ x0))) ?_
 refine av rfl (r_build_array (zs := Cd.cs (cVec (cInt .u8) 32 (by decide)) (Vector.replicate 32 (0 : Int) : (Vector Int 32))) (cs := Cd.cs (cVec (cInt .u8) 32 (by decide)) (Vector.replicate 32 (0 : Int) : (Vector Int 32))) Try.underlying23 Try.zeroValue23 rfl Try.sizeOf5 rfl rfl) ?_
 refine av rfl (r_eqagg (c := (cVec (cInt .u8) 32 (by decide))) (a := x0.f_Key) (b := (Vector.replicate 32 (0 : Int) : (Vector Int 32))) (eqs_vec Try.underlying23 infoT5 Try.sizeOf5 Try.isAgg5 (.inr rfl) (eqs_int Try.underlying5)) rfl Try.eqGuardType23 rfl rfl (.inl rfl) rfl) ?_
 refine av rfl (r_move rfl) ?_
 rcases of_ite hF with ⟨h2, hF⟩ | ⟨h2, hF⟩
 ·refine at_fix (g := 8) rfl h2 ?_
  refine at_guard_no rfl rfl rfl rfl rfl ?_
  refine at_guard_no rfl rfl rfl rfl rfl ?_
  refine at_guard_no rfl rfl rfl rfl rfl ?_
  refine at_guard_no rfl rfl rfl rfl rfl ?_
  refine at_guard_no rfl rfl rfl rfl rfl ?_
  refine at_guard_no rfl rfl rfl rfl rfl ?_
  refine av rfl (r_pick rfl rfl rfl) ?_
  refine av rfl (r_assign rfl) ?_
  refine nwt [(1, _), (3, _)] ⟨rfl, rfl, trivial⟩ ?_
  refine at_cond_true rfl rfl ?_
  refine sr ?_
  refine av rfl (r_assign rfl) ?_
  refine at_nil ?_
  refine at_drop (H := _) .z ?_
  refine at_weak [(2, _)] ⟨rfl, trivial⟩ ?_
  refine at_then_normal ?_
  refine at_ret ?_
  refine at_blk_ret (at_then_ret ?_)
  have K := of_some hF
  subst K
  exact at_return1 rfl rfl (fun w1 hw => ⟨rfl, hw.below⟩)
 ·refine at_fix (g := 8) rfl h2 ?_
  refine at_guard_yes rfl rfl rfl ?_
  refine av rfl (r_fieldAddr (fo := 34) Try.underlying37 rfl rfl (fun w => ⟨_, Try.sizeOf4 w⟩) rfl) ?_
  refine at_guard_yes rfl rfl rfl ?_
  refine av rfl (r_load_cell Try.isAgg4 rfl (lens_cell0 (c := cBool) (y := x0.f_HasPsk) .z (c_api_PeerChange_f_HasPsk g0_ x0) rfl)) ?_
  refine at_guard_yes rfl rfl rfl ?_
  refine av rfl (r_fieldAddr (fo := 35) Try.underlying37 rfl rfl (fun w => ⟨_, Try.sizeOf23 w⟩) rfl) ?_
  refine at_guard_yes rfl rfl rfl ?_
  refine av rfl (r_load_aggc (c := (cVec (cInt .u8) 32 (by decide))) (z := x0.f_Psk) Try.isAgg23 Try.sizeOf23 rfl (lens_cell .z (c_api_PeerChange_f_Psk g0_ x0))) ?_
  refine at_guard_yes rfl rfl rfl ?_
  obtain ⟨t3, ht3, hF⟩ := of_bindM hF
  refine at_callB Try.func48 rfl (by kernel_rfl) rfl rfl (fun w hw => change_only_api_Key_ok _ _ _ ht3 w) ?_
  refine at_guard_yes rfl rfl rfl ?_
  refine av rfl (r_not rfl) ?_
  refine av rfl (r_pick rfl rfl rfl) ?_
  refine av rfl (r_assign rfl) ?_
  refine nwt [(1, _), (3, _)] ⟨rfl, rfl, trivial⟩ ?_
  rcases of_ite hF with ⟨h4, hF⟩ | ⟨h4, hF⟩
  ·refine at_cond_true rfl h4 ?_
   refine sr ?_
   refine av rfl (r_assign rfl) ?_
   refine at_nil ?_
   refine at_drop (H := _) .z ?_
   refine at_weak [(2, _)] ⟨rfl, trivial⟩ ?_
   refine at_then_normal ?_
   refine at_ret ?_
   refine at_blk_ret (at_then_ret ?_)
   have K := of_some hF
   subst K
   exact at_return1 rfl rfl (fun w1 hw => ⟨rfl, hw.below⟩)
  ·refine at_cond_false rfl h4 ?_
   refine sr ?_
   refine av rfl (r_fieldAddr (fo := 67) Try.underlying37 rfl rfl (fun w => ⟨_, Try.sizeOf4 w⟩) rfl) ?_
   refine av rfl (r_load_cell Try.isAgg4 rfl (lens_cell0 (c := cBool) (y := x0.f_HasEnd) .z (c_api_PeerChange_f_HasEnd g0_ x0) rfl)) ?_
   refine av rfl (r_fieldAddr (fo := 68) Try.underlying37 rfl rfl (fun w => ⟨_, Try.sizeOf34 w⟩) rfl) ?_
   refine av rfl (r_load_aggc (c := c_api_Endpoint) (z := x0.f_End) Try.isAgg34 Try.sizeOf34 rfl (lens_cell .z (c_api_PeerChange_f_End g0_ x0))) ?_
   obtain ⟨t5, ht5, hF⟩ := of_bindM hF
   refine at_callB Try.func49 rfl (by kernel_rfl) rfl rfl (fun w hw => change_only_api_Endpoint_ok _ _ _ ht5 w) ?_
   refine av rfl (r_not rfl) ?_
   refine av rfl (r_move rfl) ?_
   rcases of_ite hF with ⟨h6, hF⟩ | ⟨h6, hF⟩
   ·refine at_fix (g := 23) rfl h6 ?_
    refine at_guard_no rfl rfl rfl rfl rfl ?_
    refine at_guard_no rfl rfl rfl rfl rfl ?_
    refine at_guard_no rfl rfl rfl rfl rfl ?_
    refine at_guard_undef rfl rfl rfl rfl ?_
    refine at_guard_undef rfl rfl rfl rfl ?_
    refine at_guard_undef rfl rfl rfl rfl ?_
    refine at_guard_undef rfl rfl rfl rfl ?_
    refine at_guard_no rfl rfl rfl rfl rfl ?_
    refine av rfl (r_pick rfl rfl rfl) ?_
    refine av rfl (r_assign rfl) ?_
    refine nwt [(1, _), (16, _)] ⟨rfl, rfl, trivial⟩ ?_
    refine at_cond_true rfl rfl ?_
    refine sr ?_
    refine av rfl (r_assign rfl) ?_
    refine at_nil ?_
    refine at_drop (H := _) .z ?_
    refine at_weak [(2, _)] ⟨rfl, trivial⟩ ?_
    refine at_then_normal ?_
    refine at_ret ?_
    refine at_blk_ret (at_then_ret ?_)
    have K := of_some hF
    subst K
    exact at_return1 rfl rfl (fun w1 hw => ⟨rfl, hw.below⟩)
   ·refine at_fix (g := 23) rfl h6 ?_
    refine at_guard_yes rfl rfl rfl ?_
    refine av rfl (r_fieldAddr (fo := 67) Try.underlying37 rfl rfl (fun w => ⟨_, Try.sizeOf4 w⟩) rfl) ?_
    refine at_guard_yes rfl rfl rfl ?_
    refine av rfl (r_load_cell Try.isAgg4 rfl (lens_cell0 (c := cBool) (y := x0.f_HasEnd) .z (c_api_PeerChange_f_HasEnd g0_ x0) rfl)) ?_
    refine at_guard_yes rfl rfl rfl ?_
    refine av rfl (r_move rfl) ?_
    rcases of_ite hF with ⟨h7, hF⟩ | ⟨h7, hF⟩
    ·refine at_fix (g := 26) rfl h7 ?_
     refine at_guard_yes rfl rfl rfl ?_
     refine av rfl (r_fieldAddr (fo := 68) Try.underlying37 rfl rfl (fun w => ⟨_, Try.sizeOf34 w⟩) rfl) ?_
     refine at_guard_yes rfl rfl rfl ?_
     refine av rfl (r_load_aggc (c := c_api_Endpoint) (z := x0.f_End) Try.isAgg34 Try.sizeOf34 rfl (lens_cell .z (c_api_PeerChange_f_End g0_ x0))) ?_
     refine at_guard_yes rfl rfl rfl ?_
     obtain ⟨t8, ht8, hF⟩ := of_bindM hF
     refine at_callB Try.func50 rfl (by kernel_rfl) rfl rfl (fun w hw => hostport_Right_ok _ _ ht8 w) ?_
     refine at_guard_yes rfl rfl rfl ?_
     refine av rfl (r_not rfl) ?_
     refine at_guard_yes rfl rfl rfl ?_
     refine av rfl (r_pick rfl rfl rfl) ?_
     refine av rfl (r_pick rfl rfl rfl) ?_
     refine av rfl (r_assign rfl) ?_
     refine nwt [(1, _), (16, _)] ⟨rfl, rfl, trivial⟩ ?_
     rcases of_ite hF with ⟨h9, hF⟩ | ⟨h9, hF⟩
     ·refine at_cond_true rfl h9 ?_
      refine sr ?_
      refine av rfl (r_assign rfl) ?_
      refine at_nil ?_
      refine at_drop (H := _) .z ?_
      refine at_weak [(2, _)] ⟨rfl, trivial⟩ ?_
      refine at_then_normal ?_
      refine at_ret ?_
      refine at_blk_ret (at_then_ret ?_)
      have K := of_some hF
      subst K
      exact at_return1 rfl rfl (fun w1 hw => ⟨rfl, hw.below⟩)
     ·refine at_cond_false rfl h9 ?_
      refine sr ?_
      refine av rfl (r_fieldAddr (fo := 87) Try.underlying37 rfl rfl (fun w => ⟨_, Try.sizeOf3 w⟩) rfl) ?_
      refine av rfl (r_load_cell Try.isAgg3 rfl (lens_cell0 (c := (cInt .i64)) (y := x0.f_Keep) .z (c_api_PeerChange_f_Keep g0_ x0) rfl)) ?_
      obtain ⟨t10, ht10, hF⟩ := of_bindM hF
      refine at_call0 Try.func51 rfl (by kernel_rfl) rfl rfl (fun w => change_short_ok _ _ ht10 w) ?_
      refine av rfl (r_not rfl) ?_
      refine av rfl (r_move rfl) ?_
      rcases of_ite hF with ⟨h11, hF⟩ | ⟨h11, hF⟩
      ·refine at_fix (g := 38) rfl h11 ?_
       refine at_guard_no rfl rfl rfl rfl rfl ?_
       refine at_guard_no rfl rfl rfl rfl rfl ?_
       refine at_guard_no rfl rfl rfl rfl rfl ?_
       refine at_guard_no rfl rfl rfl rfl rfl ?_
       refine at_guard_no rfl rfl rfl rfl rfl ?_
       refine at_guard_no rfl rfl rfl rfl rfl ?_
       refine av rfl (r_pick rfl rfl rfl) ?_
       refine av rfl (r_assign rfl) ?_
       refine nwt [(1, _), (33, _)] ⟨rfl, rfl, trivial⟩ ?_
       refine at_cond_true rfl rfl ?_
       refine sr ?_
       refine av rfl (r_assign rfl) ?_
       refine at_nil ?_
       refine at_drop (H := _) .z ?_
       refine at_weak [(2, _)] ⟨rfl, trivial⟩ ?_
       refine at_then_normal ?_
       refine at_ret ?_
       refine at_blk_ret (at_then_ret ?_)
       have K := of_some hF
       subst K
       exact at_return1 rfl rfl (fun w1 hw => ⟨rfl, hw.below⟩)
      ·refine at_fix (g := 38) rfl h11 ?_
       refine at_guard_yes rfl rfl rfl ?_
       refine av rfl (r_fieldAddr (fo := 86) Try.underlying37 rfl rfl (fun w => ⟨_, Try.sizeOf4 w⟩) rfl) ?_
       refine at_guard_yes rfl rfl rfl ?_
       refine av rfl (r_load_cell Try.isAgg4 rfl (lens_cell0 (c := cBool) (y := x0.f_HasKeep) .z (c_api_PeerChange_f_HasKeep g0_ x0) rfl)) ?_
       refine at_guard_yes rfl rfl rfl ?_
       refine av rfl (r_fieldAddr (fo := 87) Try.underlying37 rfl rfl (fun w => ⟨_, Try.sizeOf3 w⟩) rfl) ?_
       refine at_guard_yes rfl rfl rfl ?_
       refine av rfl (r_load_cell Try.isAgg3 rfl (lens_cell0 (c := (cInt .i64)) (y := x0.f_Keep) .z (c_api_PeerChange_f_Keep g0_ x0) rfl)) ?_
       refine at_guard_yes rfl rfl rfl ?_
       obtain ⟨t12, ht12, hF⟩ := of_bindM hF
       refine at_call0 Try.func52 rfl (by kernel_rfl) rfl rfl (fun w => change_only_int_ok _ _ _ ht12 w) ?_
       refine at_guard_yes rfl rfl rfl ?_
       refine av rfl (r_not rfl) ?_
       refine av rfl (r_pick rfl rfl rfl) ?_
       refine av rfl (r_assign rfl) ?_
       refine nwt [(1, _), (33, _)] ⟨rfl, rfl, trivial⟩ ?_
       rcases of_ite hF with ⟨h13, hF⟩ | ⟨h13, hF⟩
       ·refine at_cond_true rfl h13 ?_
        refine sr ?_
        refine av rfl (r_assign rfl) ?_
        refine at_nil ?_
        refine at_drop (H := _) .z ?_
        refine at_weak [(2, _)] ⟨rfl, trivial⟩ ?_
        refine at_then_normal ?_
        refine at_ret ?_
        refine at_blk_ret (at_then_ret ?_)
        have K := of_some hF
        subst K
        exact at_return1 rfl rfl (fun w1 hw => ⟨rfl, hw.below⟩)
       ·refine at_cond_false rfl h13 ?_
        refine at_skip ?_
        refine at_blk_normal (at_then_normal ?_)
        refine sr ?_
        refine av rfl (r_fieldAddr (fo := 89) Try.underlying37 rfl rfl (fun w => ⟨_, Try.sizeOf35 w⟩) rfl) ?_
        refine av rfl (r_load_cell Try.isAgg35 rfl (lens_cell0 (c := cHd) (y := ⟨g0_.1, List.length x0.f_Allowed, g0_.2⟩) .z (c_api_PeerChange_f_Allowed g0_ x0) rfl)) ?_
        refine av rfl (r_len_sl Try.underlying35 rfl) ?_
        refine av rfl (r_ileq rfl rfl) ?_
        refine av rfl (r_move rfl) ?_
        rcases of_ite hF with ⟨h14, hF⟩ | ⟨h14, hF⟩
        ·refine at_fix (g := 50) rfl h14 ?_
         refine at_guard_yes rfl rfl rfl ?_
         refine av rfl (r_fieldAddr (fo := 89) Try.underlying37 rfl rfl (fun w => ⟨_, Try.sizeOf35 w⟩) rfl) ?_
         refine at_guard_yes rfl rfl rfl ?_
         refine av rfl (r_load_cell Try.isAgg35 rfl (lens_cell0 (c := cHd) (y := ⟨g0_.1, List.length x0.f_Allowed, g0_.2⟩) .z (c_api_PeerChange_f_Allowed g0_ x0) rfl)) ?_
         refine at_guard_yes rfl rfl rfl ?_
         obtain ⟨t15, ht15, hF⟩ := of_bindM hF
         refine at_callB Try.func53 rfl (by kernel_rfl) rfl rfl (fun w hw => slices_ContainsFunc_api_Prefix__change_RightPeer_1_ok _ _ _ _ ht15 w (hn0.below hw.below)) ?_
         refine at_guard_yes rfl rfl rfl ?_
         refine av rfl (r_not rfl) ?_
         refine av rfl (r_pick rfl rfl rfl) ?_
         refine av rfl (r_assign rfl) ?_
         refine at_nil ?_
         refine at_drop (H := _) .z ?_
         refine at_weak [(2, _)] ⟨rfl, trivial⟩ ?_
         refine at_then_normal ?_
         refine at_ret ?_
         have K := of_some hF
         subst K
         exact at_return1 rfl rfl (fun w1 hw => ⟨rfl, hw.below⟩)
        ·refine at_fix (g := 50) rfl h14 ?_
         refine at_guard_no rfl rfl rfl rfl rfl ?_
         refine at_guard_no rfl rfl rfl rfl rfl ?_
         refine at_guard_no rfl rfl rfl rfl rfl ?_
         refine at_guard_no rfl rfl rfl rfl rfl ?_
         refine av rfl (r_pick rfl rfl rfl) ?_
         refine av rfl (r_assign rfl) ?_
         refine at_nil ?_
         refine at_drop (H := _) .z ?_
         refine at_weak [(2, _)] ⟨rfl, trivial⟩ ?_
         refine at_then_normal ?_
         refine at_ret ?_
         have K := of_some hF
         subst K
         exact at_return1 rfl rfl (fun w1 hw => ⟨rfl, hw.below⟩)
    ·refine at_fix (g := 26) rfl h7 ?_
     refine at_guard_no rfl rfl rfl rfl rfl ?_
     refine at_guard_no rfl rfl rfl rfl rfl ?_
     refine at_guard_no rfl rfl rfl rfl rfl ?_
     refine at_guard_no rfl rfl rfl rfl rfl ?_
     refine at_guard_yes rfl rfl rfl ?_
     refine av rfl (r_pick rfl rfl rfl) ?_
     refine av rfl (r_pick rfl rfl rfl) ?_
     refine av rfl (r_assign rfl) ?_
     refine nwt [(1, _), (16, _)] ⟨rfl, rfl, trivial⟩ ?_
     refine at_cond_false rfl rfl ?_
     refine sr ?_
     refine av rfl (r_fieldAddr (fo := 87) Try.underlying37 rfl rfl (fun w => ⟨_, Try.sizeOf3 w⟩) rfl) ?_
     refine av rfl (r_load_cell Try.isAgg3 rfl (lens_cell0 (c := (cInt .i64)) (y := x0.f_Keep) .z (c_api_PeerChange_f_Keep g0_ x0) rfl)) ?_
     obtain ⟨t16, ht16, hF⟩ := of_bindM hF
     refine at_call0 Try.func51 rfl (by kernel_rfl) rfl rfl (fun w => change_short_ok _ _ ht16 w) ?_
     refine av rfl (r_not rfl) ?_
     refine av rfl (r_move rfl) ?_
     rcases of_ite hF with ⟨h17, hF⟩ | ⟨h17, hF⟩
     ·refine at_fix (g := 38) rfl h17 ?_
      refine at_guard_no rfl rfl rfl rfl rfl ?_
      refine at_guard_no rfl rfl rfl rfl rfl ?_
      refine at_guard_no rfl rfl rfl rfl rfl ?_
      refine at_guard_no rfl rfl rfl rfl rfl ?_
      refine at_guard_no rfl rfl rfl rfl rfl ?_
      refine at_guard_no rfl rfl rfl rfl rfl ?_
      refine av rfl (r_pick rfl rfl rfl) ?_
      refine av rfl (r_assign rfl) ?_
      refine nwt [(1, _), (33, _)] ⟨rfl, rfl, trivial⟩ ?_
      refine at_cond_true rfl rfl ?_
      refine sr ?_
      refine av rfl (r_assign rfl) ?_
      refine at_nil ?_
      refine at_drop (H := _) .z ?_
      refine at_weak [(2, _)] ⟨rfl, trivial⟩ ?_
      refine at_then_normal ?_
      refine at_ret ?_
      refine at_blk_ret (at_then_ret ?_)
      have K := of_some hF
      subst K
      exact at_return1 rfl rfl (fun w1 hw => ⟨rfl, hw.below⟩)
     ·refine at_fix (g := 38) rfl h17 ?_
      refine at_guard_yes rfl rfl rfl ?_
      refine av rfl (r_fieldAddr (fo := 86) Try.underlying37 rfl rfl (fun w => ⟨_, Try.sizeOf4 w⟩) rfl) ?_
      refine at_guard_yes rfl rfl rfl ?_
      refine av rfl (r_load_cell Try.isAgg4 rfl (lens_cell0 (c := cBool) (y := x0.f_HasKeep) .z (c_api_PeerChange_f_HasKeep g0_ x0) rfl)) ?_
      refine at_guard_yes rfl rfl rfl ?_
      refine av rfl (r_fieldAddr (fo := 87) Try.underlying37 rfl rfl (fun w => ⟨_, Try.sizeOf3 w⟩) rfl) ?_
      refine at_guard_yes rfl rfl rfl ?_
      refine av rfl (r_load_cell Try.isAgg3 rfl (lens_cell0 (c := (cInt .i64)) (y := x0.f_Keep) .z (c_api_PeerChange_f_Keep g0_ x0) rfl)) ?_
      refine at_guard_yes rfl rfl rfl ?_
      obtain ⟨t18, ht18, hF⟩ := of_bindM hF
      refine at_call0 Try.func52 rfl (by kernel_rfl) rfl rfl (fun w => change_only_int_ok _ _ _ ht18 w) ?_
      refine at_guard_yes rfl rfl rfl ?_
      refine av rfl (r_not rfl) ?_
      refine av rfl (r_pick rfl rfl rfl) ?_
      refine av rfl (r_assign rfl) ?_
      refine nwt [(1, _), (33, _)] ⟨rfl, rfl, trivial⟩ ?_
      rcases of_ite hF with ⟨h19, hF⟩ | ⟨h19, hF⟩
      ·refine at_cond_true rfl h19 ?_
       refine sr ?_
       refine av rfl (r_assign rfl) ?_
       refine at_nil ?_
       refine at_drop (H := _) .z ?_
       refine at_weak [(2, _)] ⟨rfl, trivial⟩ ?_
       refine at_then_normal ?_
       refine at_ret ?_
       refine at_blk_ret (at_then_ret ?_)
       have K := of_some hF
       subst K
       exact at_return1 rfl rfl (fun w1 hw => ⟨rfl, hw.below⟩)
      ·refine at_cond_false rfl h19 ?_
       refine at_skip ?_
       refine at_blk_normal (at_then_normal ?_)
       refine sr ?_
       refine av rfl (r_fieldAddr (fo := 89) Try.underlying37 rfl rfl (fun w => ⟨_, Try.sizeOf35 w⟩) rfl) ?_
       refine av rfl (r_load_cell Try.isAgg35 rfl (lens_cell0 (c := cHd) (y := ⟨g0_.1, List.length x0.f_Allowed, g0_.2⟩) .z (c_api_PeerChange_f_Allowed g0_ x0) rfl)) ?_
       refine av rfl (r_len_sl Try.underlying35 rfl) ?_
       refine av rfl (r_ileq rfl rfl) ?_
       refine av rfl (r_move rfl) ?_
       rcases of_ite hF with ⟨h20, hF⟩ | ⟨h20, hF⟩
       ·refine at_fix (g := 50) rfl h20 ?_
        refine at_guard_yes rfl rfl rfl ?_
        refine av rfl (r_fieldAddr (fo := 89) Try.underlying37 rfl rfl (fun w => ⟨_, Try.sizeOf35 w⟩) rfl) ?_
        refine at_guard_yes rfl rfl rfl ?_
        refine av rfl (r_load_cell Try.isAgg35 rfl (lens_cell0 (c := cHd) (y := ⟨g0_.1, List.length x0.f_Allowed, g0_.2⟩) .z (c_api_PeerChange_f_Allowed g0_ x0) rfl)) ?_
        refine at_guard_yes rfl rfl rfl ?_
        obtain ⟨t21, ht21, hF⟩ := of_bindM hF
        refine at_callB Try.func53 rfl (by kernel_rfl) rfl rfl (fun w hw => slices_ContainsFunc_api_Prefix__change_RightPeer_1_ok _ _ _ _ ht21 w (hn0.below hw.below)) ?_
        refine at_guard_yes rfl rfl rfl ?_
        refine av rfl (r_not rfl) ?_
        refine av rfl (r_pick rfl rfl rfl) ?_
        refine av rfl (r_assign rfl) ?_
        refine at_nil ?_
        refine at_drop (H := _) .z ?_
        refine at_weak [(2, _)] ⟨rfl, trivial⟩ ?_
        refine at_then_normal ?_
        refine at_ret ?_
        have K := of_some hF
        subst K
        exact at_return1 rfl rfl (fun w1 hw => ⟨rfl, hw.below⟩)
       ·refine at_fix (g := 50) rfl h20 ?_
        refine at_guard_no rfl rfl rfl rfl rfl ?_
        refine at_guard_no rfl rfl rfl rfl rfl ?_
        refine at_guard_no rfl rfl rfl rfl rfl ?_
        refine at_guard_no rfl rfl rfl rfl rfl ?_
        refine av rfl (r_pick rfl rfl rfl) ?_
        refine av rfl (r_assign rfl) ?_
        refine at_nil ?_
        refine at_drop (H := _) .z ?_
        refine at_weak [(2, _)] ⟨rfl, trivial⟩ ?_
        refine at_then_normal ?_
        refine at_ret ?_
        have K := of_some hF
        subst K
        exact at_return1 rfl rfl (fun w1 hw => ⟨rfl, hw.below⟩)
def change_Right_1 (x0 : S_api_PeerChange) : Option (Bool) :=
  change_RightPeer x0 >>= fun t2 => some (!t2)
theorem change_Right_1_ok (g0_ : G_api_PeerChange) (x0 : S_api_PeerChange) (r : Bool) (hF : change_Right_1 x0 = some r) (w : World) (hn0 : N_api_PeerChange w (g0_, x0)) :
    Calls Try.prog 60 #[.agg (Cd.cs c_api_PeerChange (g0_, x0)).toArray] w (fun e w' => e = .returned (.bool r) ∧ Below w.heap.size w w') := by
 unfold change_Right_1 at hF
 refine calls_enter (l := [.agg (Cd.cs c_api_PeerChange (g0_, x0)).toArray]) Try.func60 rfl rfl rfl ?_
 refine at_start ?_
 refine at_weak [(0, _)] ⟨rfl, trivial⟩ ?_
 refine sr ?_
 refine at_box (cs := Cd.cs c_api_PeerChange (g0_, x0)) rfl rfl rfl ?_
 intro b1
 refine av rfl (r_assign rfl) ?_
 refine nws [(1, _)] ⟨rfl, trivial⟩ ?_
 refine av rfl (r_load_aggc (c := c_api_PeerChange) (z := (g0_, x0)) Try.isAgg37 Try.sizeOf37 rfl (lens_cell .z (Lens.whole _ _))) ?_
 obtain ⟨t2, ht2, hF⟩ := of_bindM hF
 refine at_callB Try.func15 rfl (by kernel_rfl) rfl rfl (fun w hw => change_RightPeer_ok _ _ _ ht2 w (N_api_PeerChange.below hn0 hw.below)) ?_
 refine av rfl (r_not rfl) ?_
 refine av rfl (r_assign rfl) ?_
 refine at_nil ?_
 refine at_drop (H := _) .z ?_
 refine at_weak [(2, _)] ⟨rfl, trivial⟩ ?_
 refine at_then_normal ?_
 refine at_ret ?_
 have K := of_some hF
 subst K
 exact at_return1 rfl rfl (fun w1 hw => ⟨rfl, hw.below⟩)
def slices_IndexFunc_api_PeerChange__change_Right_1.l0 (x0 : List S_api_PeerChange) (i2 : Int) : Option (Ctl (Int) (Unit)) :=
  if (decide (i2 < (x0.length : Int))) = true then (if (0 : Int) ≤ i2 ∧ i2 < (x0.length : Int) then change_Right_1 (lget x0 i2) >>= fun t14 => if t14 = true then (some (.ret i2)) else (slices_IndexFunc_api_PeerChange__change_Right_1.l0 x0 (wr .i64 (i2 + 1))) else none) else (some (.nx ()))
  partial_fixpoint
def slices_IndexFunc_api_PeerChange__change_Right_1 (x0 : List S_api_PeerChange) : Option (Int) :=
  slices_IndexFunc_api_PeerChange__change_Right_1.l0 x0 0 >>= fun q1 => match q1 with | .ret r' => some r' | .nx sq1 => (some (-1))
theorem slices_IndexFunc_api_PeerChange__change_Right_1_ok (x0 : List S_api_PeerChange) (p0_ : Option Addr) (c0_ : Nat) (r : Int) (hF : slices_IndexFunc_api_PeerChange__change_Right_1 x0 = some r) (w : World) (hr0 : NR_api_PeerChange w p0_ c0_ x0) :
    Calls Try.prog 87 #[.slice p0_ x0.length c0_, .func (.func 60) #[] #[]] w (fun e w' => e = .returned (.int .i64 r) ∧ Below w.heap.size w w') := by
 unfold slices_IndexFunc_api_PeerChange__change_Right_1 at hF
 refine calls_enter (l := [.slice p0_ x0.length c0_, .func (.func 60) #[] #[]]) Try.func87 rfl rfl rfl ?_
 refine at_start ?_
 refine at_weak [(0, _), (1, _)] ⟨rfl, rfl, trivial⟩ ?_
 refine sr ?_
 refine av rfl (r_assign rfl) ?_
 refine nwt [(0, _), (1, _)] ⟨rfl, rfl, trivial⟩ ?_
 refine at_seq ?_
 refine sr ?_
 refine av rfl (r_move rfl) ?_
 refine av rfl (r_len_sl Try.underlying25 rfl) ?_
 refine av rfl (r_move rfl) ?_
 refine nwt [(0, _), (1, _), (7, _), (8, _)] ⟨rfl, rfl, rfl, rfl, trivial⟩ ?_
 refine at_block ?_
 obtain ⟨q1, hq1, hF⟩ := of_bindM hF
 refine at_weak [(0, _), (1, _), (7, _), (8, _)] ⟨rfl, rfl, rfl, rfl, trivial⟩ ?_
 refine at_loop_r (B := 0) (r := r) (q := q1) (A := fun (_ : Unit) Y => At 19 [] (Wd w []) Y) ?_ ?_
 ·intro K
  refine slices_IndexFunc_api_PeerChange__change_Right_1.l0.partial_correctness x0 (motive := fun i2 x => KR (fun (_ : Unit) Y => At 19 [] (Wd w []) Y) _ 0 r x → Round (fun Y => At 19 [(0, .slice p0_ x0.length c0_), (1, .func (.func 60) #[] #[]), (7, .int .i64 (x0.length : Int)), (8, .int .i64 i2)] (Wd w []) Y) _ _ _) ?_ _ _ hq1 K
  ·clear K hF
   intro g ih i2 x hF K
   refine at_round ?_
   refine sr ?_
   refine av rfl (r_ilss rfl rfl) ?_
   refine nwt [(0, _), (1, _), (7, _), (8, _), (9, _)] ⟨rfl, rfl, rfl, rfl, rfl, trivial⟩ ?_
   refine at_seq ?_
   rcases of_ite hF with ⟨h3, hF⟩ | ⟨h3, hF⟩
   ·refine at_cond_true rfl h3 ?_
    refine sn ?_
    refine at_seq ?_
    refine at_block ?_
    refine sr ?_
    refine av rfl (r_move rfl) ?_
    refine av rfl (r_assign rfl) ?_
    refine nws [(0, _), (1, _), (5, _), (7, _), (8, _)] ⟨rfl, rfl, rfl, rfl, rfl, trivial⟩ ?_
    refine av rfl (r_move rfl) ?_
    refine av rfl (r_move rfl) ?_
    refine av rfl (r_move rfl) ?_
    obtain ⟨h4, hF⟩ := of_guard hF
    obtain ⟨zs8, hz9, hr10, hn11⟩ := hr0
    obtain ⟨b6, o7, hp5⟩ := row_ptr hr10 (zidx hz9 h4)
    obtain ⟨g12, hg13⟩ := zget hz9 i2
    refine av rfl (r_idx Try.underlying25 Try.sizeOf37 rfl rfl h4 hp5) ?_
    refine av rfl (r_load_aggc (c := c_api_PeerChange) (z := (g12, lget x0 i2)) Try.isAgg37 Try.sizeOf37 rfl (ncell (fun _ h => h.below) hr10 (zidx hz9 h4) hp5 hg13)) ?_
    refine at_callee rfl ?_
    obtain ⟨t14, ht14, hF⟩ := of_bindM hF
    refine at_callB Try.func60 rfl (by kernel_rfl) rfl rfl (fun w hw => change_Right_1_ok _ _ _ ht14 w (N_api_PeerChange.below (nz hg13 hn11 (zidx hz9 h4)) hw.below)) ?_
    refine nwt [(0, _), (1, _), (5, _), (7, _), (8, _), (16, _)] ⟨rfl, rfl, rfl, rfl, rfl, rfl, trivial⟩ ?_
    rcases of_ite hF with ⟨h15, hF⟩ | ⟨h15, hF⟩
    ·refine at_cond_true rfl h15 ?_
     refine sr ?_
     refine av rfl (r_move rfl) ?_
     refine av rfl (r_assign rfl) ?_
     refine nwt [(4, _)] ⟨rfl, trivial⟩ ?_
     refine at_ret ?_
     refine at_blk_ret (at_then_ret (at_then_ret (at_blk_ret (at_then_ret ?_))))
     obtain rfl := of_some hF
     subst K
     exact at_return1 rfl rfl (fun w1 hw => ⟨rfl, hw.below⟩)
    ·refine at_cond_false rfl h15 ?_
     refine at_skip ?_
     refine at_blk_normal (at_then_normal ?_)
     refine at_region ?_
     refine av rfl (r_iadd rfl rfl) ?_
     refine av rfl (r_move rfl) ?_
     refine nwt [(0, _), (1, _), (7, _), (8, _)] ⟨rfl, rfl, rfl, rfl, trivial⟩ ?_
     exact at_weak_k (ih _ _ hF K) ⟨rfl, rfl, rfl, rfl, trivial⟩
   ·refine at_cond_false rfl h3 ?_
    refine at_exit ?_
    refine at_then_exit (at_then_exit ?_)
    obtain rfl := of_some hF
    exact at_weak_k K trivial
 ·cases q1 with
  | ret r' => exact of_some hF
  | nx sq1 =>
   skip
   refine at_blk_same ?_
   refine at_then_normal ?_
   refine sr ?_
   refine av rfl (r_assign rfl) ?_
   refine nwt [(4, _)] ⟨rfl, trivial⟩ ?_
   refine at_ret ?_
   have K := of_some hF
   subst K
   exact at_return1 rfl rfl (fun w1 hw => ⟨rfl, hw.below⟩)
def slices_ContainsFunc_api_PeerChange__change_Right_1 (x0 : List S_api_PeerChange) : Option (Bool) :=
  slices_IndexFunc_api_PeerChange__change_Right_1 x0 >>= fun t1 => some (decide (t1 ≥ 0))
theorem slices_ContainsFunc_api_PeerChange__change_Right_1_ok (x0 : List S_api_PeerChange) (p0_ : Option Addr) (c0_ : Nat) (r : Bool) (hF : slices_ContainsFunc_api_PeerChange__change_Right_1 x0 = some r) (w : World) (hr0 : NR_api_PeerChange w p0_ c0_ x0) :
    Calls Try.prog 59 #[.slice p0_ x0.length c0_, .func (.func 60) #[] #[]] w (fun e w' => e = .returned (.bool r) ∧ Below w.heap.size w w') := by
 unfold slices_ContainsFunc_api_PeerChange__change_Right_1 at hF
 refine calls_enter (l := [.slice p0_ x0.length c0_, .func (.func 60) #[] #[]]) Try.func59 rfl rfl rfl ?_
 refine at_start ?_
 refine at_weak [(0, _), (1, _)] ⟨rfl, rfl, trivial⟩ ?_
 refine sr ?_
 refine av rfl (r_assign rfl) ?_
 refine nws [(0, _), (1, _)] ⟨rfl, rfl, trivial⟩ ?_
 refine av rfl (r_move rfl) ?_
 refine av rfl (r_move rfl) ?_
 obtain ⟨t1, ht1, hF⟩ := of_bindM hF
 refine at_callB Try.func87 rfl (by kernel_rfl) rfl rfl (fun w hw => slices_IndexFunc_api_PeerChange__change_Right_1_ok _ _ _ _ ht1 w (NR_api_PeerChange.below hr0 hw.below)) ?_
 refine av rfl (r_igeq rfl rfl) ?_
 refine av rfl (r_assign rfl) ?_
 refine nwt [(4, _)] ⟨rfl, trivial⟩ ?_
 refine at_ret ?_
 have K := of_some hF
 subst K
 exact at_return1 rfl rfl (fun w1 hw => ⟨rfl, hw.below⟩)
def change_Right (x0 : S_api_Request) : Option (Bool) :=
  change_only_api_Key x0.f_HasPrivate x0.f_Private >>= fun t2 => if (!t2) = true then (some false) else (change_only_int x0.f_HasPort x0.f_Port >>= fun t4 => if (!t4) = true then (some false) else (change_only_uint32 x0.f_HasMark x0.f_Mark >>= fun t6 => if (!t6) = true then (some false) else (change_short x0.f_Port >>= fun t8 => if (!t8) = true then (some false) else (if (decide ((x0.f_Peers.length : Int) > 64)) = true then (some false) else (slices_ContainsFunc_api_PeerChange__change_Right_1 x0.f_Peers >>= fun t11 => some (!t11))))))
theorem change_Right_ok (g0_ : G_api_Request) (x0 : S_api_Request) (r : Bool) (hF : change_Right x0 = some r) (w : World) (hn0 : N_api_Request w (g0_, x0)) :
    Calls Try.prog 17 #[.agg (Cd.cs c_api_Request (g0_, x0)).toArray] w (fun e w' => e = .returned (.bool r) ∧ Below w.heap.size w w') := by
 unfold change_Right at hF
 refine calls_enter (l := [.agg (Cd.cs c_api_Request (g0_, x0)).toArray]) Try.func17 rfl rfl rfl ?_
 refine at_start ?_
 refine at_weak [(0, _)] ⟨rfl, trivial⟩ ?_
 refine sr ?_
 refine at_box (cs := Cd.cs c_api_Request (g0_, x0)) rfl rfl rfl ?_
 intro b1
 refine av rfl (r_assign rfl) ?_
 refine nwt [(1, _)] ⟨rfl, trivial⟩ ?_
 refine at_seq ?_
 refine at_block ?_
 refine sr ?_
 refine av rfl (r_fieldAddr (fo := 0) Try.underlying27 rfl rfl (fun w => ⟨_, Try.sizeOf4 w⟩) rfl) ?_
 refine av rfl (r_load_cell Try.isAgg4 rfl (lens_cell0 (c := cBool) (y := x0.f_HasPrivate) .z (c_api_Request_f_HasPrivate g0_ x0) rfl)) ?_
 refine av rfl (r_fieldAddr (fo := 1) Try.underlying27 rfl rfl (fun w => ⟨_, Try.sizeOf23 w⟩) rfl) ?_
 refine av rfl (r_load_aggc (c := (cVec (cInt .u8) 32 (by decide))) (z := x0.f_Private) Try.isAgg23 Try.sizeOf23 rfl (lens_cell .z (c_api_Request_f_Private g0_ x0))) ?_
 obtain ⟨t2, ht2, hF⟩ := of_bindM hF
 refine at_callB Try.func48 rfl (by kernel_rfl) rfl rfl (fun w hw => change_only_api_Key_ok _ _ _ ht2 w) ?_
 refine av rfl (r_not rfl) ?_
 refine av rfl (r_move rfl) ?_
 rcases of_ite hF with ⟨h3, hF⟩ | ⟨h3, hF⟩
 ·refine at_fix (g := 10) rfl h3 ?_
  refine at_guard_no rfl rfl rfl rfl rfl ?_
  refine at_guard_no rfl rfl rfl rfl rfl ?_
  refine at_guard_no rfl rfl rfl rfl rfl ?_
  refine at_guard_no rfl rfl rfl rfl rfl ?_
  refine at_guard_no rfl rfl rfl rfl rfl ?_
  refine at_guard_no rfl rfl rfl rfl rfl ?_
  refine av rfl (r_pick rfl rfl rfl) ?_
  refine av rfl (r_move rfl) ?_
  refine at_guard_no rfl rfl rfl rfl rfl ?_
  refine at_guard_no rfl rfl rfl rfl rfl ?_
  refine at_guard_no rfl rfl rfl rfl rfl ?_
  refine at_guard_no rfl rfl rfl rfl rfl ?_
  refine at_guard_no rfl rfl rfl rfl rfl ?_
  refine at_guard_no rfl rfl rfl rfl rfl ?_
  refine av rfl (r_pick rfl rfl rfl) ?_
  refine av rfl (r_assign rfl) ?_
  refine nwt [(1, _), (3, _)] ⟨rfl, rfl, trivial⟩ ?_
  refine at_cond_true rfl rfl ?_
  refine sr ?_
  refine av rfl (r_assign rfl) ?_
  refine at_nil ?_
  refine at_drop (H := _) .z ?_
  refine at_weak [(2, _)] ⟨rfl, trivial⟩ ?_
  refine at_then_normal ?_
  refine at_ret ?_
  refine at_blk_ret (at_then_ret ?_)
  have K := of_some hF
  subst K
  exact at_return1 rfl rfl (fun w1 hw => ⟨rfl, hw.below⟩)
 ·refine at_fix (g := 10) rfl h3 ?_
  refine at_guard_yes rfl rfl rfl ?_
  refine av rfl (r_fieldAddr (fo := 33) Try.underlying27 rfl rfl (fun w => ⟨_, Try.sizeOf4 w⟩) rfl) ?_
  refine at_guard_yes rfl rfl rfl ?_
  refine av rfl (r_load_cell Try.isAgg4 rfl (lens_cell0 (c := cBool) (y := x0.f_HasPort) .z (c_api_Request_f_HasPort g0_ x0) rfl)) ?_
  refine at_guard_yes rfl rfl rfl ?_
  refine av rfl (r_fieldAddr (fo := 34) Try.underlying27 rfl rfl (fun w => ⟨_, Try.sizeOf3 w⟩) rfl) ?_
  refine at_guard_yes rfl rfl rfl ?_
  refine av rfl (r_load_cell Try.isAgg3 rfl (lens_cell0 (c := (cInt .i64)) (y := x0.f_Port) .z (c_api_Request_f_Port g0_ x0) rfl)) ?_
  refine at_guard_yes rfl rfl rfl ?_
  obtain ⟨t4, ht4, hF⟩ := of_bindM hF
  refine at_call0 Try.func52 rfl (by kernel_rfl) rfl rfl (fun w => change_only_int_ok _ _ _ ht4 w) ?_
  refine at_guard_yes rfl rfl rfl ?_
  refine av rfl (r_not rfl) ?_
  refine av rfl (r_pick rfl rfl rfl) ?_
  refine av rfl (r_move rfl) ?_
  rcases of_ite hF with ⟨h5, hF⟩ | ⟨h5, hF⟩
  ·refine at_fix (g := 18) rfl h5 ?_
   refine at_guard_no rfl rfl rfl rfl rfl ?_
   refine at_guard_no rfl rfl rfl rfl rfl ?_
   refine at_guard_no rfl rfl rfl rfl rfl ?_
   refine at_guard_no rfl rfl rfl rfl rfl ?_
   refine at_guard_no rfl rfl rfl rfl rfl ?_
   refine at_guard_no rfl rfl rfl rfl rfl ?_
   refine av rfl (r_pick rfl rfl rfl) ?_
   refine av rfl (r_assign rfl) ?_
   refine nwt [(1, _), (3, _)] ⟨rfl, rfl, trivial⟩ ?_
   refine at_cond_true rfl rfl ?_
   refine sr ?_
   refine av rfl (r_assign rfl) ?_
   refine at_nil ?_
   refine at_drop (H := _) .z ?_
   refine at_weak [(2, _)] ⟨rfl, trivial⟩ ?_
   refine at_then_normal ?_
   refine at_ret ?_
   refine at_blk_ret (at_then_ret ?_)
   have K := of_some hF
   subst K
   exact at_return1 rfl rfl (fun w1 hw => ⟨rfl, hw.below⟩)
  ·refine at_fix (g := 18) rfl h5 ?_
   refine at_guard_yes rfl rfl rfl ?_
   refine av rfl (r_fieldAddr (fo := 35) Try.underlying27 rfl rfl (fun w => ⟨_, Try.sizeOf4 w⟩) rfl) ?_
   refine at_guard_yes rfl rfl rfl ?_
   refine av rfl (r_load_cell Try.isAgg4 rfl (lens_cell0 (c := cBool) (y := x0.f_HasMark) .z (c_api_Request_f_HasMark g0_ x0) rfl)) ?_
   refine at_guard_yes rfl rfl rfl ?_
   refine av rfl (r_fieldAddr (fo := 36) Try.underlying27 rfl rfl (fun w => ⟨_, Try.sizeOf24 w⟩) rfl) ?_
   refine at_guard_yes rfl rfl rfl ?_
   refine av rfl (r_load_cell Try.isAgg24 rfl (lens_cell0 (c := (cInt .u32)) (y := x0.f_Mark) .z (c_api_Request_f_Mark g0_ x0) rfl)) ?_
   refine at_guard_yes rfl rfl rfl ?_
   obtain ⟨t6, ht6, hF⟩ := of_bindM hF
   refine at_call0 Try.func58 rfl (by kernel_rfl) rfl rfl (fun w => change_only_uint32_ok _ _ _ ht6 w) ?_
   refine at_guard_yes rfl rfl rfl ?_
   refine av rfl (r_not rfl) ?_
   refine av rfl (r_pick rfl rfl rfl) ?_
   refine av rfl (r_assign rfl) ?_
   refine nwt [(1, _), (3, _)] ⟨rfl, rfl, trivial⟩ ?_
   rcases of_ite hF with ⟨h7, hF⟩ | ⟨h7, hF⟩
   ·refine at_cond_true rfl h7 ?_
    refine sr ?_
    refine av rfl (r_assign rfl) ?_
    refine at_nil ?_
    refine at_drop (H := _) .z ?_
    refine at_weak [(2, _)] ⟨rfl, trivial⟩ ?_
    refine at_then_normal ?_
    refine at_ret ?_
    refine at_blk_ret (at_then_ret ?_)
    have K := of_some hF
    subst K
    exact at_return1 rfl rfl (fun w1 hw => ⟨rfl, hw.below⟩)
   ·refine at_cond_false rfl h7 ?_
    refine sr ?_
    refine av rfl (r_fieldAddr (fo := 34) Try.underlying27 rfl rfl (fun w => ⟨_, Try.sizeOf3 w⟩) rfl) ?_
    refine av rfl (r_load_cell Try.isAgg3 rfl (lens_cell0 (c := (cInt .i64)) (y := x0.f_Port) .z (c_api_Request_f_Port g0_ x0) rfl)) ?_
    obtain ⟨t8, ht8, hF⟩ := of_bindM hF
    refine at_call0 Try.func51 rfl (by kernel_rfl) rfl rfl (fun w => change_short_ok _ _ ht8 w) ?_
    refine av rfl (r_not rfl) ?_
    refine av rfl (r_move rfl) ?_
    rcases of_ite hF with ⟨h9, hF⟩ | ⟨h9, hF⟩
    ·refine at_fix (g := 31) rfl h9 ?_
     refine at_guard_no rfl rfl rfl rfl rfl ?_
     refine at_guard_no rfl rfl rfl rfl rfl ?_
     refine at_guard_no rfl rfl rfl rfl rfl ?_
     refine at_guard_no rfl rfl rfl rfl rfl ?_
     refine av rfl (r_pick rfl rfl rfl) ?_
     refine av rfl (r_assign rfl) ?_
     refine nwt [(1, _), (26, _)] ⟨rfl, rfl, trivial⟩ ?_
     refine at_cond_true rfl rfl ?_
     refine sr ?_
     refine av rfl (r_assign rfl) ?_
     refine at_nil ?_
     refine at_drop (H := _) .z ?_
     refine at_weak [(2, _)] ⟨rfl, trivial⟩ ?_
     refine at_then_normal ?_
     refine at_ret ?_
     refine at_blk_ret (at_then_ret ?_)
     have K := of_some hF
     subst K
     exact at_return1 rfl rfl (fun w1 hw => ⟨rfl, hw.below⟩)
    ·refine at_fix (g := 31) rfl h9 ?_
     refine at_guard_yes rfl rfl rfl ?_
     refine av rfl (r_fieldAddr (fo := 38) Try.underlying27 rfl rfl (fun w => ⟨_, Try.sizeOf25 w⟩) rfl) ?_
     refine at_guard_yes rfl rfl rfl ?_
     refine av rfl (r_load_cell Try.isAgg25 rfl (lens_cell0 (c := cHd) (y := ⟨g0_.1, List.length x0.f_Peers, g0_.2⟩) .z (c_api_Request_f_Peers g0_ x0) rfl)) ?_
     refine at_guard_yes rfl rfl rfl ?_
     refine av rfl (r_len_sl Try.underlying25 rfl) ?_
     refine at_guard_yes rfl rfl rfl ?_
     refine av rfl (r_igtr rfl rfl) ?_
     refine av rfl (r_pick rfl rfl rfl) ?_
     refine av rfl (r_assign rfl) ?_
     refine nwt [(1, _), (26, _)] ⟨rfl, rfl, trivial⟩ ?_
     rcases of_ite hF with ⟨h10, hF⟩ | ⟨h10, hF⟩
     ·refine at_cond_true rfl h10 ?_
      refine sr ?_
      refine av rfl (r_assign rfl) ?_
      refine at_nil ?_
      refine at_drop (H := _) .z ?_
      refine at_weak [(2, _)] ⟨rfl, trivial⟩ ?_
      refine at_then_normal ?_
      refine at_ret ?_
      refine at_blk_ret (at_then_ret ?_)
      have K := of_some hF
      subst K
      exact at_return1 rfl rfl (fun w1 hw => ⟨rfl, hw.below⟩)
     ·refine at_cond_false rfl h10 ?_
      refine at_skip ?_
      refine at_blk_normal (at_then_normal ?_)
      refine sr ?_
      refine av rfl (r_fieldAddr (fo := 38) Try.underlying27 rfl rfl (fun w => ⟨_, Try.sizeOf25 w⟩) rfl) ?_
      refine av rfl (r_load_cell Try.isAgg25 rfl (lens_cell0 (c := cHd) (y := ⟨g0_.1, List.length x0.f_Peers, g0_.2⟩) .z (c_api_Request_f_Peers g0_ x0) rfl)) ?_
      obtain ⟨t11, ht11, hF⟩ := of_bindM hF
      refine at_callB Try.func59 rfl (by kernel_rfl) rfl rfl (fun w hw => slices_ContainsFunc_api_PeerChange__change_Right_1_ok _ _ _ _ ht11 w (NR_api_PeerChange.below hn0 hw.below)) ?_
      refine av rfl (r_not rfl) ?_
      refine av rfl (r_assign rfl) ?_
      refine at_nil ?_
      refine at_drop (H := _) .z ?_
      refine at_weak [(2, _)] ⟨rfl, trivial⟩ ?_
      refine at_then_normal ?_
      refine at_ret ?_
      have K := of_some hF
      subst K
      exact at_return1 rfl rfl (fun w1 hw => ⟨rfl, hw.below⟩)
def crawlwaylaw32_alive : Option (Bool) :=
  change_Right ({ f_HasPrivate := false, f_Private := (Vector.replicate 32 (0 : Int) : (Vector Int 32)), f_HasPort := false, f_Port := (0 : Int), f_HasMark := false, f_Mark := (0 : Int), f_Replace := false, f_Peers := ([] : List S_api_PeerChange) } : S_api_Request) >>= fun t1 => if t1 = true then (change_Right ({ ({ f_HasPrivate := false, f_Private := (Vector.replicate 32 (0 : Int) : (Vector Int 32)), f_HasPort := false, f_Port := (0 : Int), f_HasMark := false, f_Mark := (0 : Int), f_Replace := false, f_Peers := ([] : List S_api_PeerChange) } : S_api_Request) with f_Peers := ([({ f_Key := (Vector.replicate 32 (0 : Int) : (Vector Int 32)), f_Remove := false, f_Update := false, f_HasPsk := false, f_Psk := (Vector.replicate 32 (0 : Int) : (Vector Int 32)), f_HasEnd := false, f_End := ({ f_A := ({ f_V := (0 : Int), f_B := (Vector.replicate 16 (0 : Int) : (Vector Int 16)) } : S_api_Addr), f_Port := (0 : Int) } : S_api_Endpoint), f_HasKeep := false, f_Keep := (0 : Int), f_Replace := false, f_Allowed := ([] : List S_api_Prefix) } : S_api_PeerChange)] : List S_api_PeerChange) }) >>= fun t4 => if (!t4) = true then (change_RightPeer ({ ({ f_Key := (Vector.replicate 32 (0 : Int) : (Vector Int 32)), f_Remove := false, f_Update := false, f_HasPsk := false, f_Psk := (Vector.replicate 32 (0 : Int) : (Vector Int 32)), f_HasEnd := false, f_End := ({ f_A := ({ f_V := (0 : Int), f_B := (Vector.replicate 16 (0 : Int) : (Vector Int 16)) } : S_api_Addr), f_Port := (0 : Int) } : S_api_Endpoint), f_HasKeep := false, f_Keep := (0 : Int), f_Replace := false, f_Allowed := ([] : List S_api_Prefix) } : S_api_PeerChange) with f_Key := vset (Vector.replicate 32 (0 : Int) : (Vector Int 32)) 0 1 }) >>= fun t6 => some t6) else (some false)) else (some false)
theorem crawlwaylaw32_alive_ok (r : Bool) (hF : crawlwaylaw32_alive  = some r) (w : World) :
    Calls Try.prog 14 #[] w (fun e w' => e = .returned (.bool r) ∧ Below w.heap.size w w') := by
 unfold crawlwaylaw32_alive at hF
 refine calls_enter (l := []) Try.func14 rfl rfl rfl ?_
 refine at_start ?_
 refine at_weak [] trivial ?_
 refine sr ?_
 refine av rfl (r_assign rfl) ?_
 refine nws [] trivial ?_
 refine av rfl (r_build_struct (zs := Cd.cs c_api_Request (((none : Option Addr), (0 : Nat)), zqG2_0)) (cs := Cd.cs c_api_Request (((none : Option Addr), (0 : Nat)), zqG2_0)) Try.underlying27 Try.zeroValue27 rfl (places_api_Request_27) rfl rfl) ?_
 obtain ⟨t1, ht1, hF⟩ := of_bindM hF
 refine at_callB Try.func17 rfl (by kernel_rfl) rfl rfl (fun w hw => change_Right_ok _ _ _ ht1 w (NRow.nil ..)) ?_
 refine av rfl (r_move rfl) ?_
 rcases of_ite hF with ⟨h2, hF⟩ | ⟨h2, hF⟩
 ·refine at_fix (g := 3) rfl h2 ?_
  refine at_guard_yes rfl rfl rfl ?_
  refine av rfl (r_build_struct (zs := Cd.cs c_api_PeerChange (((none : Option Addr), (0 : Nat)), ({ f_Key := (Vector.replicate 32 (0 : Int) : (Vector Int 32)), f_Remove := false, f_Update := false, f_HasPsk := false, f_Psk := (Vector.replicate 32 (0 : Int) : (Vector Int 32)), f_HasEnd := false, f_End := zqG2_1, f_HasKeep := false, f_Keep := (0 : Int), f_Replace := false, f_Allowed := ([] : List S_api_Prefix) } : S_api_PeerChange))) (cs := Cd.cs c_api_PeerChange (((none : Option Addr), (0 : Nat)), ({ f_Key := (Vector.replicate 32 (0 : Int) : (Vector Int 32)), f_Remove := false, f_Update := false, f_HasPsk := false, f_Psk := (Vector.replicate 32 (0 : Int) : (Vector Int 32)), f_HasEnd := false, f_End := zqG2_1, f_HasKeep := false, f_Keep := (0 : Int), f_Replace := false, f_Allowed := ([] : List S_api_Prefix) } : S_api_PeerChange))) Try.underlying37 Try.zeroValue37 rfl (places_api_PeerChange_37) rfl rfl) ?_
  refine at_guard_yes rfl rfl rfl ?_
  refine at_litL (c := c_api_PeerChange) ([(((none : Option Addr), (0 : Nat)), ({ f_Key := (Vector.replicate 32 (0 : Int) : (Vector Int 32)), f_Remove := false, f_Update := false, f_HasPsk := false, f_Psk := (Vector.replicate 32 (0 : Int) : (Vector Int 32)), f_HasEnd := false, f_End := zqG2_1, f_HasKeep := false, f_Keep := (0 : Int), f_Replace := false, f_Allowed := ([] : List S_api_Prefix) } : S_api_PeerChange))] : List (G_api_PeerChange × S_api_PeerChange)) ([(((none : Option Addr), (0 : Nat)), ({ f_Key := (Vector.replicate 32 (0 : Int) : (Vector Int 32)), f_Remove := false, f_Update := false, f_HasPsk := false, f_Psk := (Vector.replicate 32 (0 : Int) : (Vector Int 32)), f_HasEnd := false, f_End := zqG2_1, f_HasKeep := false, f_Keep := (0 : Int), f_Replace := false, f_Allowed := ([] : List S_api_Prefix) } : S_api_PeerChange))] : List (G_api_PeerChange × S_api_PeerChange)) Try.underlying25 Try.sizeOf37 Try.zeroValue37 rfl rfl rfl (by kernel_rfl) (fill_step (c := c_api_PeerChange) (z := (((none : Option Addr), (0 : Nat)), ({ f_Key := (Vector.replicate 32 (0 : Int) : (Vector Int 32)), f_Remove := false, f_Update := false, f_HasPsk := false, f_Psk := (Vector.replicate 32 (0 : Int) : (Vector Int 32)), f_HasEnd := false, f_End := zqG2_1, f_HasKeep := false, f_Keep := (0 : Int), f_Replace := false, f_Allowed := ([] : List S_api_Prefix) } : S_api_PeerChange))) rfl (Lens.all c_api_PeerChange ([(((none : Option Addr), (0 : Nat)), ({ f_Key := (Vector.replicate 32 (0 : Int) : (Vector Int 32)), f_Remove := false, f_Update := false, f_HasPsk := false, f_Psk := (Vector.replicate 32 (0 : Int) : (Vector Int 32)), f_HasEnd := false, f_End := zqG2_1, f_HasKeep := false, f_Keep := (0 : Int), f_Replace := false, f_Allowed := ([] : List S_api_Prefix) } : S_api_PeerChange))] : List (G_api_PeerChange × S_api_PeerChange)) 0 (by decide)) rfl rfl) rfl ?_
  intro b3
  refine at_guard_yes rfl rfl rfl ?_
  refine av rfl (r_build_struct (zs := Cd.cs c_api_Request (((none : Option Addr), (0 : Nat)), zqG2_0)) (cs := Cd.cs c_api_Request (((some ⟨b3, 0, none⟩ : Option Addr), 1), { zqG2_0 with f_Peers := ([({ f_Key := (Vector.replicate 32 (0 : Int) : (Vector Int 32)), f_Remove := false, f_Update := false, f_HasPsk := false, f_Psk := (Vector.replicate 32 (0 : Int) : (Vector Int 32)), f_HasEnd := false, f_End := zqG2_1, f_HasKeep := false, f_Keep := (0 : Int), f_Replace := false, f_Allowed := ([] : List S_api_Prefix) } : S_api_PeerChange)] : List S_api_PeerChange) })) Try.underlying27 Try.zeroValue27 rfl (places_api_Request_27) rfl (fill_step (c := cHd) (z := ⟨(some ⟨b3, 0, none⟩ : Option Addr), List.length ([({ f_Key := (Vector.replicate 32 (0 : Int) : (Vector Int 32)), f_Remove := false, f_Update := false, f_HasPsk := false, f_Psk := (Vector.replicate 32 (0 : Int) : (Vector Int 32)), f_HasEnd := false, f_End := zqG2_1, f_HasKeep := false, f_Keep := (0 : Int), f_Replace := false, f_Allowed := ([] : List S_api_Prefix) } : S_api_PeerChange)] : List S_api_PeerChange), 1⟩) rfl (c_api_Request_f_Peers ((none : Option Addr), (0 : Nat)) zqG2_0) rfl rfl)) ?_
  refine at_guard_yes rfl rfl rfl ?_
  obtain ⟨t4, ht4, hF⟩ := of_bindM hF
  refine at_callB Try.func17 rfl (by kernel_rfl) rfl rfl (fun w hw => change_Right_ok _ _ _ ht4 w ⟨([(((none : Option Addr), (0 : Nat)), ({ f_Key := (Vector.replicate 32 (0 : Int) : (Vector Int 32)), f_Remove := false, f_Update := false, f_HasPsk := false, f_Psk := (Vector.replicate 32 (0 : Int) : (Vector Int 32)), f_HasEnd := false, f_End := zqG2_1, f_HasKeep := false, f_Keep := (0 : Int), f_Replace := false, f_Allowed := ([] : List S_api_Prefix) } : S_api_PeerChange))] : List (G_api_PeerChange × S_api_PeerChange)), rfl, cells_row (hw.ok (Upd.mem .z)), (all_cons (Row.nil ..) all_nil)⟩) ?_
  refine at_guard_yes rfl rfl rfl ?_
  refine av rfl (r_not rfl) ?_
  refine av rfl (r_pick rfl rfl rfl) ?_
  refine av rfl (r_move rfl) ?_
  rcases of_ite hF with ⟨h5, hF⟩ | ⟨h5, hF⟩
  ·refine at_fix (g := 10) rfl h5 ?_
   refine at_guard_yes rfl rfl rfl ?_
   refine av rfl (r_build_array (zs := Cd.cs (cVec (cInt .u8) 32 (by decide)) (Vector.replicate 32 (0 : Int) : (Vector Int 32))) (cs := Cd.cs (cVec (cInt .u8) 32 (by decide)) (vset (Vector.replicate 32 (0 : Int) : (Vector Int 32)) 0 1)) Try.underlying23 Try.zeroValue23 rfl Try.sizeOf5 rfl (fill_step (c := (cInt .u8)) (z := 1) rfl (Lens.vec (cInt .u8) (by decide) (Vector.replicate 32 (0 : Int) : (Vector Int 32)) 0 (by decide)) rfl rfl)) ?_
   refine at_guard_yes rfl rfl rfl ?_
   refine av rfl (r_build_struct (zs := Cd.cs c_api_PeerChange (((none : Option Addr), (0 : Nat)), ({ f_Key := (Vector.replicate 32 (0 : Int) : (Vector Int 32)), f_Remove := false, f_Update := false, f_HasPsk := false, f_Psk := (Vector.replicate 32 (0 : Int) : (Vector Int 32)), f_HasEnd := false, f_End := zqG2_1, f_HasKeep := false, f_Keep := (0 : Int), f_Replace := false, f_Allowed := ([] : List S_api_Prefix) } : S_api_PeerChange))) (cs := Cd.cs c_api_PeerChange (((none : Option Addr), (0 : Nat)), { ({ f_Key := (Vector.replicate 32 (0 : Int) : (Vector Int 32)), f_Remove := false, f_Update := false, f_HasPsk := false, f_Psk := (Vector.replicate 32 (0 : Int) : (Vector Int 32)), f_HasEnd := false, f_End := zqG2_1, f_HasKeep := false, f_Keep := (0 : Int), f_Replace := false, f_Allowed := ([] : List S_api_Prefix) } : S_api_PeerChange) with f_Key := vset (Vector.replicate 32 (0 : Int) : (Vector Int 32)) 0 1 })) Try.underlying37 Try.zeroValue37 rfl (places_api_PeerChange_37) rfl (fill_step (c := (cVec (cInt .u8) 32 (by decide))) (z := vset (Vector.replicate 32 (0 : Int) : (Vector Int 32)) 0 1) rfl (c_api_PeerChange_f_Key ((none : Option Addr), (0 : Nat)) ({ f_Key := (Vector.replicate 32 (0 : Int) : (Vector Int 32)), f_Remove := false, f_Update := false, f_HasPsk := false, f_Psk := (Vector.replicate 32 (0 : Int) : (Vector Int 32)), f_HasEnd := false, f_End := zqG2_1, f_HasKeep := false, f_Keep := (0 : Int), f_Replace := false, f_Allowed := ([] : List S_api_Prefix) } : S_api_PeerChange)) rfl rfl)) ?_
   refine at_guard_yes rfl rfl rfl ?_
   obtain ⟨t6, ht6, hF⟩ := of_bindM hF
   refine at_callB Try.func15 rfl (by kernel_rfl) rfl rfl (fun w hw => change_RightPeer_ok _ _ _ ht6 w (Row.nil ..)) ?_
   refine av rfl (r_pick rfl rfl rfl) ?_
   refine av rfl (r_assign rfl) ?_
   refine at_nil ?_
   refine at_drop (H := _) .z ?_
   refine at_weak [(0, _)] ⟨rfl, trivial⟩ ?_
   refine at_then_normal ?_
   refine at_ret ?_
   have K := of_some hF
   subst K
   exact at_return1 rfl rfl (fun w1 hw => ⟨rfl, hw.below⟩)
  ·refine at_fix (g := 10) rfl h5 ?_
   refine at_guard_no rfl rfl rfl rfl rfl ?_
   refine at_guard_no rfl rfl rfl rfl rfl ?_
   refine at_guard_no rfl rfl rfl rfl rfl ?_
   refine av rfl (r_pick rfl rfl rfl) ?_
   refine av rfl (r_assign rfl) ?_
   refine at_nil ?_
   refine at_drop (H := _) .z ?_
   refine at_weak [(0, _)] ⟨rfl, trivial⟩ ?_
   refine at_then_normal ?_
   refine at_ret ?_
   have K := of_some hF
   subst K
   exact at_return1 rfl rfl (fun w1 hw => ⟨rfl, hw.below⟩)
 ·refine at_fix (g := 3) rfl h2 ?_
  refine at_guard_no rfl rfl rfl rfl rfl ?_
  refine at_guard_no rfl rfl rfl rfl rfl ?_
  refine at_guard_no rfl rfl rfl rfl rfl ?_
  refine at_guard_no rfl rfl rfl rfl rfl ?_
  refine at_guard_no rfl rfl rfl rfl rfl ?_
  refine av rfl (r_pick rfl rfl rfl) ?_
  refine av rfl (r_move rfl) ?_
  refine at_guard_no rfl rfl rfl rfl rfl ?_
  refine at_guard_no rfl rfl rfl rfl rfl ?_
  refine at_guard_no rfl rfl rfl rfl rfl ?_
  refine av rfl (r_pick rfl rfl rfl) ?_
  refine av rfl (r_assign rfl) ?_
  refine nwt [(0, _)] ⟨rfl, trivial⟩ ?_
  refine at_ret ?_
  have K := of_some hF
  subst K
  exact at_return1 rfl rfl (fun w1 hw => ⟨rfl, hw.below⟩)
def crawlwayref32_Large.l0 (x0 : S_api_Request) (i4 : Int) : Option (Ctl (Bool) (Unit)) :=
  if (decide (i4 < (x0.f_Peers.length : Int))) = true then (if (0 : Int) ≤ i4 ∧ i4 < (x0.f_Peers.length : Int) then if (decide ((((lget x0.f_Peers i4).f_Allowed).length : Int) > 80)) = true then (some (.ret true)) else (crawlwayref32_Large.l0 x0 (wr .i64 (i4 + 1))) else none) else (some (.nx ()))
  partial_fixpoint
def crawlwayref32_Large (x0 : S_api_Request) : Option (Bool) :=
  if (decide ((x0.f_Peers.length : Int) > 80)) = true then (some true) else (crawlwayref32_Large.l0 x0 0 >>= fun q3 => match q3 with | .ret r' => some r' | .nx sq3 => (some false))
theorem crawlwayref32_Large_ok (g0_ : G_api_Request) (x0 : S_api_Request) (r : Bool) (hF : crawlwayref32_Large x0 = some r) (w : World) (hn0 : N_api_Request w (g0_, x0)) :
    Calls Try.prog 13 #[.agg (Cd.cs c_api_Request (g0_, x0)).toArray] w (fun e w' => e = .returned (.bool r) ∧ Below w.heap.size w w') := by
 unfold crawlwayref32_Large at hF
 refine calls_enter (l := [.agg (Cd.cs c_api_Request (g0_, x0)).toArray]) Try.func13 rfl rfl rfl ?_
 refine at_start ?_
 refine at_weak [(0, _)] ⟨rfl, trivial⟩ ?_
 refine sr ?_
 refine at_box (cs := Cd.cs c_api_Request (g0_, x0)) rfl rfl rfl ?_
 intro b1
 refine av rfl (r_assign rfl) ?_
 refine nwt [(1, _)] ⟨rfl, trivial⟩ ?_
 refine at_seq ?_
 refine sr ?_
 refine av rfl (r_fieldAddr (fo := 38) Try.underlying27 rfl rfl (fun w => ⟨_, Try.sizeOf25 w⟩) rfl) ?_
 refine av rfl (r_load_cell Try.isAgg25 rfl (lens_cell0 (c := cHd) (y := ⟨g0_.1, List.length x0.f_Peers, g0_.2⟩) .z (c_api_Request_f_Peers g0_ x0) rfl)) ?_
 refine av rfl (r_len_sl Try.underlying25 rfl) ?_
 refine av rfl (r_igtr rfl rfl) ?_
 refine nwt [(1, _), (7, _)] ⟨rfl, rfl, trivial⟩ ?_
 rcases of_ite hF with ⟨h2, hF⟩ | ⟨h2, hF⟩
 ·refine at_cond_true rfl h2 ?_
  refine sr ?_
  refine av rfl (r_assign rfl) ?_
  refine at_nil ?_
  refine at_drop (H := _) .z ?_
  refine at_weak [(2, _)] ⟨rfl, trivial⟩ ?_
  refine at_then_normal ?_
  refine rt ?_
  have K := of_some hF
  subst K
  exact at_return1 rfl rfl (fun w1 hw => ⟨rfl, hw.below⟩)
 ·refine at_cond_false rfl h2 ?_
  refine sn ?_
  refine at_seq ?_
  refine sr ?_
  refine av rfl (r_assign rfl) ?_
  refine nwt [(1, _), (3, _)] ⟨rfl, rfl, trivial⟩ ?_
  refine at_block ?_
  obtain ⟨q3, hq3, hF⟩ := of_bindM hF
  refine at_weak [(1, _), (3, _)] ⟨rfl, rfl, trivial⟩ ?_
  refine at_loop_r (B := 0) (r := r) (q := q3) (A := fun (_ : Unit) Y => At 23 [] (Wd w []) Y) ?_ ?_
  ·intro K
   refine crawlwayref32_Large.l0.partial_correctness x0 (motive := fun i4 x => KR (fun (_ : Unit) Y => At 23 [] (Wd w []) Y) _ 0 r x → Round (fun Y => At 23 [(1, .pointer (some ⟨b1, 0, none⟩)), (3, .int .i64 i4)] (Wd w [cellsE b1 (Cd.cs c_api_Request (g0_, x0)) 27]) Y) _ _ _) ?_ _ _ hq3 K
   ·clear K hF
    intro g ih i4 x hF K
    refine at_round ?_
    refine at_seq ?_
    refine sr ?_
    refine av rfl (r_move rfl) ?_
    refine av rfl (r_fieldAddr (fo := 38) Try.underlying27 rfl rfl (fun w => ⟨_, Try.sizeOf25 w⟩) rfl) ?_
    refine av rfl (r_load_cell Try.isAgg25 rfl (lens_cell0 (c := cHd) (y := ⟨g0_.1, List.length x0.f_Peers, g0_.2⟩) .z (c_api_Request_f_Peers g0_ x0) rfl)) ?_
    refine av rfl (r_len_sl Try.underlying25 rfl) ?_
    refine av rfl (r_ilss rfl rfl) ?_
    refine nwt [(1, _), (3, _), (12, _)] ⟨rfl, rfl, rfl, trivial⟩ ?_
    rcases of_ite hF with ⟨h5, hF⟩ | ⟨h5, hF⟩
    ·refine at_cond_true rfl h5 ?_
     refine sn ?_
     refine at_seq ?_
     refine at_block ?_
     refine sr ?_
     refine av rfl (r_fieldAddr (fo := 38) Try.underlying27 rfl rfl (fun w => ⟨_, Try.sizeOf25 w⟩) rfl) ?_
     refine av rfl (r_load_cell Try.isAgg25 rfl (lens_cell0 (c := cHd) (y := ⟨g0_.1, List.length x0.f_Peers, g0_.2⟩) .z (c_api_Request_f_Peers g0_ x0) rfl)) ?_
     refine av rfl (r_move rfl) ?_
     obtain ⟨h6, hF⟩ := of_guard hF
     obtain ⟨zs10, hz11, hr12, hn13⟩ := hn0
     obtain ⟨b8, o9, hp7⟩ := row_ptr hr12 (zidx hz11 h6)
     obtain ⟨g14, hg15⟩ := zget hz11 i4
     refine av rfl (r_idx Try.underlying25 Try.sizeOf37 rfl rfl h6 hp7) ?_
     refine av rfl (r_fieldAddr (fo := 89) Try.underlying37 rfl rfl (fun w => ⟨_, Try.sizeOf35 w⟩) rfl) ?_
     refine av rfl (r_load_cell Try.isAgg35 rfl (nlens0 (c' := cHd) (y := ⟨g14.1, List.length ((lget x0.f_Peers i4).f_Allowed), g14.2⟩) (fun _ h => h.below) hr12 (zidx hz11 h6) hp7 hg15 (c_api_PeerChange_f_Allowed g14 (lget x0.f_Peers i4)) rfl)) ?_
     refine av rfl (r_len_sl Try.underlying35 rfl) ?_
     refine av rfl (r_igtr rfl rfl) ?_
     refine nwt [(1, _), (3, _), (22, _)] ⟨rfl, rfl, rfl, trivial⟩ ?_
     rcases of_ite hF with ⟨h16, hF⟩ | ⟨h16, hF⟩
     ·refine at_cond_true rfl h16 ?_
      refine sr ?_
      refine av rfl (r_assign rfl) ?_
      refine at_nil ?_
      refine at_drop (H := _) .z ?_
      refine at_weak [(2, _)] ⟨rfl, trivial⟩ ?_
      refine at_then_normal ?_
      refine at_ret ?_
      refine at_blk_ret (at_then_ret (at_then_ret (at_blk_ret (at_then_ret ?_))))
      obtain rfl := of_some hF
      subst K
      exact at_return1 rfl rfl (fun w1 hw => ⟨rfl, hw.below⟩)
     ·refine at_cond_false rfl h16 ?_
      refine at_skip ?_
      refine at_blk_normal (at_then_normal ?_)
      refine at_region ?_
      refine av rfl (r_move rfl) ?_
      refine av rfl (r_iadd rfl rfl) ?_
      refine av rfl (r_assign rfl) ?_
      refine nwt [(1, _), (3, _)] ⟨rfl, rfl, trivial⟩ ?_
      exact at_weak_k (ih _ _ hF K) ⟨rfl, rfl, trivial⟩
    ·refine at_cond_false rfl h5 ?_
     refine at_exit ?_
     refine at_then_exit (at_then_exit ?_)
     refine at_drop (H := _) .z ?_
     obtain rfl := of_some hF
     exact at_weak_k K trivial
  ·cases q3 with
   | ret r' => exact of_some hF
   | nx sq3 =>
    skip
    refine at_blk_same ?_
    refine at_then_normal ?_
    refine sr ?_
    refine av rfl (r_assign rfl) ?_
    refine nwt [(2, _)] ⟨rfl, trivial⟩ ?_
    refine at_ret ?_
    have K := of_some hF
    subst K
    exact at_return1 rfl rfl (fun w1 hw => ⟨rfl, hw.below⟩)
end Go.Proofs.Ythccncpephpdjaa
