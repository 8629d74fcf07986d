/- Texts of this claim, those in one that belong together; printed by a program of this project. -/
import Derived.Test.YthccncpephpdjaaProg
import Derived.Test.YthccncpephpdjaaKAllowedFull0
set_option linter.unusedVariables false
set_option linter.unusedSimpArgs false
namespace Go.Proofs.Ythccncpephpdjaa
open E Go.RowKit
abbrev zqU1_0 : S_api_Prefix := ({ f_A := ({ f_V := (0 : Int), f_B := (Vector.replicate 16 (0 : Int) : (Vector Int 16)) } : S_api_Addr), f_Bits := (0 : Int) } : S_api_Prefix)
abbrev zqU1_1 : S_api_Addr := ({ f_V := (0 : Int), f_B := (Vector.replicate 16 (0 : Int) : (Vector Int 16)) } : S_api_Addr)
def addr_Four (x0 : (Vector Int 4)) : Option (S_api_Addr) :=
  some ({ { ({ f_V := (0 : Int), f_B := (Vector.replicate 16 (0 : Int) : (Vector Int 16)) } : S_api_Addr) with f_V := 4 } with f_B := vcopy (({ ({ f_V := (0 : Int), f_B := (Vector.replicate 16 (0 : Int) : (Vector Int 16)) } : S_api_Addr) with f_V := 4 }).f_B) (Int.toNat 0) (List.take (Int.toNat (16 - 0)) (Vector.toList x0)) })
set_option maxHeartbeats 3200000 in
theorem addr_Four_ok (x0 : (Vector Int 4)) (r : S_api_Addr) (hF : addr_Four x0 = some r) (w : World) :
    Calls Try.prog 91 #[.agg (Cd.cs (cVec (cInt .u8) 4 (by decide)) x0).toArray] w (fun e w' => e = .returned (.agg (Cd.cs c_api_Addr r).toArray) ∧ Below w.heap.size w w') := by
 unfold addr_Four at hF
 refine calls_enter (l := [.agg (Cd.cs (cVec (cInt .u8) 4 (by decide)) x0).toArray]) Try.func91 rfl rfl rfl ?_
 refine at_start ?_
 refine at_weak [(0, _)] ⟨rfl, trivial⟩ ?_
 refine sr ?_
 refine at_box (cs := Cd.cs (cVec (cInt .u8) 4 (by decide)) x0) rfl rfl rfl ?_
 intro b1
 refine at_alloc (cs := Cd.cs c_api_Addr zqU1_1) Try.zeroValue32 rfl rfl ?_
 intro b2
 refine nws [(1, _), (2, _)] ⟨rfl, rfl, trivial⟩ ?_
 refine av rfl (r_build_struct (zs := Cd.cs c_api_Addr zqU1_1) (cs := Cd.cs c_api_Addr ({ zqU1_1 with f_V := 4 })) Try.underlying32 Try.zeroValue32 rfl (places_api_Addr_32) rfl (fill_step (c := (cInt .i64)) (z := 4) rfl (c_api_Addr_f_V zqU1_1) rfl rfl)) ?_
 refine at_alloc (cs := Cd.cs c_api_Addr zqU1_1) Try.zeroValue32 rfl rfl ?_
 intro b3
 refine at_store (c := c_api_Addr) (z := { zqU1_1 with f_V := 4 }) .z (Lens.whole _ _) Try.sizeOf32 rfl rfl rfl ?_
 refine nwt [(1, _), (2, _), (3, _)] ⟨rfl, rfl, rfl, trivial⟩ ?_
 refine at_seq ?_
 refine at_weak [(1, _), (2, _), (3, _)] ⟨rfl, rfl, rfl, trivial⟩ ?_
 refine at_inv [.q 5 (fun g4 => .pointer (some ⟨b3, 0 + 1, none⟩)) [] 0 0, .q 6 (fun g4 => .slice (some ⟨b3, 0 + 1, none⟩) (Vector.toList (({ zqU1_1 with f_V := 4 }).f_B)).length 16) [0] 0 0, .q 7 (fun g4 => .slice (some ⟨b1, 0, none⟩) (Vector.toList x0).length 4) [] 0 0, .st 0 (some (8, fun g4 => .int .i64 (min (List.length (Vector.toList x0)) (Int.toNat (16 - 0)) : Nat))) [1, 2]] (fun g4 s => match s with | 0 => (Wd w [cellsE b3 (Cd.cs c_api_Addr ({ zqU1_1 with f_V := 4 })) 32, cellsE b2 (Cd.cs c_api_Addr zqU1_1) 32, cellsE b1 (Cd.cs (cVec (cInt .u8) 4 (by decide)) x0) 129]) | _ => (Wd w [cellsE b3 (Cd.cs c_api_Addr ({ { zqU1_1 with f_V := 4 } with f_B := vcopy (({ zqU1_1 with f_V := 4 }).f_B) (Int.toNat 0) (List.take (Int.toNat (16 - 0)) (Vector.toList x0)) })) 32, cellsE b2 (Cd.cs c_api_Addr zqU1_1) 32, cellsE b1 (Cd.cs (cVec (cInt .u8) 4 (by decide)) x0) 129])) 1 (by kernel_rfl) (by kernel_rfl) (by kernel_rfl) (by kernel_rfl) (by kernel_rfl) ⟨fun _ _ _ => rfl, fun _ _ _ => rfl, fun _ _ _ => rfl, fun _ _ _ => rfl, trivial⟩ (by kernel_rfl) (fun _ h => ⟨fun _ => (0, none, 0, none), h.drew⟩) ⟨?_, ?_, ?_, ?_, trivial⟩ ?_
 ·intro Lx g4 s K hl hh k
  show At 10 ((1, _) :: (2, _) :: (3, _) :: Lx) _ _
  refine av rfl (r_fieldAddr (fo := 1) Try.underlying32 rfl rfl (fun w => ⟨_, Try.sizeOf30 w⟩) rfl) ?_
  exact at_nil k
 ·intro Lx g4 s K hl hh k
  show At 10 ((5, _) :: (1, _) :: (2, _) :: (3, _) :: Lx) _ _
  obtain rfl : s = 0 := by omega
  refine av rfl (r_view_all (c := (cInt .u8)) (({ zqU1_1 with f_V := 4 }).f_B) (by decide) Try.underlying30 Try.sizeOf5 rfl) ?_
  exact at_nil k
 ·intro Lx g4 s K hl hh k
  show At 10 ((1, _) :: (2, _) :: (3, _) :: Lx) _ _
  obtain rfl : s = 0 := by omega
  refine av rfl (r_slice_vec x0 Try.underlying129 Try.sizeOf5 rfl) ?_
  exact at_nil k
 ·intro Lx g4 K k
  show At 10 ((6, _) :: (7, _) :: (1, _) :: (2, _) :: (3, _) :: Lx) _ _
  refine at_copy (lo := 0) (hi := 16) (xs := Vector.toList x0) .z (Lens.comp (Lens.whole _ _) (fun z => { { zqU1_1 with f_V := 4 } with f_B := z }) (c_api_Addr_f_B ({ zqU1_1 with f_V := 4 }))) rfl (by decide) Try.underlying130 (by kernel_rfl) rfl (rsp_zero (by decide)) (by simp) rfl ⟨_, rfl⟩ (fun w1 hw => (vec_row (hw.ok (Upd.mem (.s (.s .z)))))) rfl ?_
  exact at_nil k
 intro g4
 show At 10 [(5, _), (6, _), (7, _), (8, _), (1, _), (2, _), (3, _)] _ _
 refine at_drop (H := _) (.s (.s .z)) ?_
 refine at_weak [(2, _), (3, _)] ⟨rfl, rfl, trivial⟩ ?_
 refine at_then_normal ?_
 refine sr ?_
 refine av rfl (r_load_aggc (c := c_api_Addr) (z := { { zqU1_1 with f_V := 4 } with f_B := vcopy (({ zqU1_1 with f_V := 4 }).f_B) (Int.toNat 0) (List.take (Int.toNat (16 - 0)) (Vector.toList x0)) }) Try.isAgg32 Try.sizeOf32 rfl (lens_cell .z (Lens.whole _ _))) ?_
 refine at_store (c := c_api_Addr) (z := { { zqU1_1 with f_V := 4 } with f_B := vcopy (({ zqU1_1 with f_V := 4 }).f_B) (Int.toNat 0) (List.take (Int.toNat (16 - 0)) (Vector.toList x0)) }) (.s .z) (Lens.whole _ _) Try.sizeOf32 rfl rfl rfl ?_
 refine at_nil ?_
 refine at_drop (H := _) .z ?_
 refine at_weak [(2, _)] ⟨rfl, trivial⟩ ?_
 refine at_then_normal ?_
 refine at_ret ?_
 have K := of_some hF
 subst K
 exact at_res1 rfl (res_cell (c := c_api_Addr) (y := { { zqU1_1 with f_V := 4 } with f_B := vcopy (({ zqU1_1 with f_V := 4 }).f_B) (Int.toNat 0) (List.take (Int.toNat (16 - 0)) (Vector.toList x0)) }) rfl .z (Lens.whole _ _) Try.isAgg32 Try.sizeOf32 (.inl rfl)) (fun w1 hw => ⟨rfl, hw.below⟩)
def addr_Right (x0 : S_api_Addr) : Option (Bool) :=
  if (x0.f_V == 6) = true then (some true) else (if (x0.f_V == 4) = true then (if 4 ≤ (lsub (Vector.toList x0.f_B) 0 4).length then addr_Four (lvec 4 (lsub (Vector.toList x0.f_B) 0 4)) >>= fun t8 => some (decide (x0 = t8)) else none) else (some false))
theorem addr_Right_ok (x0 : S_api_Addr) (r : Bool) (hF : addr_Right x0 = some r) (w : World) :
    Calls Try.prog 69 #[.agg (Cd.cs c_api_Addr x0).toArray] w (fun e w' => e = .returned (.bool r) ∧ Below w.heap.size w w') := by
 unfold addr_Right at hF
 refine calls_enter (l := [.agg (Cd.cs c_api_Addr x0).toArray]) Try.func69 rfl rfl rfl ?_
 refine at_start ?_
 refine at_weak [(0, _)] ⟨rfl, trivial⟩ ?_
 refine sr ?_
 refine at_box (cs := Cd.cs c_api_Addr x0) rfl rfl rfl ?_
 intro b1
 refine av rfl (r_assign rfl) ?_
 refine nwt [(1, _)] ⟨rfl, trivial⟩ ?_
 refine at_seq ?_
 refine at_draw (by kernel_rfl) (by kernel_rfl) (fun _ h => h.drew) ?_
 refine atq_val rfl rfl rfl (r_fieldAddr (fo := 0) Try.underlying32 rfl rfl (fun w => ⟨_, Try.sizeOf3 w⟩) rfl) ?_
 refine atq_val rfl rfl rfl (r_load_cell Try.isAgg3 rfl (lens_cell0 (c := (cInt .i64)) (y := x0.f_V) .z (Lens.comp (Lens.whole _ _) (fun z => { x0 with f_V := z }) (c_api_Addr_f_V x0)) rfl)) ?_
 refine atq_val rfl rfl rfl (r_ieql rfl rfl) ?_
 refine atq_val rfl rfl rfl (r_move rfl) ?_
 rcases of_ite hF with ⟨h2, hF⟩ | ⟨h2, hF⟩
 ·refine atq_fix (g := 6) rfl h2 ?_
  refine atq_guard_no rfl rfl rfl rfl rfl ?_
  refine atq_guard_no rfl rfl rfl rfl rfl ?_
  refine atq_guard_no rfl rfl rfl rfl rfl ?_
  refine atq_guard_no rfl rfl rfl rfl rfl ?_
  refine atq_guard_undef rfl rfl rfl rfl ?_
  refine atq_guard_undef rfl rfl rfl rfl ?_
  refine atq_guard_undef rfl rfl rfl rfl ?_
  refine atq_guard_undef rfl rfl rfl rfl ?_
  refine atq_guard_undef rfl rfl rfl rfl ?_
  refine atq_guard_undef rfl rfl rfl rfl ?_
  refine atq_guard_undef rfl rfl rfl rfl ?_
  refine atq_guard_no rfl rfl rfl rfl rfl ?_
  refine atq_val rfl rfl rfl (r_pick rfl rfl rfl) ?_
  refine atq_val rfl rfl rfl (r_assign rfl) ?_
  refine atq_nil ?_
  refine at_drop (H := _) .z ?_
  refine at_weak [(2, _)] ⟨rfl, trivial⟩ ?_
  refine at_then_normal ?_
  refine at_ret ?_
  have K := of_some hF
  subst K
  exact at_return1 rfl rfl (fun w1 hw => ⟨rfl, hw.below⟩)
 ·refine atq_fix (g := 6) rfl h2 ?_
  refine atq_guard_yes rfl rfl rfl ?_
  refine atq_val rfl rfl rfl (r_fieldAddr (fo := 0) Try.underlying32 rfl rfl (fun w => ⟨_, Try.sizeOf3 w⟩) rfl) ?_
  refine atq_guard_yes rfl rfl rfl ?_
  refine atq_val rfl rfl rfl (r_load_cell Try.isAgg3 rfl (lens_cell0 (c := (cInt .i64)) (y := x0.f_V) .z (Lens.comp (Lens.whole _ _) (fun z => { x0 with f_V := z }) (c_api_Addr_f_V x0)) rfl)) ?_
  refine atq_guard_yes rfl rfl rfl ?_
  refine atq_val rfl rfl rfl (r_ieql rfl rfl) ?_
  refine atq_guard_yes rfl rfl rfl ?_
  refine atq_val rfl rfl rfl (r_move rfl) ?_
  rcases of_ite hF with ⟨h3, hF⟩ | ⟨h3, hF⟩
  ·refine atq_fix (g := 10) rfl h3 ?_
   refine atq_guard_yes rfl rfl rfl ?_
   refine atq_val rfl rfl rfl (r_load_aggc (c := c_api_Addr) (z := x0) Try.isAgg32 Try.sizeOf32 rfl (lens_cell .z (Lens.whole _ _))) ?_
   refine atq_guard_yes rfl rfl rfl ?_
   refine atq_val rfl rfl rfl (r_fieldAddr (fo := 1) Try.underlying32 rfl rfl (fun w => ⟨_, Try.sizeOf30 w⟩) rfl) ?_
   refine atq_guard_yes rfl rfl rfl ?_
   refine atq_val rfl rfl rfl (r_view (c := (cInt .u8)) (v := x0.f_B) (l := 0) (h := 4) Try.underlying30 Try.sizeOf5 rfl rfl ⟨_, rfl⟩ (by decide)) ?_
   refine atq_guard_yes rfl rfl rfl ?_
   obtain ⟨h4, hF⟩ := of_guard hF
   refine atq_val rfl rfl rfl (r_arrptr Try.underlying129 rfl h4) ?_
   refine atq_guard_yes rfl rfl rfl ?_
   obtain ⟨b5, o6, hp7⟩ : ∃ b o, rsp (some ⟨b1, 0 + 1, none⟩) 16 0 (Cd.sz (cInt .u8)) = some ⟨b, o, none⟩ := rsp_plain
   refine atq_val rfl rfl rfl (r_load_aggc (c := (cVec (cInt .u8) 4 (by decide))) (z := lvec 4 (lsub (Vector.toList x0.f_B) 0 4)) Try.isAgg129 Try.sizeOf129 (by rw [← hp7]; rfl) (fun w1 hw => row_lvec (Row.sub (lens_row .z (Lens.comp (Lens.whole _ _) (fun z => { x0 with f_B := z }) (c_api_Addr_f_B x0)) hw) (vbnd (by decide))) h4 hp7)) ?_
   refine atq_guard_yes rfl rfl rfl ?_
   obtain ⟨t8, ht8, hF⟩ := of_bindM hF
   refine atq_call Try.func91 rfl (by kernel_rfl) rfl rfl (fun w hw => (addr_Four_ok _ _ ht8 w).mono fun _ _ h => ⟨h.1, hw.call h.2⟩) ?_
   refine atq_guard_yes rfl rfl rfl ?_
   refine atq_val rfl rfl rfl (r_eqagg (c := c_api_Addr) (a := x0) (b := t8) (eq_api_Addr_32) rfl Try.eqGuardType32 rfl rfl (.inl rfl) rfl) ?_
   refine atq_guard_yes rfl rfl rfl ?_
   refine atq_val rfl rfl rfl (r_pick rfl rfl rfl) ?_
   refine atq_val rfl rfl rfl (r_pick rfl rfl rfl) ?_
   refine atq_val rfl rfl rfl (r_assign rfl) ?_
   refine atq_nil ?_
   refine at_drop (H := _) .z ?_
   refine at_weak [(2, _)] ⟨rfl, trivial⟩ ?_
   refine at_then_normal ?_
   refine at_ret ?_
   have K := of_some hF
   subst K
   exact at_return1 rfl rfl (fun w1 hw => ⟨rfl, hw.below⟩)
  ·refine atq_fix (g := 10) rfl h3 ?_
   refine atq_guard_no rfl rfl rfl rfl rfl ?_
   refine atq_guard_no rfl rfl rfl rfl rfl ?_
   refine atq_guard_no rfl rfl rfl rfl rfl ?_
   refine atq_guard_no rfl rfl rfl rfl rfl ?_
   refine atq_guard_no rfl rfl rfl rfl rfl ?_
   refine atq_guard_no rfl rfl rfl rfl rfl ?_
   refine atq_guard_no rfl rfl rfl rfl rfl ?_
   refine atq_guard_yes rfl rfl rfl ?_
   refine atq_val rfl rfl rfl (r_pick rfl rfl rfl) ?_
   refine atq_val rfl rfl rfl (r_pick rfl rfl rfl) ?_
   refine atq_val rfl rfl rfl (r_assign rfl) ?_
   refine atq_nil ?_
   refine at_drop (H := _) .z ?_
   refine at_weak [(2, _)] ⟨rfl, trivial⟩ ?_
   refine at_then_normal ?_
   refine at_ret ?_
   have K := of_some hF
   subst K
   exact at_return1 rfl rfl (fun w1 hw => ⟨rfl, hw.below⟩)
def addr_Width (x0 : S_api_Addr) : Option (Int) :=
  addr_Right x0 >>= fun t2 => if (!t2) = true then (some 0) else (if (x0.f_V == 4) = true then (some 32) else (some 128))
theorem addr_Width_ok (x0 : S_api_Addr) (r : Int) (hF : addr_Width x0 = some r) (w : World) :
    Calls Try.prog 71 #[.agg (Cd.cs c_api_Addr x0).toArray] w (fun e w' => e = .returned (.int .i64 r) ∧ Below w.heap.size w w') := by
 unfold addr_Width at hF
 refine calls_enter (l := [.agg (Cd.cs c_api_Addr x0).toArray]) Try.func71 rfl rfl rfl ?_
 refine at_start ?_
 refine at_weak [(0, _)] ⟨rfl, trivial⟩ ?_
 refine sr ?_
 refine at_box (cs := Cd.cs c_api_Addr x0) rfl rfl rfl ?_
 intro b1
 refine av rfl (r_assign rfl) ?_
 refine nwt [(1, _)] ⟨rfl, trivial⟩ ?_
 refine at_seq ?_
 refine at_block ?_
 refine sr ?_
 refine av rfl (r_load_aggc (c := c_api_Addr) (z := x0) Try.isAgg32 Try.sizeOf32 rfl (lens_cell .z (Lens.whole _ _))) ?_
 obtain ⟨t2, ht2, hF⟩ := of_bindM hF
 refine at_callB Try.func69 rfl (by kernel_rfl) rfl rfl (fun w hw => addr_Right_ok _ _ ht2 w) ?_
 refine av rfl (r_not rfl) ?_
 refine av rfl (r_assign rfl) ?_
 refine nwt [(1, _), (3, _)] ⟨rfl, rfl, trivial⟩ ?_
 rcases of_ite hF with ⟨h3, hF⟩ | ⟨h3, hF⟩
 ·refine at_cond_true rfl h3 ?_
  refine sr ?_
  refine av rfl (r_assign rfl) ?_
  refine at_nil ?_
  refine at_drop (H := _) .z ?_
  refine at_weak [(2, _)] ⟨rfl, trivial⟩ ?_
  refine at_then_normal ?_
  refine at_ret ?_
  refine at_blk_ret (at_then_ret ?_)
  have K := of_some hF
  subst K
  exact at_return1 rfl rfl (fun w1 hw => ⟨rfl, hw.below⟩)
 ·refine at_cond_false rfl h3 ?_
  refine sr ?_
  refine av rfl (r_fieldAddr (fo := 0) Try.underlying32 rfl rfl (fun w => ⟨_, Try.sizeOf3 w⟩) rfl) ?_
  refine av rfl (r_load_cell Try.isAgg3 rfl (lens_cell0 (c := (cInt .i64)) (y := x0.f_V) .z (Lens.comp (Lens.whole _ _) (fun z => { x0 with f_V := z }) (c_api_Addr_f_V x0)) rfl)) ?_
  refine av rfl (r_ieql rfl rfl) ?_
  refine av rfl (r_assign rfl) ?_
  refine at_nil ?_
  refine at_drop (H := _) .z ?_
  refine at_weak [(7, _)] ⟨rfl, trivial⟩ ?_
  refine at_then_normal ?_
  rcases of_ite hF with ⟨h4, hF⟩ | ⟨h4, hF⟩
  ·refine at_cond_true rfl h4 ?_
   refine sr ?_
   refine av rfl (r_assign rfl) ?_
   refine nwt [(2, _)] ⟨rfl, trivial⟩ ?_
   refine at_ret ?_
   refine at_blk_ret (at_then_ret ?_)
   have K := of_some hF
   subst K
   exact at_return1 rfl rfl (fun w1 hw => ⟨rfl, hw.below⟩)
  ·refine at_cond_false rfl h4 ?_
   refine at_skip ?_
   refine at_blk_normal (at_then_normal ?_)
   refine sr ?_
   refine av rfl (r_assign rfl) ?_
   refine nwt [(2, _)] ⟨rfl, trivial⟩ ?_
   refine at_ret ?_
   have K := of_some hF
   subst K
   exact at_return1 rfl rfl (fun w1 hw => ⟨rfl, hw.below⟩)
def addr_Mask.l0 (x1 : Int) (i6 : Int) (i7 : S_api_Addr) : Option (S_api_Addr) :=
  if (decide (i6 < 16)) = true then (if (decide (x1 < 0)) = true then (if (0 : Int) ≤ i6 ∧ i6 < 16 then if (0 : Int) ≤ wr .u64 (wr .i64 (8 - 0)) then if (0 : Int) ≤ i6 ∧ i6 < 16 then addr_Mask.l0 x1 (wr .i64 (i6 + 1)) ({ i7 with f_B := vset i7.f_B i6 (iand .u8 (vget i7.f_B i6) (ishl .u8 255 (wr .u64 (wr .i64 (8 - 0))))) }) else none else none else none) else (if (0 : Int) ≤ i6 ∧ i6 < 16 then if (0 : Int) ≤ wr .u64 (wr .i64 (8 - (if 8 < (if wr .i64 (x1 - (wr .i64 (8 * i6))) < 0 then 0 else wr .i64 (x1 - (wr .i64 (8 * i6)))) then 8 else (if wr .i64 (x1 - (wr .i64 (8 * i6))) < 0 then 0 else wr .i64 (x1 - (wr .i64 (8 * i6))))))) then if (0 : Int) ≤ i6 ∧ i6 < 16 then addr_Mask.l0 x1 (wr .i64 (i6 + 1)) ({ i7 with f_B := vset i7.f_B i6 (iand .u8 (vget i7.f_B i6) (ishl .u8 255 (wr .u64 (wr .i64 (8 - (if 8 < (if wr .i64 (x1 - (wr .i64 (8 * i6))) < 0 then 0 else wr .i64 (x1 - (wr .i64 (8 * i6)))) then 8 else (if wr .i64 (x1 - (wr .i64 (8 * i6))) < 0 then 0 else wr .i64 (x1 - (wr .i64 (8 * i6)))))))))) }) else none else none else none)) else (some i7)
  partial_fixpoint
def addr_Mask (x0 : S_api_Addr) (x1 : Int) : Option (S_api_Addr) :=
  addr_Right x0 >>= fun t3 => if (!t3) = true then (some ({ f_V := (0 : Int), f_B := (Vector.replicate 16 (0 : Int) : (Vector Int 16)) } : S_api_Addr)) else (addr_Mask.l0 x1 0 x0 >>= fun q5 => some q5)
theorem addr_Mask_ok (x0 : S_api_Addr) (x1 : Int) (r : S_api_Addr) (hF : addr_Mask x0 x1 = some r) (w : World) :
    Calls Try.prog 92 #[.agg (Cd.cs c_api_Addr x0).toArray, .int .i64 x1] w (fun e w' => e = .returned (.agg (Cd.cs c_api_Addr r).toArray) ∧ Below w.heap.size w w') := by
 unfold addr_Mask at hF
 refine calls_enter (l := [.agg (Cd.cs c_api_Addr x0).toArray, .int .i64 x1]) Try.func92 rfl rfl rfl ?_
 refine at_start ?_
 refine at_weak [(0, _), (1, _)] ⟨rfl, rfl, trivial⟩ ?_
 refine sr ?_
 refine at_box (cs := Cd.cs c_api_Addr x0) rfl rfl rfl ?_
 intro b1
 refine at_alloc (cs := Cd.cs c_api_Addr zqU1_1) Try.zeroValue32 rfl rfl ?_
 intro b2
 refine nwt [(1, _), (2, _), (4, _)] ⟨rfl, rfl, rfl, trivial⟩ ?_
 refine at_seq ?_
 refine sr ?_
 refine av rfl (r_load_aggc (c := c_api_Addr) (z := x0) Try.isAgg32 Try.sizeOf32 rfl (lens_cell (.s .z) (Lens.whole _ _))) ?_
 obtain ⟨t3, ht3, hF⟩ := of_bindM hF
 refine at_callB Try.func69 rfl (by kernel_rfl) rfl rfl (fun w hw => addr_Right_ok _ _ ht3 w) ?_
 refine av rfl (r_not rfl) ?_
 refine nwt [(1, _), (2, _), (4, _), (9, _)] ⟨rfl, rfl, rfl, rfl, trivial⟩ ?_
 rcases of_ite hF with ⟨h4, hF⟩ | ⟨h4, hF⟩
 ·refine at_cond_true rfl h4 ?_
  refine sr ?_
  refine av rfl (r_build_struct (zs := Cd.cs c_api_Addr zqU1_1) (cs := Cd.cs c_api_Addr zqU1_1) Try.underlying32 Try.zeroValue32 rfl (places_api_Addr_32) rfl rfl) ?_
  refine at_store (c := c_api_Addr) (z := zqU1_1) .z (Lens.whole _ _) Try.sizeOf32 rfl rfl rfl ?_
  refine at_nil ?_
  refine at_drop (H := _) (.s .z) ?_
  refine at_weak [(4, _)] ⟨rfl, trivial⟩ ?_
  refine at_then_normal ?_
  refine rt ?_
  have K := of_some hF
  subst K
  exact at_res1 rfl (res_cell (c := c_api_Addr) (y := zqU1_1) rfl .z (Lens.whole _ _) Try.isAgg32 Try.sizeOf32 (.inl rfl)) (fun w1 hw => ⟨rfl, hw.below⟩)
 ·refine at_cond_false rfl h4 ?_
  refine sn ?_
  refine at_seq ?_
  refine sr ?_
  refine av rfl (r_move rfl) ?_
  refine nwt [(1, _), (2, _), (4, _), (11, _)] ⟨rfl, rfl, rfl, rfl, trivial⟩ ?_
  refine at_block ?_
  obtain ⟨q5, hq5, hF⟩ := of_bindM hF
  refine at_weak [(1, _), (2, _), (4, _), (11, _)] ⟨rfl, rfl, rfl, rfl, trivial⟩ ?_
  refine at_loop_n (B := 0) (A := fun Y => At 35 [(2, .pointer (some ⟨b1, 0, none⟩)), (4, .pointer (some ⟨b2, 0, none⟩))] (Wd w [cellsE b2 (Cd.cs c_api_Addr zqU1_1) 32, cellsE b1 (Cd.cs c_api_Addr q5) 32]) Y) ?_ ?_
  ·intro K
   refine addr_Mask.l0.partial_correctness x1 (motive := fun i6 i7 x => KN (fun Y => At 35 [(2, .pointer (some ⟨b1, 0, none⟩)), (4, .pointer (some ⟨b2, 0, none⟩))] (Wd w [cellsE b2 (Cd.cs c_api_Addr zqU1_1) 32, cellsE b1 (Cd.cs c_api_Addr x) 32]) Y) _ 0 → Round (fun Y => At 35 [(1, .int .i64 x1), (2, .pointer (some ⟨b1, 0, none⟩)), (4, .pointer (some ⟨b2, 0, none⟩)), (11, .int .i64 i6)] (Wd w [cellsE b2 (Cd.cs c_api_Addr zqU1_1) 32, cellsE b1 (Cd.cs c_api_Addr i7) 32]) Y) _ _ _) ?_ _ _ _ hq5 K
   ·clear K hF
    intro g ih i6 i7 x hF K
    refine at_round ?_
    refine sr ?_
    refine av rfl (r_ilss rfl rfl) ?_
    refine nwt [(1, _), (2, _), (4, _), (11, _), (12, _)] ⟨rfl, rfl, rfl, rfl, rfl, trivial⟩ ?_
    refine at_seq ?_
    rcases of_ite hF with ⟨h8, hF⟩ | ⟨h8, hF⟩
    ·refine at_cond_true rfl h8 ?_
     refine sn ?_
     refine at_seq ?_
     refine at_block ?_
     refine sr ?_
     refine av rfl (r_move rfl) ?_
     refine av rfl (r_assign rfl) ?_
     refine nws [(1, _), (2, _), (4, _), (5, _), (11, _)] ⟨rfl, rfl, rfl, rfl, rfl, trivial⟩ ?_
     refine av rfl (r_move rfl) ?_
     refine av rfl (r_move rfl) ?_
     refine av rfl (r_imul rfl rfl) ?_
     refine av rfl (r_isub rfl rfl) ?_
     refine av rfl (r_max rfl rfl) ?_
     refine av rfl (r_min rfl rfl) ?_
     refine av rfl (r_assign rfl) ?_
     refine nwt [(1, _), (2, _), (4, _), (5, _), (6, _), (11, _)] ⟨rfl, rfl, rfl, rfl, rfl, rfl, trivial⟩ ?_
     refine at_seq ?_
     refine sr ?_
     refine av rfl (r_move rfl) ?_
     refine av rfl (r_ilss rfl rfl) ?_
     refine nwt [(1, _), (2, _), (4, _), (5, _), (6, _), (11, _), (21, _)] ⟨rfl, rfl, rfl, rfl, rfl, rfl, rfl, trivial⟩ ?_
     rcases of_ite hF with ⟨h9, hF⟩ | ⟨h9, hF⟩
     ·refine at_cond_true rfl h9 ?_
      refine at_region ?_
      refine av rfl (r_assign rfl) ?_
      refine nwt [(1, _), (2, _), (4, _), (5, _), (6, _), (11, _)] ⟨rfl, rfl, rfl, rfl, rfl, rfl, trivial⟩ ?_
      refine at_region ?_
      refine av rfl (r_move rfl) ?_
      refine av rfl (r_fieldAddr (fo := 1) Try.underlying32 rfl rfl (fun w => ⟨_, Try.sizeOf30 w⟩) rfl) ?_
      obtain ⟨h10, hF⟩ := of_guard hF
      refine av rfl (r_idxArr Try.underlying30 Try.sizeOf5 rfl rfl h10) ?_
      refine av rfl (r_load_cell Try.isAgg5 rfl (lens_cell0 (c := (cInt .u8)) (y := vget i7.f_B i6) (.s .z) (Lens.comp (Lens.comp (Lens.whole _ _) (fun z => { i7 with f_B := z }) (c_api_Addr_f_B i7)) (fun z => vset i7.f_B i6 z) (Lens.vec (cInt .u8) (by decide) i7.f_B i6 h10)) rfl)) ?_
      refine av rfl (r_move rfl) ?_
      refine av rfl (r_isub rfl rfl) ?_
      refine av rfl (r_conv Try.underlying3 Try.underlying131 rfl) ?_
      obtain ⟨h11, hF⟩ := of_guard hF
      refine av rfl (r_ishl rfl rfl h11) ?_
      refine av rfl (r_iand rfl rfl) ?_
      refine av rfl (r_fieldAddr (fo := 1) Try.underlying32 rfl rfl (fun w => ⟨_, Try.sizeOf30 w⟩) rfl) ?_
      obtain ⟨h12, hF⟩ := of_guard hF
      refine av rfl (r_idxArr Try.underlying30 Try.sizeOf5 rfl rfl h12) ?_
      refine at_store (c := (cInt .u8)) (z := iand .u8 (vget i7.f_B i6) (ishl .u8 255 (wr .u64 (wr .i64 (8 - 0))))) (.s .z) (Lens.comp (Lens.comp (Lens.whole _ _) (fun z => { i7 with f_B := z }) (c_api_Addr_f_B i7)) (fun z => vset i7.f_B i6 z) (Lens.vec (cInt .u8) (by decide) i7.f_B i6 h12)) Try.sizeOf5 rfl rfl rfl ?_
      refine at_nil ?_
      refine at_weak [(1, _), (2, _), (4, _), (11, _)] ⟨rfl, rfl, rfl, rfl, trivial⟩ ?_
      refine at_blk_normal (at_then_normal ?_)
      refine at_region ?_
      refine av rfl (r_iadd rfl rfl) ?_
      refine av rfl (r_move rfl) ?_
      refine nwt [(1, _), (2, _), (4, _), (11, _)] ⟨rfl, rfl, rfl, rfl, trivial⟩ ?_
      exact at_weak_k (ih _ _ _ hF K) ⟨rfl, rfl, rfl, rfl, trivial⟩
     ·refine at_cond_false rfl h9 ?_
      refine sn ?_
      refine at_region ?_
      refine av rfl (r_move rfl) ?_
      refine av rfl (r_fieldAddr (fo := 1) Try.underlying32 rfl rfl (fun w => ⟨_, Try.sizeOf30 w⟩) rfl) ?_
      obtain ⟨h13, hF⟩ := of_guard hF
      refine av rfl (r_idxArr Try.underlying30 Try.sizeOf5 rfl rfl h13) ?_
      refine av rfl (r_load_cell Try.isAgg5 rfl (lens_cell0 (c := (cInt .u8)) (y := vget i7.f_B i6) (.s .z) (Lens.comp (Lens.comp (Lens.whole _ _) (fun z => { i7 with f_B := z }) (c_api_Addr_f_B i7)) (fun z => vset i7.f_B i6 z) (Lens.vec (cInt .u8) (by decide) i7.f_B i6 h13)) rfl)) ?_
      refine av rfl (r_move rfl) ?_
      refine av rfl (r_isub rfl rfl) ?_
      refine av rfl (r_conv Try.underlying3 Try.underlying131 rfl) ?_
      obtain ⟨h14, hF⟩ := of_guard hF
      refine av rfl (r_ishl rfl rfl h14) ?_
      refine av rfl (r_iand rfl rfl) ?_
      refine av rfl (r_fieldAddr (fo := 1) Try.underlying32 rfl rfl (fun w => ⟨_, Try.sizeOf30 w⟩) rfl) ?_
      obtain ⟨h15, hF⟩ := of_guard hF
      refine av rfl (r_idxArr Try.underlying30 Try.sizeOf5 rfl rfl h15) ?_
      refine at_store (c := (cInt .u8)) (z := iand .u8 (vget i7.f_B i6) (ishl .u8 255 (wr .u64 (wr .i64 (8 - (if 8 < (if wr .i64 (x1 - (wr .i64 (8 * i6))) < 0 then 0 else wr .i64 (x1 - (wr .i64 (8 * i6)))) then 8 else (if wr .i64 (x1 - (wr .i64 (8 * i6))) < 0 then 0 else wr .i64 (x1 - (wr .i64 (8 * i6)))))))))) (.s .z) (Lens.comp (Lens.comp (Lens.whole _ _) (fun z => { i7 with f_B := z }) (c_api_Addr_f_B i7)) (fun z => vset i7.f_B i6 z) (Lens.vec (cInt .u8) (by decide) i7.f_B i6 h15)) Try.sizeOf5 rfl rfl rfl ?_
      refine at_nil ?_
      refine at_weak [(1, _), (2, _), (4, _), (11, _)] ⟨rfl, rfl, rfl, rfl, trivial⟩ ?_
      refine at_blk_normal (at_then_normal ?_)
      refine at_region ?_
      refine av rfl (r_iadd rfl rfl) ?_
      refine av rfl (r_move rfl) ?_
      refine nwt [(1, _), (2, _), (4, _), (11, _)] ⟨rfl, rfl, rfl, rfl, trivial⟩ ?_
      exact at_weak_k (ih _ _ _ hF K) ⟨rfl, rfl, rfl, rfl, trivial⟩
    ·refine at_cond_false rfl h8 ?_
     refine at_exit ?_
     refine at_then_exit (at_then_exit ?_)
     obtain rfl := of_some hF
     exact at_weak_k K ⟨rfl, rfl, trivial⟩
  ·skip
   skip
   refine at_blk_same ?_
   refine at_then_normal ?_
   refine sr ?_
   refine av rfl (r_load_aggc (c := c_api_Addr) (z := q5) Try.isAgg32 Try.sizeOf32 rfl (lens_cell (.s .z) (Lens.whole _ _))) ?_
   refine at_store (c := c_api_Addr) (z := q5) .z (Lens.whole _ _) Try.sizeOf32 rfl rfl rfl ?_
   refine at_nil ?_
   refine at_drop (H := _) (.s .z) ?_
   refine at_weak [(4, _)] ⟨rfl, trivial⟩ ?_
   refine at_then_normal ?_
   refine at_ret ?_
   have K := of_some hF
   subst K
   exact at_res1 rfl (res_cell (c := c_api_Addr) (y := q5) rfl .z (Lens.whole _ _) Try.isAgg32 Try.sizeOf32 (.inl rfl)) (fun w1 hw => ⟨rfl, hw.below⟩)
def addr_Bit (x0 : S_api_Addr) (x1 : Int) : Option (Int) :=
  if (decide (x1 < 0)) = true then (some (-1)) else (addr_Width x0 >>= fun t3 => if (decide (x1 ≥ t3)) = true then (some (-1)) else (if (0 : Int) ≤ ishr .i64 x1 3 ∧ ishr .i64 x1 3 < 16 then if (0 : Int) ≤ wr .u64 (wr .i64 (7 - (iand .i64 x1 7))) then some (iand .i64 (wr .i64 (ishr .u8 (vget x0.f_B (ishr .i64 x1 3)) (wr .u64 (wr .i64 (7 - (iand .i64 x1 7)))))) 1) else none else none))
theorem addr_Bit_ok (x0 : S_api_Addr) (x1 : Int) (r : Int) (hF : addr_Bit x0 x1 = some r) (w : World) :
    Calls Try.prog 72 #[.agg (Cd.cs c_api_Addr x0).toArray, .int .i64 x1] w (fun e w' => e = .returned (.int .i64 r) ∧ Below w.heap.size w w') := by
 unfold addr_Bit at hF
 refine calls_enter (l := [.agg (Cd.cs c_api_Addr x0).toArray, .int .i64 x1]) Try.func72 rfl rfl rfl ?_
 refine at_start ?_
 refine at_weak [(0, _), (1, _)] ⟨rfl, rfl, trivial⟩ ?_
 refine sr ?_
 refine at_box (cs := Cd.cs c_api_Addr x0) rfl rfl rfl ?_
 intro b1
 refine av rfl (r_assign rfl) ?_
 refine nwt [(1, _), (2, _)] ⟨rfl, rfl, trivial⟩ ?_
 refine at_seq ?_
 refine sr ?_
 refine av rfl (r_move rfl) ?_
 refine av rfl (r_ilss rfl rfl) ?_
 refine av rfl (r_move rfl) ?_
 rcases of_ite hF with ⟨h2, hF⟩ | ⟨h2, hF⟩
 ·refine at_fix (g := 7) rfl h2 ?_
  refine at_guard_no rfl rfl rfl rfl rfl ?_
  refine at_guard_no rfl rfl rfl rfl rfl ?_
  refine at_guard_no rfl rfl rfl rfl rfl ?_
  refine at_guard_no rfl rfl rfl rfl rfl ?_
  refine av rfl (r_pick rfl rfl rfl) ?_
  refine nwt [(1, _), (2, _), (12, _)] ⟨rfl, rfl, rfl, trivial⟩ ?_
  refine at_cond_true rfl rfl ?_
  refine sr ?_
  refine av rfl (r_assign rfl) ?_
  refine at_nil ?_
  refine at_drop (H := _) .z ?_
  refine at_weak [(4, _)] ⟨rfl, trivial⟩ ?_
  refine at_then_normal ?_
  refine rt ?_
  have K := of_some hF
  subst K
  exact at_return1 rfl rfl (fun w1 hw => ⟨rfl, hw.below⟩)
 ·refine at_fix (g := 7) rfl h2 ?_
  refine at_guard_yes rfl rfl rfl ?_
  refine av rfl (r_move rfl) ?_
  refine at_guard_yes rfl rfl rfl ?_
  refine av rfl (r_load_aggc (c := c_api_Addr) (z := x0) Try.isAgg32 Try.sizeOf32 rfl (lens_cell .z (Lens.whole _ _))) ?_
  refine at_guard_yes rfl rfl rfl ?_
  obtain ⟨t3, ht3, hF⟩ := of_bindM hF
  refine at_callB Try.func71 rfl (by kernel_rfl) rfl rfl (fun w hw => addr_Width_ok _ _ ht3 w) ?_
  refine at_guard_yes rfl rfl rfl ?_
  refine av rfl (r_igeq rfl rfl) ?_
  refine av rfl (r_pick rfl rfl rfl) ?_
  refine nwt [(1, _), (2, _), (12, _)] ⟨rfl, rfl, rfl, trivial⟩ ?_
  rcases of_ite hF with ⟨h4, hF⟩ | ⟨h4, hF⟩
  ·refine at_cond_true rfl h4 ?_
   refine sr ?_
   refine av rfl (r_assign rfl) ?_
   refine at_nil ?_
   refine at_drop (H := _) .z ?_
   refine at_weak [(4, _)] ⟨rfl, trivial⟩ ?_
   refine at_then_normal ?_
   refine rt ?_
   have K := of_some hF
   subst K
   exact at_return1 rfl rfl (fun w1 hw => ⟨rfl, hw.below⟩)
  ·refine at_cond_false rfl h4 ?_
   refine sns ?_
   refine av rfl (r_move rfl) ?_
   refine av rfl (r_ishr rfl rfl (by decide)) ?_
   refine av rfl (r_fieldAddr (fo := 1) Try.underlying32 rfl rfl (fun w => ⟨_, Try.sizeOf30 w⟩) rfl) ?_
   obtain ⟨h5, hF⟩ := of_guard hF
   refine av rfl (r_idxArr Try.underlying30 Try.sizeOf5 rfl rfl h5) ?_
   refine av rfl (r_load_cell Try.isAgg5 rfl (lens_cell0 (c := (cInt .u8)) (y := vget x0.f_B (ishr .i64 x1 3)) .z (Lens.comp (Lens.comp (Lens.whole _ _) (fun z => { x0 with f_B := z }) (c_api_Addr_f_B x0)) (fun z => vset x0.f_B (ishr .i64 x1 3) z) (Lens.vec (cInt .u8) (by decide) x0.f_B (ishr .i64 x1 3) h5)) rfl)) ?_
   refine av rfl (r_move rfl) ?_
   refine av rfl (r_iand rfl rfl) ?_
   refine av rfl (r_isub rfl rfl) ?_
   refine av rfl (r_conv Try.underlying3 Try.underlying131 rfl) ?_
   obtain ⟨h6, hF⟩ := of_guard hF
   refine av rfl (r_ishr rfl rfl h6) ?_
   refine av rfl (r_conv Try.underlying5 Try.underlying3 rfl) ?_
   refine av rfl (r_iand rfl rfl) ?_
   refine av rfl (r_assign rfl) ?_
   refine at_nil ?_
   refine at_drop (H := _) .z ?_
   refine at_weak [(4, _)] ⟨rfl, trivial⟩ ?_
   refine at_then_normal ?_
   refine at_ret ?_
   have K := of_some hF
   subst K
   exact at_return1 rfl rfl (fun w1 hw => ⟨rfl, hw.below⟩)
def cidr_Of (x0 : S_api_Addr) (x1 : Int) : Option (S_api_Prefix × Int) :=
  addr_Right x0 >>= fun t3 => if (!t3) = true then (some (({ f_A := ({ f_V := (0 : Int), f_B := (Vector.replicate 16 (0 : Int) : (Vector Int 16)) } : S_api_Addr), f_Bits := (0 : Int) } : S_api_Prefix), 1)) else (if (decide (x1 < 0)) = true then (some (({ f_A := ({ f_V := (0 : Int), f_B := (Vector.replicate 16 (0 : Int) : (Vector Int 16)) } : S_api_Addr), f_Bits := (0 : Int) } : S_api_Prefix), 6)) else (addr_Width x0 >>= fun t6 => if (decide (x1 > t6)) = true then (some (({ f_A := ({ f_V := (0 : Int), f_B := (Vector.replicate 16 (0 : Int) : (Vector Int 16)) } : S_api_Addr), f_Bits := (0 : Int) } : S_api_Prefix), 6)) else (addr_Mask x0 x1 >>= fun t8 => some ({ { ({ f_A := ({ f_V := (0 : Int), f_B := (Vector.replicate 16 (0 : Int) : (Vector Int 16)) } : S_api_Addr), f_Bits := (0 : Int) } : S_api_Prefix) with f_A := t8 } with f_Bits := x1 }, 0))))
theorem cidr_Of_ok (x0 : S_api_Addr) (x1 : Int) (r : S_api_Prefix × Int) (hF : cidr_Of x0 x1 = some r) (w : World) :
    Calls Try.prog 70 #[.agg (Cd.cs c_api_Addr x0).toArray, .int .i64 x1] w (fun e w' => e = .returned (.tuple #[.agg (Cd.cs c_api_Prefix r.1).toArray, .int .i64 r.2]) ∧ Below w.heap.size w w') := by
 unfold cidr_Of at hF
 refine calls_enter (l := [.agg (Cd.cs c_api_Addr x0).toArray, .int .i64 x1]) Try.func70 rfl rfl rfl ?_
 refine at_start ?_
 refine at_weak [(0, _), (1, _)] ⟨rfl, rfl, trivial⟩ ?_
 refine sr ?_
 refine at_box (cs := Cd.cs c_api_Addr x0) rfl rfl rfl ?_
 intro b1
 refine at_alloc (cs := Cd.cs c_api_Prefix zqU1_0) Try.zeroValue46 rfl rfl ?_
 intro b2
 refine av rfl (r_assign rfl) ?_
 refine nwt [(1, _), (2, _), (4, _)] ⟨rfl, rfl, rfl, trivial⟩ ?_
 refine at_seq ?_
 refine at_block ?_
 refine sr ?_
 refine av rfl (r_load_aggc (c := c_api_Addr) (z := x0) Try.isAgg32 Try.sizeOf32 rfl (lens_cell (.s .z) (Lens.whole _ _))) ?_
 obtain ⟨t3, ht3, hF⟩ := of_bindM hF
 refine at_callB Try.func69 rfl (by kernel_rfl) rfl rfl (fun w hw => addr_Right_ok _ _ ht3 w) ?_
 refine av rfl (r_not rfl) ?_
 refine av rfl (r_assign rfl) ?_
 refine nwt [(1, _), (2, _), (4, _), (6, _)] ⟨rfl, rfl, rfl, rfl, trivial⟩ ?_
 rcases of_ite hF with ⟨h4, hF⟩ | ⟨h4, hF⟩
 ·refine at_cond_true rfl h4 ?_
  refine sr ?_
  refine av rfl (r_build_struct (zs := Cd.cs c_api_Prefix zqU1_0) (cs := Cd.cs c_api_Prefix zqU1_0) Try.underlying46 Try.zeroValue46 rfl (places_api_Prefix_46) rfl rfl) ?_
  refine at_store (c := c_api_Prefix) (z := zqU1_0) .z (Lens.whole _ _) Try.sizeOf46 rfl rfl rfl ?_
  refine av rfl (r_assign rfl) ?_
  refine at_nil ?_
  refine at_drop (H := _) (.s .z) ?_
  refine at_weak [(4, _), (5, _)] ⟨rfl, rfl, trivial⟩ ?_
  refine at_then_normal ?_
  refine at_ret ?_
  refine at_blk_ret (at_then_ret ?_)
  have K := of_some hF
  subst K
  exact at_res2 rfl (res_cell (c := c_api_Prefix) (y := zqU1_0) rfl .z (Lens.whole _ _) Try.isAgg46 Try.sizeOf46 (.inl rfl)) (res_tmp rfl) (fun w1 hw => ⟨rfl, hw.below⟩)
 ·refine at_cond_false rfl h4 ?_
  refine sr ?_
  refine av rfl (r_move rfl) ?_
  refine av rfl (r_ilss rfl rfl) ?_
  refine av rfl (r_move rfl) ?_
  rcases of_ite hF with ⟨h5, hF⟩ | ⟨h5, hF⟩
  ·refine at_fix (g := 14) rfl h5 ?_
   refine at_guard_no rfl rfl rfl rfl rfl ?_
   refine at_guard_no rfl rfl rfl rfl rfl ?_
   refine at_guard_no rfl rfl rfl rfl rfl ?_
   refine at_guard_no rfl rfl rfl rfl rfl ?_
   refine av rfl (r_pick rfl rfl rfl) ?_
   refine av rfl (r_assign rfl) ?_
   refine nwt [(1, _), (2, _), (4, _), (11, _)] ⟨rfl, rfl, rfl, rfl, trivial⟩ ?_
   refine at_cond_true rfl rfl ?_
   refine sr ?_
   refine av rfl (r_build_struct (zs := Cd.cs c_api_Prefix zqU1_0) (cs := Cd.cs c_api_Prefix zqU1_0) Try.underlying46 Try.zeroValue46 rfl (places_api_Prefix_46) rfl rfl) ?_
   refine at_store (c := c_api_Prefix) (z := zqU1_0) .z (Lens.whole _ _) Try.sizeOf46 rfl rfl rfl ?_
   refine av rfl (r_assign rfl) ?_
   refine at_nil ?_
   refine at_drop (H := _) (.s .z) ?_
   refine at_weak [(4, _), (5, _)] ⟨rfl, rfl, trivial⟩ ?_
   refine at_then_normal ?_
   refine at_ret ?_
   refine at_blk_ret (at_then_ret ?_)
   have K := of_some hF
   subst K
   exact at_res2 rfl (res_cell (c := c_api_Prefix) (y := zqU1_0) rfl .z (Lens.whole _ _) Try.isAgg46 Try.sizeOf46 (.inl rfl)) (res_tmp rfl) (fun w1 hw => ⟨rfl, hw.below⟩)
  ·refine at_fix (g := 14) rfl h5 ?_
   refine at_guard_yes rfl rfl rfl ?_
   refine av rfl (r_move rfl) ?_
   refine at_guard_yes rfl rfl rfl ?_
   refine av rfl (r_load_aggc (c := c_api_Addr) (z := x0) Try.isAgg32 Try.sizeOf32 rfl (lens_cell (.s .z) (Lens.whole _ _))) ?_
   refine at_guard_yes rfl rfl rfl ?_
   obtain ⟨t6, ht6, hF⟩ := of_bindM hF
   refine at_callB Try.func71 rfl (by kernel_rfl) rfl rfl (fun w hw => addr_Width_ok _ _ ht6 w) ?_
   refine at_guard_yes rfl rfl rfl ?_
   refine av rfl (r_igtr rfl rfl) ?_
   refine av rfl (r_pick rfl rfl rfl) ?_
   refine av rfl (r_assign rfl) ?_
   refine nwt [(1, _), (2, _), (4, _), (11, _)] ⟨rfl, rfl, rfl, rfl, trivial⟩ ?_
   rcases of_ite hF with ⟨h7, hF⟩ | ⟨h7, hF⟩
   ·refine at_cond_true rfl h7 ?_
    refine sr ?_
    refine av rfl (r_build_struct (zs := Cd.cs c_api_Prefix zqU1_0) (cs := Cd.cs c_api_Prefix zqU1_0) Try.underlying46 Try.zeroValue46 rfl (places_api_Prefix_46) rfl rfl) ?_
    refine at_store (c := c_api_Prefix) (z := zqU1_0) .z (Lens.whole _ _) Try.sizeOf46 rfl rfl rfl ?_
    refine av rfl (r_assign rfl) ?_
    refine at_nil ?_
    refine at_drop (H := _) (.s .z) ?_
    refine at_weak [(4, _), (5, _)] ⟨rfl, rfl, trivial⟩ ?_
    refine at_then_normal ?_
    refine at_ret ?_
    refine at_blk_ret (at_then_ret ?_)
    have K := of_some hF
    subst K
    exact at_res2 rfl (res_cell (c := c_api_Prefix) (y := zqU1_0) rfl .z (Lens.whole _ _) Try.isAgg46 Try.sizeOf46 (.inl rfl)) (res_tmp rfl) (fun w1 hw => ⟨rfl, hw.below⟩)
   ·refine at_cond_false rfl h7 ?_
    refine at_skip ?_
    refine at_blk_normal (at_then_normal ?_)
    refine sr ?_
    refine av rfl (r_load_aggc (c := c_api_Addr) (z := x0) Try.isAgg32 Try.sizeOf32 rfl (lens_cell (.s .z) (Lens.whole _ _))) ?_
    refine av rfl (r_move rfl) ?_
    obtain ⟨t8, ht8, hF⟩ := of_bindM hF
    refine at_callB Try.func92 rfl (by kernel_rfl) rfl rfl (fun w hw => addr_Mask_ok _ _ _ ht8 w) ?_
    refine av rfl (r_move rfl) ?_
    refine av rfl (r_build_struct (zs := Cd.cs c_api_Prefix zqU1_0) (cs := Cd.cs c_api_Prefix ({ { zqU1_0 with f_A := t8 } with f_Bits := x1 })) Try.underlying46 Try.zeroValue46 rfl (places_api_Prefix_46) rfl (fill_step (c := c_api_Addr) (z := t8) rfl (c_api_Prefix_f_A zqU1_0) rfl (fill_step (c := (cInt .i64)) (z := x1) rfl (c_api_Prefix_f_Bits ({ zqU1_0 with f_A := t8 })) rfl rfl))) ?_
    refine at_store (c := c_api_Prefix) (z := { { zqU1_0 with f_A := t8 } with f_Bits := x1 }) .z (Lens.whole _ _) Try.sizeOf46 rfl rfl rfl ?_
    refine av rfl (r_assign rfl) ?_
    refine at_nil ?_
    refine at_drop (H := _) (.s .z) ?_
    refine at_weak [(4, _), (5, _)] ⟨rfl, rfl, trivial⟩ ?_
    refine at_then_normal ?_
    refine at_ret ?_
    have K := of_some hF
    subst K
    exact at_res2 rfl (res_cell (c := c_api_Prefix) (y := { { zqU1_0 with f_A := t8 } with f_Bits := x1 }) rfl .z (Lens.whole _ _) Try.isAgg46 Try.sizeOf46 (.inl rfl)) (res_tmp rfl) (fun w1 hw => ⟨rfl, hw.below⟩)
def cidr_Right (x0 : S_api_Prefix) : Option (Bool) :=
  cidr_Of x0.f_A x0.f_Bits >>= fun t2 => if (t2.2 == 0) = true then (some (decide (t2.1 = x0))) else (some false)
theorem cidr_Right_ok (x0 : S_api_Prefix) (r : Bool) (hF : cidr_Right x0 = some r) (w : World) :
    Calls Try.prog 55 #[.agg (Cd.cs c_api_Prefix x0).toArray] w (fun e w' => e = .returned (.bool r) ∧ Below w.heap.size w w') := by
 unfold cidr_Right at hF
 refine calls_enter (l := [.agg (Cd.cs c_api_Prefix x0).toArray]) Try.func55 rfl rfl rfl ?_
 refine at_start ?_
 refine at_weak [(0, _)] ⟨rfl, trivial⟩ ?_
 refine sr ?_
 refine at_box (cs := Cd.cs c_api_Prefix x0) rfl rfl rfl ?_
 intro b1
 refine av rfl (r_assign rfl) ?_
 refine nws [(1, _)] ⟨rfl, trivial⟩ ?_
 refine av rfl (r_fieldAddr (fo := 0) Try.underlying46 rfl rfl (fun w => ⟨_, Try.sizeOf32 w⟩) rfl) ?_
 refine av rfl (r_load_aggc (c := c_api_Addr) (z := x0.f_A) Try.isAgg32 Try.sizeOf32 rfl (lens_cell .z (Lens.comp (Lens.whole _ _) (fun z => { x0 with f_A := z }) (c_api_Prefix_f_A x0)))) ?_
 refine av rfl (r_fieldAddr (fo := 17) Try.underlying46 rfl rfl (fun w => ⟨_, Try.sizeOf3 w⟩) rfl) ?_
 refine av rfl (r_load_cell Try.isAgg3 rfl (lens_cell0 (c := (cInt .i64)) (y := x0.f_Bits) .z (Lens.comp (Lens.whole _ _) (fun z => { x0 with f_Bits := z }) (c_api_Prefix_f_Bits x0)) rfl)) ?_
 obtain ⟨t2, ht2, hF⟩ := of_bindM hF
 refine at_callB Try.func70 rfl (by kernel_rfl) rfl rfl (fun w hw => cidr_Of_ok _ _ _ ht2 w) ?_
 refine av rfl (r_move rfl) ?_
 refine av rfl (r_extract rfl rfl) ?_
 refine av rfl (r_extract rfl rfl) ?_
 refine at_alloc (cs := Cd.cs c_api_Prefix zqU1_0) Try.zeroValue46 rfl rfl ?_
 intro b3
 refine at_store (c := c_api_Prefix) (z := t2.1) .z (Lens.whole _ _) Try.sizeOf46 rfl rfl rfl ?_
 refine av rfl (r_assign rfl) ?_
 refine nws [(1, _), (3, _), (4, _)] ⟨rfl, rfl, rfl, trivial⟩ ?_
 refine av rfl (r_move rfl) ?_
 refine av rfl (r_ieql rfl rfl) ?_
 refine av rfl (r_move rfl) ?_
 rcases of_ite hF with ⟨h4, hF⟩ | ⟨h4, hF⟩
 ·refine at_fix (g := 15) rfl h4 ?_
  refine at_guard_yes rfl rfl rfl ?_
  refine av rfl (r_load_aggc (c := c_api_Prefix) (z := t2.1) Try.isAgg46 Try.sizeOf46 rfl (lens_cell .z (Lens.whole _ _))) ?_
  refine at_guard_yes rfl rfl rfl ?_
  refine av rfl (r_load_aggc (c := c_api_Prefix) (z := x0) Try.isAgg46 Try.sizeOf46 rfl (lens_cell (.s .z) (Lens.whole _ _))) ?_
  refine at_guard_yes rfl rfl rfl ?_
  refine av rfl (r_eqagg (c := c_api_Prefix) (a := t2.1) (b := x0) (eq_api_Prefix_46) rfl Try.eqGuardType46 rfl rfl (.inl rfl) rfl) ?_
  refine av rfl (r_pick rfl rfl rfl) ?_
  refine av rfl (r_assign rfl) ?_
  refine at_nil ?_
  refine at_drop (H := _) .z ?_
  refine at_drop (H := _) .z ?_
  refine at_weak [(2, _)] ⟨rfl, trivial⟩ ?_
  refine at_then_normal ?_
  refine at_ret ?_
  have K := of_some hF
  subst K
  exact at_return1 rfl rfl (fun w1 hw => ⟨rfl, hw.below⟩)
 ·refine at_fix (g := 15) rfl h4 ?_
  refine at_guard_no rfl rfl rfl rfl rfl ?_
  refine at_guard_no rfl rfl rfl rfl rfl ?_
  refine at_guard_no rfl rfl rfl rfl rfl ?_
  refine av rfl (r_pick rfl rfl rfl) ?_
  refine av rfl (r_assign rfl) ?_
  refine at_nil ?_
  refine at_drop (H := _) .z ?_
  refine at_drop (H := _) .z ?_
  refine at_weak [(2, _)] ⟨rfl, trivial⟩ ?_
  refine at_then_normal ?_
  refine at_ret ?_
  have K := of_some hF
  subst K
  exact at_return1 rfl rfl (fun w1 hw => ⟨rfl, hw.below⟩)
def crawlwayref10_Right.l0 (x0 : S_api_Addr) (i4 : Int) : Option (Ctl (Bool) (Unit)) :=
  if (decide (i4 < 16)) = true then (if (0 : Int) ≤ i4 ∧ i4 < 16 then if (vget x0.f_B i4 != 0) = true then (some (.ret false)) else (crawlwayref10_Right.l0 x0 (wr .i64 (i4 + 1))) else none) else (some (.nx ()))
  partial_fixpoint
def crawlwayref10_Right (x0 : S_api_Addr) : Option (Bool) :=
  if (x0.f_V == 6) = true then (some true) else (crawlwayref10_Right.l0 x0 4 >>= fun q3 => match q3 with | .ret r' => some r' | .nx sq3 => (some (x0.f_V == 4)))
def crawlwayref10_Width (x0 : S_api_Addr) : Option (Int) :=
  crawlwayref10_Right x0 >>= fun t2 => if (!t2) = true then (some 0) else (if (x0.f_V == 4) = true then (some 32) else (some 128))
def crawlwayref10_digit.l0 (x1 : Int) (i4 : Int) (i5 : Int) : Option (Int) :=
  if (decide (i5 > Int.tmod x1 8)) = true then (crawlwayref10_digit.l0 x1 (wr .i64 (Int.tdiv i4 2)) (wr .i64 (i5 - 1))) else (some i4)
  partial_fixpoint
def crawlwayref10_digit (x0 : S_api_Addr) (x1 : Int) : Option (Int) :=
  if (0 : Int) ≤ wr .i64 (Int.tdiv x1 8) ∧ wr .i64 (Int.tdiv x1 8) < 16 then crawlwayref10_digit.l0 x1 (wr .i64 (vget x0.f_B (wr .i64 (Int.tdiv x1 8)))) 7 >>= fun q3 => some (Int.tmod q3 2) else none
def crawlwayref10_Mask.l1 (i8 : Int) (i15 : Int) (i16 : Int) : Option (Int) :=
  if (decide (i16 < Int.tmod i8 8)) = true then (crawlwayref10_Mask.l1 i8 (wr .i64 (Int.tdiv i15 2)) (wr .i64 (i16 + 1))) else (some i15)
  partial_fixpoint
def crawlwayref10_Mask.l0 (x0 : S_api_Addr) (x1 : Int) (t6 : Int) (i8 : Int) (i9 : S_api_Addr) : Option (S_api_Addr) :=
  if (decide (i8 < t6)) = true then (if (decide (i8 < x1)) = true then (crawlwayref10_digit x0 i8 >>= fun t12 => if (t12 == 1) = true then (crawlwayref10_Mask.l1 i8 128 0 >>= fun q14 => if (0 : Int) ≤ wr .i64 (Int.tdiv i8 8) ∧ wr .i64 (Int.tdiv i8 8) < 16 then if (0 : Int) ≤ wr .i64 (Int.tdiv i8 8) ∧ wr .i64 (Int.tdiv i8 8) < 16 then crawlwayref10_Mask.l0 x0 x1 t6 (wr .i64 (i8 + 1)) ({ i9 with f_B := vset i9.f_B (wr .i64 (Int.tdiv i8 8)) (wr .u8 ((vget i9.f_B (wr .i64 (Int.tdiv i8 8))) + (wr .u8 q14))) }) else none else none) else (crawlwayref10_Mask.l0 x0 x1 t6 (wr .i64 (i8 + 1)) i9)) else (some i9)) else (some i9)
  partial_fixpoint
def crawlwayref10_Mask (x0 : S_api_Addr) (x1 : Int) : Option (S_api_Addr) :=
  crawlwayref10_Right x0 >>= fun t3 => if (!t3) = true then (some ({ f_V := (0 : Int), f_B := (Vector.replicate 16 (0 : Int) : (Vector Int 16)) } : S_api_Addr)) else (crawlwayref10_Width x0 >>= fun t6 => crawlwayref10_Mask.l0 x0 x1 t6 0 ({ ({ f_V := (0 : Int), f_B := (Vector.replicate 16 (0 : Int) : (Vector Int 16)) } : S_api_Addr) with f_V := x0.f_V }) >>= fun q7 => some q7)
def crawlwayref10_Common.l0 (x0 : S_api_Addr) (x1 : S_api_Addr) (t8 : Int) (i10 : Int) : Option (Int) :=
  if (decide (i10 < t8)) = true then (crawlwayref10_digit x0 i10 >>= fun t12 => crawlwayref10_digit x1 i10 >>= fun t13 => if (t12 == t13) = true then (crawlwayref10_Common.l0 x0 x1 t8 (wr .i64 (i10 + 1))) else (some i10)) else (some i10)
  partial_fixpoint
def crawlwayref10_Common (x0 : S_api_Addr) (x1 : S_api_Addr) : Option (Int) :=
  crawlwayref10_Right x0 >>= fun t3 => if (!t3) = true then (some (-1)) else (crawlwayref10_Right x1 >>= fun t5 => if (!t5) = true then (some (-1)) else (if (x0.f_V != x1.f_V) = true then (some (-1)) else (crawlwayref10_Width x0 >>= fun t8 => crawlwayref10_Common.l0 x0 x1 t8 0 >>= fun q9 => some q9)))
def crawlwayref11_Right (x0 : S_api_Prefix) : Option (Bool) :=
  crawlwayref10_Right x0.f_A >>= fun t2 => if (!t2) = true then (some false) else (if (decide (x0.f_Bits < 0)) = true then (some false) else (crawlwayref10_Width x0.f_A >>= fun t5 => if (decide (x0.f_Bits > t5)) = true then (some false) else (crawlwayref10_Mask x0.f_A x0.f_Bits >>= fun t7 => some (decide (x0.f_A = t7)))))
def crawlwayref11_Has (x0 : S_api_Prefix) (x1 : S_api_Addr) : Option (Bool) :=
  crawlwayref11_Right x0 >>= fun t3 => if t3 = true then (crawlwayref10_Common x0.f_A x1 >>= fun t5 => some (decide (t5 ≥ x0.f_Bits))) else (some false)
def crawlwayref25_Find.l0 (x0 : List S_api_Entry) (x1 : S_api_Addr) (i5 : Bool) (i6 : Int) (i7 : S_api_Entry) : Option (Bool × S_api_Entry) :=
  if (decide (i6 < (x0.length : Int))) = true then (if (0 : Int) ≤ i6 ∧ i6 < (x0.length : Int) then crawlwayref11_Has ((lget x0 i6).f_P) x1 >>= fun t13 => if t13 = true then (if (!i5) = true then (if (0 : Int) ≤ i6 ∧ i6 < (x0.length : Int) then crawlwayref25_Find.l0 x0 x1 true (wr .i64 (i6 + 1)) (lget x0 i6) else none) else (if (0 : Int) ≤ i6 ∧ i6 < (x0.length : Int) then if (decide (((lget x0 i6).f_P).f_Bits > i7.f_P.f_Bits)) = true then (if (0 : Int) ≤ i6 ∧ i6 < (x0.length : Int) then crawlwayref25_Find.l0 x0 x1 true (wr .i64 (i6 + 1)) (lget x0 i6) else none) else (crawlwayref25_Find.l0 x0 x1 i5 (wr .i64 (i6 + 1)) i7) else none)) else (crawlwayref25_Find.l0 x0 x1 i5 (wr .i64 (i6 + 1)) i7) else none) else (some (i5, i7))
  partial_fixpoint
def crawlwayref25_Find (x0 : List S_api_Entry) (x1 : S_api_Addr) : Option (S_api_Entry × Bool) :=
  crawlwayref25_Find.l0 x0 x1 false 0 ({ f_P := ({ f_A := ({ f_V := (0 : Int), f_B := (Vector.replicate 16 (0 : Int) : (Vector Int 16)) } : S_api_Addr), f_Bits := (0 : Int) } : S_api_Prefix), f_Owner := (0 : Int) } : S_api_Entry) >>= fun q4 => some (q4.2, q4.1)
end Go.Proofs.Ythccncpephpdjaa
namespace Go.Proofs.Ythccncpephpdjaa
open E Go.RowKit
abbrev zqU2_0 : S_api_Prefix := ({ f_A := ({ f_V := (0 : Int), f_B := (Vector.replicate 16 (0 : Int) : (Vector Int 16)) } : S_api_Addr), f_Bits := (0 : Int) } : S_api_Prefix)
abbrev zqU2_1 : S_trie_node := ({ f_next := (Vector.replicate 2 (none : Option Nat) : (Vector (Option Nat) 2)), f_is := false, f_owner := (0 : Int) } : S_trie_node)
abbrev zqU2_2 : S_trie_Trie := ({ f_root := (none : Option Nat), f_family := (0 : Int), f_many := (0 : Int) } : S_trie_Trie)
def trie_New (h_ : List HV) (x0 : Int) : Option (Option Nat × List HV) :=
  if (x0 != 4) = true then (if (x0 != 6) = true then (some ((none : Option Nat), h_)) else (if hvp hK h_ (HV.trie_node ({ f_next := (Vector.replicate 2 (none : Option Nat) : (Vector (Option Nat) 2)), f_is := false, f_owner := (0 : Int) } : S_trie_node)) = true then if hvp hK (h_ ++ [HV.trie_node ({ f_next := (Vector.replicate 2 (none : Option Nat) : (Vector (Option Nat) 2)), f_is := false, f_owner := (0 : Int) } : S_trie_node)]) (HV.trie_Trie ({ { ({ f_root := (none : Option Nat), f_family := (0 : Int), f_many := (0 : Int) } : S_trie_Trie) with f_root := some (List.length h_) } with f_family := x0 })) = true then some (some (List.length (h_ ++ [HV.trie_node ({ f_next := (Vector.replicate 2 (none : Option Nat) : (Vector (Option Nat) 2)), f_is := false, f_owner := (0 : Int) } : S_trie_node)])), (h_ ++ [HV.trie_node ({ f_next := (Vector.replicate 2 (none : Option Nat) : (Vector (Option Nat) 2)), f_is := false, f_owner := (0 : Int) } : S_trie_node)]) ++ [HV.trie_Trie ({ { ({ f_root := (none : Option Nat), f_family := (0 : Int), f_many := (0 : Int) } : S_trie_Trie) with f_root := some (List.length h_) } with f_family := x0 })]) else none else none)) else (if hvp hK h_ (HV.trie_node ({ f_next := (Vector.replicate 2 (none : Option Nat) : (Vector (Option Nat) 2)), f_is := false, f_owner := (0 : Int) } : S_trie_node)) = true then if hvp hK (h_ ++ [HV.trie_node ({ f_next := (Vector.replicate 2 (none : Option Nat) : (Vector (Option Nat) 2)), f_is := false, f_owner := (0 : Int) } : S_trie_node)]) (HV.trie_Trie ({ { ({ f_root := (none : Option Nat), f_family := (0 : Int), f_many := (0 : Int) } : S_trie_Trie) with f_root := some (List.length h_) } with f_family := x0 })) = true then some (some (List.length (h_ ++ [HV.trie_node ({ f_next := (Vector.replicate 2 (none : Option Nat) : (Vector (Option Nat) 2)), f_is := false, f_owner := (0 : Int) } : S_trie_node)])), (h_ ++ [HV.trie_node ({ f_next := (Vector.replicate 2 (none : Option Nat) : (Vector (Option Nat) 2)), f_is := false, f_owner := (0 : Int) } : S_trie_node)]) ++ [HV.trie_Trie ({ { ({ f_root := (none : Option Nat), f_family := (0 : Int), f_many := (0 : Int) } : S_trie_Trie) with f_root := some (List.length h_) } with f_family := x0 })]) else none else none)
theorem trie_New_ok {h_ : List HV} {x0 : Int} {r : Option Nat × List HV} (hF : trie_New h_ x0 = some r) : ∀ {w0 w : World} {G_ : List Ent} {g0_ : Nat → Nat} {n0_ : Nat} {gh : Nat → Nat} (hw_ : Wd w0 (heapE hK g0_ n0_ gh h_ :: G_) w),
    Calls Try.prog 24 #[.int .i64 x0] w (fun e w' => ∃ (gh : Nat → Nat), e = .returned (pv gh r.1) ∧ Wd w0 (heapE hK g0_ n0_ gh r.2 :: G_) w') := by
 intro w0 w G_ g0_ n0_ gh hw_
 unfold trie_New at hF
 refine calls_enter (l := [.int .i64 x0]) Try.func24 rfl rfl rfl ?_
 refine at_enterF hw_ ?_
 refine at_weak [(0, _)] ⟨rfl, trivial⟩ ?_
 refine sr ?_
 refine av rfl (r_assign rfl) ?_
 refine nwt [(0, _)] ⟨rfl, trivial⟩ ?_
 refine at_seq ?_
 refine sr ?_
 refine av rfl (r_move rfl) ?_
 refine av rfl (r_ineq rfl rfl) ?_
 refine av rfl (r_move rfl) ?_
 rcases of_ite hF with ⟨h1, hF⟩ | ⟨h1, hF⟩
 ·refine at_fix (g := 5) rfl h1 ?_
  refine at_guard_yes rfl rfl rfl ?_
  refine av rfl (r_move rfl) ?_
  refine at_guard_yes rfl rfl rfl ?_
  refine av rfl (r_ineq rfl rfl) ?_
  refine av rfl (r_pick rfl rfl rfl) ?_
  refine nwt [(0, _), (8, _)] ⟨rfl, rfl, trivial⟩ ?_
  rcases of_ite hF with ⟨h2, hF⟩ | ⟨h2, hF⟩
  ·refine at_cond_true rfl h2 ?_
   refine sr ?_
   refine av rfl (r_assign rfl) ?_
   refine nwt [(2, _)] ⟨rfl, trivial⟩ ?_
   refine rt ?_
   have K := of_some hF
   subst K
   exact at_return1 rfl rfl (fun w1 hw => ⟨gh, rfl, hw⟩)
  ·refine at_cond_false rfl h2 ?_
   refine sns ?_
   refine av rfl (r_build_struct (zs := Cd.cs (c_trie_node gh) zqU2_1) (cs := Cd.cs (c_trie_node gh) zqU2_1) Try.underlying103 Try.zeroValue103 rfl (places_trie_node_103) rfl rfl) ?_
   obtain ⟨h5, hF⟩ := of_guard hF
   refine at_box (cs := Cd.cs (c_trie_node gh) zqU2_1) rfl rfl rfl ?_
   intro b_
   refine at_hpush (v := HV.trie_node zqU2_1) .z h5 (fun g' hg' => hK.ext gh g' (HV.trie_node zqU2_1) _ hg' rfl) ?_
   intro gh hg4
   refine av rfl (r_move rfl) ?_
   refine av rfl (r_build_struct (zs := Cd.cs (c_trie_Trie gh) zqU2_2) (cs := Cd.cs (c_trie_Trie gh) ({ { zqU2_2 with f_root := some (List.length h_) } with f_family := x0 })) Try.underlying105 Try.zeroValue105 rfl (places_trie_Trie_105) rfl (fill_step (c := (cPtr gh)) (z := some (List.length h_)) rfl (c_trie_Trie_f_root gh zqU2_2) rfl (fill_step (c := (cInt .i64)) (z := x0) rfl (c_trie_Trie_f_family gh ({ zqU2_2 with f_root := some (List.length h_) })) rfl rfl))) ?_
   obtain ⟨h8, hF⟩ := of_guard hF
   refine at_box (cs := Cd.cs (c_trie_Trie gh) ({ { zqU2_2 with f_root := some (List.length h_) } with f_family := x0 })) rfl rfl rfl ?_
   intro b_
   refine at_hpush (v := HV.trie_Trie ({ { zqU2_2 with f_root := some (List.length h_) } with f_family := x0 })) .z h8 (fun g' hg' => hK.ext gh g' (HV.trie_Trie ({ { zqU2_2 with f_root := some (List.length h_) } with f_family := x0 })) _ hg' rfl) ?_
   intro gh hg7
   refine av rfl (r_assign rfl) ?_
   refine nwt [(2, _)] ⟨rfl, trivial⟩ ?_
   refine at_ret ?_
   have K := of_some hF
   subst K
   exact at_return1 rfl rfl (fun w1 hw => ⟨gh, rfl, hw⟩)
 ·refine at_fix (g := 5) rfl h1 ?_
  refine at_guard_no rfl rfl rfl rfl rfl ?_
  refine at_guard_no rfl rfl rfl rfl rfl ?_
  refine av rfl (r_pick rfl rfl rfl) ?_
  refine nwt [(0, _), (8, _)] ⟨rfl, rfl, trivial⟩ ?_
  refine at_cond_false rfl rfl ?_
  refine sns ?_
  refine av rfl (r_build_struct (zs := Cd.cs (c_trie_node gh) zqU2_1) (cs := Cd.cs (c_trie_node gh) zqU2_1) Try.underlying103 Try.zeroValue103 rfl (places_trie_node_103) rfl rfl) ?_
  obtain ⟨h11, hF⟩ := of_guard hF
  refine at_box (cs := Cd.cs (c_trie_node gh) zqU2_1) rfl rfl rfl ?_
  intro b_
  refine at_hpush (v := HV.trie_node zqU2_1) .z h11 (fun g' hg' => hK.ext gh g' (HV.trie_node zqU2_1) _ hg' rfl) ?_
  intro gh hg10
  refine av rfl (r_move rfl) ?_
  refine av rfl (r_build_struct (zs := Cd.cs (c_trie_Trie gh) zqU2_2) (cs := Cd.cs (c_trie_Trie gh) ({ { zqU2_2 with f_root := some (List.length h_) } with f_family := x0 })) Try.underlying105 Try.zeroValue105 rfl (places_trie_Trie_105) rfl (fill_step (c := (cPtr gh)) (z := some (List.length h_)) rfl (c_trie_Trie_f_root gh zqU2_2) rfl (fill_step (c := (cInt .i64)) (z := x0) rfl (c_trie_Trie_f_family gh ({ zqU2_2 with f_root := some (List.length h_) })) rfl rfl))) ?_
  obtain ⟨h14, hF⟩ := of_guard hF
  refine at_box (cs := Cd.cs (c_trie_Trie gh) ({ { zqU2_2 with f_root := some (List.length h_) } with f_family := x0 })) rfl rfl rfl ?_
  intro b_
  refine at_hpush (v := HV.trie_Trie ({ { zqU2_2 with f_root := some (List.length h_) } with f_family := x0 })) .z h14 (fun g' hg' => hK.ext gh g' (HV.trie_Trie ({ { zqU2_2 with f_root := some (List.length h_) } with f_family := x0 })) _ hg' rfl) ?_
  intro gh hg13
  refine av rfl (r_assign rfl) ?_
  refine nwt [(2, _)] ⟨rfl, trivial⟩ ?_
  refine at_ret ?_
  have K := of_some hF
  subst K
  exact at_return1 rfl rfl (fun w1 hw => ⟨gh, rfl, hw⟩)
def trie_Trie_check (h_ : List HV) (x0 : Option Nat) (x1 : S_api_Prefix) : Option (Int) :=
  if (Option.isNone x0) = true then (some 2) else (cidr_Right x1 >>= fun t3 => if (!t3) = true then (some 1) else (hn_trie_Trie h_ x0 >>= fun t5 => if (x1.f_A.f_V != t5.2.f_family) = true then (some 1) else (some 0)))
theorem trie_Trie_check_ok {h_ : List HV} {x0 : Option Nat} {x1 : S_api_Prefix} {r : Int} (hF : trie_Trie_check h_ x0 x1 = some r) : ∀ {w0 w : World} {G_ : List Ent} {g0_ : Nat → Nat} {n0_ : Nat} {gh : Nat → Nat} (hw_ : Wd w0 (heapE hK g0_ n0_ gh h_ :: G_) w),
    Calls Try.prog 76 #[pv gh x0, .agg (Cd.cs c_api_Prefix x1).toArray] w (fun e w' => e = .returned (.int .i64 r) ∧ Wd w0 (heapE hK g0_ n0_ gh h_ :: G_) w') := by
 intro w0 w G_ g0_ n0_ gh hw_
 unfold trie_Trie_check at hF
 refine calls_enter (l := [pv gh x0, .agg (Cd.cs c_api_Prefix x1).toArray]) Try.func76 rfl rfl rfl ?_
 refine at_enterF hw_ ?_
 refine at_weak [(0, _), (1, _)] ⟨rfl, rfl, trivial⟩ ?_
 refine sr ?_
 refine at_box (cs := Cd.cs c_api_Prefix x1) rfl rfl rfl ?_
 intro b1
 refine av rfl (r_assign rfl) ?_
 refine nwt [(0, _), (3, _)] ⟨rfl, rfl, trivial⟩ ?_
 refine at_seq ?_
 refine at_block ?_
 refine sr ?_
 refine av rfl (r_move rfl) ?_
 refine av rfl (r_pnil (p := x0) Try.underlying42 rfl rfl (.inl rfl) rfl) ?_
 refine av rfl (r_assign rfl) ?_
 refine nwt [(0, _), (3, _), (5, _)] ⟨rfl, rfl, rfl, trivial⟩ ?_
 rcases of_ite hF with ⟨h2, hF⟩ | ⟨h2, hF⟩
 ·refine at_cond_true rfl h2 ?_
  refine sr ?_
  refine av rfl (r_assign rfl) ?_
  refine at_nil ?_
  refine at_drop (H := _) .z ?_
  refine at_weak [(4, _)] ⟨rfl, trivial⟩ ?_
  refine at_then_normal ?_
  refine at_ret ?_
  refine at_blk_ret (at_then_ret ?_)
  have K := of_some hF
  subst K
  exact at_return1 rfl rfl (fun w1 hw => ⟨rfl, hw⟩)
 ·refine at_cond_false rfl h2 ?_
  refine at_seq ?_
  refine at_draw (by kernel_rfl) (by kernel_rfl) (fun _ h => h.drew) ?_
  refine atq_val rfl rfl rfl (r_load_aggc (c := c_api_Prefix) (z := x1) Try.isAgg46 Try.sizeOf46 rfl (lens_cell .z (Lens.whole _ _))) ?_
  obtain ⟨t3, ht3, hF⟩ := of_bindM hF
  refine atq_call Try.func55 rfl (by kernel_rfl) rfl rfl (fun w hw => (cidr_Right_ok _ _ ht3 w).mono fun _ _ h => ⟨h.1, hw.call h.2⟩) ?_
  refine atq_val rfl rfl rfl (r_not rfl) ?_
  refine atq_val rfl rfl rfl (r_move rfl) ?_
  rcases of_ite hF with ⟨h4, hF⟩ | ⟨h4, hF⟩
  ·refine atq_fix (g := 12) rfl h4 ?_
   refine atq_guard_no rfl rfl rfl rfl rfl ?_
   refine atq_guard_no rfl rfl rfl rfl rfl ?_
   refine atq_guard_no rfl rfl rfl rfl rfl ?_
   refine atq_guard_no rfl rfl rfl rfl rfl ?_
   refine atq_guard_no rfl rfl rfl rfl rfl ?_
   refine atq_guard_no rfl rfl rfl rfl rfl ?_
   refine atq_guard_no rfl rfl rfl rfl rfl ?_
   refine atq_guard_no rfl rfl rfl rfl rfl ?_
   refine atq_val rfl rfl rfl (r_pick rfl rfl rfl) ?_
   refine atq_val rfl rfl rfl (r_assign rfl) ?_
   refine atq_nil ?_
   refine at_drop (H := _) .z ?_
   refine at_weak [(8, _)] ⟨rfl, trivial⟩ ?_
   refine at_then_normal ?_
   refine at_cond_true rfl rfl ?_
   refine sr ?_
   refine av rfl (r_assign rfl) ?_
   refine nwt [(4, _)] ⟨rfl, trivial⟩ ?_
   refine at_ret ?_
   refine at_blk_ret (at_then_ret ?_)
   have K := of_some hF
   subst K
   exact at_return1 rfl rfl (fun w1 hw => ⟨rfl, hw⟩)
  ·refine atq_fix (g := 12) rfl h4 ?_
   refine atq_guard_yes rfl rfl rfl ?_
   refine atq_val rfl rfl rfl (r_fieldAddr (fo := 0) Try.underlying46 rfl rfl (fun w => ⟨_, Try.sizeOf32 w⟩) rfl) ?_
   refine atq_guard_yes rfl rfl rfl ?_
   refine atq_val rfl rfl rfl (r_fieldAddr (fo := 0) Try.underlying32 rfl rfl (fun w => ⟨_, Try.sizeOf3 w⟩) rfl) ?_
   refine atq_guard_yes rfl rfl rfl ?_
   refine atq_val rfl rfl rfl (r_load_cell Try.isAgg3 rfl (lens_cell0 (c := (cInt .i64)) (y := x1.f_A.f_V) .z (Lens.comp (Lens.comp (Lens.whole _ _) (fun z => { x1 with f_A := z }) (c_api_Prefix_f_A x1)) (fun z => { x1.f_A with f_V := z }) (c_api_Addr_f_V x1.f_A)) rfl)) ?_
   refine atq_guard_yes rfl rfl rfl ?_
   refine atq_val rfl rfl rfl (r_move rfl) ?_
   refine atq_guard_yes rfl rfl rfl ?_
   obtain ⟨t5, ht5, hF⟩ := of_bindM hF
   obtain ⟨ha6, hb7⟩ := hn_trie_Trie_at ht5
   refine atq_val rfl rfl rfl (r_npc rfl ha6) ?_
   refine atq_guard_yes rfl rfl rfl ?_
   refine atq_val rfl rfl rfl (r_fieldAddr (fo := 1) Try.underlying105 rfl rfl (fun w => ⟨_, Try.sizeOf3 w⟩) rfl) ?_
   refine atq_guard_yes rfl rfl rfl ?_
   refine atq_val rfl rfl rfl (r_load_cell Try.isAgg3 rfl (hcell0 (c := (cInt .i64)) (y := t5.2.f_family) (.s .z) hb7 (fun _ h => h) (Lens.comp (Lens.whole _ _) (fun z => { t5.2 with f_family := z }) (c_trie_Trie_f_family gh t5.2)) rfl)) ?_
   refine atq_guard_yes rfl rfl rfl ?_
   refine atq_val rfl rfl rfl (r_ineq rfl rfl) ?_
   refine atq_val rfl rfl rfl (r_pick rfl rfl rfl) ?_
   refine atq_val rfl rfl rfl (r_assign rfl) ?_
   refine atq_nil ?_
   refine at_drop (H := _) .z ?_
   refine at_weak [(8, _)] ⟨rfl, trivial⟩ ?_
   refine at_then_normal ?_
   rcases of_ite hF with ⟨h8, hF⟩ | ⟨h8, hF⟩
   ·refine at_cond_true rfl h8 ?_
    refine sr ?_
    refine av rfl (r_assign rfl) ?_
    refine nwt [(4, _)] ⟨rfl, trivial⟩ ?_
    refine at_ret ?_
    refine at_blk_ret (at_then_ret ?_)
    have K := of_some hF
    subst K
    exact at_return1 rfl rfl (fun w1 hw => ⟨rfl, hw⟩)
   ·refine at_cond_false rfl h8 ?_
    refine at_skip ?_
    refine at_blk_normal (at_then_normal ?_)
    refine sr ?_
    refine av rfl (r_assign rfl) ?_
    refine nwt [(4, _)] ⟨rfl, trivial⟩ ?_
    refine at_ret ?_
    have K := of_some hF
    subst K
    exact at_return1 rfl rfl (fun w1 hw => ⟨rfl, hw⟩)
def trie_Trie_Put.l0 (x0 : Option Nat) (x1 : S_api_Prefix) (i8 : Option Nat) (i9 : Int) (i10 : List HV) : Option (Option Nat × List HV) :=
  if (decide (i9 < x1.f_Bits)) = true then (addr_Bit x1.f_A i9 >>= fun t12 => hn_trie_node i10 i8 >>= fun t13 => if (0 : Int) ≤ t12 ∧ t12 < 2 then if (Option.isNone (vget t13.2.f_next t12)) = true then (if vp (List.length i10) x0 = true then if vp (List.length i10) i8 = true then if vp (List.length i10) i8 = true then if hvp hK i10 (HV.trie_node ({ f_next := (Vector.replicate 2 (none : Option Nat) : (Vector (Option Nat) 2)), f_is := false, f_owner := (0 : Int) } : S_trie_node)) = true then hn_trie_node (i10 ++ [HV.trie_node ({ f_next := (Vector.replicate 2 (none : Option Nat) : (Vector (Option Nat) 2)), f_is := false, f_owner := (0 : Int) } : S_trie_node)]) i8 >>= fun t24 => if (0 : Int) ≤ t12 ∧ t12 < 2 then if vp (List.length (i10 ++ [HV.trie_node ({ f_next := (Vector.replicate 2 (none : Option Nat) : (Vector (Option Nat) 2)), f_is := false, f_owner := (0 : Int) } : S_trie_node)])) (some (List.length i10)) = true then hn_trie_node (List.set (i10 ++ [HV.trie_node ({ f_next := (Vector.replicate 2 (none : Option Nat) : (Vector (Option Nat) 2)), f_is := false, f_owner := (0 : Int) } : S_trie_node)]) t24.1 (HV.trie_node ({ t24.2 with f_next := vset t24.2.f_next t12 (some (List.length i10)) }))) i8 >>= fun t29 => if (0 : Int) ≤ t12 ∧ t12 < 2 then trie_Trie_Put.l0 x0 x1 (vget t29.2.f_next t12) (wr .i64 (i9 + 1)) (List.set (i10 ++ [HV.trie_node ({ f_next := (Vector.replicate 2 (none : Option Nat) : (Vector (Option Nat) 2)), f_is := false, f_owner := (0 : Int) } : S_trie_node)]) t24.1 (HV.trie_node ({ t24.2 with f_next := vset t24.2.f_next t12 (some (List.length i10)) }))) else none else none else none else none else none else none else none) else (hn_trie_node i10 i8 >>= fun t33 => if (0 : Int) ≤ t12 ∧ t12 < 2 then trie_Trie_Put.l0 x0 x1 (vget t33.2.f_next t12) (wr .i64 (i9 + 1)) i10 else none) else none) else (some (i8, i10))
  partial_fixpoint
def trie_Trie_Put (h_ : List HV) (x0 : Option Nat) (x1 : S_api_Prefix) (x2 : Int) : Option (Int × List HV) :=
  trie_Trie_check h_ x0 x1 >>= fun t2 => if (t2 != 0) = true then (some (t2, h_)) else (hn_trie_Trie h_ x0 >>= fun t4 => trie_Trie_Put.l0 x0 x1 t4.2.f_root 0 h_ >>= fun q7 => hn_trie_node q7.2 q7.1 >>= fun t37 => if (!t37.2.f_is) = true then (hn_trie_Trie q7.2 x0 >>= fun t41 => hn_trie_Trie q7.2 x0 >>= fun t44 => hn_trie_node (List.set q7.2 t44.1 (HV.trie_Trie ({ t44.2 with f_many := wr .i64 (t41.2.f_many + 1) }))) q7.1 >>= fun t47 => hn_trie_node (List.set (List.set q7.2 t44.1 (HV.trie_Trie ({ t44.2 with f_many := wr .i64 (t41.2.f_many + 1) }))) t47.1 (HV.trie_node ({ t47.2 with f_is := true }))) q7.1 >>= fun t50 => some (0, List.set (List.set (List.set q7.2 t44.1 (HV.trie_Trie ({ t44.2 with f_many := wr .i64 (t41.2.f_many + 1) }))) t47.1 (HV.trie_node ({ t47.2 with f_is := true }))) t50.1 (HV.trie_node ({ t50.2 with f_owner := x2 })))) else (hn_trie_node q7.2 q7.1 >>= fun t53 => hn_trie_node (List.set q7.2 t53.1 (HV.trie_node ({ t53.2 with f_is := true }))) q7.1 >>= fun t56 => some (0, List.set (List.set q7.2 t53.1 (HV.trie_node ({ t53.2 with f_is := true }))) t56.1 (HV.trie_node ({ t56.2 with f_owner := x2 })))))
theorem trie_Trie_Put_ok {h_ : List HV} {x0 : Option Nat} {x1 : S_api_Prefix} {x2 : Int} {r : Int × List HV} (hF : trie_Trie_Put h_ x0 x1 x2 = some r) : ∀ {w0 w : World} {G_ : List Ent} {g0_ : Nat → Nat} {n0_ : Nat} {gh : Nat → Nat} (hw_ : Wd w0 (heapE hK g0_ n0_ gh h_ :: G_) w),
    Calls Try.prog 33 #[pv gh x0, .agg (Cd.cs c_api_Prefix x1).toArray, .int .i64 x2] w (fun e w' => ∃ (gh : Nat → Nat), e = .returned (.int .i64 r.1) ∧ Wd w0 (heapE hK g0_ n0_ gh r.2 :: G_) w') := by
 intro w0 w G_ g0_ n0_ gh hw_
 unfold trie_Trie_Put at hF
 refine calls_enter (l := [pv gh x0, .agg (Cd.cs c_api_Prefix x1).toArray, .int .i64 x2]) Try.func33 rfl rfl rfl ?_
 refine at_enterF hw_ ?_
 refine at_weak [(0, _), (1, _), (2, _)] ⟨rfl, rfl, rfl, trivial⟩ ?_
 refine sr ?_
 refine at_box (cs := Cd.cs c_api_Prefix x1) rfl rfl rfl ?_
 intro b1
 refine av rfl (r_assign rfl) ?_
 refine nwt [(0, _), (2, _), (4, _)] ⟨rfl, rfl, rfl, trivial⟩ ?_
 refine at_seq ?_
 refine sr ?_
 refine av rfl (r_move rfl) ?_
 refine av rfl (r_load_aggc (c := c_api_Prefix) (z := x1) Try.isAgg46 Try.sizeOf46 rfl (lens_cell .z (Lens.whole _ _))) ?_
 obtain ⟨t2, ht2, hF⟩ := of_bindM hF
 refine at_callR (.s .z) Try.func76 rfl (by kernel_rfl) rfl rfl (fun w hw => trie_Trie_check_ok ht2 hw) ?_
 refine av rfl (r_assign rfl) ?_
 refine nws [(0, _), (2, _), (4, _), (7, _)] ⟨rfl, rfl, rfl, rfl, trivial⟩ ?_
 refine av rfl (r_move rfl) ?_
 refine av rfl (r_ineq rfl rfl) ?_
 refine nwt [(0, _), (2, _), (4, _), (7, _), (15, _)] ⟨rfl, rfl, rfl, rfl, rfl, trivial⟩ ?_
 rcases of_ite hF with ⟨h3, hF⟩ | ⟨h3, hF⟩
 ·refine at_cond_true rfl h3 ?_
  refine sr ?_
  refine av rfl (r_move rfl) ?_
  refine av rfl (r_assign rfl) ?_
  refine at_nil ?_
  refine at_drop (H := _) .z ?_
  refine at_weak [(6, _)] ⟨rfl, trivial⟩ ?_
  refine at_then_normal ?_
  refine rt ?_
  have K := of_some hF
  subst K
  exact at_return1 rfl rfl (fun w1 hw => ⟨gh, rfl, hw⟩)
 ·refine at_cond_false rfl h3 ?_
  refine sns ?_
  refine av rfl (r_move rfl) ?_
  obtain ⟨t4, ht4, hF⟩ := of_bindM hF
  obtain ⟨ha5, hb6⟩ := hn_trie_Trie_at ht4
  refine av rfl (r_npc rfl ha5) ?_
  refine av rfl (r_fieldAddr (fo := 0) Try.underlying105 rfl rfl (fun w => ⟨_, Try.sizeOf100 w⟩) rfl) ?_
  refine av rfl (r_load_cell Try.isAgg100 rfl (hcell0 (c := (cPtr gh)) (y := t4.2.f_root) (.s .z) hb6 (fun _ h => h) (Lens.comp (Lens.whole _ _) (fun z => { t4.2 with f_root := z }) (c_trie_Trie_f_root gh t4.2)) rfl)) ?_
  refine av rfl (r_assign rfl) ?_
  refine nwt [(0, _), (2, _), (4, _), (8, _)] ⟨rfl, rfl, rfl, rfl, trivial⟩ ?_
  refine at_seq ?_
  refine sr ?_
  refine av rfl (r_fieldAddr (fo := 17) Try.underlying46 rfl rfl (fun w => ⟨_, Try.sizeOf3 w⟩) rfl) ?_
  refine av rfl (r_load_cell Try.isAgg3 rfl (lens_cell0 (c := (cInt .i64)) (y := x1.f_Bits) .z (Lens.comp (Lens.whole _ _) (fun z => { x1 with f_Bits := z }) (c_api_Prefix_f_Bits x1)) rfl)) ?_
  refine av rfl (r_move rfl) ?_
  refine nwt [(0, _), (2, _), (4, _), (8, _), (22, _), (23, _)] ⟨rfl, rfl, rfl, rfl, rfl, rfl, trivial⟩ ?_
  refine at_block ?_
  obtain ⟨q7, hq7, hF⟩ := of_bindM hF
  refine at_weak [(0, _), (2, _), (4, _), (8, _), (22, _), (23, _)] ⟨rfl, rfl, rfl, rfl, rfl, rfl, trivial⟩ ?_
  refine at_loop_n (B := 0) (A := fun Y => ∀ (gh : Nat → Nat), At 70 [(0, pv gh x0), (2, .int .i64 x2), (8, pv gh q7.1)] (Wd w0 (heapE hK g0_ n0_ gh q7.2 :: G_)) Y) ?_ ?_
  ·intro K
   refine trie_Trie_Put.l0.partial_correctness x0 x1 (motive := fun i8 i9 i10 x => KN (fun Y => ∀ (gh : Nat → Nat), At 70 [(0, pv gh x0), (2, .int .i64 x2), (8, pv gh x.1)] (Wd w0 (heapE hK g0_ n0_ gh x.2 :: G_)) Y) _ 0 → Round (fun Y => ∀ (gh : Nat → Nat), At 70 [(0, pv gh x0), (2, .int .i64 x2), (4, .pointer (some ⟨b1, 0, none⟩)), (8, pv gh i8), (22, .int .i64 x1.f_Bits), (23, .int .i64 i9)] (Wd w0 (cellsE b1 (Cd.cs c_api_Prefix x1) 46 :: heapE hK g0_ n0_ gh i10 :: G_)) Y) _ _ _) ?_ _ _ _ _ hq7 K gh
   ·clear K hF
    intro g ih i8 i9 i10 x hF K gh
    refine at_round ?_
    refine sr ?_
    refine av rfl (r_ilss rfl rfl) ?_
    refine nwt [(0, _), (2, _), (4, _), (8, _), (22, _), (23, _), (24, _)] ⟨rfl, rfl, rfl, rfl, rfl, rfl, rfl, trivial⟩ ?_
    refine at_seq ?_
    rcases of_ite hF with ⟨h11, hF⟩ | ⟨h11, hF⟩
    ·refine at_cond_true rfl h11 ?_
     refine sn ?_
     refine at_seq ?_
     refine at_block ?_
     refine sr ?_
     refine av rfl (r_move rfl) ?_
     refine av rfl (r_assign rfl) ?_
     refine nws [(0, _), (2, _), (4, _), (8, _), (9, _), (22, _), (23, _)] ⟨rfl, rfl, rfl, rfl, rfl, rfl, rfl, trivial⟩ ?_
     refine av rfl (r_fieldAddr (fo := 0) Try.underlying46 rfl rfl (fun w => ⟨_, Try.sizeOf32 w⟩) rfl) ?_
     refine av rfl (r_load_aggc (c := c_api_Addr) (z := x1.f_A) Try.isAgg32 Try.sizeOf32 rfl (lens_cell .z (Lens.comp (Lens.whole _ _) (fun z => { x1 with f_A := z }) (c_api_Prefix_f_A x1)))) ?_
     refine av rfl (r_move rfl) ?_
     obtain ⟨t12, ht12, hF⟩ := of_bindM hF
     refine at_callB Try.func72 rfl (by kernel_rfl) rfl rfl (fun w hw => addr_Bit_ok _ _ _ ht12 w) ?_
     refine av rfl (r_assign rfl) ?_
     refine nwt [(0, _), (2, _), (4, _), (8, _), (10, _), (22, _), (23, _)] ⟨rfl, rfl, rfl, rfl, rfl, rfl, rfl, trivial⟩ ?_
     refine at_seq ?_
     refine sr ?_
     refine av rfl (r_move rfl) ?_
     refine av rfl (r_move rfl) ?_
     obtain ⟨t13, ht13, hF⟩ := of_bindM hF
     obtain ⟨ha14, hb15⟩ := hn_trie_node_at ht13
     refine av rfl (r_npc rfl ha14) ?_
     refine av rfl (r_fieldAddr (fo := 0) Try.underlying103 rfl rfl (fun w => ⟨_, Try.sizeOf101 w⟩) rfl) ?_
     obtain ⟨h16, hF⟩ := of_guard hF
     refine av rfl (r_idxArr Try.underlying101 Try.sizeOf100 rfl rfl h16) ?_
     refine av rfl (r_load_cell Try.isAgg100 rfl (hcell0 (c := (cPtr gh)) (y := vget t13.2.f_next t12) (.s .z) hb15 (fun _ h => h) (Lens.comp (Lens.comp (Lens.whole _ _) (fun z => { t13.2 with f_next := z }) (c_trie_node_f_next gh t13.2)) (fun z => vset t13.2.f_next t12 z) (Lens.vec (cPtr gh) (by decide) t13.2.f_next t12 h16)) rfl)) ?_
     refine av rfl (r_pnil (p := vget t13.2.f_next t12) Try.underlying100 rfl rfl (.inl rfl) rfl) ?_
     refine nwt [(0, _), (2, _), (4, _), (8, _), (10, _), (22, _), (23, _), (36, _)] ⟨rfl, rfl, rfl, rfl, rfl, rfl, rfl, rfl, trivial⟩ ?_
     rcases of_ite hF with ⟨h17, hF⟩ | ⟨h17, hF⟩
     ·refine at_cond_true rfl h17 ?_
      refine at_region ?_
      refine av rfl (r_move rfl) ?_
      refine av rfl (r_move rfl) ?_
      refine av rfl (r_build_struct (zs := Cd.cs (c_trie_node gh) zqU2_1) (cs := Cd.cs (c_trie_node gh) zqU2_1) Try.underlying103 Try.zeroValue103 rfl (places_trie_node_103) rfl rfl) ?_
      obtain ⟨h20, hF⟩ := of_guard hF
      obtain ⟨h21, hF⟩ := of_guard hF
      obtain ⟨h22, hF⟩ := of_guard hF
      obtain ⟨h23, hF⟩ := of_guard hF
      refine at_box (cs := Cd.cs (c_trie_node gh) zqU2_1) rfl rfl rfl ?_
      intro b_
      refine at_hpush (v := HV.trie_node zqU2_1) (.s .z) h23 (fun g' hg' => hK.ext gh g' (HV.trie_node zqU2_1) _ hg' rfl) ?_
      intro gh hg19
      refine at_ov (t := 0) rfl (pv_ext hg19 h20) ?_
      refine at_ov (t := 8) rfl (pv_ext hg19 h21) ?_
      refine at_ov (t := 37) rfl (pv_ext hg19 h22) ?_
      obtain ⟨t24, ht24, hF⟩ := of_bindM hF
      obtain ⟨ha25, hb26⟩ := hn_trie_node_at ht24
      refine av rfl (r_npc rfl ha25) ?_
      refine av rfl (r_fieldAddr (fo := 0) Try.underlying103 rfl rfl (fun w => ⟨_, Try.sizeOf101 w⟩) rfl) ?_
      obtain ⟨h27, hF⟩ := of_guard hF
      refine av rfl (r_idxArr Try.underlying101 Try.sizeOf100 rfl rfl h27) ?_
      obtain ⟨h28, hF⟩ := of_guard hF
      refine at_hstore (v' := HV.trie_node ({ t24.2 with f_next := vset t24.2.f_next t12 (some (List.length i10)) })) (c := (cPtr gh)) (z := some (List.length i10)) (.s .z) hb26 (fun _ h => h) (Lens.comp (Lens.comp (Lens.whole _ _) (fun z => { t24.2 with f_next := z }) (c_trie_node_f_next gh t24.2)) (fun z => vset t24.2.f_next t12 z) (Lens.vec (cPtr gh) (by decide) t24.2.f_next t12 h27)) (by rfl) (fun j hj => (mem_vset hj).imp id (fun e => vp_lt h28 j e)) Try.sizeOf100 rfl rfl rfl ?_
      refine nwt [(0, _), (2, _), (4, _), (8, _), (10, _), (22, _), (23, _)] ⟨rfl, rfl, rfl, rfl, rfl, rfl, rfl, trivial⟩ ?_
      refine at_region ?_
      refine av rfl (r_move rfl) ?_
      refine av rfl (r_move rfl) ?_
      obtain ⟨t29, ht29, hF⟩ := of_bindM hF
      obtain ⟨ha30, hb31⟩ := hn_trie_node_at ht29
      refine av rfl (r_npc rfl ha30) ?_
      refine av rfl (r_fieldAddr (fo := 0) Try.underlying103 rfl rfl (fun w => ⟨_, Try.sizeOf101 w⟩) rfl) ?_
      obtain ⟨h32, hF⟩ := of_guard hF
      refine av rfl (r_idxArr Try.underlying101 Try.sizeOf100 rfl rfl h32) ?_
      refine av rfl (r_load_cell Try.isAgg100 rfl (hcell0 (c := (cPtr gh)) (y := vget t29.2.f_next t12) (.s .z) hb31 (fun _ h => h) (Lens.comp (Lens.comp (Lens.whole _ _) (fun z => { t29.2 with f_next := z }) (c_trie_node_f_next gh t29.2)) (fun z => vset t29.2.f_next t12 z) (Lens.vec (cPtr gh) (by decide) t29.2.f_next t12 h32)) rfl)) ?_
      refine av rfl (r_assign rfl) ?_
      refine at_nil ?_
      refine at_weak [(0, _), (2, _), (4, _), (8, _), (22, _), (23, _)] ⟨rfl, rfl, rfl, rfl, rfl, rfl, trivial⟩ ?_
      refine at_blk_normal (at_then_normal ?_)
      refine at_region ?_
      refine av rfl (r_iadd rfl rfl) ?_
      refine av rfl (r_move rfl) ?_
      refine nwt [(0, _), (2, _), (4, _), (8, _), (22, _), (23, _)] ⟨rfl, rfl, rfl, rfl, rfl, rfl, trivial⟩ ?_
      exact at_weak_k (ih _ _ _ _ hF K gh) ⟨rfl, rfl, rfl, rfl, rfl, rfl, trivial⟩
     ·refine at_cond_false rfl h17 ?_
      refine sn ?_
      refine at_region ?_
      refine av rfl (r_move rfl) ?_
      refine av rfl (r_move rfl) ?_
      obtain ⟨t33, ht33, hF⟩ := of_bindM hF
      obtain ⟨ha34, hb35⟩ := hn_trie_node_at ht33
      refine av rfl (r_npc rfl ha34) ?_
      refine av rfl (r_fieldAddr (fo := 0) Try.underlying103 rfl rfl (fun w => ⟨_, Try.sizeOf101 w⟩) rfl) ?_
      obtain ⟨h36, hF⟩ := of_guard hF
      refine av rfl (r_idxArr Try.underlying101 Try.sizeOf100 rfl rfl h36) ?_
      refine av rfl (r_load_cell Try.isAgg100 rfl (hcell0 (c := (cPtr gh)) (y := vget t33.2.f_next t12) (.s .z) hb35 (fun _ h => h) (Lens.comp (Lens.comp (Lens.whole _ _) (fun z => { t33.2 with f_next := z }) (c_trie_node_f_next gh t33.2)) (fun z => vset t33.2.f_next t12 z) (Lens.vec (cPtr gh) (by decide) t33.2.f_next t12 h36)) rfl)) ?_
      refine av rfl (r_assign rfl) ?_
      refine at_nil ?_
      refine at_weak [(0, _), (2, _), (4, _), (8, _), (22, _), (23, _)] ⟨rfl, rfl, rfl, rfl, rfl, rfl, trivial⟩ ?_
      refine at_blk_normal (at_then_normal ?_)
      refine at_region ?_
      refine av rfl (r_iadd rfl rfl) ?_
      refine av rfl (r_move rfl) ?_
      refine nwt [(0, _), (2, _), (4, _), (8, _), (22, _), (23, _)] ⟨rfl, rfl, rfl, rfl, rfl, rfl, trivial⟩ ?_
      exact at_weak_k (ih _ _ _ _ hF K gh) ⟨rfl, rfl, rfl, rfl, rfl, rfl, trivial⟩
    ·refine at_cond_false rfl h11 ?_
     refine at_exit ?_
     refine at_then_exit (at_then_exit ?_)
     refine at_drop (H := _) .z ?_
     obtain rfl := of_some hF
     exact at_weak_k (K gh) ⟨rfl, rfl, rfl, trivial⟩
  ·skip
   intro gh
   refine at_blk_same ?_
   refine at_then_normal ?_
   refine at_seq ?_
   refine sr ?_
   refine av rfl (r_move rfl) ?_
   obtain ⟨t37, ht37, hF⟩ := of_bindM hF
   obtain ⟨ha38, hb39⟩ := hn_trie_node_at ht37
   refine av rfl (r_npc rfl ha38) ?_
   refine av rfl (r_fieldAddr (fo := 2) Try.underlying103 rfl rfl (fun w => ⟨_, Try.sizeOf4 w⟩) rfl) ?_
   refine av rfl (r_load_cell Try.isAgg4 rfl (hcell0 (c := cBool) (y := t37.2.f_is) .z hb39 (fun _ h => h) (Lens.comp (Lens.whole _ _) (fun z => { t37.2 with f_is := z }) (c_trie_node_f_is gh t37.2)) rfl)) ?_
   refine av rfl (r_not rfl) ?_
   refine nwt [(0, _), (2, _), (8, _), (55, _)] ⟨rfl, rfl, rfl, rfl, trivial⟩ ?_
   rcases of_ite hF with ⟨h40, hF⟩ | ⟨h40, hF⟩
   ·refine at_cond_true rfl h40 ?_
    refine at_region ?_
    refine av rfl (r_move rfl) ?_
    obtain ⟨t41, ht41, hF⟩ := of_bindM hF
    obtain ⟨ha42, hb43⟩ := hn_trie_Trie_at ht41
    refine av rfl (r_npc rfl ha42) ?_
    refine av rfl (r_fieldAddr (fo := 2) Try.underlying105 rfl rfl (fun w => ⟨_, Try.sizeOf3 w⟩) rfl) ?_
    refine av rfl (r_load_cell Try.isAgg3 rfl (hcell0 (c := (cInt .i64)) (y := t41.2.f_many) .z hb43 (fun _ h => h) (Lens.comp (Lens.whole _ _) (fun z => { t41.2 with f_many := z }) (c_trie_Trie_f_many gh t41.2)) rfl)) ?_
    refine av rfl (r_iadd rfl rfl) ?_
    obtain ⟨t44, ht44, hF⟩ := of_bindM hF
    obtain ⟨ha45, hb46⟩ := hn_trie_Trie_at ht44
    refine av rfl (r_npc rfl ha45) ?_
    refine av rfl (r_fieldAddr (fo := 2) Try.underlying105 rfl rfl (fun w => ⟨_, Try.sizeOf3 w⟩) rfl) ?_
    refine at_hstore (v' := HV.trie_Trie ({ t44.2 with f_many := wr .i64 (t41.2.f_many + 1) })) (c := (cInt .i64)) (z := wr .i64 (t41.2.f_many + 1)) .z hb46 (fun _ h => h) (Lens.comp (Lens.whole _ _) (fun z => { t44.2 with f_many := z }) (c_trie_Trie_f_many gh t44.2)) (by rfl) (fun j hj => .inl hj) Try.sizeOf3 rfl rfl rfl ?_
    refine nws [(2, _), (8, _)] ⟨rfl, rfl, trivial⟩ ?_
    refine av rfl (r_move rfl) ?_
    refine av rfl (r_move rfl) ?_
    refine av rfl (r_move rfl) ?_
    obtain ⟨t47, ht47, hF⟩ := of_bindM hF
    obtain ⟨ha48, hb49⟩ := hn_trie_node_at ht47
    refine av rfl (r_npc rfl ha48) ?_
    refine av rfl (r_fieldAddr (fo := 2) Try.underlying103 rfl rfl (fun w => ⟨_, Try.sizeOf4 w⟩) rfl) ?_
    refine at_hstore (v' := HV.trie_node ({ t47.2 with f_is := true })) (c := cBool) (z := true) .z hb49 (fun _ h => h) (Lens.comp (Lens.whole _ _) (fun z => { t47.2 with f_is := z }) (c_trie_node_f_is gh t47.2)) (by rfl) (fun j hj => .inl hj) Try.sizeOf4 rfl rfl rfl ?_
    obtain ⟨t50, ht50, hF⟩ := of_bindM hF
    obtain ⟨ha51, hb52⟩ := hn_trie_node_at ht50
    refine av rfl (r_npc rfl ha51) ?_
    refine av rfl (r_fieldAddr (fo := 3) Try.underlying103 rfl rfl (fun w => ⟨_, Try.sizeOf3 w⟩) rfl) ?_
    refine at_hstore (v' := HV.trie_node ({ t50.2 with f_owner := x2 })) (c := (cInt .i64)) (z := x2) .z hb52 (fun _ h => h) (Lens.comp (Lens.whole _ _) (fun z => { t50.2 with f_owner := z }) (c_trie_node_f_owner gh t50.2)) (by rfl) (fun j hj => .inl hj) Try.sizeOf3 rfl rfl rfl ?_
    refine nws [] trivial ?_
    refine av rfl (r_assign rfl) ?_
    refine nwt [(6, _)] ⟨rfl, trivial⟩ ?_
    refine at_ret ?_
    have K := of_some hF
    subst K
    exact at_return1 rfl rfl (fun w1 hw => ⟨gh, rfl, hw⟩)
   ·refine at_cond_false rfl h40 ?_
    refine sns ?_
    refine av rfl (r_move rfl) ?_
    refine av rfl (r_move rfl) ?_
    refine av rfl (r_move rfl) ?_
    obtain ⟨t53, ht53, hF⟩ := of_bindM hF
    obtain ⟨ha54, hb55⟩ := hn_trie_node_at ht53
    refine av rfl (r_npc rfl ha54) ?_
    refine av rfl (r_fieldAddr (fo := 2) Try.underlying103 rfl rfl (fun w => ⟨_, Try.sizeOf4 w⟩) rfl) ?_
    refine at_hstore (v' := HV.trie_node ({ t53.2 with f_is := true })) (c := cBool) (z := true) .z hb55 (fun _ h => h) (Lens.comp (Lens.whole _ _) (fun z => { t53.2 with f_is := z }) (c_trie_node_f_is gh t53.2)) (by rfl) (fun j hj => .inl hj) Try.sizeOf4 rfl rfl rfl ?_
    obtain ⟨t56, ht56, hF⟩ := of_bindM hF
    obtain ⟨ha57, hb58⟩ := hn_trie_node_at ht56
    refine av rfl (r_npc rfl ha57) ?_
    refine av rfl (r_fieldAddr (fo := 3) Try.underlying103 rfl rfl (fun w => ⟨_, Try.sizeOf3 w⟩) rfl) ?_
    refine at_hstore (v' := HV.trie_node ({ t56.2 with f_owner := x2 })) (c := (cInt .i64)) (z := x2) .z hb58 (fun _ h => h) (Lens.comp (Lens.whole _ _) (fun z => { t56.2 with f_owner := z }) (c_trie_node_f_owner gh t56.2)) (by rfl) (fun j hj => .inl hj) Try.sizeOf3 rfl rfl rfl ?_
    refine nws [] trivial ?_
    refine av rfl (r_assign rfl) ?_
    refine nwt [(6, _)] ⟨rfl, trivial⟩ ?_
    refine at_ret ?_
    have K := of_some hF
    subst K
    exact at_return1 rfl rfl (fun w1 hw => ⟨gh, rfl, hw⟩)
def trie_Trie_Find.l0 (h_ : List HV) (x1 : S_api_Addr) (i15 : Bool) (i16 : Option Nat) (i17 : Int) (i18 : S_api_Entry) : Option (Bool × S_api_Entry) :=
  if (!(Option.isNone i16)) = true then (hn_trie_node h_ i16 >>= fun t20 => if t20.2.f_is = true then (cidr_Of x1 i17 >>= fun t24 => hn_trie_node h_ i16 >>= fun t26 => addr_Width x1 >>= fun t29 => if (i17 == t29) = true then (some (true, { { ({ f_P := ({ f_A := ({ f_V := (0 : Int), f_B := (Vector.replicate 16 (0 : Int) : (Vector Int 16)) } : S_api_Addr), f_Bits := (0 : Int) } : S_api_Prefix), f_Owner := (0 : Int) } : S_api_Entry) with f_P := t24.1 } with f_Owner := t26.2.f_owner })) else (addr_Bit x1 i17 >>= fun t31 => hn_trie_node h_ i16 >>= fun t32 => if (0 : Int) ≤ t31 ∧ t31 < 2 then trie_Trie_Find.l0 h_ x1 true (vget t32.2.f_next t31) (wr .i64 (i17 + 1)) ({ { ({ f_P := ({ f_A := ({ f_V := (0 : Int), f_B := (Vector.replicate 16 (0 : Int) : (Vector Int 16)) } : S_api_Addr), f_Bits := (0 : Int) } : S_api_Prefix), f_Owner := (0 : Int) } : S_api_Entry) with f_P := t24.1 } with f_Owner := t26.2.f_owner }) else none)) else (addr_Width x1 >>= fun t36 => if (i17 == t36) = true then (some (i15, i18)) else (addr_Bit x1 i17 >>= fun t38 => hn_trie_node h_ i16 >>= fun t39 => if (0 : Int) ≤ t38 ∧ t38 < 2 then trie_Trie_Find.l0 h_ x1 i15 (vget t39.2.f_next t38) (wr .i64 (i17 + 1)) i18 else none))) else (some (i15, i18))
  partial_fixpoint
def trie_Trie_Find (h_ : List HV) (x0 : Option Nat) (x1 : S_api_Addr) : Option (S_api_Entry × Bool) :=
  if (Option.isNone x0) = true then (some (({ f_P := ({ f_A := ({ f_V := (0 : Int), f_B := (Vector.replicate 16 (0 : Int) : (Vector Int 16)) } : S_api_Addr), f_Bits := (0 : Int) } : S_api_Prefix), f_Owner := (0 : Int) } : S_api_Entry), false)) else (addr_Right x1 >>= fun t4 => if (!t4) = true then (some (({ f_P := ({ f_A := ({ f_V := (0 : Int), f_B := (Vector.replicate 16 (0 : Int) : (Vector Int 16)) } : S_api_Addr), f_Bits := (0 : Int) } : S_api_Prefix), f_Owner := (0 : Int) } : S_api_Entry), false)) else (hn_trie_Trie h_ x0 >>= fun t6 => if (x1.f_V != t6.2.f_family) = true then (some (({ f_P := ({ f_A := ({ f_V := (0 : Int), f_B := (Vector.replicate 16 (0 : Int) : (Vector Int 16)) } : S_api_Addr), f_Bits := (0 : Int) } : S_api_Prefix), f_Owner := (0 : Int) } : S_api_Entry), false)) else (hn_trie_Trie h_ x0 >>= fun t11 => trie_Trie_Find.l0 h_ x1 false t11.2.f_root 0 ({ f_P := ({ f_A := ({ f_V := (0 : Int), f_B := (Vector.replicate 16 (0 : Int) : (Vector Int 16)) } : S_api_Addr), f_Bits := (0 : Int) } : S_api_Prefix), f_Owner := (0 : Int) } : S_api_Entry) >>= fun q14 => some (q14.2, q14.1))))
set_option maxRecDepth 10000 in
theorem trie_Trie_Find_ok {h_ : List HV} {x0 : Option Nat} {x1 : S_api_Addr} {r : S_api_Entry × Bool} (hF : trie_Trie_Find h_ x0 x1 = some r) : ∀ {w0 w : World} {G_ : List Ent} {g0_ : Nat → Nat} {n0_ : Nat} {gh : Nat → Nat} (hw_ : Wd w0 (heapE hK g0_ n0_ gh h_ :: G_) w),
    Calls Try.prog 26 #[pv gh x0, .agg (Cd.cs c_api_Addr x1).toArray] w (fun e w' => e = .returned (.tuple #[.agg (Cd.cs c_api_Entry r.1).toArray, .bool r.2]) ∧ Wd w0 (heapE hK g0_ n0_ gh h_ :: G_) w') := by
 intro w0 w G_ g0_ n0_ gh hw_
 unfold trie_Trie_Find at hF
 refine calls_enter (l := [pv gh x0, .agg (Cd.cs c_api_Addr x1).toArray]) Try.func26 rfl rfl rfl ?_
 refine at_enterF hw_ ?_
 refine at_weak [(0, _), (1, _)] ⟨rfl, rfl, trivial⟩ ?_
 refine sr ?_
 refine at_box (cs := Cd.cs c_api_Addr x1) rfl rfl rfl ?_
 intro b1
 refine at_alloc (cs := Cd.cs c_api_Entry ({ f_P := zqU2_0, f_Owner := (0 : Int) } : S_api_Entry)) Try.zeroValue52 rfl rfl ?_
 intro b2
 refine av rfl (r_assign rfl) ?_
 refine nwt [(0, _), (3, _), (4, _)] ⟨rfl, rfl, rfl, trivial⟩ ?_
 refine at_seq ?_
 refine at_seq ?_
 refine at_draw (by kernel_rfl) (by kernel_rfl) (fun _ h => h.drew) ?_
 refine atq_val rfl rfl rfl (r_move rfl) ?_
 refine atq_val rfl rfl rfl (r_pnil (p := x0) Try.underlying42 rfl rfl (.inl rfl) rfl) ?_
 refine atq_val rfl rfl rfl (r_move rfl) ?_
 rcases of_ite hF with ⟨h3, hF⟩ | ⟨h3, hF⟩
 ·refine atq_fix (g := 14) rfl h3 ?_
  refine atq_guard_no rfl rfl rfl rfl rfl ?_
  refine atq_guard_no rfl rfl rfl rfl rfl ?_
  refine atq_guard_no rfl rfl rfl rfl rfl ?_
  refine atq_val rfl rfl rfl (r_pick rfl rfl rfl) ?_
  refine atq_val rfl rfl rfl (r_move rfl) ?_
  refine atq_guard_no rfl rfl rfl rfl rfl ?_
  refine atq_guard_no rfl rfl rfl rfl rfl ?_
  refine atq_guard_no rfl rfl rfl rfl rfl ?_
  refine atq_guard_no rfl rfl rfl rfl rfl ?_
  refine atq_guard_no rfl rfl rfl rfl rfl ?_
  refine atq_guard_no rfl rfl rfl rfl rfl ?_
  refine atq_guard_no rfl rfl rfl rfl rfl ?_
  refine atq_val rfl rfl rfl (r_pick rfl rfl rfl) ?_
  refine atq_nil ?_
  refine at_weak [(0, _), (3, _), (4, _), (27, _)] ⟨rfl, rfl, rfl, rfl, trivial⟩ ?_
  refine at_then_normal ?_
  refine at_cond_true rfl rfl ?_
  refine sr ?_
  refine av rfl (r_build_struct (zs := Cd.cs c_api_Entry ({ f_P := zqU2_0, f_Owner := (0 : Int) } : S_api_Entry)) (cs := Cd.cs c_api_Entry ({ f_P := zqU2_0, f_Owner := (0 : Int) } : S_api_Entry)) Try.underlying52 Try.zeroValue52 rfl (places_api_Entry_52) rfl rfl) ?_
  refine at_store (c := c_api_Entry) (z := ({ f_P := zqU2_0, f_Owner := (0 : Int) } : S_api_Entry)) .z (Lens.whole _ _) Try.sizeOf52 rfl rfl rfl ?_
  refine av rfl (r_assign rfl) ?_
  refine at_nil ?_
  refine at_drop (H := _) (.s .z) ?_
  refine at_weak [(4, _), (5, _)] ⟨rfl, rfl, trivial⟩ ?_
  refine at_then_normal ?_
  refine rt ?_
  have K := of_some hF
  subst K
  exact at_res2 rfl (res_cell (c := c_api_Entry) (y := ({ f_P := zqU2_0, f_Owner := (0 : Int) } : S_api_Entry)) rfl .z (Lens.whole _ _) Try.isAgg52 Try.sizeOf52 (.inl rfl)) (res_tmp rfl) (fun w1 hw => ⟨rfl, hw.pop⟩)
 ·refine atq_fix (g := 14) rfl h3 ?_
  refine atq_guard_yes rfl rfl rfl ?_
  refine atq_val rfl rfl rfl (r_load_aggc (c := c_api_Addr) (z := x1) Try.isAgg32 Try.sizeOf32 rfl (lens_cell (.s .z) (Lens.whole _ _))) ?_
  refine atq_guard_yes rfl rfl rfl ?_
  obtain ⟨t4, ht4, hF⟩ := of_bindM hF
  refine atq_call Try.func69 rfl (by kernel_rfl) rfl rfl (fun w hw => (addr_Right_ok _ _ ht4 w).mono fun _ _ h => ⟨h.1, hw.call h.2⟩) ?_
  refine atq_guard_yes rfl rfl rfl ?_
  refine atq_val rfl rfl rfl (r_not rfl) ?_
  refine atq_val rfl rfl rfl (r_pick rfl rfl rfl) ?_
  refine atq_val rfl rfl rfl (r_move rfl) ?_
  rcases of_ite hF with ⟨h5, hF⟩ | ⟨h5, hF⟩
  ·refine atq_fix (g := 19) rfl h5 ?_
   refine atq_guard_no rfl rfl rfl rfl rfl ?_
   refine atq_guard_no rfl rfl rfl rfl rfl ?_
   refine atq_guard_no rfl rfl rfl rfl rfl ?_
   refine atq_guard_no rfl rfl rfl rfl rfl ?_
   refine atq_guard_no rfl rfl rfl rfl rfl ?_
   refine atq_guard_no rfl rfl rfl rfl rfl ?_
   refine atq_guard_no rfl rfl rfl rfl rfl ?_
   refine atq_val rfl rfl rfl (r_pick rfl rfl rfl) ?_
   refine atq_nil ?_
   refine at_weak [(0, _), (3, _), (4, _), (27, _)] ⟨rfl, rfl, rfl, rfl, trivial⟩ ?_
   refine at_then_normal ?_
   refine at_cond_true rfl rfl ?_
   refine sr ?_
   refine av rfl (r_build_struct (zs := Cd.cs c_api_Entry ({ f_P := zqU2_0, f_Owner := (0 : Int) } : S_api_Entry)) (cs := Cd.cs c_api_Entry ({ f_P := zqU2_0, f_Owner := (0 : Int) } : S_api_Entry)) Try.underlying52 Try.zeroValue52 rfl (places_api_Entry_52) rfl rfl) ?_
   refine at_store (c := c_api_Entry) (z := ({ f_P := zqU2_0, f_Owner := (0 : Int) } : S_api_Entry)) .z (Lens.whole _ _) Try.sizeOf52 rfl rfl rfl ?_
   refine av rfl (r_assign rfl) ?_
   refine at_nil ?_
   refine at_drop (H := _) (.s .z) ?_
   refine at_weak [(4, _), (5, _)] ⟨rfl, rfl, trivial⟩ ?_
   refine at_then_normal ?_
   refine rt ?_
   have K := of_some hF
   subst K
   exact at_res2 rfl (res_cell (c := c_api_Entry) (y := ({ f_P := zqU2_0, f_Owner := (0 : Int) } : S_api_Entry)) rfl .z (Lens.whole _ _) Try.isAgg52 Try.sizeOf52 (.inl rfl)) (res_tmp rfl) (fun w1 hw => ⟨rfl, hw.pop⟩)
  ·refine atq_fix (g := 19) rfl h5 ?_
   refine atq_guard_yes rfl rfl rfl ?_
   refine atq_val rfl rfl rfl (r_fieldAddr (fo := 0) Try.underlying32 rfl rfl (fun w => ⟨_, Try.sizeOf3 w⟩) rfl) ?_
   refine atq_guard_yes rfl rfl rfl ?_
   refine atq_val rfl rfl rfl (r_load_cell Try.isAgg3 rfl (lens_cell0 (c := (cInt .i64)) (y := x1.f_V) (.s .z) (Lens.comp (Lens.whole _ _) (fun z => { x1 with f_V := z }) (c_api_Addr_f_V x1)) rfl)) ?_
   refine atq_guard_yes rfl rfl rfl ?_
   refine atq_val rfl rfl rfl (r_move rfl) ?_
   refine atq_guard_yes rfl rfl rfl ?_
   obtain ⟨t6, ht6, hF⟩ := of_bindM hF
   obtain ⟨ha7, hb8⟩ := hn_trie_Trie_at ht6
   refine atq_val rfl rfl rfl (r_npc rfl ha7) ?_
   refine atq_guard_yes rfl rfl rfl ?_
   refine atq_val rfl rfl rfl (r_fieldAddr (fo := 1) Try.underlying105 rfl rfl (fun w => ⟨_, Try.sizeOf3 w⟩) rfl) ?_
   refine atq_guard_yes rfl rfl rfl ?_
   refine atq_val rfl rfl rfl (r_load_cell Try.isAgg3 rfl (hcell0 (c := (cInt .i64)) (y := t6.2.f_family) (.s (.s .z)) hb8 (fun _ h => h) (Lens.comp (Lens.whole _ _) (fun z => { t6.2 with f_family := z }) (c_trie_Trie_f_family gh t6.2)) rfl)) ?_
   refine atq_guard_yes rfl rfl rfl ?_
   refine atq_val rfl rfl rfl (r_ineq rfl rfl) ?_
   refine atq_val rfl rfl rfl (r_pick rfl rfl rfl) ?_
   refine atq_nil ?_
   refine at_weak [(0, _), (3, _), (4, _), (27, _)] ⟨rfl, rfl, rfl, rfl, trivial⟩ ?_
   refine at_then_normal ?_
   rcases of_ite hF with ⟨h9, hF⟩ | ⟨h9, hF⟩
   ·refine at_cond_true rfl h9 ?_
    refine sr ?_
    refine av rfl (r_build_struct (zs := Cd.cs c_api_Entry ({ f_P := zqU2_0, f_Owner := (0 : Int) } : S_api_Entry)) (cs := Cd.cs c_api_Entry ({ f_P := zqU2_0, f_Owner := (0 : Int) } : S_api_Entry)) Try.underlying52 Try.zeroValue52 rfl (places_api_Entry_52) rfl rfl) ?_
    refine at_store (c := c_api_Entry) (z := ({ f_P := zqU2_0, f_Owner := (0 : Int) } : S_api_Entry)) .z (Lens.whole _ _) Try.sizeOf52 rfl rfl rfl ?_
    refine av rfl (r_assign rfl) ?_
    refine at_nil ?_
    refine at_drop (H := _) (.s .z) ?_
    refine at_weak [(4, _), (5, _)] ⟨rfl, rfl, trivial⟩ ?_
    refine at_then_normal ?_
    refine rt ?_
    have K := of_some hF
    subst K
    exact at_res2 rfl (res_cell (c := c_api_Entry) (y := ({ f_P := zqU2_0, f_Owner := (0 : Int) } : S_api_Entry)) rfl .z (Lens.whole _ _) Try.isAgg52 Try.sizeOf52 (.inl rfl)) (res_tmp rfl) (fun w1 hw => ⟨rfl, hw.pop⟩)
   ·refine at_cond_false rfl h9 ?_
    refine sns ?_
    refine at_alloc (cs := Cd.cs c_api_Entry ({ f_P := zqU2_0, f_Owner := (0 : Int) } : S_api_Entry)) Try.zeroValue52 rfl rfl ?_
    intro b10
    refine nws [(0, _), (3, _), (4, _), (6, _)] ⟨rfl, rfl, rfl, rfl, trivial⟩ ?_
    refine av rfl (r_assign rfl) ?_
    refine nws [(0, _), (3, _), (4, _), (6, _), (7, _)] ⟨rfl, rfl, rfl, rfl, rfl, trivial⟩ ?_
    refine av rfl (r_move rfl) ?_
    obtain ⟨t11, ht11, hF⟩ := of_bindM hF
    obtain ⟨ha12, hb13⟩ := hn_trie_Trie_at ht11
    refine av rfl (r_npc rfl ha12) ?_
    refine av rfl (r_fieldAddr (fo := 0) Try.underlying105 rfl rfl (fun w => ⟨_, Try.sizeOf100 w⟩) rfl) ?_
    refine av rfl (r_load_cell Try.isAgg100 rfl (hcell0 (c := (cPtr gh)) (y := t11.2.f_root) (.s (.s (.s .z))) hb13 (fun _ h => h) (Lens.comp (Lens.whole _ _) (fun z => { t11.2 with f_root := z }) (c_trie_Trie_f_root gh t11.2)) rfl)) ?_
    refine av rfl (r_assign rfl) ?_
    refine nwt [(3, _), (4, _), (6, _), (7, _), (8, _)] ⟨rfl, rfl, rfl, rfl, rfl, trivial⟩ ?_
    refine at_seq ?_
    refine sr ?_
    refine av rfl (r_assign rfl) ?_
    refine nwt [(3, _), (4, _), (6, _), (7, _), (8, _), (9, _)] ⟨rfl, rfl, rfl, rfl, rfl, rfl, trivial⟩ ?_
    refine at_block ?_
    obtain ⟨q14, hq14, hF⟩ := of_bindM hF
    refine at_weak [(3, _), (4, _), (6, _), (7, _), (8, _), (9, _)] ⟨rfl, rfl, rfl, rfl, rfl, rfl, trivial⟩ ?_
    refine at_loop_n (B := 0) (A := fun Y => At 67 [(4, .pointer (some ⟨b2, 0, none⟩)), (6, .pointer (some ⟨b10, 0, none⟩)), (7, .bool q14.1)] (Wd w0 (cellsE b10 (Cd.cs c_api_Entry q14.2) 52 :: cellsE b2 (Cd.cs c_api_Entry ({ f_P := zqU2_0, f_Owner := (0 : Int) } : S_api_Entry)) 52 :: heapE hK g0_ n0_ gh h_ :: G_)) Y) ?_ ?_
    ·intro K
     refine trie_Trie_Find.l0.partial_correctness h_ x1 (motive := fun i15 i16 i17 i18 x => KN (fun Y => At 67 [(4, .pointer (some ⟨b2, 0, none⟩)), (6, .pointer (some ⟨b10, 0, none⟩)), (7, .bool x.1)] (Wd w0 (cellsE b10 (Cd.cs c_api_Entry x.2) 52 :: cellsE b2 (Cd.cs c_api_Entry ({ f_P := zqU2_0, f_Owner := (0 : Int) } : S_api_Entry)) 52 :: heapE hK g0_ n0_ gh h_ :: G_)) Y) _ 0 → Round (fun Y => At 67 [(3, .pointer (some ⟨b1, 0, none⟩)), (4, .pointer (some ⟨b2, 0, none⟩)), (6, .pointer (some ⟨b10, 0, none⟩)), (7, .bool i15), (8, pv gh i16), (9, .int .i64 i17)] (Wd w0 (cellsE b10 (Cd.cs c_api_Entry i18) 52 :: cellsE b2 (Cd.cs c_api_Entry ({ f_P := zqU2_0, f_Owner := (0 : Int) } : S_api_Entry)) 52 :: cellsE b1 (Cd.cs c_api_Addr x1) 32 :: heapE hK g0_ n0_ gh h_ :: G_)) Y) _ _ _) ?_ _ _ _ _ _ hq14 K
     ·clear K hF
      intro g ih i15 i16 i17 i18 x hF K
      refine at_round ?_
      refine at_seq ?_
      refine sr ?_
      refine av rfl (r_move rfl) ?_
      refine av rfl (r_pnil (p := i16) Try.underlying100 rfl rfl (.inr rfl) rfl) ?_
      refine nwt [(3, _), (4, _), (6, _), (7, _), (8, _), (9, _), (34, _)] ⟨rfl, rfl, rfl, rfl, rfl, rfl, rfl, trivial⟩ ?_
      rcases of_ite hF with ⟨h19, hF⟩ | ⟨h19, hF⟩
      ·refine at_cond_true rfl h19 ?_
       refine sn ?_
       refine at_seq ?_
       refine at_block ?_
       refine at_seq ?_
       refine sr ?_
       refine av rfl (r_move rfl) ?_
       obtain ⟨t20, ht20, hF⟩ := of_bindM hF
       obtain ⟨ha21, hb22⟩ := hn_trie_node_at ht20
       refine av rfl (r_npc rfl ha21) ?_
       refine av rfl (r_fieldAddr (fo := 2) Try.underlying103 rfl rfl (fun w => ⟨_, Try.sizeOf4 w⟩) rfl) ?_
       refine av rfl (r_load_cell Try.isAgg4 rfl (hcell0 (c := cBool) (y := t20.2.f_is) (.s (.s (.s .z))) hb22 (fun _ h => h) (Lens.comp (Lens.whole _ _) (fun z => { t20.2 with f_is := z }) (c_trie_node_f_is gh t20.2)) rfl)) ?_
       refine nwt [(3, _), (4, _), (6, _), (7, _), (8, _), (9, _), (40, _)] ⟨rfl, rfl, rfl, rfl, rfl, rfl, rfl, trivial⟩ ?_
       rcases of_ite hF with ⟨h23, hF⟩ | ⟨h23, hF⟩
       ·refine at_cond_true rfl h23 ?_
        refine sr ?_
        refine av rfl (r_load_aggc (c := c_api_Addr) (z := x1) Try.isAgg32 Try.sizeOf32 rfl (lens_cell (.s (.s .z)) (Lens.whole _ _))) ?_
        refine av rfl (r_move rfl) ?_
        obtain ⟨t24, ht24, hF⟩ := of_bindM hF
        refine at_callB Try.func70 rfl (by kernel_rfl) rfl rfl (fun w hw => cidr_Of_ok _ _ _ ht24 w) ?_
        refine av rfl (r_move rfl) ?_
        refine av rfl (r_extract rfl rfl) ?_
        refine av rfl (r_extract rfl rfl) ?_
        refine at_alloc (cs := Cd.cs c_api_Prefix zqU2_0) Try.zeroValue46 rfl rfl ?_
        intro b25
        refine at_store (c := c_api_Prefix) (z := t24.1) .z (Lens.whole _ _) Try.sizeOf46 rfl rfl rfl ?_
        refine av rfl (r_assign rfl) ?_
        refine nwt [(3, _), (4, _), (6, _), (8, _), (9, _), (10, _)] ⟨rfl, rfl, rfl, rfl, rfl, rfl, trivial⟩ ?_
        refine at_draw_tail 6 (by kernel_rfl) (by kernel_rfl) (fun _ h => h.drew) ?_
        simp only [List.take_succ_cons, List.take_zero, List.drop_succ_cons, List.drop_zero]
        refine ats_val rfl rfl rfl (r_load_aggc (c := c_api_Prefix) (z := t24.1) Try.isAgg46 Try.sizeOf46 rfl (lens_cell .z (Lens.whole _ _))) ?_
        refine ats_val rfl rfl rfl (r_move rfl) ?_
        obtain ⟨t26, ht26, hF⟩ := of_bindM hF
        obtain ⟨ha27, hb28⟩ := hn_trie_node_at ht26
        refine ats_val rfl rfl rfl (r_npc rfl ha27) ?_
        refine ats_val rfl rfl rfl (r_fieldAddr (fo := 3) Try.underlying103 rfl rfl (fun w => ⟨_, Try.sizeOf3 w⟩) rfl) ?_
        refine ats_val rfl rfl rfl (r_load_cell Try.isAgg3 rfl (hcell0 (c := (cInt .i64)) (y := t26.2.f_owner) (.s (.s (.s (.s .z)))) hb28 (fun _ h => h) (Lens.comp (Lens.whole _ _) (fun z => { t26.2 with f_owner := z }) (c_trie_node_f_owner gh t26.2)) rfl)) ?_
        refine ats_val rfl rfl rfl (r_build_struct (zs := Cd.cs c_api_Entry ({ f_P := zqU2_0, f_Owner := (0 : Int) } : S_api_Entry)) (cs := Cd.cs c_api_Entry ({ { ({ f_P := zqU2_0, f_Owner := (0 : Int) } : S_api_Entry) with f_P := t24.1 } with f_Owner := t26.2.f_owner })) Try.underlying52 Try.zeroValue52 rfl (places_api_Entry_52) rfl (fill_step (c := c_api_Prefix) (z := t24.1) rfl (c_api_Entry_f_P ({ f_P := zqU2_0, f_Owner := (0 : Int) } : S_api_Entry)) rfl (fill_step (c := (cInt .i64)) (z := t26.2.f_owner) rfl (c_api_Entry_f_Owner ({ ({ f_P := zqU2_0, f_Owner := (0 : Int) } : S_api_Entry) with f_P := t24.1 })) rfl rfl))) ?_
        refine ats_nil ?_
        refine at_store (c := c_api_Entry) (z := { { ({ f_P := zqU2_0, f_Owner := (0 : Int) } : S_api_Entry) with f_P := t24.1 } with f_Owner := t26.2.f_owner }) (.s .z) (Lens.whole _ _) Try.sizeOf52 rfl rfl rfl ?_
        refine av rfl (r_assign rfl) ?_
        refine at_nil ?_
        refine at_drop (H := _) .z ?_
        refine at_weak [(3, _), (4, _), (6, _), (7, _), (8, _), (9, _)] ⟨rfl, rfl, rfl, rfl, rfl, rfl, trivial⟩ ?_
        refine at_then_normal ?_
        refine at_seq ?_
        refine sr ?_
        refine av rfl (r_move rfl) ?_
        refine av rfl (r_load_aggc (c := c_api_Addr) (z := x1) Try.isAgg32 Try.sizeOf32 rfl (lens_cell (.s (.s .z)) (Lens.whole _ _))) ?_
        obtain ⟨t29, ht29, hF⟩ := of_bindM hF
        refine at_callB Try.func71 rfl (by kernel_rfl) rfl rfl (fun w hw => addr_Width_ok _ _ ht29 w) ?_
        refine av rfl (r_ieql rfl rfl) ?_
        refine nwt [(3, _), (4, _), (6, _), (7, _), (8, _), (9, _), (56, _)] ⟨rfl, rfl, rfl, rfl, rfl, rfl, rfl, trivial⟩ ?_
        rcases of_ite hF with ⟨h30, hF⟩ | ⟨h30, hF⟩
        ·refine at_cond_true rfl h30 ?_
         refine at_exit ?_
         refine at_then_exit (at_blk_other rfl (at_then_exit (at_then_exit ?_)))
         refine at_drop (H := _) (.s (.s .z)) ?_
         obtain rfl := of_some hF
         exact at_weak_k K ⟨rfl, rfl, rfl, trivial⟩
        ·refine at_cond_false rfl h30 ?_
         refine sn ?_
         refine at_draw (by kernel_rfl) (by kernel_rfl) (fun _ h => h.drew) ?_
         refine atq_val rfl rfl rfl (r_move rfl) ?_
         refine atq_val rfl rfl rfl (r_load_aggc (c := c_api_Addr) (z := x1) Try.isAgg32 Try.sizeOf32 rfl (lens_cell (.s (.s .z)) (Lens.whole _ _))) ?_
         refine atq_val rfl rfl rfl (r_move rfl) ?_
         obtain ⟨t31, ht31, hF⟩ := of_bindM hF
         refine atq_call Try.func72 rfl (by kernel_rfl) rfl rfl (fun w hw => (addr_Bit_ok _ _ _ ht31 w).mono fun _ _ h => ⟨h.1, hw.call h.2⟩) ?_
         obtain ⟨t32, ht32, hF⟩ := of_bindM hF
         obtain ⟨ha33, hb34⟩ := hn_trie_node_at ht32
         refine atq_val rfl rfl rfl (r_npc rfl ha33) ?_
         refine atq_val rfl rfl rfl (r_fieldAddr (fo := 0) Try.underlying103 rfl rfl (fun w => ⟨_, Try.sizeOf101 w⟩) rfl) ?_
         obtain ⟨h35, hF⟩ := of_guard hF
         refine atq_val rfl rfl rfl (r_idxArr Try.underlying101 Try.sizeOf100 rfl rfl h35) ?_
         refine atq_val rfl rfl rfl (r_load_cell Try.isAgg100 rfl (hcell0 (c := (cPtr gh)) (y := vget t32.2.f_next t31) (.s (.s (.s .z))) hb34 (fun _ h => h) (Lens.comp (Lens.comp (Lens.whole _ _) (fun z => { t32.2 with f_next := z }) (c_trie_node_f_next gh t32.2)) (fun z => vset t32.2.f_next t31 z) (Lens.vec (cPtr gh) (by decide) t32.2.f_next t31 h35)) rfl)) ?_
         refine atq_val rfl rfl rfl (r_assign rfl) ?_
         refine atq_nil ?_
         refine at_weak [(3, _), (4, _), (6, _), (7, _), (8, _), (9, _)] ⟨rfl, rfl, rfl, rfl, rfl, rfl, trivial⟩ ?_
         refine at_blk_normal (at_then_normal ?_)
         refine at_region ?_
         refine av rfl (r_move rfl) ?_
         refine av rfl (r_iadd rfl rfl) ?_
         refine av rfl (r_assign rfl) ?_
         refine nwt [(3, _), (4, _), (6, _), (7, _), (8, _), (9, _)] ⟨rfl, rfl, rfl, rfl, rfl, rfl, trivial⟩ ?_
         exact at_weak_k (ih _ _ _ _ _ hF K) ⟨rfl, rfl, rfl, rfl, rfl, rfl, trivial⟩
       ·refine at_cond_false rfl h23 ?_
        refine sn ?_
        refine at_seq ?_
        refine sr ?_
        refine av rfl (r_move rfl) ?_
        refine av rfl (r_load_aggc (c := c_api_Addr) (z := x1) Try.isAgg32 Try.sizeOf32 rfl (lens_cell (.s (.s .z)) (Lens.whole _ _))) ?_
        obtain ⟨t36, ht36, hF⟩ := of_bindM hF
        refine at_callB Try.func71 rfl (by kernel_rfl) rfl rfl (fun w hw => addr_Width_ok _ _ ht36 w) ?_
        refine av rfl (r_ieql rfl rfl) ?_
        refine nwt [(3, _), (4, _), (6, _), (7, _), (8, _), (9, _), (56, _)] ⟨rfl, rfl, rfl, rfl, rfl, rfl, rfl, trivial⟩ ?_
        rcases of_ite hF with ⟨h37, hF⟩ | ⟨h37, hF⟩
        ·refine at_cond_true rfl h37 ?_
         refine at_exit ?_
         refine at_then_exit (at_blk_other rfl (at_then_exit (at_then_exit ?_)))
         refine at_drop (H := _) (.s (.s .z)) ?_
         obtain rfl := of_some hF
         exact at_weak_k K ⟨rfl, rfl, rfl, trivial⟩
        ·refine at_cond_false rfl h37 ?_
         refine sn ?_
         refine at_draw (by kernel_rfl) (by kernel_rfl) (fun _ h => h.drew) ?_
         refine atq_val rfl rfl rfl (r_move rfl) ?_
         refine atq_val rfl rfl rfl (r_load_aggc (c := c_api_Addr) (z := x1) Try.isAgg32 Try.sizeOf32 rfl (lens_cell (.s (.s .z)) (Lens.whole _ _))) ?_
         refine atq_val rfl rfl rfl (r_move rfl) ?_
         obtain ⟨t38, ht38, hF⟩ := of_bindM hF
         refine atq_call Try.func72 rfl (by kernel_rfl) rfl rfl (fun w hw => (addr_Bit_ok _ _ _ ht38 w).mono fun _ _ h => ⟨h.1, hw.call h.2⟩) ?_
         obtain ⟨t39, ht39, hF⟩ := of_bindM hF
         obtain ⟨ha40, hb41⟩ := hn_trie_node_at ht39
         refine atq_val rfl rfl rfl (r_npc rfl ha40) ?_
         refine atq_val rfl rfl rfl (r_fieldAddr (fo := 0) Try.underlying103 rfl rfl (fun w => ⟨_, Try.sizeOf101 w⟩) rfl) ?_
         obtain ⟨h42, hF⟩ := of_guard hF
         refine atq_val rfl rfl rfl (r_idxArr Try.underlying101 Try.sizeOf100 rfl rfl h42) ?_
         refine atq_val rfl rfl rfl (r_load_cell Try.isAgg100 rfl (hcell0 (c := (cPtr gh)) (y := vget t39.2.f_next t38) (.s (.s (.s .z))) hb41 (fun _ h => h) (Lens.comp (Lens.comp (Lens.whole _ _) (fun z => { t39.2 with f_next := z }) (c_trie_node_f_next gh t39.2)) (fun z => vset t39.2.f_next t38 z) (Lens.vec (cPtr gh) (by decide) t39.2.f_next t38 h42)) rfl)) ?_
         refine atq_val rfl rfl rfl (r_assign rfl) ?_
         refine atq_nil ?_
         refine at_weak [(3, _), (4, _), (6, _), (7, _), (8, _), (9, _)] ⟨rfl, rfl, rfl, rfl, rfl, rfl, trivial⟩ ?_
         refine at_blk_normal (at_then_normal ?_)
         refine at_region ?_
         refine av rfl (r_move rfl) ?_
         refine av rfl (r_iadd rfl rfl) ?_
         refine av rfl (r_assign rfl) ?_
         refine nwt [(3, _), (4, _), (6, _), (7, _), (8, _), (9, _)] ⟨rfl, rfl, rfl, rfl, rfl, rfl, trivial⟩ ?_
         exact at_weak_k (ih _ _ _ _ _ hF K) ⟨rfl, rfl, rfl, rfl, rfl, rfl, trivial⟩
      ·refine at_cond_false rfl h19 ?_
       refine at_exit ?_
       refine at_then_exit (at_then_exit ?_)
       refine at_drop (H := _) (.s (.s .z)) ?_
       obtain rfl := of_some hF
       exact at_weak_k K ⟨rfl, rfl, rfl, trivial⟩
    ·skip
     skip
     refine at_blk_same ?_
     refine at_then_normal ?_
     refine sr ?_
     refine av rfl (r_load_aggc (c := c_api_Entry) (z := q14.2) Try.isAgg52 Try.sizeOf52 rfl (lens_cell .z (Lens.whole _ _))) ?_
     refine av rfl (r_move rfl) ?_
     refine at_store (c := c_api_Entry) (z := q14.2) (.s .z) (Lens.whole _ _) Try.sizeOf52 rfl rfl rfl ?_
     refine av rfl (r_assign rfl) ?_
     refine at_nil ?_
     refine at_drop (H := _) .z ?_
     refine at_weak [(4, _), (5, _)] ⟨rfl, rfl, trivial⟩ ?_
     refine at_then_normal ?_
     refine at_ret ?_
     have K := of_some hF
     subst K
     exact at_res2 rfl (res_cell (c := c_api_Entry) (y := q14.2) rfl .z (Lens.whole _ _) Try.isAgg52 Try.sizeOf52 (.inl rfl)) (res_tmp rfl) (fun w1 hw => ⟨rfl, hw.pop⟩)
def trie_Trie_at.l0 (h_ : List HV) (x1 : S_api_Prefix) (i6 : Option Nat) (i7 : Int) : Option (Option Nat) :=
  if (decide (i7 < x1.f_Bits)) = true then (if (!(Option.isNone i6)) = true then (addr_Bit x1.f_A i7 >>= fun t10 => hn_trie_node h_ i6 >>= fun t11 => if (0 : Int) ≤ t10 ∧ t10 < 2 then trie_Trie_at.l0 h_ x1 (vget t11.2.f_next t10) (wr .i64 (i7 + 1)) else none) else (some i6)) else (some i6)
  partial_fixpoint
def trie_Trie_at (h_ : List HV) (x0 : Option Nat) (x1 : S_api_Prefix) : Option (Option Nat) :=
  hn_trie_Trie h_ x0 >>= fun t2 => trie_Trie_at.l0 h_ x1 t2.2.f_root 0 >>= fun q5 => if (Option.isNone q5) = true then (some (none : Option Nat)) else (hn_trie_node h_ q5 >>= fun t16 => if (!t16.2.f_is) = true then (some (none : Option Nat)) else (some q5))
def trie_node_prune.l0 (rec_ : List HV → Option Nat → Option (Bool × List HV)) (x0 : Option Nat) (t4 : Nat × S_trie_node) (i8 : Bool) (i9 : Int) (i10 : List HV) : Option (Bool × List HV) :=
  if (decide (i9 < 2)) = true then (if (0 : Int) ≤ i9 ∧ i9 < 2 then if (Option.isNone (vget t4.2.f_next i9)) = true then (trie_node_prune.l0 rec_ x0 t4 i8 (wr .i64 (i9 + 1)) i10) else (rec_ i10 (vget t4.2.f_next i9) >>= fun t14 => if t14.1 = true then (hn_trie_node t14.2 x0 >>= fun t16 => if (0 : Int) ≤ i9 ∧ i9 < 2 then trie_node_prune.l0 rec_ x0 t4 i8 (wr .i64 (i9 + 1)) (List.set t14.2 t16.1 (HV.trie_node ({ t16.2 with f_next := vset t16.2.f_next i9 (none : Option Nat) }))) else none) else (trie_node_prune.l0 rec_ x0 t4 false (wr .i64 (i9 + 1)) t14.2)) else none) else (some (i8, i10))
  partial_fixpoint
def trie_node_prune.go : Nat → List HV → Option Nat → Option (Bool × List HV)
  | 0 => fun _ _ => none
  | f_ + 1 => fun h_ x0 => hn_trie_node h_ x0 >>= fun t1 => hn_trie_node h_ x0 >>= fun t4 => trie_node_prune.l0 (trie_node_prune.go f_) x0 t4 (!t1.2.f_is) 0 h_ >>= fun q7 => some (q7.1, q7.2)
def trie_node_prune (h_ : List HV) (x0 : Option Nat) : Option (Bool × List HV) := trie_node_prune.go 400 h_ x0
theorem trie_node_prune.go_ok (f_ : Nat) : ∀ {h_ : List HV} {x0 : Option Nat} {r : Bool × List HV} (hF : trie_node_prune.go f_ h_ x0 = some r) {w0 w : World} {G_ : List Ent} {g0_ : Nat → Nat} {n0_ : Nat} {gh : Nat → Nat} (hw_ : Wd w0 (heapE hK g0_ n0_ gh h_ :: G_) w),
    Calls Try.prog 78 #[pv gh x0] w (fun e w' => e = .returned (.bool r.1) ∧ Wd w0 (heapE hK g0_ n0_ gh r.2 :: G_) w') := by
 induction f_ with
 | zero => intro h_ x0 r hF; exact absurd hF (by simp [trie_node_prune.go])
 | succ f_ ihf =>
 intro h_ x0 r hF w0 w G_ g0_ n0_ gh hw_
 unfold trie_node_prune.go at hF
 refine calls_enter (l := [pv gh x0]) Try.func78 rfl rfl rfl ?_
 refine at_enterF hw_ ?_
 refine at_weak [(0, _)] ⟨rfl, trivial⟩ ?_
 refine sr ?_
 refine av rfl (r_assign rfl) ?_
 refine nws [(0, _)] ⟨rfl, trivial⟩ ?_
 refine av rfl (r_move rfl) ?_
 obtain ⟨t1, ht1, hF⟩ := of_bindM hF
 obtain ⟨ha2, hb3⟩ := hn_trie_node_at ht1
 refine av rfl (r_npc rfl ha2) ?_
 refine av rfl (r_fieldAddr (fo := 2) Try.underlying103 rfl rfl (fun w => ⟨_, Try.sizeOf4 w⟩) rfl) ?_
 refine av rfl (r_load_cell Try.isAgg4 rfl (hcell0 (c := cBool) (y := t1.2.f_is) .z hb3 (fun _ h => h) (Lens.comp (Lens.whole _ _) (fun z => { t1.2 with f_is := z }) (c_trie_node_f_is gh t1.2)) rfl)) ?_
 refine av rfl (r_not rfl) ?_
 refine av rfl (r_assign rfl) ?_
 refine nwt [(0, _), (3, _)] ⟨rfl, rfl, trivial⟩ ?_
 refine at_seq ?_
 refine sr ?_
 refine av rfl (r_move rfl) ?_
 obtain ⟨t4, ht4, hF⟩ := of_bindM hF
 obtain ⟨ha5, hb6⟩ := hn_trie_node_at ht4
 refine av rfl (r_npc rfl ha5) ?_
 refine av rfl (r_fieldAddr (fo := 0) Try.underlying103 rfl rfl (fun w => ⟨_, Try.sizeOf101 w⟩) rfl) ?_
 refine av rfl (r_load_aggc (c := (cVec (cPtr gh) 2 (by decide))) (z := t4.2.f_next) Try.isAgg101 Try.sizeOf101 rfl (hcell .z hb6 (fun _ h => h) (Lens.comp (Lens.whole _ _) (fun z => { t4.2 with f_next := z }) (c_trie_node_f_next gh t4.2)))) ?_
 refine av rfl (r_move rfl) ?_
 refine nwt [(0, _), (3, _), (14, _), (15, _)] ⟨rfl, rfl, rfl, rfl, trivial⟩ ?_
 refine at_block ?_
 obtain ⟨q7, hq7, hF⟩ := of_bindM hF
 refine at_weak [(0, _), (3, _), (14, _), (15, _)] ⟨rfl, rfl, rfl, rfl, trivial⟩ ?_
 refine at_loop_n (B := 0) (A := fun Y => At 32 [(3, .bool q7.1)] (Wd w0 (heapE hK g0_ n0_ gh q7.2 :: G_)) Y) ?_ ?_
 ·intro K
  refine trie_node_prune.l0.partial_correctness (trie_node_prune.go f_) x0 t4 (motive := fun i8 i9 i10 x => KN (fun Y => At 32 [(3, .bool x.1)] (Wd w0 (heapE hK g0_ n0_ gh x.2 :: G_)) Y) _ 0 → Round (fun Y => At 32 [(0, pv gh x0), (3, .bool i8), (14, .agg (Cd.cs (cVec (cPtr gh) 2 (by decide)) t4.2.f_next).toArray), (15, .int .i64 i9)] (Wd w0 (heapE hK g0_ n0_ gh i10 :: G_)) Y) _ _ _) ?_ _ _ _ _ hq7 K
  ·clear K hF
   intro g ih i8 i9 i10 x hF K
   refine at_round ?_
   refine sr ?_
   refine av rfl (r_ilss rfl rfl) ?_
   refine nwt [(0, _), (3, _), (14, _), (15, _), (16, _)] ⟨rfl, rfl, rfl, rfl, rfl, trivial⟩ ?_
   refine at_seq ?_
   rcases of_ite hF with ⟨h11, hF⟩ | ⟨h11, hF⟩
   ·refine at_cond_true rfl h11 ?_
    refine sn ?_
    refine at_seq ?_
    refine at_block ?_
    refine sr ?_
    refine av rfl (r_move rfl) ?_
    obtain ⟨h12, hF⟩ := of_guard hF
    refine av rfl (r_idxVal Try.underlying101 Try.sizeOf100 rfl rfl h12 (part_vOf (Lens.vec (cPtr gh) (by decide) t4.2.f_next i9 h12) Try.isAgg100 Try.sizeOf100 (.inr rfl))) ?_
    refine av rfl (r_assign rfl) ?_
    refine av rfl (r_assign rfl) ?_
    refine nwt [(0, _), (3, _), (4, _), (5, _), (14, _), (15, _)] ⟨rfl, rfl, rfl, rfl, rfl, rfl, trivial⟩ ?_
    refine at_block ?_
    refine sr ?_
    refine av rfl (r_move rfl) ?_
    refine av rfl (r_pnil (p := vget t4.2.f_next i9) Try.underlying100 rfl rfl (.inl rfl) rfl) ?_
    refine av rfl (r_assign rfl) ?_
    refine nwt [(0, _), (3, _), (4, _), (5, _), (14, _), (15, _), (19, _)] ⟨rfl, rfl, rfl, rfl, rfl, rfl, rfl, trivial⟩ ?_
    rcases of_ite hF with ⟨h13, hF⟩ | ⟨h13, hF⟩
    ·refine at_cond_true rfl h13 ?_
     refine at_skip ?_
     refine at_blk_normal (at_blk_normal (at_then_normal ?_))
     refine at_region ?_
     refine av rfl (r_iadd rfl rfl) ?_
     refine av rfl (r_move rfl) ?_
     refine nwt [(0, _), (3, _), (14, _), (15, _)] ⟨rfl, rfl, rfl, rfl, trivial⟩ ?_
     exact at_weak_k (ih _ _ _ _ hF K) ⟨rfl, rfl, rfl, rfl, trivial⟩
    ·refine at_cond_false rfl h13 ?_
     refine sr ?_
     refine av rfl (r_move rfl) ?_
     obtain ⟨t14, ht14, hF⟩ := of_bindM hF
     refine at_callN (v := .bool t14.1) (T := (heapE hK g0_ n0_ gh t14.2 :: G_)) Try.func78 rfl (by kernel_rfl) rfl rfl (fun w hw => ihf ht14 hw) ?_
     refine av rfl (r_assign rfl) ?_
     refine nwt [(0, _), (3, _), (4, _), (14, _), (15, _), (22, _)] ⟨rfl, rfl, rfl, rfl, rfl, rfl, trivial⟩ ?_
     rcases of_ite hF with ⟨h15, hF⟩ | ⟨h15, hF⟩
     ·refine at_cond_true rfl h15 ?_
      refine at_region ?_
      refine av rfl (r_move rfl) ?_
      refine av rfl (r_move rfl) ?_
      obtain ⟨t16, ht16, hF⟩ := of_bindM hF
      obtain ⟨ha17, hb18⟩ := hn_trie_node_at ht16
      refine av rfl (r_npc rfl ha17) ?_
      refine av rfl (r_fieldAddr (fo := 0) Try.underlying103 rfl rfl (fun w => ⟨_, Try.sizeOf101 w⟩) rfl) ?_
      obtain ⟨h19, hF⟩ := of_guard hF
      refine av rfl (r_idxArr Try.underlying101 Try.sizeOf100 rfl rfl h19) ?_
      refine at_hstore (v' := HV.trie_node ({ t16.2 with f_next := vset t16.2.f_next i9 (none : Option Nat) })) (c := (cPtr gh)) (z := (none : Option Nat)) .z hb18 (fun _ h => h) (Lens.comp (Lens.comp (Lens.whole _ _) (fun z => { t16.2 with f_next := z }) (c_trie_node_f_next gh t16.2)) (fun z => vset t16.2.f_next i9 z) (Lens.vec (cPtr gh) (by decide) t16.2.f_next i9 h19)) (by rfl) (fun j hj => (mem_vset hj).imp id (fun e => vp_lt rfl j e)) Try.sizeOf100 rfl rfl rfl ?_
      refine at_nil ?_
      refine at_weak [(0, _), (3, _), (14, _), (15, _)] ⟨rfl, rfl, rfl, rfl, trivial⟩ ?_
      refine at_blk_normal (at_blk_normal (at_then_normal ?_))
      refine at_region ?_
      refine av rfl (r_iadd rfl rfl) ?_
      refine av rfl (r_move rfl) ?_
      refine nwt [(0, _), (3, _), (14, _), (15, _)] ⟨rfl, rfl, rfl, rfl, trivial⟩ ?_
      exact at_weak_k (ih _ _ _ _ hF K) ⟨rfl, rfl, rfl, rfl, trivial⟩
     ·refine at_cond_false rfl h15 ?_
      refine at_region ?_
      refine av rfl (r_assign rfl) ?_
      refine at_nil ?_
      refine at_weak [(0, _), (3, _), (14, _), (15, _)] ⟨rfl, rfl, rfl, rfl, trivial⟩ ?_
      refine at_blk_normal (at_blk_normal (at_then_normal ?_))
      refine at_region ?_
      refine av rfl (r_iadd rfl rfl) ?_
      refine av rfl (r_move rfl) ?_
      refine nwt [(0, _), (3, _), (14, _), (15, _)] ⟨rfl, rfl, rfl, rfl, trivial⟩ ?_
      exact at_weak_k (ih _ _ _ _ hF K) ⟨rfl, rfl, rfl, rfl, trivial⟩
   ·refine at_cond_false rfl h11 ?_
    refine at_exit ?_
    refine at_then_exit (at_then_exit ?_)
    obtain rfl := of_some hF
    exact at_weak_k K ⟨rfl, trivial⟩
 ·skip
  skip
  refine at_blk_same ?_
  refine at_then_normal ?_
  refine sr ?_
  refine av rfl (r_move rfl) ?_
  refine av rfl (r_assign rfl) ?_
  refine nwt [(2, _)] ⟨rfl, trivial⟩ ?_
  refine at_ret ?_
  have K := of_some hF
  subst K
  exact at_return1 rfl rfl (fun w1 hw => ⟨rfl, hw⟩)
end Go.Proofs.Ythccncpephpdjaa
namespace Go.Proofs.Ythccncpephpdjaa
open E Go.RowKit
abbrev zqU3_0 : S_api_Prefix := ({ f_A := ({ f_V := (0 : Int), f_B := (Vector.replicate 16 (0 : Int) : (Vector Int 16)) } : S_api_Addr), f_Bits := (0 : Int) } : S_api_Prefix)
abbrev zqU3_1 : S_api_Addr := ({ f_V := (0 : Int), f_B := (Vector.replicate 16 (0 : Int) : (Vector Int 16)) } : S_api_Addr)
theorem infoU352_is : (Try.prog.info? 52).isSome = true := by kernel_rfl
noncomputable def infoU352_v : TypeInfo := (Try.prog.info? 52).get infoU352_is
theorem infoU352 : Try.prog.info? 52 = some infoU352_v := (Option.some_get _).symm
def trie_Trie_All_1 (x0 : S_api_Entry) (x1 : List S_api_Entry) : Option (List S_api_Entry) :=
  if (x1.length + 1) * 40 ≤ 140737488355328 then some (x1 ++ [x0]) else none
theorem trie_Trie_All_1_ok {x0 : S_api_Entry} {x1 : List S_api_Entry} {r : List S_api_Entry} (hF : trie_Trie_All_1 x0 x1 = some r) : ∀ {w0 w : World} {G_ : List Ent} {b1_ : Nat} {p1_ : Option Addr} {c1_ : Nat} (hw_ : Wd w0 (svE c_api_Entry 52 44 b1_ p1_ c1_ x1 :: G_) w),
    Calls Try.prog 75 #[.agg (Cd.cs c_api_Entry x0).toArray, .pointer (some ⟨b1_, 0, none⟩)] w (fun e w' => ∃ (q0 : Option Addr) (d0 : Nat), e = .returned (.tuple #[]) ∧ Wd w0 (svE c_api_Entry 52 44 b1_ q0 d0 r :: G_) w') := by
 intro w0 w G_ b1_ p1_ c1_ hw_
 unfold trie_Trie_All_1 at hF
 refine calls_enter (l := [.agg (Cd.cs c_api_Entry x0).toArray, .pointer (some ⟨b1_, 0, none⟩)]) Try.func75 rfl rfl rfl ?_
 refine at_enterF hw_ ?_
 refine at_weak [(0, _), (1, _)] ⟨rfl, rfl, trivial⟩ ?_
 refine sr ?_
 refine at_box (cs := Cd.cs c_api_Entry x0) rfl rfl rfl ?_
 intro b1
 refine nwt [(1, _), (2, _)] ⟨rfl, rfl, trivial⟩ ?_
 refine at_region ?_
 refine at_svOpen (.s .z) ?_
 refine av rfl (r_load_cell Try.isAgg44 rfl (fun w1 hw => cells_get (hw.ok (Upd.mem .z)) 0 _ rfl)) ?_
 refine av rfl (r_load_aggc (c := c_api_Entry) (z := x0) Try.isAgg52 Try.sizeOf52 rfl (lens_cell (.s (.s .z)) (Lens.whole _ _))) ?_
 refine at_litL (c := c_api_Entry) ([({ f_P := zqU3_0, f_Owner := (0 : Int) } : S_api_Entry)] : List S_api_Entry) ([x0] : List S_api_Entry) Try.underlying44 Try.sizeOf52 Try.zeroValue52 rfl rfl rfl (by kernel_rfl) (fill_step (c := c_api_Entry) (z := x0) rfl (Lens.all c_api_Entry ([({ f_P := zqU3_0, f_Owner := (0 : Int) } : S_api_Entry)] : List S_api_Entry) 0 (by decide)) rfl rfl) rfl ?_
 intro b2
 obtain ⟨h3, hF⟩ := of_guard hF
 refine at_append (z := .agg (Cd.cs c_api_Entry ({ f_P := zqU3_0, f_Owner := (0 : Int) } : S_api_Entry)).toArray) (c := c_api_Entry) (ys := ([x0] : List S_api_Entry)) (.s (.s .z)) Try.underlying44 infoU352 (by kernel_rfl) (by kernel_rfl) rfl rfl rfl rfl (fun _ hw => cells_src (hw.ok (Upd.mem .z))) (by kernel_rfl) h3 (app_small h3) rfl ?_
 intro p4 c5
 refine at_storeSv (.s .z) Try.sizeOf44 rfl rfl ⟨_, _, _, rfl⟩ ⟨_, _, _, rfl⟩ ?_
 refine at_nil ?_
 refine at_drop (H := _) .z ?_
 refine at_drop (H := _) (.s (.s .z)) ?_
 refine at_weak [] trivial ?_
 refine at_svClose ?_
 have K := of_some hF
 subst K
 exact at_return0 rfl (fun w1 hw => ⟨p4, c5, rfl, hw⟩)
def trie_node_each__trie_Trie_All_1.go : Nat → List HV → Option Nat → S_api_Addr → Int → List S_api_Entry → Option (List S_api_Entry)
  | 0 => fun _ _ _ _ _ => none
  | f_ + 1 => fun h_ x0 x1 x2 x3 => if (Option.isNone x0) = true then (some x3) else (hn_trie_node h_ x0 >>= fun t3 => if t3.2.f_is = true then (hn_trie_node h_ x0 >>= fun t7 => trie_Trie_All_1 ({ { ({ f_P := ({ f_A := ({ f_V := (0 : Int), f_B := (Vector.replicate 16 (0 : Int) : (Vector Int 16)) } : S_api_Addr), f_Bits := (0 : Int) } : S_api_Prefix), f_Owner := (0 : Int) } : S_api_Entry) with f_P := { { ({ f_A := ({ f_V := (0 : Int), f_B := (Vector.replicate 16 (0 : Int) : (Vector Int 16)) } : S_api_Addr), f_Bits := (0 : Int) } : S_api_Prefix) with f_A := x1 } with f_Bits := x2 } } with f_Owner := t7.2.f_owner }) x3 >>= fun t10 => hn_trie_node h_ x0 >>= fun t14 => (trie_node_each__trie_Trie_All_1.go f_) h_ (vget t14.2.f_next 0) x1 (wr .i64 (x2 + 1)) t10 >>= fun t17 => hn_trie_node h_ x0 >>= fun t21 => if (!(Option.isNone (vget t21.2.f_next 1))) = true then (if (0 : Int) ≤ ishr .i64 x2 3 ∧ ishr .i64 x2 3 < 16 then if (0 : Int) ≤ wr .u64 (iand .i64 x2 7) then if (0 : Int) ≤ ishr .i64 x2 3 ∧ ishr .i64 x2 3 < 16 then hn_trie_node h_ x0 >>= fun t28 => (trie_node_each__trie_Trie_All_1.go f_) h_ (vget t28.2.f_next 1) ({ x1 with f_B := vset x1.f_B (ishr .i64 x2 3) (ior .u8 (vget x1.f_B (ishr .i64 x2 3)) (ishr .u8 128 (wr .u64 (iand .i64 x2 7)))) }) (wr .i64 (x2 + 1)) t17 >>= fun t31 => some t31 else none else none else none) else (some t17)) else (hn_trie_node h_ x0 >>= fun t35 => (trie_node_each__trie_Trie_All_1.go f_) h_ (vget t35.2.f_next 0) x1 (wr .i64 (x2 + 1)) x3 >>= fun t38 => hn_trie_node h_ x0 >>= fun t42 => if (!(Option.isNone (vget t42.2.f_next 1))) = true then (if (0 : Int) ≤ ishr .i64 x2 3 ∧ ishr .i64 x2 3 < 16 then if (0 : Int) ≤ wr .u64 (iand .i64 x2 7) then if (0 : Int) ≤ ishr .i64 x2 3 ∧ ishr .i64 x2 3 < 16 then hn_trie_node h_ x0 >>= fun t49 => (trie_node_each__trie_Trie_All_1.go f_) h_ (vget t49.2.f_next 1) ({ x1 with f_B := vset x1.f_B (ishr .i64 x2 3) (ior .u8 (vget x1.f_B (ishr .i64 x2 3)) (ishr .u8 128 (wr .u64 (iand .i64 x2 7)))) }) (wr .i64 (x2 + 1)) t38 >>= fun t52 => some t52 else none else none else none) else (some t38)))
def trie_node_each__trie_Trie_All_1 (h_ : List HV) (x0 : Option Nat) (x1 : S_api_Addr) (x2 : Int) (x3 : List S_api_Entry) : Option (List S_api_Entry) := trie_node_each__trie_Trie_All_1.go 400 h_ x0 x1 x2 x3
set_option maxHeartbeats 3200000 in
theorem trie_node_each__trie_Trie_All_1.go_ok (f_ : Nat) : ∀ {h_ : List HV} {x0 : Option Nat} {x1 : S_api_Addr} {x2 : Int} {x3 : List S_api_Entry} {r : List S_api_Entry} (hF : trie_node_each__trie_Trie_All_1.go f_ h_ x0 x1 x2 x3 = some r) {w0 w : World} {G_ : List Ent} {g0_ : Nat → Nat} {n0_ : Nat} {gh : Nat → Nat} {b3_ : Nat} {p3_ : Option Addr} {c3_ : Nat} (hw_ : Wd w0 (heapE hK g0_ n0_ gh h_ :: svE c_api_Entry 52 44 b3_ p3_ c3_ x3 :: G_) w),
    Calls Try.prog 74 #[pv gh x0, .agg (Cd.cs c_api_Addr x1).toArray, .int .i64 x2, .func (.func 75) #[] #[.pointer (some ⟨b3_, 0, none⟩)]] w (fun e w' => ∃ (q0 : Option Addr) (d0 : Nat), e = .returned (.tuple #[]) ∧ Wd w0 (heapE hK g0_ n0_ gh h_ :: svE c_api_Entry 52 44 b3_ q0 d0 r :: G_) w') := by
 induction f_ with
 | zero => intro h_ x0 x1 x2 x3 r hF; exact absurd hF (by simp [trie_node_each__trie_Trie_All_1.go])
 | succ f_ ihf =>
 intro h_ x0 x1 x2 x3 r hF w0 w G_ g0_ n0_ gh b3_ p3_ c3_ hw_
 unfold trie_node_each__trie_Trie_All_1.go at hF
 refine calls_enter (l := [pv gh x0, .agg (Cd.cs c_api_Addr x1).toArray, .int .i64 x2, .func (.func 75) #[] #[.pointer (some ⟨b3_, 0, none⟩)]]) Try.func74 rfl rfl rfl ?_
 refine at_enterF hw_ ?_
 refine at_weak [(0, _), (1, _), (2, _), (3, _)] ⟨rfl, rfl, rfl, rfl, trivial⟩ ?_
 refine sr ?_
 refine at_box (cs := Cd.cs c_api_Addr x1) rfl rfl rfl ?_
 intro b1
 refine nwt [(0, _), (2, _), (3, _), (5, _)] ⟨rfl, rfl, rfl, rfl, trivial⟩ ?_
 refine at_seq ?_
 refine sr ?_
 refine av rfl (r_move rfl) ?_
 refine av rfl (r_pnil (p := x0) Try.underlying100 rfl rfl (.inl rfl) rfl) ?_
 refine nwt [(0, _), (2, _), (3, _), (5, _), (9, _)] ⟨rfl, rfl, rfl, rfl, rfl, trivial⟩ ?_
 rcases of_ite hF with ⟨h2, hF⟩ | ⟨h2, hF⟩
 ·refine at_cond_true rfl h2 ?_
  refine rt ?_
  refine at_drop (H := _) .z ?_
  have K := of_some hF
  subst K
  exact at_return0' rfl (fun w1 hw => ⟨p3_, c3_, rfl, hw⟩)
 ·refine at_cond_false rfl h2 ?_
  refine sn ?_
  refine at_seq ?_
  refine sr ?_
  refine av rfl (r_move rfl) ?_
  obtain ⟨t3, ht3, hF⟩ := of_bindM hF
  obtain ⟨ha4, hb5⟩ := hn_trie_node_at ht3
  refine av rfl (r_npc rfl ha4) ?_
  refine av rfl (r_fieldAddr (fo := 2) Try.underlying103 rfl rfl (fun w => ⟨_, Try.sizeOf4 w⟩) rfl) ?_
  refine av rfl (r_load_cell Try.isAgg4 rfl (hcell0 (c := cBool) (y := t3.2.f_is) (.s .z) hb5 (fun _ h => h) (Lens.comp (Lens.whole _ _) (fun z => { t3.2 with f_is := z }) (c_trie_node_f_is gh t3.2)) rfl)) ?_
  refine nwt [(0, _), (2, _), (3, _), (5, _), (13, _)] ⟨rfl, rfl, rfl, rfl, rfl, trivial⟩ ?_
  rcases of_ite hF with ⟨h6, hF⟩ | ⟨h6, hF⟩
  ·refine at_cond_true rfl h6 ?_
   refine at_weak [(0, _), (2, _), (3, _), (5, _)] ⟨rfl, rfl, rfl, rfl, trivial⟩ ?_
   obtain ⟨t7, ht7, hF⟩ := of_bindM hF
   obtain ⟨ha8, hb9⟩ := hn_trie_node_at ht7
   obtain ⟨t10, ht10, hF⟩ := of_bindM hF
   refine at_inv [.q 14 (fun g13 => .func (.func 75) #[] #[.pointer (some ⟨b3_, 0, none⟩)]) [] 0 0, .q 15 (fun g13 => .agg (Cd.cs c_api_Addr x1).toArray) [] 0 0, .q 16 (fun g13 => .int .i64 x2) [] 0 0, .q 17 (fun g13 => .agg (Cd.cs c_api_Prefix ({ { zqU3_0 with f_A := x1 } with f_Bits := x2 })).toArray) [1, 2] 0 0, .q 18 (fun g13 => pv gh x0) [] 0 0, .q 19 (fun g13 => .pointer (some ⟨gh t7.1, 0, none⟩)) [4] 0 0, .q 20 (fun g13 => .pointer (some ⟨gh t7.1, 0 + 3, none⟩)) [5] 0 0, .q 21 (fun g13 => .int .i64 t7.2.f_owner) [6] 0 0, .q 22 (fun g13 => .agg (Cd.cs c_api_Entry ({ { ({ f_P := zqU3_0, f_Owner := (0 : Int) } : S_api_Entry) with f_P := { { zqU3_0 with f_A := x1 } with f_Bits := x2 } } with f_Owner := t7.2.f_owner })).toArray) [3, 7] 0 0, .al 0 23 (fun g13 => undef) [0, 8]] (fun g13 s => match s with | 0 => (Wd w0 (cellsE b1 (Cd.cs c_api_Addr x1) 32 :: heapE hK g0_ n0_ gh h_ :: svE c_api_Entry 52 44 b3_ p3_ c3_ x3 :: G_)) | _ => (Wd w0 (svE c_api_Entry 52 44 b3_ ((g13 0).2.1) ((g13 0).2.2.1) t10 :: cellsE b1 (Cd.cs c_api_Addr x1) 32 :: heapE hK g0_ n0_ gh h_ :: G_))) 1 (by kernel_rfl) (by kernel_rfl) (by kernel_rfl) (by kernel_rfl) (by kernel_rfl) ⟨fun _ _ _ => rfl, fun _ _ _ => rfl, fun _ _ _ => rfl, fun _ _ _ => rfl, fun _ _ _ => rfl, fun _ _ _ => rfl, fun _ _ _ => rfl, fun _ _ _ => rfl, fun _ _ _ => rfl, fun _ _ _ => rfl, trivial⟩ (by kernel_rfl) (fun _ h => ⟨fun _ => (0, none, 0, none), h.drew⟩) ⟨?_, ?_, ?_, ?_, ?_, ?_, ?_, ?_, ?_, ?_, trivial⟩ ?_
   ·intro Lx g13 s K hl hh k
    show At 62 ((0, _) :: (2, _) :: (3, _) :: (5, _) :: Lx) _ _
    refine av rfl (r_move rfl) ?_
    exact at_nil k
   ·intro Lx g13 s K hl hh k
    show At 62 ((0, _) :: (2, _) :: (3, _) :: (5, _) :: Lx) _ _
    obtain rfl : s = 0 := by omega
    refine av rfl (r_load_aggc (c := c_api_Addr) (z := x1) Try.isAgg32 Try.sizeOf32 rfl (lens_cell .z (Lens.whole _ _))) ?_
    exact at_nil k
   ·intro Lx g13 s K hl hh k
    show At 62 ((0, _) :: (2, _) :: (3, _) :: (5, _) :: Lx) _ _
    refine av rfl (r_move rfl) ?_
    exact at_nil k
   ·intro Lx g13 s K hl hh k
    show At 62 ((15, _) :: (16, _) :: (0, _) :: (2, _) :: (3, _) :: (5, _) :: Lx) _ _
    obtain rfl : s = 0 := by omega
    refine av rfl (r_build_struct (zs := Cd.cs c_api_Prefix zqU3_0) (cs := Cd.cs c_api_Prefix ({ { zqU3_0 with f_A := x1 } with f_Bits := x2 })) Try.underlying46 Try.zeroValue46 rfl (places_api_Prefix_46) rfl (fill_step (c := c_api_Addr) (z := x1) rfl (c_api_Prefix_f_A zqU3_0) rfl (fill_step (c := (cInt .i64)) (z := x2) rfl (c_api_Prefix_f_Bits ({ zqU3_0 with f_A := x1 })) rfl rfl))) ?_
    exact at_nil k
   ·intro Lx g13 s K hl hh k
    show At 62 ((0, _) :: (2, _) :: (3, _) :: (5, _) :: Lx) _ _
    refine av rfl (r_move rfl) ?_
    exact at_nil k
   ·intro Lx g13 s K hl hh k
    show At 62 ((18, _) :: (0, _) :: (2, _) :: (3, _) :: (5, _) :: Lx) _ _
    refine av rfl (r_npc rfl ha8) ?_
    exact at_nil k
   ·intro Lx g13 s K hl hh k
    show At 62 ((19, _) :: (0, _) :: (2, _) :: (3, _) :: (5, _) :: Lx) _ _
    refine av rfl (r_fieldAddr (fo := 3) Try.underlying103 rfl rfl (fun w => ⟨_, Try.sizeOf3 w⟩) rfl) ?_
    exact at_nil k
   ·intro Lx g13 s K hl hh k
    show At 62 ((20, _) :: (0, _) :: (2, _) :: (3, _) :: (5, _) :: Lx) _ _
    obtain rfl : s = 0 := by omega
    refine av rfl (r_load_cell Try.isAgg3 rfl (hcell0 (c := (cInt .i64)) (y := t7.2.f_owner) (.s .z) hb9 (fun _ h => h) (Lens.comp (Lens.whole _ _) (fun z => { t7.2 with f_owner := z }) (c_trie_node_f_owner gh t7.2)) rfl)) ?_
    exact at_nil k
   ·intro Lx g13 s K hl hh k
    show At 62 ((17, _) :: (21, _) :: (0, _) :: (2, _) :: (3, _) :: (5, _) :: Lx) _ _
    obtain rfl : s = 0 := by omega
    refine av rfl (r_build_struct (zs := Cd.cs c_api_Entry ({ f_P := zqU3_0, f_Owner := (0 : Int) } : S_api_Entry)) (cs := Cd.cs c_api_Entry ({ { ({ f_P := zqU3_0, f_Owner := (0 : Int) } : S_api_Entry) with f_P := { { zqU3_0 with f_A := x1 } with f_Bits := x2 } } with f_Owner := t7.2.f_owner })) Try.underlying52 Try.zeroValue52 rfl (places_api_Entry_52) rfl (fill_step (c := c_api_Prefix) (z := { { zqU3_0 with f_A := x1 } with f_Bits := x2 }) rfl (c_api_Entry_f_P ({ f_P := zqU3_0, f_Owner := (0 : Int) } : S_api_Entry)) rfl (fill_step (c := (cInt .i64)) (z := t7.2.f_owner) rfl (c_api_Entry_f_Owner ({ ({ f_P := zqU3_0, f_Owner := (0 : Int) } : S_api_Entry) with f_P := { { zqU3_0 with f_A := x1 } with f_Bits := x2 } })) rfl rfl))) ?_
    exact at_nil k
   ·intro Lx g13 K k
    show At 62 ((14, _) :: (22, _) :: (0, _) :: (2, _) :: (3, _) :: (5, _) :: Lx) _ _
    refine at_calleeC (caps := [.pointer (some ⟨b3_, 0, none⟩)]) rfl ?_
    refine at_front (.s .z) ?_
    refine at_front (.s .z) ?_
    refine at_front (.s (.s .z)) ?_
    refine at_callG (V := fun p cap => .tuple #[]) (T := fun p cap => (svE c_api_Entry 52 44 b3_ p cap t10 :: cellsE b1 (Cd.cs c_api_Addr x1) 32 :: heapE hK g0_ n0_ gh h_ :: G_)) Try.func75 rfl (by kernel_rfl) rfl rfl (fun w hw => trie_Trie_All_1_ok ht10 hw) ?_
    intro p11 c12
    exact at_nil (k (0, p11, c12, none))
   intro g13
   show At 62 [(14, _), (15, _), (16, _), (17, _), (18, _), (19, _), (20, _), (21, _), (22, _), (23, _), (0, _), (2, _), (3, _), (5, _)] _ _
   refine at_weak [(0, _), (2, _), (3, _), (5, _)] ⟨rfl, rfl, rfl, rfl, trivial⟩ ?_
   refine at_then_normal ?_
   refine at_seq ?_
   refine at_weak [(0, _), (2, _), (3, _), (5, _)] ⟨rfl, rfl, rfl, rfl, trivial⟩ ?_
   obtain ⟨t14, ht14, hF⟩ := of_bindM hF
   obtain ⟨ha15, hb16⟩ := hn_trie_node_at ht14
   obtain ⟨t17, ht17, hF⟩ := of_bindM hF
   refine at_inv [.q 24 (fun g20 => pv gh x0) [] 0 0, .q 25 (fun g20 => .pointer (some ⟨gh t14.1, 0, none⟩)) [0] 0 0, .q 26 (fun g20 => .pointer (some ⟨gh t14.1, 0 + 0, none⟩)) [1] 0 0, .q 27 (fun g20 => .pointer (some ⟨gh t14.1, 0 + 0 + Int.toNat 0 * 1, none⟩)) [2] 0 0, .q 28 (fun g20 => pv gh (vget t14.2.f_next 0)) [3] 0 0, .q 29 (fun g20 => .agg (Cd.cs c_api_Addr x1).toArray) [] 0 0, .q 30 (fun g20 => .int .i64 x2) [] 0 0, .q 31 (fun g20 => .int .i64 (wr .i64 (x2 + 1))) [6] 0 0, .q 32 (fun g20 => .func (.func 75) #[] #[.pointer (some ⟨b3_, 0, none⟩)]) [] 0 0, .al 0 33 (fun g20 => undef) [4, 5, 7, 8]] (fun g20 s => match s with | 0 => (Wd w0 (svE c_api_Entry 52 44 b3_ (g13 0).2.1 (g13 0).2.2.1 t10 :: cellsE b1 (Cd.cs c_api_Addr x1) 32 :: heapE hK g0_ n0_ gh h_ :: G_)) | _ => (Wd w0 (heapE hK g0_ n0_ gh h_ :: svE c_api_Entry 52 44 b3_ ((g20 0).2.1) ((g20 0).2.2.1) t17 :: cellsE b1 (Cd.cs c_api_Addr x1) 32 :: G_))) 1 (by kernel_rfl) (by kernel_rfl) (by kernel_rfl) (by kernel_rfl) (by kernel_rfl) ⟨fun _ _ _ => rfl, fun _ _ _ => rfl, fun _ _ _ => rfl, fun _ _ _ => rfl, fun _ _ _ => rfl, fun _ _ _ => rfl, fun _ _ _ => rfl, fun _ _ _ => rfl, fun _ _ _ => rfl, fun _ _ _ => rfl, trivial⟩ (by kernel_rfl) (fun _ h => ⟨fun _ => (0, none, 0, none), h.drew⟩) ⟨?_, ?_, ?_, ?_, ?_, ?_, ?_, ?_, ?_, ?_, trivial⟩ ?_
   ·intro Lx g20 s K hl hh k
    show At 62 ((0, _) :: (2, _) :: (3, _) :: (5, _) :: Lx) _ _
    refine av rfl (r_move rfl) ?_
    exact at_nil k
   ·intro Lx g20 s K hl hh k
    show At 62 ((24, _) :: (0, _) :: (2, _) :: (3, _) :: (5, _) :: Lx) _ _
    refine av rfl (r_npc rfl ha15) ?_
    exact at_nil k
   ·intro Lx g20 s K hl hh k
    show At 62 ((25, _) :: (0, _) :: (2, _) :: (3, _) :: (5, _) :: Lx) _ _
    refine av rfl (r_fieldAddr (fo := 0) Try.underlying103 rfl rfl (fun w => ⟨_, Try.sizeOf101 w⟩) rfl) ?_
    exact at_nil k
   ·intro Lx g20 s K hl hh k
    show At 62 ((26, _) :: (0, _) :: (2, _) :: (3, _) :: (5, _) :: Lx) _ _
    refine av rfl (r_idxArr Try.underlying101 Try.sizeOf100 rfl rfl (by decide)) ?_
    exact at_nil k
   ·intro Lx g20 s K hl hh k
    show At 62 ((27, _) :: (0, _) :: (2, _) :: (3, _) :: (5, _) :: Lx) _ _
    obtain rfl : s = 0 := by omega
    refine av rfl (r_load_cell Try.isAgg100 rfl (hcell0 (c := (cPtr gh)) (y := vget t14.2.f_next 0) (.s (.s .z)) hb16 (fun _ h => h) (Lens.comp (Lens.comp (Lens.whole _ _) (fun z => { t14.2 with f_next := z }) (c_trie_node_f_next gh t14.2)) (fun z => vset t14.2.f_next 0 z) (Lens.vec (cPtr gh) (by decide) t14.2.f_next 0 (by decide))) rfl)) ?_
    exact at_nil k
   ·intro Lx g20 s K hl hh k
    show At 62 ((0, _) :: (2, _) :: (3, _) :: (5, _) :: Lx) _ _
    obtain rfl : s = 0 := by omega
    refine av rfl (r_load_aggc (c := c_api_Addr) (z := x1) Try.isAgg32 Try.sizeOf32 rfl (lens_cell (.s .z) (Lens.whole _ _))) ?_
    exact at_nil k
   ·intro Lx g20 s K hl hh k
    show At 62 ((0, _) :: (2, _) :: (3, _) :: (5, _) :: Lx) _ _
    refine av rfl (r_move rfl) ?_
    exact at_nil k
   ·intro Lx g20 s K hl hh k
    show At 62 ((30, _) :: (0, _) :: (2, _) :: (3, _) :: (5, _) :: Lx) _ _
    refine av rfl (r_iadd rfl rfl) ?_
    exact at_nil k
   ·intro Lx g20 s K hl hh k
    show At 62 ((0, _) :: (2, _) :: (3, _) :: (5, _) :: Lx) _ _
    refine av rfl (r_move rfl) ?_
    exact at_nil k
   ·intro Lx g20 K k
    show At 62 ((28, _) :: (29, _) :: (31, _) :: (32, _) :: (0, _) :: (2, _) :: (3, _) :: (5, _) :: Lx) _ _
    refine at_front (.s .z) ?_
    refine at_front (.s .z) ?_
    refine at_front (.s (.s .z)) ?_
    refine at_callG (V := fun p cap => .tuple #[]) (T := fun p cap => (heapE hK g0_ n0_ gh h_ :: svE c_api_Entry 52 44 b3_ p cap t17 :: cellsE b1 (Cd.cs c_api_Addr x1) 32 :: G_)) Try.func74 rfl (by kernel_rfl) rfl rfl (fun w hw => ihf ht17 hw) ?_
    intro p18 c19
    exact at_nil (k (0, p18, c19, none))
   intro g20
   show At 62 [(24, _), (25, _), (26, _), (27, _), (28, _), (29, _), (30, _), (31, _), (32, _), (33, _), (0, _), (2, _), (3, _), (5, _)] _ _
   refine at_weak [(0, _), (2, _), (3, _), (5, _)] ⟨rfl, rfl, rfl, rfl, trivial⟩ ?_
   refine at_then_normal ?_
   refine sr ?_
   refine av rfl (r_move rfl) ?_
   obtain ⟨t21, ht21, hF⟩ := of_bindM hF
   obtain ⟨ha22, hb23⟩ := hn_trie_node_at ht21
   refine av rfl (r_npc rfl ha22) ?_
   refine av rfl (r_fieldAddr (fo := 0) Try.underlying103 rfl rfl (fun w => ⟨_, Try.sizeOf101 w⟩) rfl) ?_
   refine av rfl (r_idxArr Try.underlying101 Try.sizeOf100 rfl rfl (by decide)) ?_
   refine av rfl (r_load_cell Try.isAgg100 rfl (hcell0 (c := (cPtr gh)) (y := vget t21.2.f_next 1) .z hb23 (fun _ h => h) (Lens.comp (Lens.comp (Lens.whole _ _) (fun z => { t21.2 with f_next := z }) (c_trie_node_f_next gh t21.2)) (fun z => vset t21.2.f_next 1 z) (Lens.vec (cPtr gh) (by decide) t21.2.f_next 1 (by decide))) rfl)) ?_
   refine av rfl (r_pnil (p := vget t21.2.f_next 1) Try.underlying100 rfl rfl (.inr rfl) rfl) ?_
   refine nwt [(0, _), (2, _), (3, _), (5, _), (39, _)] ⟨rfl, rfl, rfl, rfl, rfl, trivial⟩ ?_
   rcases of_ite hF with ⟨h24, hF⟩ | ⟨h24, hF⟩
   ·refine at_cond_true rfl h24 ?_
    refine sr ?_
    refine av rfl (r_move rfl) ?_
    refine av rfl (r_ishr rfl rfl (by decide)) ?_
    refine av rfl (r_fieldAddr (fo := 1) Try.underlying32 rfl rfl (fun w => ⟨_, Try.sizeOf30 w⟩) rfl) ?_
    obtain ⟨h25, hF⟩ := of_guard hF
    refine av rfl (r_idxArr Try.underlying30 Try.sizeOf5 rfl rfl h25) ?_
    refine av rfl (r_load_cell Try.isAgg5 rfl (lens_cell0 (c := (cInt .u8)) (y := vget x1.f_B (ishr .i64 x2 3)) (.s (.s .z)) (Lens.comp (Lens.comp (Lens.whole _ _) (fun z => { x1 with f_B := z }) (c_api_Addr_f_B x1)) (fun z => vset x1.f_B (ishr .i64 x2 3) z) (Lens.vec (cInt .u8) (by decide) x1.f_B (ishr .i64 x2 3) h25)) rfl)) ?_
    refine av rfl (r_move rfl) ?_
    refine av rfl (r_iand rfl rfl) ?_
    refine av rfl (r_conv Try.underlying3 Try.underlying131 rfl) ?_
    obtain ⟨h26, hF⟩ := of_guard hF
    refine av rfl (r_ishr rfl rfl h26) ?_
    refine av rfl (r_ior rfl rfl) ?_
    refine av rfl (r_fieldAddr (fo := 1) Try.underlying32 rfl rfl (fun w => ⟨_, Try.sizeOf30 w⟩) rfl) ?_
    obtain ⟨h27, hF⟩ := of_guard hF
    refine av rfl (r_idxArr Try.underlying30 Try.sizeOf5 rfl rfl h27) ?_
    refine at_store (c := (cInt .u8)) (z := ior .u8 (vget x1.f_B (ishr .i64 x2 3)) (ishr .u8 128 (wr .u64 (iand .i64 x2 7)))) (.s (.s .z)) (Lens.comp (Lens.comp (Lens.whole _ _) (fun z => { x1 with f_B := z }) (c_api_Addr_f_B x1)) (fun z => vset x1.f_B (ishr .i64 x2 3) z) (Lens.vec (cInt .u8) (by decide) x1.f_B (ishr .i64 x2 3) h27)) Try.sizeOf5 rfl rfl rfl ?_
    refine nwt [(0, _), (2, _), (3, _), (5, _)] ⟨rfl, rfl, rfl, rfl, trivial⟩ ?_
    refine at_weak [(0, _), (2, _), (3, _), (5, _)] ⟨rfl, rfl, rfl, rfl, trivial⟩ ?_
    obtain ⟨t28, ht28, hF⟩ := of_bindM hF
    obtain ⟨ha29, hb30⟩ := hn_trie_node_at ht28
    obtain ⟨t31, ht31, hF⟩ := of_bindM hF
    refine at_inv [.q 52 (fun g34 => pv gh x0) [] 0 0, .q 53 (fun g34 => .pointer (some ⟨gh t28.1, 0, none⟩)) [0] 0 0, .q 54 (fun g34 => .pointer (some ⟨gh t28.1, 0 + 0, none⟩)) [1] 0 0, .q 55 (fun g34 => .pointer (some ⟨gh t28.1, 0 + 0 + Int.toNat 1 * 1, none⟩)) [2] 0 0, .q 56 (fun g34 => pv gh (vget t28.2.f_next 1)) [3] 0 0, .q 57 (fun g34 => .agg (Cd.cs c_api_Addr ({ x1 with f_B := vset x1.f_B (ishr .i64 x2 3) (ior .u8 (vget x1.f_B (ishr .i64 x2 3)) (ishr .u8 128 (wr .u64 (iand .i64 x2 7)))) })).toArray) [] 0 0, .q 58 (fun g34 => .int .i64 x2) [] 0 0, .q 59 (fun g34 => .int .i64 (wr .i64 (x2 + 1))) [6] 0 0, .q 60 (fun g34 => .func (.func 75) #[] #[.pointer (some ⟨b3_, 0, none⟩)]) [] 0 0, .al 0 61 (fun g34 => undef) [4, 5, 7, 8]] (fun g34 s => match s with | 0 => (Wd w0 (heapE hK g0_ n0_ gh h_ :: svE c_api_Entry 52 44 b3_ (g20 0).2.1 (g20 0).2.2.1 t17 :: cellsE b1 (Cd.cs c_api_Addr ({ x1 with f_B := vset x1.f_B (ishr .i64 x2 3) (ior .u8 (vget x1.f_B (ishr .i64 x2 3)) (ishr .u8 128 (wr .u64 (iand .i64 x2 7)))) })) 32 :: G_)) | _ => (Wd w0 (heapE hK g0_ n0_ gh h_ :: svE c_api_Entry 52 44 b3_ ((g34 0).2.1) ((g34 0).2.2.1) t31 :: cellsE b1 (Cd.cs c_api_Addr ({ x1 with f_B := vset x1.f_B (ishr .i64 x2 3) (ior .u8 (vget x1.f_B (ishr .i64 x2 3)) (ishr .u8 128 (wr .u64 (iand .i64 x2 7)))) })) 32 :: G_))) 1 (by kernel_rfl) (by kernel_rfl) (by kernel_rfl) (by kernel_rfl) (by kernel_rfl) ⟨fun _ _ _ => rfl, fun _ _ _ => rfl, fun _ _ _ => rfl, fun _ _ _ => rfl, fun _ _ _ => rfl, fun _ _ _ => rfl, fun _ _ _ => rfl, fun _ _ _ => rfl, fun _ _ _ => rfl, fun _ _ _ => rfl, trivial⟩ (by kernel_rfl) (fun _ h => ⟨fun _ => (0, none, 0, none), h.drew⟩) ⟨?_, ?_, ?_, ?_, ?_, ?_, ?_, ?_, ?_, ?_, trivial⟩ ?_
    ·intro Lx g34 s K hl hh k
     show At 62 ((0, _) :: (2, _) :: (3, _) :: (5, _) :: Lx) _ _
     refine av rfl (r_move rfl) ?_
     exact at_nil k
    ·intro Lx g34 s K hl hh k
     show At 62 ((52, _) :: (0, _) :: (2, _) :: (3, _) :: (5, _) :: Lx) _ _
     refine av rfl (r_npc rfl ha29) ?_
     exact at_nil k
    ·intro Lx g34 s K hl hh k
     show At 62 ((53, _) :: (0, _) :: (2, _) :: (3, _) :: (5, _) :: Lx) _ _
     refine av rfl (r_fieldAddr (fo := 0) Try.underlying103 rfl rfl (fun w => ⟨_, Try.sizeOf101 w⟩) rfl) ?_
     exact at_nil k
    ·intro Lx g34 s K hl hh k
     show At 62 ((54, _) :: (0, _) :: (2, _) :: (3, _) :: (5, _) :: Lx) _ _
     refine av rfl (r_idxArr Try.underlying101 Try.sizeOf100 rfl rfl (by decide)) ?_
     exact at_nil k
    ·intro Lx g34 s K hl hh k
     show At 62 ((55, _) :: (0, _) :: (2, _) :: (3, _) :: (5, _) :: Lx) _ _
     obtain rfl : s = 0 := by omega
     refine av rfl (r_load_cell Try.isAgg100 rfl (hcell0 (c := (cPtr gh)) (y := vget t28.2.f_next 1) .z hb30 (fun _ h => h) (Lens.comp (Lens.comp (Lens.whole _ _) (fun z => { t28.2 with f_next := z }) (c_trie_node_f_next gh t28.2)) (fun z => vset t28.2.f_next 1 z) (Lens.vec (cPtr gh) (by decide) t28.2.f_next 1 (by decide))) rfl)) ?_
     exact at_nil k
    ·intro Lx g34 s K hl hh k
     show At 62 ((0, _) :: (2, _) :: (3, _) :: (5, _) :: Lx) _ _
     obtain rfl : s = 0 := by omega
     refine av rfl (r_load_aggc (c := c_api_Addr) (z := { x1 with f_B := vset x1.f_B (ishr .i64 x2 3) (ior .u8 (vget x1.f_B (ishr .i64 x2 3)) (ishr .u8 128 (wr .u64 (iand .i64 x2 7)))) }) Try.isAgg32 Try.sizeOf32 rfl (lens_cell (.s (.s .z)) (Lens.whole _ _))) ?_
     exact at_nil k
    ·intro Lx g34 s K hl hh k
     show At 62 ((0, _) :: (2, _) :: (3, _) :: (5, _) :: Lx) _ _
     refine av rfl (r_move rfl) ?_
     exact at_nil k
    ·intro Lx g34 s K hl hh k
     show At 62 ((58, _) :: (0, _) :: (2, _) :: (3, _) :: (5, _) :: Lx) _ _
     refine av rfl (r_iadd rfl rfl) ?_
     exact at_nil k
    ·intro Lx g34 s K hl hh k
     show At 62 ((0, _) :: (2, _) :: (3, _) :: (5, _) :: Lx) _ _
     refine av rfl (r_move rfl) ?_
     exact at_nil k
    ·intro Lx g34 K k
     show At 62 ((56, _) :: (57, _) :: (59, _) :: (60, _) :: (0, _) :: (2, _) :: (3, _) :: (5, _) :: Lx) _ _
     refine at_callG (V := fun p cap => .tuple #[]) (T := fun p cap => (heapE hK g0_ n0_ gh h_ :: svE c_api_Entry 52 44 b3_ p cap t31 :: cellsE b1 (Cd.cs c_api_Addr ({ x1 with f_B := vset x1.f_B (ishr .i64 x2 3) (ior .u8 (vget x1.f_B (ishr .i64 x2 3)) (ishr .u8 128 (wr .u64 (iand .i64 x2 7)))) })) 32 :: G_)) Try.func74 rfl (by kernel_rfl) rfl rfl (fun w hw => ihf ht31 hw) ?_
     intro p32 c33
     exact at_nil (k (0, p32, c33, none))
    intro g34
    show At 62 [(52, _), (53, _), (54, _), (55, _), (56, _), (57, _), (58, _), (59, _), (60, _), (61, _), (0, _), (2, _), (3, _), (5, _)] _ _
    refine at_drop (H := _) (.s (.s .z)) ?_
    refine at_weak [] trivial ?_
    have K := of_some hF
    subst K
    exact at_return0 rfl (fun w1 hw => ⟨(g34 0).2.1, (g34 0).2.2.1, rfl, hw⟩)
   ·refine at_cond_false rfl h24 ?_
    refine at_skip ?_
    refine at_drop (H := _) (.s (.s .z)) ?_
    have K := of_some hF
    subst K
    exact at_return0 rfl (fun w1 hw => ⟨(g20 0).2.1, (g20 0).2.2.1, rfl, hw⟩)
  ·refine at_cond_false rfl h6 ?_
   refine sn ?_
   refine at_seq ?_
   refine at_weak [(0, _), (2, _), (3, _), (5, _)] ⟨rfl, rfl, rfl, rfl, trivial⟩ ?_
   obtain ⟨t35, ht35, hF⟩ := of_bindM hF
   obtain ⟨ha36, hb37⟩ := hn_trie_node_at ht35
   obtain ⟨t38, ht38, hF⟩ := of_bindM hF
   refine at_inv [.q 24 (fun g41 => pv gh x0) [] 0 0, .q 25 (fun g41 => .pointer (some ⟨gh t35.1, 0, none⟩)) [0] 0 0, .q 26 (fun g41 => .pointer (some ⟨gh t35.1, 0 + 0, none⟩)) [1] 0 0, .q 27 (fun g41 => .pointer (some ⟨gh t35.1, 0 + 0 + Int.toNat 0 * 1, none⟩)) [2] 0 0, .q 28 (fun g41 => pv gh (vget t35.2.f_next 0)) [3] 0 0, .q 29 (fun g41 => .agg (Cd.cs c_api_Addr x1).toArray) [] 0 0, .q 30 (fun g41 => .int .i64 x2) [] 0 0, .q 31 (fun g41 => .int .i64 (wr .i64 (x2 + 1))) [6] 0 0, .q 32 (fun g41 => .func (.func 75) #[] #[.pointer (some ⟨b3_, 0, none⟩)]) [] 0 0, .al 0 33 (fun g41 => undef) [4, 5, 7, 8]] (fun g41 s => match s with | 0 => (Wd w0 (cellsE b1 (Cd.cs c_api_Addr x1) 32 :: heapE hK g0_ n0_ gh h_ :: svE c_api_Entry 52 44 b3_ p3_ c3_ x3 :: G_)) | _ => (Wd w0 (heapE hK g0_ n0_ gh h_ :: svE c_api_Entry 52 44 b3_ ((g41 0).2.1) ((g41 0).2.2.1) t38 :: cellsE b1 (Cd.cs c_api_Addr x1) 32 :: G_))) 1 (by kernel_rfl) (by kernel_rfl) (by kernel_rfl) (by kernel_rfl) (by kernel_rfl) ⟨fun _ _ _ => rfl, fun _ _ _ => rfl, fun _ _ _ => rfl, fun _ _ _ => rfl, fun _ _ _ => rfl, fun _ _ _ => rfl, fun _ _ _ => rfl, fun _ _ _ => rfl, fun _ _ _ => rfl, fun _ _ _ => rfl, trivial⟩ (by kernel_rfl) (fun _ h => ⟨fun _ => (0, none, 0, none), h.drew⟩) ⟨?_, ?_, ?_, ?_, ?_, ?_, ?_, ?_, ?_, ?_, trivial⟩ ?_
   ·intro Lx g41 s K hl hh k
    show At 62 ((0, _) :: (2, _) :: (3, _) :: (5, _) :: Lx) _ _
    refine av rfl (r_move rfl) ?_
    exact at_nil k
   ·intro Lx g41 s K hl hh k
    show At 62 ((24, _) :: (0, _) :: (2, _) :: (3, _) :: (5, _) :: Lx) _ _
    refine av rfl (r_npc rfl ha36) ?_
    exact at_nil k
   ·intro Lx g41 s K hl hh k
    show At 62 ((25, _) :: (0, _) :: (2, _) :: (3, _) :: (5, _) :: Lx) _ _
    refine av rfl (r_fieldAddr (fo := 0) Try.underlying103 rfl rfl (fun w => ⟨_, Try.sizeOf101 w⟩) rfl) ?_
    exact at_nil k
   ·intro Lx g41 s K hl hh k
    show At 62 ((26, _) :: (0, _) :: (2, _) :: (3, _) :: (5, _) :: Lx) _ _
    refine av rfl (r_idxArr Try.underlying101 Try.sizeOf100 rfl rfl (by decide)) ?_
    exact at_nil k
   ·intro Lx g41 s K hl hh k
    show At 62 ((27, _) :: (0, _) :: (2, _) :: (3, _) :: (5, _) :: Lx) _ _
    obtain rfl : s = 0 := by omega
    refine av rfl (r_load_cell Try.isAgg100 rfl (hcell0 (c := (cPtr gh)) (y := vget t35.2.f_next 0) (.s .z) hb37 (fun _ h => h) (Lens.comp (Lens.comp (Lens.whole _ _) (fun z => { t35.2 with f_next := z }) (c_trie_node_f_next gh t35.2)) (fun z => vset t35.2.f_next 0 z) (Lens.vec (cPtr gh) (by decide) t35.2.f_next 0 (by decide))) rfl)) ?_
    exact at_nil k
   ·intro Lx g41 s K hl hh k
    show At 62 ((0, _) :: (2, _) :: (3, _) :: (5, _) :: Lx) _ _
    obtain rfl : s = 0 := by omega
    refine av rfl (r_load_aggc (c := c_api_Addr) (z := x1) Try.isAgg32 Try.sizeOf32 rfl (lens_cell .z (Lens.whole _ _))) ?_
    exact at_nil k
   ·intro Lx g41 s K hl hh k
    show At 62 ((0, _) :: (2, _) :: (3, _) :: (5, _) :: Lx) _ _
    refine av rfl (r_move rfl) ?_
    exact at_nil k
   ·intro Lx g41 s K hl hh k
    show At 62 ((30, _) :: (0, _) :: (2, _) :: (3, _) :: (5, _) :: Lx) _ _
    refine av rfl (r_iadd rfl rfl) ?_
    exact at_nil k
   ·intro Lx g41 s K hl hh k
    show At 62 ((0, _) :: (2, _) :: (3, _) :: (5, _) :: Lx) _ _
    refine av rfl (r_move rfl) ?_
    exact at_nil k
   ·intro Lx g41 K k
    show At 62 ((28, _) :: (29, _) :: (31, _) :: (32, _) :: (0, _) :: (2, _) :: (3, _) :: (5, _) :: Lx) _ _
    refine at_front (.s (.s .z)) ?_
    refine at_front (.s (.s .z)) ?_
    refine at_callG (V := fun p cap => .tuple #[]) (T := fun p cap => (heapE hK g0_ n0_ gh h_ :: svE c_api_Entry 52 44 b3_ p cap t38 :: cellsE b1 (Cd.cs c_api_Addr x1) 32 :: G_)) Try.func74 rfl (by kernel_rfl) rfl rfl (fun w hw => ihf ht38 hw) ?_
    intro p39 c40
    exact at_nil (k (0, p39, c40, none))
   intro g41
   show At 62 [(24, _), (25, _), (26, _), (27, _), (28, _), (29, _), (30, _), (31, _), (32, _), (33, _), (0, _), (2, _), (3, _), (5, _)] _ _
   refine at_weak [(0, _), (2, _), (3, _), (5, _)] ⟨rfl, rfl, rfl, rfl, trivial⟩ ?_
   refine at_then_normal ?_
   refine sr ?_
   refine av rfl (r_move rfl) ?_
   obtain ⟨t42, ht42, hF⟩ := of_bindM hF
   obtain ⟨ha43, hb44⟩ := hn_trie_node_at ht42
   refine av rfl (r_npc rfl ha43) ?_
   refine av rfl (r_fieldAddr (fo := 0) Try.underlying103 rfl rfl (fun w => ⟨_, Try.sizeOf101 w⟩) rfl) ?_
   refine av rfl (r_idxArr Try.underlying101 Try.sizeOf100 rfl rfl (by decide)) ?_
   refine av rfl (r_load_cell Try.isAgg100 rfl (hcell0 (c := (cPtr gh)) (y := vget t42.2.f_next 1) .z hb44 (fun _ h => h) (Lens.comp (Lens.comp (Lens.whole _ _) (fun z => { t42.2 with f_next := z }) (c_trie_node_f_next gh t42.2)) (fun z => vset t42.2.f_next 1 z) (Lens.vec (cPtr gh) (by decide) t42.2.f_next 1 (by decide))) rfl)) ?_
   refine av rfl (r_pnil (p := vget t42.2.f_next 1) Try.underlying100 rfl rfl (.inr rfl) rfl) ?_
   refine nwt [(0, _), (2, _), (3, _), (5, _), (39, _)] ⟨rfl, rfl, rfl, rfl, rfl, trivial⟩ ?_
   rcases of_ite hF with ⟨h45, hF⟩ | ⟨h45, hF⟩
   ·refine at_cond_true rfl h45 ?_
    refine sr ?_
    refine av rfl (r_move rfl) ?_
    refine av rfl (r_ishr rfl rfl (by decide)) ?_
    refine av rfl (r_fieldAddr (fo := 1) Try.underlying32 rfl rfl (fun w => ⟨_, Try.sizeOf30 w⟩) rfl) ?_
    obtain ⟨h46, hF⟩ := of_guard hF
    refine av rfl (r_idxArr Try.underlying30 Try.sizeOf5 rfl rfl h46) ?_
    refine av rfl (r_load_cell Try.isAgg5 rfl (lens_cell0 (c := (cInt .u8)) (y := vget x1.f_B (ishr .i64 x2 3)) (.s (.s .z)) (Lens.comp (Lens.comp (Lens.whole _ _) (fun z => { x1 with f_B := z }) (c_api_Addr_f_B x1)) (fun z => vset x1.f_B (ishr .i64 x2 3) z) (Lens.vec (cInt .u8) (by decide) x1.f_B (ishr .i64 x2 3) h46)) rfl)) ?_
    refine av rfl (r_move rfl) ?_
    refine av rfl (r_iand rfl rfl) ?_
    refine av rfl (r_conv Try.underlying3 Try.underlying131 rfl) ?_
    obtain ⟨h47, hF⟩ := of_guard hF
    refine av rfl (r_ishr rfl rfl h47) ?_
    refine av rfl (r_ior rfl rfl) ?_
    refine av rfl (r_fieldAddr (fo := 1) Try.underlying32 rfl rfl (fun w => ⟨_, Try.sizeOf30 w⟩) rfl) ?_
    obtain ⟨h48, hF⟩ := of_guard hF
    refine av rfl (r_idxArr Try.underlying30 Try.sizeOf5 rfl rfl h48) ?_
    refine at_store (c := (cInt .u8)) (z := ior .u8 (vget x1.f_B (ishr .i64 x2 3)) (ishr .u8 128 (wr .u64 (iand .i64 x2 7)))) (.s (.s .z)) (Lens.comp (Lens.comp (Lens.whole _ _) (fun z => { x1 with f_B := z }) (c_api_Addr_f_B x1)) (fun z => vset x1.f_B (ishr .i64 x2 3) z) (Lens.vec (cInt .u8) (by decide) x1.f_B (ishr .i64 x2 3) h48)) Try.sizeOf5 rfl rfl rfl ?_
    refine nwt [(0, _), (2, _), (3, _), (5, _)] ⟨rfl, rfl, rfl, rfl, trivial⟩ ?_
    refine at_weak [(0, _), (2, _), (3, _), (5, _)] ⟨rfl, rfl, rfl, rfl, trivial⟩ ?_
    obtain ⟨t49, ht49, hF⟩ := of_bindM hF
    obtain ⟨ha50, hb51⟩ := hn_trie_node_at ht49
    obtain ⟨t52, ht52, hF⟩ := of_bindM hF
    refine at_inv [.q 52 (fun g55 => pv gh x0) [] 0 0, .q 53 (fun g55 => .pointer (some ⟨gh t49.1, 0, none⟩)) [0] 0 0, .q 54 (fun g55 => .pointer (some ⟨gh t49.1, 0 + 0, none⟩)) [1] 0 0, .q 55 (fun g55 => .pointer (some ⟨gh t49.1, 0 + 0 + Int.toNat 1 * 1, none⟩)) [2] 0 0, .q 56 (fun g55 => pv gh (vget t49.2.f_next 1)) [3] 0 0, .q 57 (fun g55 => .agg (Cd.cs c_api_Addr ({ x1 with f_B := vset x1.f_B (ishr .i64 x2 3) (ior .u8 (vget x1.f_B (ishr .i64 x2 3)) (ishr .u8 128 (wr .u64 (iand .i64 x2 7)))) })).toArray) [] 0 0, .q 58 (fun g55 => .int .i64 x2) [] 0 0, .q 59 (fun g55 => .int .i64 (wr .i64 (x2 + 1))) [6] 0 0, .q 60 (fun g55 => .func (.func 75) #[] #[.pointer (some ⟨b3_, 0, none⟩)]) [] 0 0, .al 0 61 (fun g55 => undef) [4, 5, 7, 8]] (fun g55 s => match s with | 0 => (Wd w0 (heapE hK g0_ n0_ gh h_ :: svE c_api_Entry 52 44 b3_ (g41 0).2.1 (g41 0).2.2.1 t38 :: cellsE b1 (Cd.cs c_api_Addr ({ x1 with f_B := vset x1.f_B (ishr .i64 x2 3) (ior .u8 (vget x1.f_B (ishr .i64 x2 3)) (ishr .u8 128 (wr .u64 (iand .i64 x2 7)))) })) 32 :: G_)) | _ => (Wd w0 (heapE hK g0_ n0_ gh h_ :: svE c_api_Entry 52 44 b3_ ((g55 0).2.1) ((g55 0).2.2.1) t52 :: cellsE b1 (Cd.cs c_api_Addr ({ x1 with f_B := vset x1.f_B (ishr .i64 x2 3) (ior .u8 (vget x1.f_B (ishr .i64 x2 3)) (ishr .u8 128 (wr .u64 (iand .i64 x2 7)))) })) 32 :: G_))) 1 (by kernel_rfl) (by kernel_rfl) (by kernel_rfl) (by kernel_rfl) (by kernel_rfl) ⟨fun _ _ _ => rfl, fun _ _ _ => rfl, fun _ _ _ => rfl, fun _ _ _ => rfl, fun _ _ _ => rfl, fun _ _ _ => rfl, fun _ _ _ => rfl, fun _ _ _ => rfl, fun _ _ _ => rfl, fun _ _ _ => rfl, trivial⟩ (by kernel_rfl) (fun _ h => ⟨fun _ => (0, none, 0, none), h.drew⟩) ⟨?_, ?_, ?_, ?_, ?_, ?_, ?_, ?_, ?_, ?_, trivial⟩ ?_
    ·intro Lx g55 s K hl hh k
     show At 62 ((0, _) :: (2, _) :: (3, _) :: (5, _) :: Lx) _ _
     refine av rfl (r_move rfl) ?_
     exact at_nil k
    ·intro Lx g55 s K hl hh k
     show At 62 ((52, _) :: (0, _) :: (2, _) :: (3, _) :: (5, _) :: Lx) _ _
     refine av rfl (r_npc rfl ha50) ?_
     exact at_nil k
    ·intro Lx g55 s K hl hh k
     show At 62 ((53, _) :: (0, _) :: (2, _) :: (3, _) :: (5, _) :: Lx) _ _
     refine av rfl (r_fieldAddr (fo := 0) Try.underlying103 rfl rfl (fun w => ⟨_, Try.sizeOf101 w⟩) rfl) ?_
     exact at_nil k
    ·intro Lx g55 s K hl hh k
     show At 62 ((54, _) :: (0, _) :: (2, _) :: (3, _) :: (5, _) :: Lx) _ _
     refine av rfl (r_idxArr Try.underlying101 Try.sizeOf100 rfl rfl (by decide)) ?_
     exact at_nil k
    ·intro Lx g55 s K hl hh k
     show At 62 ((55, _) :: (0, _) :: (2, _) :: (3, _) :: (5, _) :: Lx) _ _
     obtain rfl : s = 0 := by omega
     refine av rfl (r_load_cell Try.isAgg100 rfl (hcell0 (c := (cPtr gh)) (y := vget t49.2.f_next 1) .z hb51 (fun _ h => h) (Lens.comp (Lens.comp (Lens.whole _ _) (fun z => { t49.2 with f_next := z }) (c_trie_node_f_next gh t49.2)) (fun z => vset t49.2.f_next 1 z) (Lens.vec (cPtr gh) (by decide) t49.2.f_next 1 (by decide))) rfl)) ?_
     exact at_nil k
    ·intro Lx g55 s K hl hh k
     show At 62 ((0, _) :: (2, _) :: (3, _) :: (5, _) :: Lx) _ _
     obtain rfl : s = 0 := by omega
     refine av rfl (r_load_aggc (c := c_api_Addr) (z := { x1 with f_B := vset x1.f_B (ishr .i64 x2 3) (ior .u8 (vget x1.f_B (ishr .i64 x2 3)) (ishr .u8 128 (wr .u64 (iand .i64 x2 7)))) }) Try.isAgg32 Try.sizeOf32 rfl (lens_cell (.s (.s .z)) (Lens.whole _ _))) ?_
     exact at_nil k
    ·intro Lx g55 s K hl hh k
     show At 62 ((0, _) :: (2, _) :: (3, _) :: (5, _) :: Lx) _ _
     refine av rfl (r_move rfl) ?_
     exact at_nil k
    ·intro Lx g55 s K hl hh k
     show At 62 ((58, _) :: (0, _) :: (2, _) :: (3, _) :: (5, _) :: Lx) _ _
     refine av rfl (r_iadd rfl rfl) ?_
     exact at_nil k
    ·intro Lx g55 s K hl hh k
     show At 62 ((0, _) :: (2, _) :: (3, _) :: (5, _) :: Lx) _ _
     refine av rfl (r_move rfl) ?_
     exact at_nil k
    ·intro Lx g55 K k
     show At 62 ((56, _) :: (57, _) :: (59, _) :: (60, _) :: (0, _) :: (2, _) :: (3, _) :: (5, _) :: Lx) _ _
     refine at_callG (V := fun p cap => .tuple #[]) (T := fun p cap => (heapE hK g0_ n0_ gh h_ :: svE c_api_Entry 52 44 b3_ p cap t52 :: cellsE b1 (Cd.cs c_api_Addr ({ x1 with f_B := vset x1.f_B (ishr .i64 x2 3) (ior .u8 (vget x1.f_B (ishr .i64 x2 3)) (ishr .u8 128 (wr .u64 (iand .i64 x2 7)))) })) 32 :: G_)) Try.func74 rfl (by kernel_rfl) rfl rfl (fun w hw => ihf ht52 hw) ?_
     intro p53 c54
     exact at_nil (k (0, p53, c54, none))
    intro g55
    show At 62 [(52, _), (53, _), (54, _), (55, _), (56, _), (57, _), (58, _), (59, _), (60, _), (61, _), (0, _), (2, _), (3, _), (5, _)] _ _
    refine at_drop (H := _) (.s (.s .z)) ?_
    refine at_weak [] trivial ?_
    have K := of_some hF
    subst K
    exact at_return0 rfl (fun w1 hw => ⟨(g55 0).2.1, (g55 0).2.2.1, rfl, hw⟩)
   ·refine at_cond_false rfl h45 ?_
    refine at_skip ?_
    refine at_drop (H := _) (.s (.s .z)) ?_
    have K := of_some hF
    subst K
    exact at_return0 rfl (fun w1 hw => ⟨(g41 0).2.1, (g41 0).2.2.1, rfl, hw⟩)
theorem trie_node_each__trie_Trie_All_1_ok {h_ : List HV} {x0 : Option Nat} {x1 : S_api_Addr} {x2 : Int} {x3 : List S_api_Entry} {r : List S_api_Entry} (hF : trie_node_each__trie_Trie_All_1 h_ x0 x1 x2 x3 = some r) : ∀ {w0 w : World} {G_ : List Ent} {g0_ : Nat → Nat} {n0_ : Nat} {gh : Nat → Nat} {b3_ : Nat} {p3_ : Option Addr} {c3_ : Nat} (hw_ : Wd w0 (heapE hK g0_ n0_ gh h_ :: svE c_api_Entry 52 44 b3_ p3_ c3_ x3 :: G_) w),
    Calls Try.prog 74 #[pv gh x0, .agg (Cd.cs c_api_Addr x1).toArray, .int .i64 x2, .func (.func 75) #[] #[.pointer (some ⟨b3_, 0, none⟩)]] w (fun e w' => ∃ (q0 : Option Addr) (d0 : Nat), e = .returned (.tuple #[]) ∧ Wd w0 (heapE hK g0_ n0_ gh h_ :: svE c_api_Entry 52 44 b3_ q0 d0 r :: G_) w') := trie_node_each__trie_Trie_All_1.go_ok 400 hF
def trie_Trie_All (h_ : List HV) (x0 : Option Nat) : Option (List S_api_Entry) :=
  if (Option.isNone x0) = true then (some ([] : List S_api_Entry)) else (hn_trie_Trie h_ x0 >>= fun t3 => hn_trie_Trie h_ x0 >>= fun t6 => trie_node_each__trie_Trie_All_1 h_ t3.2.f_root ({ ({ f_V := (0 : Int), f_B := (Vector.replicate 16 (0 : Int) : (Vector Int 16)) } : S_api_Addr) with f_V := t6.2.f_family }) 0 ([] : List S_api_Entry) >>= fun t9 => some t9)
set_option maxHeartbeats 3200000 in
theorem trie_Trie_All_ok {h_ : List HV} {x0 : Option Nat} {r : List S_api_Entry} (hF : trie_Trie_All h_ x0 = some r) : ∀ {w0 w : World} {G_ : List Ent} {g0_ : Nat → Nat} {n0_ : Nat} {gh : Nat → Nat} (hw_ : Wd w0 (heapE hK g0_ n0_ gh h_ :: G_) w),
    Calls Try.prog 30 #[pv gh x0] w (fun e w' => ∃ (p : Option Addr) (cap : Nat), e = .returned (.slice p r.length cap) ∧ Wd w0 (heapE hK g0_ n0_ gh h_ :: rowE c_api_Entry 52 p cap r :: G_) w') := by
 intro w0 w G_ g0_ n0_ gh hw_
 unfold trie_Trie_All at hF
 refine calls_enter (l := [pv gh x0]) Try.func30 rfl rfl rfl ?_
 refine at_enterF hw_ ?_
 refine at_weak [(0, _)] ⟨rfl, trivial⟩ ?_
 refine sr ?_
 refine av rfl (r_assign rfl) ?_
 refine nwt [(0, _)] ⟨rfl, trivial⟩ ?_
 refine at_seq ?_
 refine sr ?_
 refine av rfl (r_move rfl) ?_
 refine av rfl (r_pnil (p := x0) Try.underlying42 rfl rfl (.inl rfl) rfl) ?_
 refine nwt [(0, _), (5, _)] ⟨rfl, rfl, trivial⟩ ?_
 rcases of_ite hF with ⟨h1, hF⟩ | ⟨h1, hF⟩
 ·refine at_cond_true rfl h1 ?_
  refine sr ?_
  refine av rfl (r_assign rfl) ?_
  refine nwt [(2, _)] ⟨rfl, trivial⟩ ?_
  refine rt ?_
  refine at_own_nil c_api_Entry 52 ?_
  refine at_front (.s .z) ?_
  have K := of_some hF
  subst K
  exact at_return1 rfl rfl (fun w1 hw => ⟨none, 0, rfl, hw⟩)
 ·refine at_cond_false rfl h1 ?_
  refine sns ?_
  refine at_allocSv c_api_Entry 52 Try.underlying44 Try.zeroValue44 rfl ?_
  intro b2
  refine nwt [(0, _), (3, _)] ⟨rfl, rfl, trivial⟩ ?_
  refine at_seq ?_
  refine at_weak [(0, _), (3, _)] ⟨rfl, rfl, trivial⟩ ?_
  obtain ⟨t3, ht3, hF⟩ := of_bindM hF
  obtain ⟨ha4, hb5⟩ := hn_trie_Trie_at ht3
  obtain ⟨t6, ht6, hF⟩ := of_bindM hF
  obtain ⟨ha7, hb8⟩ := hn_trie_Trie_at ht6
  obtain ⟨t9, ht9, hF⟩ := of_bindM hF
  refine at_inv [.q 6 (fun g12 => pv gh x0) [] 0 0, .q 7 (fun g12 => .pointer (some ⟨gh t3.1, 0, none⟩)) [0] 0 0, .q 8 (fun g12 => .pointer (some ⟨gh t3.1, 0 + 0, none⟩)) [1] 0 0, .q 9 (fun g12 => pv gh t3.2.f_root) [2] 0 0, .q 10 (fun g12 => pv gh x0) [] 0 0, .q 11 (fun g12 => .pointer (some ⟨gh t6.1, 0, none⟩)) [4] 0 0, .q 12 (fun g12 => .pointer (some ⟨gh t6.1, 0 + 1, none⟩)) [5] 0 0, .q 13 (fun g12 => .int .i64 t6.2.f_family) [6] 0 0, .q 14 (fun g12 => .agg (Cd.cs c_api_Addr ({ zqU3_1 with f_V := t6.2.f_family })).toArray) [7] 0 0, .q 15 (fun g12 => .func (.func 75) #[] #[.pointer (some ⟨b2, 0, none⟩)]) [] 0 0, .al 0 16 (fun g12 => undef) [3, 8, 9]] (fun g12 s => match s with | 0 => (Wd w0 (svE c_api_Entry 52 44 b2 none 0 ([] : List S_api_Entry) :: heapE hK g0_ n0_ gh h_ :: G_)) | _ => (Wd w0 (heapE hK g0_ n0_ gh h_ :: svE c_api_Entry 52 44 b2 ((g12 0).2.1) ((g12 0).2.2.1) t9 :: G_))) 1 (by kernel_rfl) (by kernel_rfl) (by kernel_rfl) (by kernel_rfl) (by kernel_rfl) ⟨fun _ _ _ => rfl, fun _ _ _ => rfl, fun _ _ _ => rfl, fun _ _ _ => rfl, fun _ _ _ => rfl, fun _ _ _ => rfl, fun _ _ _ => rfl, fun _ _ _ => rfl, fun _ _ _ => rfl, fun _ _ _ => rfl, fun _ _ _ => rfl, trivial⟩ (by kernel_rfl) (fun _ h => ⟨fun _ => (0, none, 0, none), h.drew⟩) ⟨?_, ?_, ?_, ?_, ?_, ?_, ?_, ?_, ?_, ?_, ?_, trivial⟩ ?_
  ·intro Lx g12 s K hl hh k
   show At 18 ((0, _) :: (3, _) :: Lx) _ _
   refine av rfl (r_move rfl) ?_
   exact at_nil k
  ·intro Lx g12 s K hl hh k
   show At 18 ((6, _) :: (0, _) :: (3, _) :: Lx) _ _
   refine av rfl (r_npc rfl ha4) ?_
   exact at_nil k
  ·intro Lx g12 s K hl hh k
   show At 18 ((7, _) :: (0, _) :: (3, _) :: Lx) _ _
   refine av rfl (r_fieldAddr (fo := 0) Try.underlying105 rfl rfl (fun w => ⟨_, Try.sizeOf100 w⟩) rfl) ?_
   exact at_nil k
  ·intro Lx g12 s K hl hh k
   show At 18 ((8, _) :: (0, _) :: (3, _) :: Lx) _ _
   obtain rfl : s = 0 := by omega
   refine av rfl (r_load_cell Try.isAgg100 rfl (hcell0 (c := (cPtr gh)) (y := t3.2.f_root) (.s .z) hb5 (fun _ h => h) (Lens.comp (Lens.whole _ _) (fun z => { t3.2 with f_root := z }) (c_trie_Trie_f_root gh t3.2)) rfl)) ?_
   exact at_nil k
  ·intro Lx g12 s K hl hh k
   show At 18 ((0, _) :: (3, _) :: Lx) _ _
   refine av rfl (r_move rfl) ?_
   exact at_nil k
  ·intro Lx g12 s K hl hh k
   show At 18 ((10, _) :: (0, _) :: (3, _) :: Lx) _ _
   refine av rfl (r_npc rfl ha7) ?_
   exact at_nil k
  ·intro Lx g12 s K hl hh k
   show At 18 ((11, _) :: (0, _) :: (3, _) :: Lx) _ _
   refine av rfl (r_fieldAddr (fo := 1) Try.underlying105 rfl rfl (fun w => ⟨_, Try.sizeOf3 w⟩) rfl) ?_
   exact at_nil k
  ·intro Lx g12 s K hl hh k
   show At 18 ((12, _) :: (0, _) :: (3, _) :: Lx) _ _
   obtain rfl : s = 0 := by omega
   refine av rfl (r_load_cell Try.isAgg3 rfl (hcell0 (c := (cInt .i64)) (y := t6.2.f_family) (.s .z) hb8 (fun _ h => h) (Lens.comp (Lens.whole _ _) (fun z => { t6.2 with f_family := z }) (c_trie_Trie_f_family gh t6.2)) rfl)) ?_
   exact at_nil k
  ·intro Lx g12 s K hl hh k
   show At 18 ((13, _) :: (0, _) :: (3, _) :: Lx) _ _
   obtain rfl : s = 0 := by omega
   refine av rfl (r_build_struct (zs := Cd.cs c_api_Addr zqU3_1) (cs := Cd.cs c_api_Addr ({ zqU3_1 with f_V := t6.2.f_family })) Try.underlying32 Try.zeroValue32 rfl (places_api_Addr_32) rfl (fill_step (c := (cInt .i64)) (z := t6.2.f_family) rfl (c_api_Addr_f_V zqU3_1) rfl rfl)) ?_
   exact at_nil k
  ·intro Lx g12 s K hl hh k
   show At 18 ((0, _) :: (3, _) :: Lx) _ _
   obtain rfl : s = 0 := by omega
   refine av rfl (r_makeFunc rfl) ?_
   exact at_nil k
  ·intro Lx g12 K k
   show At 18 ((9, _) :: (14, _) :: (15, _) :: (0, _) :: (3, _) :: Lx) _ _
   refine at_front (.s .z) ?_
   refine at_callG (V := fun p cap => .tuple #[]) (T := fun p cap => (heapE hK g0_ n0_ gh h_ :: svE c_api_Entry 52 44 b2 p cap t9 :: G_)) Try.func74 rfl (by kernel_rfl) rfl rfl (fun w hw => trie_node_each__trie_Trie_All_1_ok ht9 hw) ?_
   intro p10 c11
   exact at_nil (k (0, p10, c11, none))
  intro g12
  show At 18 [(6, _), (7, _), (8, _), (9, _), (10, _), (11, _), (12, _), (13, _), (14, _), (15, _), (16, _), (0, _), (3, _)] _ _
  refine at_weak [(3, _)] ⟨rfl, trivial⟩ ?_
  refine at_then_normal ?_
  refine sr ?_
  refine at_svOpen (.s .z) ?_
  refine av rfl (r_load_cell Try.isAgg44 rfl (fun w1 hw => cells_get (hw.ok (Upd.mem .z)) 0 _ rfl)) ?_
  refine av rfl (r_assign rfl) ?_
  refine at_nil ?_
  refine at_drop (H := _) .z ?_
  refine at_weak [(2, _)] ⟨rfl, trivial⟩ ?_
  refine at_then_normal ?_
  refine at_ret ?_
  refine at_front (.s .z) ?_
  have K := of_some hF
  subst K
  exact at_return1 rfl rfl (fun w1 hw => ⟨(g12 0).2.1, (g12 0).2.2.1, rfl, hw⟩)
end Go.Proofs.Ythccncpephpdjaa
namespace Go.Proofs.Ythccncpephpdjaa
open E Go.RowKit
theorem infoV152_is : (Try.prog.info? 52).isSome = true := by kernel_rfl
noncomputable def infoV152_v : TypeInfo := (Try.prog.info? 52).get infoV152_is
theorem infoV152 : Try.prog.info? 52 = some infoV152_v := (Option.some_get _).symm
def slices_Grow_api_Entry (x1 : Int) : Option (List S_api_Entry) :=
  if (decide (x1 < 0)) = true then none else (if (decide (wr .i64 (x1 - (wr .i64 ((0 : Int) - (([] : List S_api_Entry).length : Int)))) > 0)) = true then (if 0 < wr .i64 (x1 - (wr .i64 ((0 : Int) - (([] : List S_api_Entry).length : Int)))) ∧ Int.toNat (wr .i64 (x1 - (wr .i64 ((0 : Int) - (([] : List S_api_Entry).length : Int))))) * 40 ≤ 140737488355328 then some ([] : List S_api_Entry) else none) else (some ([] : List S_api_Entry)))
theorem slices_Grow_api_Entry_ok (x1 : Int) (r : List S_api_Entry) (hF : slices_Grow_api_Entry x1 = some r) (w : World) :
    Calls Try.prog 94 #[.slice none ([] : List S_api_Entry).length 0, .int .i64 x1] w (fun e w' => ∃ p cap, e = .returned (.slice p r.length cap) ∧ Own c_api_Entry 52 w.heap.size w' p cap r ∧ Below w.heap.size w w') := by
 unfold slices_Grow_api_Entry at hF
 refine calls_enter (l := [.slice none ([] : List S_api_Entry).length 0, .int .i64 x1]) Try.func94 rfl rfl rfl ?_
 refine at_start ?_
 refine at_own_nil c_api_Entry 52 ?_
 refine at_weak [(0, _), (1, _)] ⟨rfl, rfl, trivial⟩ ?_
 refine sr ?_
 refine av rfl (r_assign rfl) ?_
 refine nwt [(0, _), (1, _)] ⟨rfl, rfl, trivial⟩ ?_
 refine at_seq ?_
 refine sr ?_
 refine av rfl (r_move rfl) ?_
 refine av rfl (r_ilss rfl rfl) ?_
 refine nwt [(0, _), (1, _), (6, _)] ⟨rfl, rfl, rfl, trivial⟩ ?_
 rcases of_ite hF with ⟨h1, hF⟩ | ⟨h1, hF⟩
 ·refine at_cond_true rfl h1 ?_
  cases hF
 ·refine at_cond_false rfl h1 ?_
  refine sn ?_
  refine at_seq ?_
  refine sr ?_
  refine av rfl (r_move rfl) ?_
  refine av rfl (r_move rfl) ?_
  refine av rfl (r_cap Try.underlying44 rfl) ?_
  refine av rfl (r_move rfl) ?_
  refine av rfl (r_len_sl Try.underlying44 rfl) ?_
  refine av rfl (r_isub rfl rfl) ?_
  refine av rfl (r_isub rfl rfl) ?_
  refine av rfl (r_assign rfl) ?_
  refine nws [(0, _), (1, _)] ⟨rfl, rfl, trivial⟩ ?_
  refine av rfl (r_move rfl) ?_
  refine av rfl (r_igtr rfl rfl) ?_
  refine nwt [(0, _), (1, _), (16, _)] ⟨rfl, rfl, rfl, trivial⟩ ?_
  rcases of_ite hF with ⟨h2, hF⟩ | ⟨h2, hF⟩
  ·refine at_cond_true rfl h2 ?_
   refine at_region ?_
   refine av rfl (r_move rfl) ?_
   refine av rfl (r_move rfl) ?_
   refine av rfl (r_cap Try.underlying44 rfl) ?_
   refine av rfl (r_cutNone Try.underlying44 Try.sizeOf52 rfl rfl (.inl ⟨rfl, rfl⟩)) ?_
   refine av rfl (r_move rfl) ?_
   obtain ⟨h3, hF⟩ := of_guard hF
   refine at_appZ c_api_Entry (z := .agg (Cd.cs c_api_Entry ({ f_P := ({ f_A := ({ f_V := (0 : Int), f_B := (Vector.replicate 16 (0 : Int) : (Vector Int 16)) } : S_api_Addr), f_Bits := (0 : Int) } : S_api_Prefix), f_Owner := (0 : Int) } : S_api_Entry)).toArray) Try.underlying44 Try.underlying3 infoV152 (by kernel_rfl) (by kernel_rfl) rfl rfl rfl (by kernel_rfl) rfl h3 rfl ?_
   intro b4 c5
   refine av rfl (r_move rfl) ?_
   refine av rfl (r_len_sl Try.underlying44 rfl) ?_
   refine av rfl (r_cutNone Try.underlying44 Try.sizeOf52 rfl rfl (.inr ⟨_, rfl⟩)) ?_
   refine av rfl (r_assign rfl) ?_
   refine at_nil ?_
   refine at_drop (H := _) (.s .z) ?_
   refine at_weak [(0, _)] ⟨rfl, trivial⟩ ?_
   refine at_then_normal ?_
   refine sr ?_
   refine av rfl (r_move rfl) ?_
   refine av rfl (r_assign rfl) ?_
   refine nwt [(4, _)] ⟨rfl, trivial⟩ ?_
   refine at_ret ?_
   have K := of_some hF
   subst K
   exact at_return1 rfl rfl (fun w1 hw => ⟨(some ⟨b4, 0, none⟩), c5, rfl, hw.own .z, hw.below⟩)
  ·refine at_cond_false rfl h2 ?_
   refine sns ?_
   refine av rfl (r_move rfl) ?_
   refine av rfl (r_assign rfl) ?_
   refine nwt [(4, _)] ⟨rfl, trivial⟩ ?_
   refine at_ret ?_
   have K := of_some hF
   subst K
   exact at_return1 rfl rfl (fun w1 hw => ⟨none, 0, rfl, hw.own .z, hw.below⟩)
def slices_Concat_api_Entry.l0 (x0 : List (List S_api_Entry)) (i2 : Int) (i3 : Int) : Option (Int) :=
  if (decide (i3 < (x0.length : Int))) = true then (if (0 : Int) ≤ i3 ∧ i3 < (x0.length : Int) then if (decide (wr .i64 (i2 + ((lget x0 i3).length : Int)) < 0)) = true then none else (slices_Concat_api_Entry.l0 x0 (wr .i64 (i2 + ((lget x0 i3).length : Int))) (wr .i64 (i3 + 1))) else none) else (some i2)
  partial_fixpoint
def slices_Concat_api_Entry.l1 (x0 : List (List S_api_Entry)) (i22 : List S_api_Entry) (i23 : Int) : Option (List S_api_Entry) :=
  if (decide (i23 < (x0.length : Int))) = true then (if (0 : Int) ≤ i23 ∧ i23 < (x0.length : Int) then if (i22.length + (lget x0 i23).length) * 40 ≤ 140737488355328 then slices_Concat_api_Entry.l1 x0 (i22 ++ (lget x0 i23)) (wr .i64 (i23 + 1)) else none else none) else (some i22)
  partial_fixpoint
def slices_Concat_api_Entry (x0 : List (List S_api_Entry)) : Option (List S_api_Entry) :=
  slices_Concat_api_Entry.l0 x0 0 0 >>= fun q1 => slices_Grow_api_Entry q1 >>= fun t16 => slices_Concat_api_Entry.l1 x0 t16 0 >>= fun q21 => some q21
theorem slices_Concat_api_Entry_ok (x0 : List (List S_api_Entry)) (p0_ : Option Addr) (c0_ : Nat) (r : List S_api_Entry) (hF : slices_Concat_api_Entry x0 = some r) (w : World) (hr0 : NRow (cSl c_api_Entry) (N_sl c_api_Entry) w p0_ c0_ x0) :
    Calls Try.prog 82 #[.slice p0_ x0.length c0_] w (fun e w' => ∃ p cap, e = .returned (.slice p r.length cap) ∧ Own c_api_Entry 52 w.heap.size w' p cap r ∧ Below w.heap.size w w') := by
 unfold slices_Concat_api_Entry at hF
 refine calls_enter (l := [.slice p0_ x0.length c0_]) Try.func82 rfl rfl rfl ?_
 refine at_start ?_
 refine at_weak [(0, _)] ⟨rfl, trivial⟩ ?_
 refine sr ?_
 refine av rfl (r_assign rfl) ?_
 refine nws [(0, _)] ⟨rfl, trivial⟩ ?_
 refine av rfl (r_assign rfl) ?_
 refine nwt [(0, _), (3, _)] ⟨rfl, rfl, trivial⟩ ?_
 refine at_seq ?_
 refine sr ?_
 refine av rfl (r_move rfl) ?_
 refine av rfl (r_len_sl Try.underlying133 rfl) ?_
 refine av rfl (r_move rfl) ?_
 refine nwt [(0, _), (3, _), (9, _), (10, _), (11, _)] ⟨rfl, rfl, rfl, rfl, rfl, trivial⟩ ?_
 refine at_block ?_
 obtain ⟨q1, hq1, hF⟩ := of_bindM hF
 refine at_weak [(0, _), (3, _), (9, _), (10, _), (11, _)] ⟨rfl, rfl, rfl, rfl, rfl, trivial⟩ ?_
 refine at_loop_n (B := 0) (A := fun Y => At 36 [(0, .slice p0_ x0.length c0_), (3, .int .i64 q1)] (Wd w []) Y) ?_ ?_
 ·intro K
  refine slices_Concat_api_Entry.l0.partial_correctness x0 (motive := fun i2 i3 x => KN (fun Y => At 36 [(0, .slice p0_ x0.length c0_), (3, .int .i64 x)] (Wd w []) Y) _ 0 → Round (fun Y => At 36 [(0, .slice p0_ x0.length c0_), (3, .int .i64 i2), (9, .slice p0_ x0.length c0_), (10, .int .i64 (x0.length : Int)), (11, .int .i64 i3)] (Wd w []) Y) _ _ _) ?_ _ _ _ hq1 K
  ·clear K hF
   intro g ih i2 i3 x hF K
   refine at_round ?_
   refine sr ?_
   refine av rfl (r_ilss rfl rfl) ?_
   refine nwt [(0, _), (3, _), (9, _), (10, _), (11, _), (12, _)] ⟨rfl, rfl, rfl, rfl, rfl, rfl, trivial⟩ ?_
   refine at_seq ?_
   rcases of_ite hF with ⟨h4, hF⟩ | ⟨h4, hF⟩
   ·refine at_cond_true rfl h4 ?_
    refine sn ?_
    refine at_seq ?_
    refine at_block ?_
    refine sr ?_
    obtain ⟨h5, hF⟩ := of_guard hF
    obtain ⟨zs9, hz10, hr11, hn12⟩ := hr0
    obtain ⟨b7, o8, hp6⟩ := row_ptr hr11 (zidx hz10 h5)
    obtain ⟨g13, hg14⟩ := zget hz10 i3
    refine av rfl (r_idx Try.underlying133 Try.sizeOf44 rfl rfl h5 hp6) ?_
    refine av rfl (r_load_cell Try.isAgg44 rfl (ncell0 (v := .slice g13.1 (List.length (lget x0 i3)) g13.2) (fun _ h => h.below) hr11 (zidx hz10 h5) hp6 hg14 rfl)) ?_
    refine av rfl (r_assign rfl) ?_
    refine nws [(0, _), (3, _), (5, _), (9, _), (10, _), (11, _)] ⟨rfl, rfl, rfl, rfl, rfl, rfl, trivial⟩ ?_
    refine av rfl (r_move rfl) ?_
    refine av rfl (r_move rfl) ?_
    refine av rfl (r_len_sl Try.underlying44 rfl) ?_
    refine av rfl (r_iadd rfl rfl) ?_
    refine av rfl (r_assign rfl) ?_
    refine nws [(0, _), (3, _), (9, _), (10, _), (11, _)] ⟨rfl, rfl, rfl, rfl, rfl, trivial⟩ ?_
    refine av rfl (r_move rfl) ?_
    refine av rfl (r_ilss rfl rfl) ?_
    refine nwt [(0, _), (3, _), (9, _), (10, _), (11, _), (20, _)] ⟨rfl, rfl, rfl, rfl, rfl, rfl, trivial⟩ ?_
    rcases of_ite hF with ⟨h15, hF⟩ | ⟨h15, hF⟩
    ·refine at_cond_true rfl h15 ?_
     cases hF
    ·refine at_cond_false rfl h15 ?_
     refine at_skip ?_
     refine at_blk_normal (at_then_normal ?_)
     refine at_region ?_
     refine av rfl (r_iadd rfl rfl) ?_
     refine av rfl (r_move rfl) ?_
     refine nwt [(0, _), (3, _), (9, _), (10, _), (11, _)] ⟨rfl, rfl, rfl, rfl, rfl, trivial⟩ ?_
     exact at_weak_k (ih _ _ _ hF K) ⟨rfl, rfl, rfl, rfl, rfl, trivial⟩
   ·refine at_cond_false rfl h4 ?_
    refine at_exit ?_
    refine at_then_exit (at_then_exit ?_)
    obtain rfl := of_some hF
    exact at_weak_k K ⟨rfl, rfl, trivial⟩
 ·skip
  skip
  refine at_blk_same ?_
  refine at_then_normal ?_
  refine sr ?_
  refine av rfl (r_move rfl) ?_
  obtain ⟨t16, ht16, hF⟩ := of_bindM hF
  refine at_callO (c := c_api_Entry) (e := 52) (ys := t16) (V := fun p cap => .slice p t16.length cap) Try.func94 rfl (by kernel_rfl) rfl rfl (fun w hw => slices_Grow_api_Entry_ok _ _ ht16 w) ?_
  intro p17 c18
  refine av rfl (r_assign rfl) ?_
  refine nwt [(0, _), (6, _)] ⟨rfl, rfl, trivial⟩ ?_
  refine at_seq ?_
  refine sr ?_
  refine av rfl (r_move rfl) ?_
  refine av rfl (r_len_sl Try.underlying133 rfl) ?_
  refine av rfl (r_move rfl) ?_
  refine nwt [(6, _), (25, _), (26, _), (27, _)] ⟨rfl, rfl, rfl, rfl, trivial⟩ ?_
  refine at_block ?_
  obtain ⟨q21, hq21, hF⟩ := of_bindM hF
  refine at_weak [(6, _), (25, _), (26, _), (27, _)] ⟨rfl, rfl, rfl, rfl, trivial⟩ ?_
  refine at_loop_n (B := 2) (A := fun Y => ∀ (p26 : Option Addr) (c27 : Nat), At 36 [(6, .slice p26 q21.length c27)] (Wd w [rowE c_api_Entry 52 p26 c27 q21]) Y) ?_ ?_
  ·intro K
   refine slices_Concat_api_Entry.l1.partial_correctness x0 (motive := fun i22 i23 x => KN (fun Y => ∀ (p26 : Option Addr) (c27 : Nat), At 36 [(6, .slice p26 x.length c27)] (Wd w [rowE c_api_Entry 52 p26 c27 x]) Y) _ 2 → Round (fun Y => ∀ (p24 : Option Addr) (c25 : Nat), At 36 [(6, .slice p24 i22.length c25), (25, .slice p0_ x0.length c0_), (26, .int .i64 (x0.length : Int)), (27, .int .i64 i23)] (Wd w [rowE c_api_Entry 52 p24 c25 i22]) Y) _ _ _) ?_ _ _ _ hq21 K p17 c18
   ·clear K hF
    intro g ih i22 i23 x hF K p24 c25
    refine at_round ?_
    refine sr ?_
    refine av rfl (r_ilss rfl rfl) ?_
    refine nwt [(6, _), (25, _), (26, _), (27, _), (28, _)] ⟨rfl, rfl, rfl, rfl, rfl, trivial⟩ ?_
    refine at_seq ?_
    rcases of_ite hF with ⟨h28, hF⟩ | ⟨h28, hF⟩
    ·refine at_cond_true rfl h28 ?_
     refine sn ?_
     refine at_seq ?_
     refine at_block ?_
     refine sr ?_
     obtain ⟨h29, hF⟩ := of_guard hF
     obtain ⟨zs33, hz34, hr35, hn36⟩ := hr0
     obtain ⟨b31, o32, hp30⟩ := row_ptr hr35 (zidx hz34 h29)
     obtain ⟨g37, hg38⟩ := zget hz34 i23
     refine av rfl (r_idx Try.underlying133 Try.sizeOf44 rfl rfl h29 hp30) ?_
     refine av rfl (r_load_cell Try.isAgg44 rfl (ncell0 (v := .slice g37.1 (List.length (lget x0 i23)) g37.2) (fun _ h => h.below) hr35 (zidx hz34 h29) hp30 hg38 rfl)) ?_
     refine av rfl (r_assign rfl) ?_
     refine nwt [(6, _), (8, _), (25, _), (26, _), (27, _)] ⟨rfl, rfl, rfl, rfl, rfl, trivial⟩ ?_
     refine at_region ?_
     refine av rfl (r_move rfl) ?_
     refine av rfl (r_move rfl) ?_
     obtain ⟨h39, hF⟩ := of_guard hF
     refine at_append_row (z := .agg (Cd.cs c_api_Entry ({ f_P := ({ f_A := ({ f_V := (0 : Int), f_B := (Vector.replicate 16 (0 : Int) : (Vector Int 16)) } : S_api_Addr), f_Bits := (0 : Int) } : S_api_Prefix), f_Owner := (0 : Int) } : S_api_Entry)).toArray) (c := c_api_Entry) (ys := (lget x0 i23)) .z Try.underlying44 infoV152 (by kernel_rfl) (by kernel_rfl) rfl rfl rfl (fun w1 hw => ((nz hg38 hn36 (zidx hz34 h29)).below hw.below)) (by kernel_rfl) h39 (app_small h39) rfl ?_
     intro p40 c41
     refine av rfl (r_assign rfl) ?_
     refine at_nil ?_
     refine at_weak [(6, _), (25, _), (26, _), (27, _)] ⟨rfl, rfl, rfl, rfl, trivial⟩ ?_
     refine at_blk_normal (at_then_normal ?_)
     refine at_region ?_
     refine av rfl (r_iadd rfl rfl) ?_
     refine av rfl (r_move rfl) ?_
     refine nwt [(6, _), (25, _), (26, _), (27, _)] ⟨rfl, rfl, rfl, rfl, trivial⟩ ?_
     exact at_weak_k (ih _ _ _ hF K p40 c41) ⟨rfl, rfl, rfl, rfl, trivial⟩
    ·refine at_cond_false rfl h28 ?_
     refine at_exit ?_
     refine at_then_exit (at_then_exit ?_)
     obtain rfl := of_some hF
     exact at_weak_k (K p24 c25) ⟨rfl, trivial⟩
  ·skip
   intro p26 c27
   refine at_blk_same ?_
   refine at_then_normal ?_
   refine sr ?_
   refine av rfl (r_move rfl) ?_
   refine av rfl (r_assign rfl) ?_
   refine nwt [(2, _)] ⟨rfl, trivial⟩ ?_
   refine at_ret ?_
   have K := of_some hF
   subst K
   exact at_return1 rfl rfl (fun w1 hw => ⟨p26, c27, rfl, hw.own .z, hw.below⟩)
end Go.Proofs.Ythccncpephpdjaa
namespace Go.Proofs.Ythccncpephpdjaa
open E Go.RowKit
abbrev zqV2_0 : S_api_Prefix := ({ f_A := ({ f_V := (0 : Int), f_B := (Vector.replicate 16 (0 : Int) : (Vector Int 16)) } : S_api_Addr), f_Bits := (0 : Int) } : S_api_Prefix)
abbrev zqV2_1 : S_allowed_Table := ({ f_owners := (none : Option Nat), f_four := (none : Option Nat), f_six := (none : Option Nat) } : S_allowed_Table)
abbrev zqV2_2 : S_api_Addr := ({ f_V := (0 : Int), f_B := (Vector.replicate 16 (0 : Int) : (Vector Int 16)) } : S_api_Addr)
theorem infoV246_is : (Try.prog.info? 46).isSome = true := by kernel_rfl
noncomputable def infoV246_v : TypeInfo := (Try.prog.info? 46).get infoV246_is
theorem infoV246 : Try.prog.info? 46 = some infoV246_v := (Option.some_get _).symm
def allowed_New (h_ : List HV) : Option (Option Nat × List HV) :=
  trie_New (h_ ++ [HV.M82 []]) 4 >>= fun t2 => if vp (List.length (h_ ++ [HV.M82 []])) (some (List.length h_)) = true then trie_New t2.2 6 >>= fun t7 => if vp (List.length t2.2) (some (List.length h_)) = true then if vp (List.length t2.2) t2.1 = true then if hvp hK t7.2 (HV.allowed_Table ({ { { ({ f_owners := (none : Option Nat), f_four := (none : Option Nat), f_six := (none : Option Nat) } : S_allowed_Table) with f_owners := some (List.length h_) } with f_four := t2.1 } with f_six := t7.1 })) = true then some (some (List.length t7.2), t7.2 ++ [HV.allowed_Table ({ { { ({ f_owners := (none : Option Nat), f_four := (none : Option Nat), f_six := (none : Option Nat) } : S_allowed_Table) with f_owners := some (List.length h_) } with f_four := t2.1 } with f_six := t7.1 })]) else none else none else none else none
theorem allowed_New_ok {h_ : List HV} {r : Option Nat × List HV} (hF : allowed_New h_ = some r) : ∀ {w0 w : World} {G_ : List Ent} {g0_ : Nat → Nat} {n0_ : Nat} {gh : Nat → Nat} (hw_ : Wd w0 (heapE hK g0_ n0_ gh h_ :: G_) w),
    Calls Try.prog 36 #[] w (fun e w' => ∃ (gh : Nat → Nat), e = .returned (pv gh r.1) ∧ Wd w0 (heapE hK g0_ n0_ gh r.2 :: G_) w') := by
 intro w0 w G_ g0_ n0_ gh hw_
 unfold allowed_New at hF
 refine calls_enter (l := []) Try.func36 rfl rfl rfl ?_
 refine at_enterF hw_ ?_
 refine at_weak [] trivial ?_
 refine sr ?_
 refine av rfl (r_assign rfl) ?_
 refine nws [] trivial ?_
 refine at_hmakeMap c_api_Prefix (cInt .i64) false (v := HV.M82 []) .z rfl (fun _ _ h => h) rfl ?_
 intro gh hg1
 obtain ⟨t2, ht2, hF⟩ := of_bindM hF
 obtain ⟨h3, hF⟩ := of_guard hF
 refine at_callH (γ := Unit) (h' := t2.2) (V := fun z gh => pv gh t2.1) (T := fun z => (G_)) Try.func24 rfl (by kernel_rfl) rfl rfl (fun w hw => (trie_New_ok ht2 hw).mono (by rintro e w' ⟨gh, he, hw'⟩; exact ⟨gh, (), he, hw'⟩)) ?_
 rintro gh ⟨⟩ hg4
 refine at_ov (t := 1) rfl (mv_ext hg4 h3) ?_
 obtain ⟨t7, ht7, hF⟩ := of_bindM hF
 obtain ⟨h8, hF⟩ := of_guard hF
 obtain ⟨h9, hF⟩ := of_guard hF
 refine at_callH (γ := Unit) (h' := t7.2) (V := fun z gh => pv gh t7.1) (T := fun z => (G_)) Try.func24 rfl (by kernel_rfl) rfl rfl (fun w hw => (trie_New_ok ht7 hw).mono (by rintro e w' ⟨gh, he, hw'⟩; exact ⟨gh, (), he, hw'⟩)) ?_
 rintro gh ⟨⟩ hg10
 refine at_ov (t := 1) rfl (mv_ext hg10 h8) ?_
 refine at_ov (t := 2) rfl (pv_ext hg10 h9) ?_
 refine av rfl (r_build_struct (zs := Cd.cs (c_allowed_Table gh) zqV2_1) (cs := Cd.cs (c_allowed_Table gh) ({ { { zqV2_1 with f_owners := some (List.length h_) } with f_four := t2.1 } with f_six := t7.1 })) Try.underlying84 Try.zeroValue84 rfl (places_allowed_Table_84) rfl (fill_step (c := (cMapP gh)) (z := some (List.length h_)) rfl (c_allowed_Table_f_owners gh zqV2_1) rfl (fill_step (c := (cPtr gh)) (z := t2.1) rfl (c_allowed_Table_f_four gh ({ zqV2_1 with f_owners := some (List.length h_) })) rfl (fill_step (c := (cPtr gh)) (z := t7.1) rfl (c_allowed_Table_f_six gh ({ { zqV2_1 with f_owners := some (List.length h_) } with f_four := t2.1 })) rfl rfl)))) ?_
 obtain ⟨h15, hF⟩ := of_guard hF
 refine at_box (cs := Cd.cs (c_allowed_Table gh) ({ { { zqV2_1 with f_owners := some (List.length h_) } with f_four := t2.1 } with f_six := t7.1 })) rfl rfl rfl ?_
 intro b_
 refine at_hpush (v := HV.allowed_Table ({ { { zqV2_1 with f_owners := some (List.length h_) } with f_four := t2.1 } with f_six := t7.1 })) .z h15 (fun g' hg' => hK.ext gh g' (HV.allowed_Table ({ { { zqV2_1 with f_owners := some (List.length h_) } with f_four := t2.1 } with f_six := t7.1 })) _ hg' rfl) ?_
 intro gh hg14
 refine av rfl (r_assign rfl) ?_
 refine nwt [(0, _)] ⟨rfl, trivial⟩ ?_
 refine at_ret ?_
 have K := of_some hF
 subst K
 exact at_return1 rfl rfl (fun w1 hw => ⟨gh, rfl, hw⟩)
def allowed_Table_made (h_ : List HV) (x0 : Option Nat) : Option (Bool) :=
  if (!(Option.isNone x0)) = true then (hn_allowed_Table h_ x0 >>= fun t2 => some (!(Option.isNone t2.2.f_owners))) else (some false)
theorem allowed_Table_made_ok {h_ : List HV} {x0 : Option Nat} {r : Bool} (hF : allowed_Table_made h_ x0 = some r) : ∀ {w0 w : World} {G_ : List Ent} {g0_ : Nat → Nat} {n0_ : Nat} {gh : Nat → Nat} (hw_ : Wd w0 (heapE hK g0_ n0_ gh h_ :: G_) w),
    Calls Try.prog 79 #[pv gh x0] w (fun e w' => e = .returned (.bool r) ∧ Wd w0 (heapE hK g0_ n0_ gh h_ :: G_) w') := by
 intro w0 w G_ g0_ n0_ gh hw_
 unfold allowed_Table_made at hF
 refine calls_enter (l := [pv gh x0]) Try.func79 rfl rfl rfl ?_
 refine at_enterF hw_ ?_
 refine at_weak [(0, _)] ⟨rfl, trivial⟩ ?_
 refine sr ?_
 refine av rfl (r_assign rfl) ?_
 refine nws [(0, _)] ⟨rfl, trivial⟩ ?_
 refine av rfl (r_move rfl) ?_
 refine av rfl (r_pnil (p := x0) Try.underlying68 rfl rfl (.inr rfl) rfl) ?_
 refine av rfl (r_move rfl) ?_
 rcases of_ite hF with ⟨h1, hF⟩ | ⟨h1, hF⟩
 ·refine at_fix (g := 5) rfl h1 ?_
  refine at_guard_yes rfl rfl rfl ?_
  refine av rfl (r_move rfl) ?_
  refine at_guard_yes rfl rfl rfl ?_
  obtain ⟨t2, ht2, hF⟩ := of_bindM hF
  obtain ⟨ha3, hb4⟩ := hn_allowed_Table_at ht2
  refine av rfl (r_npc rfl ha3) ?_
  refine at_guard_yes rfl rfl rfl ?_
  refine av rfl (r_fieldAddr (fo := 0) Try.underlying84 rfl rfl (fun w => ⟨_, Try.sizeOf82 w⟩) rfl) ?_
  refine at_guard_yes rfl rfl rfl ?_
  refine av rfl (r_load_cell Try.isAgg82 rfl (hcell0 (c := (cMapP gh)) (y := t2.2.f_owners) .z hb4 (fun _ h => h) (Lens.comp (Lens.whole _ _) (fun z => { t2.2 with f_owners := z }) (c_allowed_Table_f_owners gh t2.2)) rfl)) ?_
  refine at_guard_yes rfl rfl rfl ?_
  refine av rfl (r_mnil (p := t2.2.f_owners) Try.underlying82 rfl rfl (.inr rfl) rfl) ?_
  refine av rfl (r_pick rfl rfl rfl) ?_
  refine av rfl (r_assign rfl) ?_
  refine nwt [(2, _)] ⟨rfl, trivial⟩ ?_
  refine at_ret ?_
  have K := of_some hF
  subst K
  exact at_return1 rfl rfl (fun w1 hw => ⟨rfl, hw⟩)
 ·refine at_fix (g := 5) rfl h1 ?_
  refine at_guard_no rfl rfl rfl rfl rfl ?_
  refine at_guard_no rfl rfl rfl rfl rfl ?_
  refine at_guard_no rfl rfl rfl rfl rfl ?_
  refine at_guard_no rfl rfl rfl rfl rfl ?_
  refine at_guard_no rfl rfl rfl rfl rfl ?_
  refine av rfl (r_pick rfl rfl rfl) ?_
  refine av rfl (r_assign rfl) ?_
  refine nwt [(2, _)] ⟨rfl, trivial⟩ ?_
  refine at_ret ?_
  have K := of_some hF
  subst K
  exact at_return1 rfl rfl (fun w1 hw => ⟨rfl, hw⟩)
def allowed_Table_own (h_ : List HV) (x0 : Option Nat) (x1 : S_api_Addr) : Option (Option Nat) :=
  if (x1.f_V == 4) = true then (hn_allowed_Table h_ x0 >>= fun t3 => some t3.2.f_four) else (hn_allowed_Table h_ x0 >>= fun t6 => some t6.2.f_six)
theorem allowed_Table_own_ok {h_ : List HV} {x0 : Option Nat} {x1 : S_api_Addr} {r : Option Nat} (hF : allowed_Table_own h_ x0 x1 = some r) : ∀ {w0 w : World} {G_ : List Ent} {g0_ : Nat → Nat} {n0_ : Nat} {gh : Nat → Nat} (hw_ : Wd w0 (heapE hK g0_ n0_ gh h_ :: G_) w),
    Calls Try.prog 80 #[pv gh x0, .agg (Cd.cs c_api_Addr x1).toArray] w (fun e w' => e = .returned (pv gh r) ∧ Wd w0 (heapE hK g0_ n0_ gh h_ :: G_) w') := by
 intro w0 w G_ g0_ n0_ gh hw_
 unfold allowed_Table_own at hF
 refine calls_enter (l := [pv gh x0, .agg (Cd.cs c_api_Addr x1).toArray]) Try.func80 rfl rfl rfl ?_
 refine at_enterF hw_ ?_
 refine at_weak [(0, _), (1, _)] ⟨rfl, rfl, trivial⟩ ?_
 refine sr ?_
 refine at_box (cs := Cd.cs c_api_Addr x1) rfl rfl rfl ?_
 intro b1
 refine av rfl (r_assign rfl) ?_
 refine nwt [(0, _), (3, _)] ⟨rfl, rfl, trivial⟩ ?_
 refine at_seq ?_
 refine sr ?_
 refine av rfl (r_fieldAddr (fo := 0) Try.underlying32 rfl rfl (fun w => ⟨_, Try.sizeOf3 w⟩) rfl) ?_
 refine av rfl (r_load_cell Try.isAgg3 rfl (lens_cell0 (c := (cInt .i64)) (y := x1.f_V) .z (Lens.comp (Lens.whole _ _) (fun z => { x1 with f_V := z }) (c_api_Addr_f_V x1)) rfl)) ?_
 refine av rfl (r_ieql rfl rfl) ?_
 refine at_nil ?_
 refine at_drop (H := _) .z ?_
 refine at_weak [(0, _), (7, _)] ⟨rfl, rfl, trivial⟩ ?_
 refine at_then_normal ?_
 rcases of_ite hF with ⟨h2, hF⟩ | ⟨h2, hF⟩
 ·refine at_cond_true rfl h2 ?_
  refine sr ?_
  refine av rfl (r_move rfl) ?_
  obtain ⟨t3, ht3, hF⟩ := of_bindM hF
  obtain ⟨ha4, hb5⟩ := hn_allowed_Table_at ht3
  refine av rfl (r_npc rfl ha4) ?_
  refine av rfl (r_fieldAddr (fo := 1) Try.underlying84 rfl rfl (fun w => ⟨_, Try.sizeOf42 w⟩) rfl) ?_
  refine av rfl (r_load_cell Try.isAgg42 rfl (hcell0 (c := (cPtr gh)) (y := t3.2.f_four) .z hb5 (fun _ h => h) (Lens.comp (Lens.whole _ _) (fun z => { t3.2 with f_four := z }) (c_allowed_Table_f_four gh t3.2)) rfl)) ?_
  refine av rfl (r_assign rfl) ?_
  refine nwt [(4, _)] ⟨rfl, trivial⟩ ?_
  refine rt ?_
  have K := of_some hF
  subst K
  exact at_return1 rfl rfl (fun w1 hw => ⟨rfl, hw⟩)
 ·refine at_cond_false rfl h2 ?_
  refine sns ?_
  refine av rfl (r_move rfl) ?_
  obtain ⟨t6, ht6, hF⟩ := of_bindM hF
  obtain ⟨ha7, hb8⟩ := hn_allowed_Table_at ht6
  refine av rfl (r_npc rfl ha7) ?_
  refine av rfl (r_fieldAddr (fo := 2) Try.underlying84 rfl rfl (fun w => ⟨_, Try.sizeOf42 w⟩) rfl) ?_
  refine av rfl (r_load_cell Try.isAgg42 rfl (hcell0 (c := (cPtr gh)) (y := t6.2.f_six) .z hb8 (fun _ h => h) (Lens.comp (Lens.whole _ _) (fun z => { t6.2 with f_six := z }) (c_allowed_Table_f_six gh t6.2)) rfl)) ?_
  refine av rfl (r_assign rfl) ?_
  refine nwt [(4, _)] ⟨rfl, trivial⟩ ?_
  refine at_ret ?_
  have K := of_some hF
  subst K
  exact at_return1 rfl rfl (fun w1 hw => ⟨rfl, hw⟩)
def allowed_Table_Len (h_ : List HV) (x0 : Option Nat) : Option (Int) :=
  allowed_Table_made h_ x0 >>= fun t1 => if (!t1) = true then (some 0) else (hn_allowed_Table h_ x0 >>= fun t3 => hn_M82 h_ t3.2.f_owners >>= fun t6 => some (List.length t6.2 : Int))
theorem allowed_Table_Len_ok {h_ : List HV} {x0 : Option Nat} {r : Int} (hF : allowed_Table_Len h_ x0 = some r) : ∀ {w0 w : World} {G_ : List Ent} {g0_ : Nat → Nat} {n0_ : Nat} {gh : Nat → Nat} (hw_ : Wd w0 (heapE hK g0_ n0_ gh h_ :: G_) w),
    Calls Try.prog 38 #[pv gh x0] w (fun e w' => e = .returned (.int .i64 r) ∧ Wd w0 (heapE hK g0_ n0_ gh h_ :: G_) w') := by
 intro w0 w G_ g0_ n0_ gh hw_
 unfold allowed_Table_Len at hF
 refine calls_enter (l := [pv gh x0]) Try.func38 rfl rfl rfl ?_
 refine at_enterF hw_ ?_
 refine at_weak [(0, _)] ⟨rfl, trivial⟩ ?_
 refine sr ?_
 refine av rfl (r_assign rfl) ?_
 refine nwt [(0, _)] ⟨rfl, trivial⟩ ?_
 refine at_seq ?_
 refine sr ?_
 refine av rfl (r_move rfl) ?_
 obtain ⟨t1, ht1, hF⟩ := of_bindM hF
 refine at_callR .z Try.func79 rfl (by kernel_rfl) rfl rfl (fun w hw => allowed_Table_made_ok ht1 hw) ?_
 refine av rfl (r_not rfl) ?_
 refine nwt [(0, _), (5, _)] ⟨rfl, rfl, trivial⟩ ?_
 rcases of_ite hF with ⟨h2, hF⟩ | ⟨h2, hF⟩
 ·refine at_cond_true rfl h2 ?_
  refine sr ?_
  refine av rfl (r_assign rfl) ?_
  refine nwt [(2, _)] ⟨rfl, trivial⟩ ?_
  refine rt ?_
  have K := of_some hF
  subst K
  exact at_return1 rfl rfl (fun w1 hw => ⟨rfl, hw⟩)
 ·refine at_cond_false rfl h2 ?_
  refine sns ?_
  refine av rfl (r_move rfl) ?_
  obtain ⟨t3, ht3, hF⟩ := of_bindM hF
  obtain ⟨ha4, hb5⟩ := hn_allowed_Table_at ht3
  refine av rfl (r_npc rfl ha4) ?_
  refine av rfl (r_fieldAddr (fo := 0) Try.underlying84 rfl rfl (fun w => ⟨_, Try.sizeOf82 w⟩) rfl) ?_
  refine av rfl (r_load_cell Try.isAgg82 rfl (hcell0 (c := (cMapP gh)) (y := t3.2.f_owners) .z hb5 (fun _ h => h) (Lens.comp (Lens.whole _ _) (fun z => { t3.2 with f_owners := z }) (c_allowed_Table_f_owners gh t3.2)) rfl)) ?_
  obtain ⟨t6, ht6, hF⟩ := of_bindM hF
  obtain ⟨ha7, hb8⟩ := hn_M82_at ht6
  refine av rfl (r_hlen Try.underlying82 rfl ha7 (hmap .z hb8 (fun _ h => h))) ?_
  refine av rfl (r_assign rfl) ?_
  refine nwt [(2, _)] ⟨rfl, trivial⟩ ?_
  refine at_ret ?_
  have K := of_some hF
  subst K
  exact at_return1 rfl rfl (fun w1 hw => ⟨rfl, hw⟩)
def allowed_Table_Put (h_ : List HV) (x0 : Option Nat) (x1 : S_api_Prefix) (x2 : Int) : Option (Int × List HV) :=
  allowed_Table_made h_ x0 >>= fun t2 => if (!t2) = true then (some (2, h_)) else (hn_allowed_Table h_ x0 >>= fun t4 => hn_M82 h_ t4.2.f_owners >>= fun t7 => cidr_Right x1 >>= fun t10 => if (!t10) = true then (some (1, h_)) else (if (!((mfind t7.2 x1).isSome)) = true then (hn_allowed_Table h_ x0 >>= fun t13 => hn_M82 h_ t13.2.f_owners >>= fun t16 => if (decide ((List.length t16.2 : Int) ≥ 64)) = true then (some (7, h_)) else (hn_allowed_Table h_ x0 >>= fun t20 => hn_M82 h_ t20.2.f_owners >>= fun t23 => allowed_Table_own (List.set h_ t23.1 (HV.M82 (mput t23.2 x1 x2))) x0 x1.f_A >>= fun t26 => trie_Trie_Put (List.set h_ t23.1 (HV.M82 (mput t23.2 x1 x2))) t26 x1 x2 >>= fun t28 => some (t28.1, t28.2))) else (hn_allowed_Table h_ x0 >>= fun t32 => hn_M82 h_ t32.2.f_owners >>= fun t35 => allowed_Table_own (List.set h_ t35.1 (HV.M82 (mput t35.2 x1 x2))) x0 x1.f_A >>= fun t38 => trie_Trie_Put (List.set h_ t35.1 (HV.M82 (mput t35.2 x1 x2))) t38 x1 x2 >>= fun t40 => some (t40.1, t40.2))))
set_option maxRecDepth 10000 in
set_option maxHeartbeats 3200000 in
theorem allowed_Table_Put_ok {h_ : List HV} {x0 : Option Nat} {x1 : S_api_Prefix} {x2 : Int} {r : Int × List HV} (hF : allowed_Table_Put h_ x0 x1 x2 = some r) : ∀ {w0 w : World} {G_ : List Ent} {g0_ : Nat → Nat} {n0_ : Nat} {gh : Nat → Nat} (hw_ : Wd w0 (heapE hK g0_ n0_ gh h_ :: G_) w),
    Calls Try.prog 37 #[pv gh x0, .agg (Cd.cs c_api_Prefix x1).toArray, .int .i64 x2] w (fun e w' => ∃ (gh : Nat → Nat), e = .returned (.int .i64 r.1) ∧ Wd w0 (heapE hK g0_ n0_ gh r.2 :: G_) w') := by
 intro w0 w G_ g0_ n0_ gh hw_
 unfold allowed_Table_Put at hF
 refine calls_enter (l := [pv gh x0, .agg (Cd.cs c_api_Prefix x1).toArray, .int .i64 x2]) Try.func37 rfl rfl rfl ?_
 refine at_enterF hw_ ?_
 refine at_weak [(0, _), (1, _), (2, _)] ⟨rfl, rfl, rfl, trivial⟩ ?_
 refine sr ?_
 refine at_box (cs := Cd.cs c_api_Prefix x1) rfl rfl rfl ?_
 intro b1
 refine av rfl (r_assign rfl) ?_
 refine nwt [(0, _), (2, _), (4, _)] ⟨rfl, rfl, rfl, trivial⟩ ?_
 refine at_seq ?_
 refine sr ?_
 refine av rfl (r_move rfl) ?_
 obtain ⟨t2, ht2, hF⟩ := of_bindM hF
 refine at_callR (.s .z) Try.func79 rfl (by kernel_rfl) rfl rfl (fun w hw => allowed_Table_made_ok ht2 hw) ?_
 refine av rfl (r_not rfl) ?_
 refine nwt [(0, _), (2, _), (4, _), (11, _)] ⟨rfl, rfl, rfl, rfl, trivial⟩ ?_
 rcases of_ite hF with ⟨h3, hF⟩ | ⟨h3, hF⟩
 ·refine at_cond_true rfl h3 ?_
  refine sr ?_
  refine av rfl (r_assign rfl) ?_
  refine at_nil ?_
  refine at_drop (H := _) .z ?_
  refine at_weak [(6, _)] ⟨rfl, trivial⟩ ?_
  refine at_then_normal ?_
  refine rt ?_
  have K := of_some hF
  subst K
  exact at_return1 rfl rfl (fun w1 hw => ⟨gh, rfl, hw⟩)
 ·refine at_cond_false rfl h3 ?_
  refine sn ?_
  refine at_seq ?_
  refine at_draw (by kernel_rfl) (by kernel_rfl) (fun _ h => h.drew) ?_
  refine atq_val rfl rfl rfl (r_move rfl) ?_
  obtain ⟨t4, ht4, hF⟩ := of_bindM hF
  obtain ⟨ha5, hb6⟩ := hn_allowed_Table_at ht4
  refine atq_val rfl rfl rfl (r_npc rfl ha5) ?_
  refine atq_val rfl rfl rfl (r_fieldAddr (fo := 0) Try.underlying84 rfl rfl (fun w => ⟨_, Try.sizeOf82 w⟩) rfl) ?_
  refine atq_val rfl rfl rfl (r_load_cell Try.isAgg82 rfl (hcell0 (c := (cMapP gh)) (y := t4.2.f_owners) (.s .z) hb6 (fun _ h => h) (Lens.comp (Lens.whole _ _) (fun z => { t4.2 with f_owners := z }) (c_allowed_Table_f_owners gh t4.2)) rfl)) ?_
  refine atq_val rfl rfl rfl (r_load_aggc (c := c_api_Prefix) (z := x1) Try.isAgg46 Try.sizeOf46 rfl (lens_cell .z (Lens.whole _ _))) ?_
  obtain ⟨t7, ht7, hF⟩ := of_bindM hF
  obtain ⟨ha8, hb9⟩ := hn_M82_at ht7
  refine atq_val rfl rfl rfl (r_hlookup2 (d := (cInt .i64)) (va := false) (k := x1) (zv := (0 : Int)) Try.underlying82 (keylaw_of Try.underlying46 (chk_struct (k := 2) Try.underlying46 (fun n x hn => (chkf_cons (c_api_Prefix_f_A x) rfl rfl Try.isAgg32 Try.sizeOf32 (.inl rfl) (chk_struct (k := 1) Try.underlying32 (fun n x hn => (chkf_cons (c_api_Addr_f_V x) rfl rfl Try.isAgg3 Try.sizeOf3 (.inr rfl) (chk_int Try.underlying3) (by omega) (chkf_cons (c_api_Addr_f_B x) rfl rfl Try.isAgg30 Try.sizeOf30 (.inl rfl) (chk_vec Try.underlying30 Try.sizeOf5 Try.isAgg5 (.inr rfl) (chk_int Try.underlying5)) (by omega) chkf_nil)))) (by omega) (chkf_cons (c_api_Prefix_f_Bits x) rfl rfl Try.isAgg3 Try.sizeOf3 (.inr rfl) (chk_int Try.underlying3) (by omega) chkf_nil)))) (by decide) (eq_api_Prefix_46) (by decide) plain_api_Prefix) Try.zeroValue3 rfl rfl ha8 (hmap (.s .z) hb9 (fun _ h => h))) ?_
  refine atq_val rfl rfl rfl (r_move rfl) ?_
  refine atq_val rfl rfl rfl (r_extract rfl rfl) ?_
  refine atq_val rfl rfl rfl (r_extract rfl rfl) ?_
  refine atq_val rfl rfl rfl (r_assign rfl) ?_
  refine atq_val rfl rfl rfl (r_assign rfl) ?_
  refine atq_nil ?_
  refine at_weak [(0, _), (2, _), (4, _), (8, _)] ⟨rfl, rfl, rfl, rfl, trivial⟩ ?_
  refine at_then_normal ?_
  refine at_seq ?_
  refine at_block ?_
  refine sr ?_
  refine av rfl (r_load_aggc (c := c_api_Prefix) (z := x1) Try.isAgg46 Try.sizeOf46 rfl (lens_cell .z (Lens.whole _ _))) ?_
  obtain ⟨t10, ht10, hF⟩ := of_bindM hF
  refine at_callB Try.func55 rfl (by kernel_rfl) rfl rfl (fun w hw => cidr_Right_ok _ _ ht10 w) ?_
  refine av rfl (r_not rfl) ?_
  refine av rfl (r_assign rfl) ?_
  refine nwt [(0, _), (2, _), (4, _), (8, _), (21, _)] ⟨rfl, rfl, rfl, rfl, rfl, trivial⟩ ?_
  rcases of_ite hF with ⟨h11, hF⟩ | ⟨h11, hF⟩
  ·refine at_cond_true rfl h11 ?_
   refine sr ?_
   refine av rfl (r_assign rfl) ?_
   refine at_nil ?_
   refine at_drop (H := _) .z ?_
   refine at_weak [(6, _)] ⟨rfl, trivial⟩ ?_
   refine at_then_normal ?_
   refine at_ret ?_
   refine at_blk_ret (at_then_ret ?_)
   have K := of_some hF
   subst K
   exact at_return1 rfl rfl (fun w1 hw => ⟨gh, rfl, hw⟩)
  ·refine at_cond_false rfl h11 ?_
   refine sr ?_
   refine av rfl (r_move rfl) ?_
   refine av rfl (r_not rfl) ?_
   refine av rfl (r_move rfl) ?_
   rcases of_ite hF with ⟨h12, hF⟩ | ⟨h12, hF⟩
   ·refine at_fix (g := 28) rfl h12 ?_
    refine at_guard_yes rfl rfl rfl ?_
    refine av rfl (r_move rfl) ?_
    refine at_guard_yes rfl rfl rfl ?_
    obtain ⟨t13, ht13, hF⟩ := of_bindM hF
    obtain ⟨ha14, hb15⟩ := hn_allowed_Table_at ht13
    refine av rfl (r_npc rfl ha14) ?_
    refine at_guard_yes rfl rfl rfl ?_
    refine av rfl (r_fieldAddr (fo := 0) Try.underlying84 rfl rfl (fun w => ⟨_, Try.sizeOf82 w⟩) rfl) ?_
    refine at_guard_yes rfl rfl rfl ?_
    refine av rfl (r_load_cell Try.isAgg82 rfl (hcell0 (c := (cMapP gh)) (y := t13.2.f_owners) (.s .z) hb15 (fun _ h => h) (Lens.comp (Lens.whole _ _) (fun z => { t13.2 with f_owners := z }) (c_allowed_Table_f_owners gh t13.2)) rfl)) ?_
    refine at_guard_yes rfl rfl rfl ?_
    obtain ⟨t16, ht16, hF⟩ := of_bindM hF
    obtain ⟨ha17, hb18⟩ := hn_M82_at ht16
    refine av rfl (r_hlen Try.underlying82 rfl ha17 (hmap (.s .z) hb18 (fun _ h => h))) ?_
    refine at_guard_yes rfl rfl rfl ?_
    refine av rfl (r_igeq rfl rfl) ?_
    refine av rfl (r_pick rfl rfl rfl) ?_
    refine av rfl (r_assign rfl) ?_
    refine nwt [(0, _), (2, _), (4, _), (25, _)] ⟨rfl, rfl, rfl, rfl, trivial⟩ ?_
    rcases of_ite hF with ⟨h19, hF⟩ | ⟨h19, hF⟩
    ·refine at_cond_true rfl h19 ?_
     refine sr ?_
     refine av rfl (r_assign rfl) ?_
     refine at_nil ?_
     refine at_drop (H := _) .z ?_
     refine at_weak [(6, _)] ⟨rfl, trivial⟩ ?_
     refine at_then_normal ?_
     refine at_ret ?_
     refine at_blk_ret (at_then_ret ?_)
     have K := of_some hF
     subst K
     exact at_return1 rfl rfl (fun w1 hw => ⟨gh, rfl, hw⟩)
    ·refine at_cond_false rfl h19 ?_
     refine at_skip ?_
     refine at_blk_normal (at_then_normal ?_)
     refine at_seq ?_
     refine at_draw_tail 6 (by kernel_rfl) (by kernel_rfl) (fun _ h => h.drew) ?_
     simp only [List.take_succ_cons, List.take_zero, List.drop_succ_cons, List.drop_zero]
     refine ats_val rfl rfl rfl (r_move rfl) ?_
     obtain ⟨t20, ht20, hF⟩ := of_bindM hF
     obtain ⟨ha21, hb22⟩ := hn_allowed_Table_at ht20
     refine ats_val rfl rfl rfl (r_npc rfl ha21) ?_
     refine ats_val rfl rfl rfl (r_fieldAddr (fo := 0) Try.underlying84 rfl rfl (fun w => ⟨_, Try.sizeOf82 w⟩) rfl) ?_
     refine ats_val rfl rfl rfl (r_load_cell Try.isAgg82 rfl (hcell0 (c := (cMapP gh)) (y := t20.2.f_owners) (.s .z) hb22 (fun _ h => h) (Lens.comp (Lens.whole _ _) (fun z => { t20.2 with f_owners := z }) (c_allowed_Table_f_owners gh t20.2)) rfl)) ?_
     refine ats_val rfl rfl rfl (r_load_aggc (c := c_api_Prefix) (z := x1) Try.isAgg46 Try.sizeOf46 rfl (lens_cell .z (Lens.whole _ _))) ?_
     refine ats_val rfl rfl rfl (r_move rfl) ?_
     refine ats_nil ?_
     obtain ⟨t23, ht23, hF⟩ := of_bindM hF
     obtain ⟨ha24, hb25⟩ := hn_M82_at ht23
     refine at_hmapUpdate' (v' := HV.M82 (mput t23.2 x1 x2)) (k := x1) (v := x2) (.s .z) hb25 (fun _ h => h) (fun _ h => h) (fun j hj => by cases hj) Try.underlying82 (keylaw_of Try.underlying46 (chk_struct (k := 2) Try.underlying46 (fun n x hn => (chkf_cons (c_api_Prefix_f_A x) rfl rfl Try.isAgg32 Try.sizeOf32 (.inl rfl) (chk_struct (k := 1) Try.underlying32 (fun n x hn => (chkf_cons (c_api_Addr_f_V x) rfl rfl Try.isAgg3 Try.sizeOf3 (.inr rfl) (chk_int Try.underlying3) (by omega) (chkf_cons (c_api_Addr_f_B x) rfl rfl Try.isAgg30 Try.sizeOf30 (.inl rfl) (chk_vec Try.underlying30 Try.sizeOf5 Try.isAgg5 (.inr rfl) (chk_int Try.underlying5)) (by omega) chkf_nil)))) (by omega) (chkf_cons (c_api_Prefix_f_Bits x) rfl rfl Try.isAgg3 Try.sizeOf3 (.inr rfl) (chk_int Try.underlying3) (by omega) chkf_nil)))) (by decide) (eq_api_Prefix_46) (by decide) plain_api_Prefix) rfl ha24 rfl rfl rfl ?_
     refine nwt [(0, _), (2, _), (4, _)] ⟨rfl, rfl, rfl, trivial⟩ ?_
     refine at_seq ?_
     refine at_weak [(0, _), (2, _), (4, _)] ⟨rfl, rfl, rfl, trivial⟩ ?_
     obtain ⟨t26, ht26, hF⟩ := of_bindM hF
     refine at_invT [.q 42 (fun g27 => pv gh x0) [] 0 0, .q 43 (fun g27 => .pointer (some ⟨b1, 0 + 0, none⟩)) [] 0 0, .q 44 (fun g27 => .agg (Cd.cs c_api_Addr x1.f_A).toArray) [1] 0 0, .q 45 (fun g27 => pv gh t26) [0, 2] 0 0, .q 46 (fun g27 => .agg (Cd.cs c_api_Prefix x1).toArray) [] 0 0, .q 47 (fun g27 => .int .i64 x2) [] 0 0] (fun g27 s => match s with | _ => (Wd w0 (cellsE b1 (Cd.cs c_api_Prefix x1) 46 :: heapE hK g0_ n0_ gh (List.set h_ t23.1 (HV.M82 (mput t23.2 x1 x2))) :: G_))) 0 6 (by kernel_rfl) (by kernel_rfl) (by kernel_rfl) (by kernel_rfl) (by kernel_rfl) (by kernel_rfl) ⟨fun _ _ _ => rfl, fun _ _ _ => rfl, fun _ _ _ => rfl, fun _ _ _ => rfl, fun _ _ _ => rfl, fun _ _ _ => rfl, trivial⟩ (by kernel_rfl) (fun _ h => ⟨fun _ => (0, none, 0, none), h.drew⟩) ⟨?_, ?_, ?_, ?_, ?_, ?_, trivial⟩ ?_
     ·intro Lx g27 s K hl hh k
      show At 49 ((0, _) :: (2, _) :: (4, _) :: Lx) _ _
      refine av rfl (r_move rfl) ?_
      exact at_nil k
     ·intro Lx g27 s K hl hh k
      show At 49 ((0, _) :: (2, _) :: (4, _) :: Lx) _ _
      refine av rfl (r_fieldAddr (fo := 0) Try.underlying46 rfl rfl (fun w => ⟨_, Try.sizeOf32 w⟩) rfl) ?_
      exact at_nil k
     ·intro Lx g27 s K hl hh k
      show At 49 ((43, _) :: (0, _) :: (2, _) :: (4, _) :: Lx) _ _
      obtain rfl : s = 0 := by omega
      refine av rfl (r_load_aggc (c := c_api_Addr) (z := x1.f_A) Try.isAgg32 Try.sizeOf32 rfl (lens_cell .z (Lens.comp (Lens.whole _ _) (fun z => { x1 with f_A := z }) (c_api_Prefix_f_A x1)))) ?_
      exact at_nil k
     ·intro Lx g27 s K hl hh k
      show At 49 ((42, _) :: (44, _) :: (0, _) :: (2, _) :: (4, _) :: Lx) _ _
      obtain rfl : s = 0 := by omega
      refine at_callR (.s .z) Try.func80 rfl (by kernel_rfl) rfl rfl (fun w hw => allowed_Table_own_ok ht26 hw) ?_
      exact at_nil k
     ·intro Lx g27 s K hl hh k
      show At 49 ((0, _) :: (2, _) :: (4, _) :: Lx) _ _
      obtain rfl : s = 0 := by omega
      refine av rfl (r_load_aggc (c := c_api_Prefix) (z := x1) Try.isAgg46 Try.sizeOf46 rfl (lens_cell .z (Lens.whole _ _))) ?_
      exact at_nil k
     ·intro Lx g27 s K hl hh k
      show At 49 ((0, _) :: (2, _) :: (4, _) :: Lx) _ _
      refine av rfl (r_move rfl) ?_
      exact at_nil k
     intro g27
     show At 49 [(42, _), (43, _), (44, _), (45, _), (46, _), (47, _), (0, _), (2, _), (4, _)] _ _
     obtain ⟨t28, ht28, hF⟩ := of_bindM hF
     refine at_front (.s .z) ?_
     refine at_callH (γ := Unit) (h' := t28.2) (V := fun z gh => .int .i64 t28.1) (T := fun z => (cellsE b1 (Cd.cs c_api_Prefix x1) 46 :: G_)) Try.func33 rfl (by kernel_rfl) rfl rfl (fun w hw => (trie_Trie_Put_ok ht28 hw).mono (by rintro e w' ⟨gh, he, hw'⟩; exact ⟨gh, (), he, hw'⟩)) ?_
     rintro gh ⟨⟩ hg29
     refine av rfl (r_assign rfl) ?_
     refine at_nil ?_
     refine at_drop (H := _) (.s .z) ?_
     refine at_weak [(6, _)] ⟨rfl, trivial⟩ ?_
     refine at_then_normal ?_
     refine at_ret ?_
     have K := of_some hF
     subst K
     exact at_return1 rfl rfl (fun w1 hw => ⟨gh, rfl, hw⟩)
   ·refine at_fix (g := 28) rfl h12 ?_
    refine at_guard_no rfl rfl rfl rfl rfl ?_
    refine at_guard_no rfl rfl rfl rfl rfl ?_
    refine at_guard_no rfl rfl rfl rfl rfl ?_
    refine at_guard_no rfl rfl rfl rfl rfl ?_
    refine at_guard_no rfl rfl rfl rfl rfl ?_
    refine at_guard_no rfl rfl rfl rfl rfl ?_
    refine av rfl (r_pick rfl rfl rfl) ?_
    refine av rfl (r_assign rfl) ?_
    refine nwt [(0, _), (2, _), (4, _), (25, _)] ⟨rfl, rfl, rfl, rfl, trivial⟩ ?_
    refine at_cond_false rfl rfl ?_
    refine at_skip ?_
    refine at_blk_normal (at_then_normal ?_)
    refine at_seq ?_
    refine at_draw_tail 6 (by kernel_rfl) (by kernel_rfl) (fun _ h => h.drew) ?_
    simp only [List.take_succ_cons, List.take_zero, List.drop_succ_cons, List.drop_zero]
    refine ats_val rfl rfl rfl (r_move rfl) ?_
    obtain ⟨t32, ht32, hF⟩ := of_bindM hF
    obtain ⟨ha33, hb34⟩ := hn_allowed_Table_at ht32
    refine ats_val rfl rfl rfl (r_npc rfl ha33) ?_
    refine ats_val rfl rfl rfl (r_fieldAddr (fo := 0) Try.underlying84 rfl rfl (fun w => ⟨_, Try.sizeOf82 w⟩) rfl) ?_
    refine ats_val rfl rfl rfl (r_load_cell Try.isAgg82 rfl (hcell0 (c := (cMapP gh)) (y := t32.2.f_owners) (.s .z) hb34 (fun _ h => h) (Lens.comp (Lens.whole _ _) (fun z => { t32.2 with f_owners := z }) (c_allowed_Table_f_owners gh t32.2)) rfl)) ?_
    refine ats_val rfl rfl rfl (r_load_aggc (c := c_api_Prefix) (z := x1) Try.isAgg46 Try.sizeOf46 rfl (lens_cell .z (Lens.whole _ _))) ?_
    refine ats_val rfl rfl rfl (r_move rfl) ?_
    refine ats_nil ?_
    obtain ⟨t35, ht35, hF⟩ := of_bindM hF
    obtain ⟨ha36, hb37⟩ := hn_M82_at ht35
    refine at_hmapUpdate' (v' := HV.M82 (mput t35.2 x1 x2)) (k := x1) (v := x2) (.s .z) hb37 (fun _ h => h) (fun _ h => h) (fun j hj => by cases hj) Try.underlying82 (keylaw_of Try.underlying46 (chk_struct (k := 2) Try.underlying46 (fun n x hn => (chkf_cons (c_api_Prefix_f_A x) rfl rfl Try.isAgg32 Try.sizeOf32 (.inl rfl) (chk_struct (k := 1) Try.underlying32 (fun n x hn => (chkf_cons (c_api_Addr_f_V x) rfl rfl Try.isAgg3 Try.sizeOf3 (.inr rfl) (chk_int Try.underlying3) (by omega) (chkf_cons (c_api_Addr_f_B x) rfl rfl Try.isAgg30 Try.sizeOf30 (.inl rfl) (chk_vec Try.underlying30 Try.sizeOf5 Try.isAgg5 (.inr rfl) (chk_int Try.underlying5)) (by omega) chkf_nil)))) (by omega) (chkf_cons (c_api_Prefix_f_Bits x) rfl rfl Try.isAgg3 Try.sizeOf3 (.inr rfl) (chk_int Try.underlying3) (by omega) chkf_nil)))) (by decide) (eq_api_Prefix_46) (by decide) plain_api_Prefix) rfl ha36 rfl rfl rfl ?_
    refine nwt [(0, _), (2, _), (4, _)] ⟨rfl, rfl, rfl, trivial⟩ ?_
    refine at_seq ?_
    refine at_weak [(0, _), (2, _), (4, _)] ⟨rfl, rfl, rfl, trivial⟩ ?_
    obtain ⟨t38, ht38, hF⟩ := of_bindM hF
    refine at_invT [.q 42 (fun g39 => pv gh x0) [] 0 0, .q 43 (fun g39 => .pointer (some ⟨b1, 0 + 0, none⟩)) [] 0 0, .q 44 (fun g39 => .agg (Cd.cs c_api_Addr x1.f_A).toArray) [1] 0 0, .q 45 (fun g39 => pv gh t38) [0, 2] 0 0, .q 46 (fun g39 => .agg (Cd.cs c_api_Prefix x1).toArray) [] 0 0, .q 47 (fun g39 => .int .i64 x2) [] 0 0] (fun g39 s => match s with | _ => (Wd w0 (cellsE b1 (Cd.cs c_api_Prefix x1) 46 :: heapE hK g0_ n0_ gh (List.set h_ t35.1 (HV.M82 (mput t35.2 x1 x2))) :: G_))) 0 6 (by kernel_rfl) (by kernel_rfl) (by kernel_rfl) (by kernel_rfl) (by kernel_rfl) (by kernel_rfl) ⟨fun _ _ _ => rfl, fun _ _ _ => rfl, fun _ _ _ => rfl, fun _ _ _ => rfl, fun _ _ _ => rfl, fun _ _ _ => rfl, trivial⟩ (by kernel_rfl) (fun _ h => ⟨fun _ => (0, none, 0, none), h.drew⟩) ⟨?_, ?_, ?_, ?_, ?_, ?_, trivial⟩ ?_
    ·intro Lx g39 s K hl hh k
     show At 49 ((0, _) :: (2, _) :: (4, _) :: Lx) _ _
     refine av rfl (r_move rfl) ?_
     exact at_nil k
    ·intro Lx g39 s K hl hh k
     show At 49 ((0, _) :: (2, _) :: (4, _) :: Lx) _ _
     refine av rfl (r_fieldAddr (fo := 0) Try.underlying46 rfl rfl (fun w => ⟨_, Try.sizeOf32 w⟩) rfl) ?_
     exact at_nil k
    ·intro Lx g39 s K hl hh k
     show At 49 ((43, _) :: (0, _) :: (2, _) :: (4, _) :: Lx) _ _
     obtain rfl : s = 0 := by omega
     refine av rfl (r_load_aggc (c := c_api_Addr) (z := x1.f_A) Try.isAgg32 Try.sizeOf32 rfl (lens_cell .z (Lens.comp (Lens.whole _ _) (fun z => { x1 with f_A := z }) (c_api_Prefix_f_A x1)))) ?_
     exact at_nil k
    ·intro Lx g39 s K hl hh k
     show At 49 ((42, _) :: (44, _) :: (0, _) :: (2, _) :: (4, _) :: Lx) _ _
     obtain rfl : s = 0 := by omega
     refine at_callR (.s .z) Try.func80 rfl (by kernel_rfl) rfl rfl (fun w hw => allowed_Table_own_ok ht38 hw) ?_
     exact at_nil k
    ·intro Lx g39 s K hl hh k
     show At 49 ((0, _) :: (2, _) :: (4, _) :: Lx) _ _
     obtain rfl : s = 0 := by omega
     refine av rfl (r_load_aggc (c := c_api_Prefix) (z := x1) Try.isAgg46 Try.sizeOf46 rfl (lens_cell .z (Lens.whole _ _))) ?_
     exact at_nil k
    ·intro Lx g39 s K hl hh k
     show At 49 ((0, _) :: (2, _) :: (4, _) :: Lx) _ _
     refine av rfl (r_move rfl) ?_
     exact at_nil k
    intro g39
    show At 49 [(42, _), (43, _), (44, _), (45, _), (46, _), (47, _), (0, _), (2, _), (4, _)] _ _
    obtain ⟨t40, ht40, hF⟩ := of_bindM hF
    refine at_front (.s .z) ?_
    refine at_callH (γ := Unit) (h' := t40.2) (V := fun z gh => .int .i64 t40.1) (T := fun z => (cellsE b1 (Cd.cs c_api_Prefix x1) 46 :: G_)) Try.func33 rfl (by kernel_rfl) rfl rfl (fun w hw => (trie_Trie_Put_ok ht40 hw).mono (by rintro e w' ⟨gh, he, hw'⟩; exact ⟨gh, (), he, hw'⟩)) ?_
    rintro gh ⟨⟩ hg41
    refine av rfl (r_assign rfl) ?_
    refine at_nil ?_
    refine at_drop (H := _) (.s .z) ?_
    refine at_weak [(6, _)] ⟨rfl, trivial⟩ ?_
    refine at_then_normal ?_
    refine at_ret ?_
    have K := of_some hF
    subst K
    exact at_return1 rfl rfl (fun w1 hw => ⟨gh, rfl, hw⟩)
def allowed_Table_All (h_ : List HV) (x0 : Option Nat) : Option (List S_api_Entry) :=
  allowed_Table_made h_ x0 >>= fun t1 => if (!t1) = true then (some ([] : List S_api_Entry)) else (hn_allowed_Table h_ x0 >>= fun t3 => trie_Trie_All h_ t3.2.f_four >>= fun t6 => hn_allowed_Table h_ x0 >>= fun t9 => trie_Trie_All h_ t9.2.f_six >>= fun t12 => slices_Concat_api_Entry ([t6, t12]) >>= fun t16 => some t16)
set_option maxHeartbeats 3200000 in
theorem allowed_Table_All_ok {h_ : List HV} {x0 : Option Nat} {r : List S_api_Entry} (hF : allowed_Table_All h_ x0 = some r) : ∀ {w0 w : World} {G_ : List Ent} {g0_ : Nat → Nat} {n0_ : Nat} {gh : Nat → Nat} (hw_ : Wd w0 (heapE hK g0_ n0_ gh h_ :: G_) w),
    Calls Try.prog 40 #[pv gh x0] w (fun e w' => ∃ (p : Option Addr) (cap : Nat), e = .returned (.slice p r.length cap) ∧ Wd w0 (heapE hK g0_ n0_ gh h_ :: rowE c_api_Entry 52 p cap r :: G_) w') := by
 intro w0 w G_ g0_ n0_ gh hw_
 unfold allowed_Table_All at hF
 refine calls_enter (l := [pv gh x0]) Try.func40 rfl rfl rfl ?_
 refine at_enterF hw_ ?_
 refine at_weak [(0, _)] ⟨rfl, trivial⟩ ?_
 refine sr ?_
 refine av rfl (r_assign rfl) ?_
 refine nwt [(0, _)] ⟨rfl, trivial⟩ ?_
 refine at_seq ?_
 refine sr ?_
 refine av rfl (r_move rfl) ?_
 obtain ⟨t1, ht1, hF⟩ := of_bindM hF
 refine at_callR .z Try.func79 rfl (by kernel_rfl) rfl rfl (fun w hw => allowed_Table_made_ok ht1 hw) ?_
 refine av rfl (r_not rfl) ?_
 refine nwt [(0, _), (5, _)] ⟨rfl, rfl, trivial⟩ ?_
 rcases of_ite hF with ⟨h2, hF⟩ | ⟨h2, hF⟩
 ·refine at_cond_true rfl h2 ?_
  refine sr ?_
  refine av rfl (r_assign rfl) ?_
  refine nwt [(2, _)] ⟨rfl, trivial⟩ ?_
  refine rt ?_
  refine at_own_nil c_api_Entry 52 ?_
  refine at_front (.s .z) ?_
  have K := of_some hF
  subst K
  exact at_return1 rfl rfl (fun w1 hw => ⟨none, 0, rfl, hw⟩)
 ·refine at_cond_false rfl h2 ?_
  refine sn ?_
  refine at_seq ?_
  refine at_weak [(0, _)] ⟨rfl, trivial⟩ ?_
  obtain ⟨t3, ht3, hF⟩ := of_bindM hF
  obtain ⟨ha4, hb5⟩ := hn_allowed_Table_at ht3
  obtain ⟨t6, ht6, hF⟩ := of_bindM hF
  obtain ⟨t9, ht9, hF⟩ := of_bindM hF
  obtain ⟨ha10, hb11⟩ := hn_allowed_Table_at ht9
  obtain ⟨t12, ht12, hF⟩ := of_bindM hF
  obtain ⟨t16, ht16, hF⟩ := of_bindM hF
  refine at_inv [.q 6 (fun g19 => pv gh x0) [] 0 0, .q 7 (fun g19 => .pointer (some ⟨gh t3.1, 0, none⟩)) [0] 0 0, .q 8 (fun g19 => .pointer (some ⟨gh t3.1, 0 + 1, none⟩)) [1] 0 0, .q 9 (fun g19 => pv gh t3.2.f_four) [2] 0 0, .al 0 10 (fun g19 => .slice ((g19 0).2.1) t6.length ((g19 0).2.2.1)) [3], .q 11 (fun g19 => pv gh x0) [] 0 1, .q 12 (fun g19 => .pointer (some ⟨gh t9.1, 0, none⟩)) [5] 0 1, .q 13 (fun g19 => .pointer (some ⟨gh t9.1, 0 + 2, none⟩)) [6] 0 1, .q 14 (fun g19 => pv gh t9.2.f_six) [7] 0 1, .al 1 15 (fun g19 => .slice ((g19 1).2.1) t12.length ((g19 1).2.2.1)) [8], .al 2 16 (fun g19 => .slice (some ⟨((g19 2).1), 0, none⟩) ([t6, t12] : List (List S_api_Entry)).length 2) [4, 9], .al 3 17 (fun g19 => .slice ((g19 3).2.1) t16.length ((g19 3).2.2.1)) [10], .q 2 (fun g19 => .slice ((g19 3).2.1) t16.length ((g19 3).2.2.1)) [11] 4 4] (fun g19 s => match s with | 0 => (Wd w0 (heapE hK g0_ n0_ gh h_ :: G_)) | 1 => (Wd w0 (heapE hK g0_ n0_ gh h_ :: rowE c_api_Entry 52 ((g19 0).2.1) ((g19 0).2.2.1) t6 :: G_)) | 2 => (Wd w0 (heapE hK g0_ n0_ gh h_ :: rowE c_api_Entry 52 ((g19 1).2.1) ((g19 1).2.2.1) t12 :: rowE c_api_Entry 52 ((g19 0).2.1) ((g19 0).2.2.1) t6 :: G_)) | 3 => (Wd w0 (cellsE ((g19 2).1) (Cd.all (cSl c_api_Entry) ([((((g19 0).2.1), ((g19 0).2.2.1)), t6), ((((g19 1).2.1), ((g19 1).2.2.1)), t12)] : List ((Option Addr × Nat) × List S_api_Entry))) 44 :: heapE hK g0_ n0_ gh h_ :: rowE c_api_Entry 52 ((g19 1).2.1) ((g19 1).2.2.1) t12 :: rowE c_api_Entry 52 ((g19 0).2.1) ((g19 0).2.2.1) t6 :: G_)) | _ => (Wd w0 (rowE c_api_Entry 52 ((g19 3).2.1) ((g19 3).2.2.1) t16 :: cellsE ((g19 2).1) (Cd.all (cSl c_api_Entry) ([((((g19 0).2.1), ((g19 0).2.2.1)), t6), ((((g19 1).2.1), ((g19 1).2.2.1)), t12)] : List ((Option Addr × Nat) × List S_api_Entry))) 44 :: heapE hK g0_ n0_ gh h_ :: rowE c_api_Entry 52 ((g19 1).2.1) ((g19 1).2.2.1) t12 :: rowE c_api_Entry 52 ((g19 0).2.1) ((g19 0).2.2.1) t6 :: G_))) 4 (by kernel_rfl) (by kernel_rfl) (by kernel_rfl) (by kernel_rfl) (by kernel_rfl) ⟨fun _ _ _ => rfl, fun _ _ _ => rfl, fun _ _ _ => rfl, fun _ _ _ => rfl, fun g19 g2 h => by show (.slice ((g19 0).2.1) t6.length ((g19 0).2.2.1) : Value) = .slice ((g2 0).2.1) t6.length ((g2 0).2.2.1); rw [h 0 (show 0 < 1 by decide)], fun _ _ _ => rfl, fun _ _ _ => rfl, fun _ _ _ => rfl, fun _ _ _ => rfl, fun g19 g2 h => by show (.slice ((g19 1).2.1) t12.length ((g19 1).2.2.1) : Value) = .slice ((g2 1).2.1) t12.length ((g2 1).2.2.1); rw [h 1 (show 1 < 2 by decide)], fun g19 g2 h => by show (.slice (some ⟨((g19 2).1), 0, none⟩) ([t6, t12] : List (List S_api_Entry)).length 2 : Value) = .slice (some ⟨((g2 2).1), 0, none⟩) ([t6, t12] : List (List S_api_Entry)).length 2; rw [h 2 (show 2 < 3 by decide)], fun g19 g2 h => by show (.slice ((g19 3).2.1) t16.length ((g19 3).2.2.1) : Value) = .slice ((g2 3).2.1) t16.length ((g2 3).2.2.1); rw [h 3 (show 3 < 4 by decide)], fun g19 g2 h => by show (.slice ((g19 3).2.1) t16.length ((g19 3).2.2.1) : Value) = .slice ((g2 3).2.1) t16.length ((g2 3).2.2.1); rw [h 3 (show 3 < 4 by decide)], trivial⟩ (by kernel_rfl) (fun _ h => ⟨fun _ => (0, none, 0, none), h.drew⟩) ⟨?_, ?_, ?_, ?_, ?_, ?_, ?_, ?_, ?_, ?_, ?_, ?_, ?_, trivial⟩ ?_
  ·intro Lx g19 s K hl hh k
   show At 18 ((0, _) :: Lx) _ _
   refine av rfl (r_move rfl) ?_
   exact at_nil k
  ·intro Lx g19 s K hl hh k
   show At 18 ((6, _) :: (0, _) :: Lx) _ _
   refine av rfl (r_npc rfl ha4) ?_
   exact at_nil k
  ·intro Lx g19 s K hl hh k
   show At 18 ((7, _) :: (0, _) :: Lx) _ _
   refine av rfl (r_fieldAddr (fo := 1) Try.underlying84 rfl rfl (fun w => ⟨_, Try.sizeOf42 w⟩) rfl) ?_
   exact at_nil k
  ·intro Lx g19 s K hl hh k
   show At 18 ((8, _) :: (0, _) :: Lx) _ _
   obtain rfl : s = 0 := by omega
   refine av rfl (r_load_cell Try.isAgg42 rfl (hcell0 (c := (cPtr gh)) (y := t3.2.f_four) .z hb5 (fun _ h => h) (Lens.comp (Lens.whole _ _) (fun z => { t3.2 with f_four := z }) (c_allowed_Table_f_four gh t3.2)) rfl)) ?_
   exact at_nil k
  ·intro Lx g19 K k
   show At 18 ((9, _) :: (0, _) :: Lx) _ _
   refine at_callG (V := fun p cap => .slice p t6.length cap) (T := fun p cap => (heapE hK g0_ n0_ gh h_ :: rowE c_api_Entry 52 p cap t6 :: G_)) Try.func30 rfl (by kernel_rfl) rfl rfl (fun w hw => trie_Trie_All_ok ht6 hw) ?_
   intro p7 c8
   exact at_nil (k (0, p7, c8, none))
  ·intro Lx g19 s K hl hh k
   show At 18 ((0, _) :: Lx) _ _
   refine av rfl (r_move rfl) ?_
   exact at_nil k
  ·intro Lx g19 s K hl hh k
   show At 18 ((11, _) :: (0, _) :: Lx) _ _
   refine av rfl (r_npc rfl ha10) ?_
   exact at_nil k
  ·intro Lx g19 s K hl hh k
   show At 18 ((12, _) :: (0, _) :: Lx) _ _
   refine av rfl (r_fieldAddr (fo := 2) Try.underlying84 rfl rfl (fun w => ⟨_, Try.sizeOf42 w⟩) rfl) ?_
   exact at_nil k
  ·intro Lx g19 s K hl hh k
   show At 18 ((13, _) :: (0, _) :: Lx) _ _
   rcases (by omega : s = 0 ∨ s = 1) with rfl | rfl
   ·skip
    refine av rfl (r_load_cell Try.isAgg42 rfl (hcell0 (c := (cPtr gh)) (y := t9.2.f_six) .z hb11 (fun _ h => h) (Lens.comp (Lens.whole _ _) (fun z => { t9.2 with f_six := z }) (c_allowed_Table_f_six gh t9.2)) rfl)) ?_
    exact at_nil k
   ·skip
    refine av rfl (r_load_cell Try.isAgg42 rfl (hcell0 (c := (cPtr gh)) (y := t9.2.f_six) .z hb11 (fun _ h => h) (Lens.comp (Lens.whole _ _) (fun z => { t9.2 with f_six := z }) (c_allowed_Table_f_six gh t9.2)) rfl)) ?_
    exact at_nil k
  ·intro Lx g19 K k
   show At 18 ((14, _) :: (0, _) :: Lx) _ _
   refine at_callG (V := fun p cap => .slice p t12.length cap) (T := fun p cap => (heapE hK g0_ n0_ gh h_ :: rowE c_api_Entry 52 p cap t12 :: rowE c_api_Entry 52 ((g19 0).2.1) ((g19 0).2.2.1) t6 :: G_)) Try.func30 rfl (by kernel_rfl) rfl rfl (fun w hw => trie_Trie_All_ok ht12 hw) ?_
   intro p13 c14
   exact at_nil (k (0, p13, c14, none))
  ·intro Lx g19 K k
   show At 18 ((10, _) :: (15, _) :: (0, _) :: Lx) _ _
   refine at_litG (cs := Cd.all (cSl c_api_Entry) ([((((g19 0).2.1), ((g19 0).2.2.1)), t6), ((((g19 1).2.1), ((g19 1).2.2.1)), t12)] : List ((Option Addr × Nat) × List S_api_Entry))) Try.underlying133 Try.sizeOf44 Try.zeroValue44 rfl rfl rfl (by kernel_rfl) rfl ?_
   intro b15
   exact at_nil (k (b15, none, 0, none))
  ·intro Lx g19 K k
   show At 18 ((16, _) :: (0, _) :: Lx) _ _
   refine at_callO (c := c_api_Entry) (e := 52) (ys := t16) (V := fun p cap => .slice p t16.length cap) Try.func82 rfl (by kernel_rfl) rfl rfl (fun w hw => slices_Concat_api_Entry_ok _ _ _ _ ht16 w ⟨([((((g19 0).2.1), ((g19 0).2.2.1)), t6), ((((g19 1).2.1), ((g19 1).2.2.1)), t12)] : List ((Option Addr × Nat) × List S_api_Entry)), rfl, cells_row (hw.ok (Upd.mem .z)), (all_cons (hw.own (.s (.s (.s .z)))).row (all_cons (hw.own (.s (.s .z))).row all_nil))⟩) ?_
   intro p17 c18
   exact at_nil (k (0, p17, c18, none))
  ·intro Lx g19 s K hl hh k
   show At 18 ((17, _) :: (0, _) :: Lx) _ _
   refine av rfl (r_assign rfl) ?_
   exact at_nil k
  intro g19
  show At 18 [(6, _), (7, _), (8, _), (9, _), (10, _), (11, _), (12, _), (13, _), (14, _), (15, _), (16, _), (17, _), (2, _), (0, _)] _ _
  refine at_drop (H := _) (.s .z) ?_
  refine at_drop (H := _) (.s (.s .z)) ?_
  refine at_drop (H := _) (.s (.s .z)) ?_
  refine at_weak [(2, _)] ⟨rfl, trivial⟩ ?_
  refine at_then_normal ?_
  refine at_ret ?_
  refine at_front (.s .z) ?_
  have K := of_some hF
  subst K
  exact at_return1 rfl rfl (fun w1 hw => ⟨(g19 3).2.1, (g19 3).2.2.1, rfl, hw⟩)
def allowed_Table_Of.l0 (x1 : Int) (t1 : List S_api_Entry) (i8 : List S_api_Prefix) (i9 : Int) : Option (List S_api_Prefix) :=
  if (decide (i9 < (t1.length : Int))) = true then (if (0 : Int) ≤ i9 ∧ i9 < (t1.length : Int) then if ((lget t1 i9).f_Owner == x1) = true then (if (i8.length + 1) * 32 ≤ 140737488355328 then allowed_Table_Of.l0 x1 t1 (i8 ++ [(lget t1 i9).f_P]) (wr .i64 (i9 + 1)) else none) else (allowed_Table_Of.l0 x1 t1 i8 (wr .i64 (i9 + 1))) else none) else (some i8)
  partial_fixpoint
def allowed_Table_Of (h_ : List HV) (x0 : Option Nat) (x1 : Int) : Option (List S_api_Prefix) :=
  allowed_Table_All h_ x0 >>= fun t1 => allowed_Table_Of.l0 x1 t1 ([] : List S_api_Prefix) 0 >>= fun q7 => some q7
theorem allowed_Table_Of_ok {h_ : List HV} {x0 : Option Nat} {x1 : Int} {r : List S_api_Prefix} (hF : allowed_Table_Of h_ x0 x1 = some r) : ∀ {w0 w : World} {G_ : List Ent} {g0_ : Nat → Nat} {n0_ : Nat} {gh : Nat → Nat} (hw_ : Wd w0 (heapE hK g0_ n0_ gh h_ :: G_) w),
    Calls Try.prog 42 #[pv gh x0, .int .i64 x1] w (fun e w' => ∃ (p : Option Addr) (cap : Nat), e = .returned (.slice p r.length cap) ∧ Wd w0 (heapE hK g0_ n0_ gh h_ :: rowE c_api_Prefix 46 p cap r :: G_) w') := by
 intro w0 w G_ g0_ n0_ gh hw_
 unfold allowed_Table_Of at hF
 refine calls_enter (l := [pv gh x0, .int .i64 x1]) Try.func42 rfl rfl rfl ?_
 refine at_enterF hw_ ?_
 refine at_weak [(0, _), (1, _)] ⟨rfl, rfl, trivial⟩ ?_
 refine sr ?_
 refine av rfl (r_assign rfl) ?_
 refine nws [(0, _), (1, _)] ⟨rfl, rfl, trivial⟩ ?_
 refine av rfl (r_assign rfl) ?_
 refine nwt [(0, _), (1, _), (5, _)] ⟨rfl, rfl, rfl, trivial⟩ ?_
 refine at_seq ?_
 refine sr ?_
 refine av rfl (r_move rfl) ?_
 obtain ⟨t1, ht1, hF⟩ := of_bindM hF
 refine at_callG (V := fun p cap => .slice p t1.length cap) (T := fun p cap => (heapE hK g0_ n0_ gh h_ :: rowE c_api_Entry 52 p cap t1 :: G_)) Try.func40 rfl (by kernel_rfl) rfl rfl (fun w hw => allowed_Table_All_ok ht1 hw) ?_
 intro p2 c3
 refine av rfl (r_len_sl Try.underlying44 rfl) ?_
 refine av rfl (r_move rfl) ?_
 refine nwt [(1, _), (5, _), (9, _), (10, _), (11, _)] ⟨rfl, rfl, rfl, rfl, rfl, trivial⟩ ?_
 refine at_block ?_
 refine at_own_nil c_api_Prefix 46 ?_
 refine at_weak [(1, _), (5, .slice (nn 4) ([] : List S_api_Prefix).length 0), (9, _), (10, _), (11, _)] ⟨rfl, rfl, rfl, rfl, rfl, trivial⟩ ?_
 obtain ⟨q7, hq7, hF⟩ := of_bindM hF
 refine at_weak [(1, _), (5, _), (9, _), (10, _), (11, _)] ⟨rfl, rfl, rfl, rfl, rfl, trivial⟩ ?_
 refine at_loop_n (B := 0) (A := fun Y => ∀ (p12 : Option Addr) (c13 : Nat), At 26 [(5, .slice p12 q7.length c13)] (Wd w0 (rowE c_api_Prefix 46 p12 c13 q7 :: heapE hK g0_ n0_ gh h_ :: G_)) Y) ?_ ?_
 ·intro K
  refine allowed_Table_Of.l0.partial_correctness x1 t1 (motive := fun i8 i9 x => KN (fun Y => ∀ (p12 : Option Addr) (c13 : Nat), At 26 [(5, .slice p12 x.length c13)] (Wd w0 (rowE c_api_Prefix 46 p12 c13 x :: heapE hK g0_ n0_ gh h_ :: G_)) Y) _ 0 → Round (fun Y => ∀ (p10 : Option Addr) (c11 : Nat), At 26 [(1, .int .i64 x1), (5, .slice p10 i8.length c11), (9, .slice p2 t1.length c3), (10, .int .i64 (t1.length : Int)), (11, .int .i64 i9)] (Wd w0 (rowE c_api_Prefix 46 p10 c11 i8 :: heapE hK g0_ n0_ gh h_ :: rowE c_api_Entry 52 p2 c3 t1 :: G_)) Y) _ _ _) ?_ _ _ _ hq7 K (nn 4) 0
  ·clear K hF
   intro g ih i8 i9 x hF K p10 c11
   refine at_round ?_
   refine sr ?_
   refine av rfl (r_ilss rfl rfl) ?_
   refine nwt [(1, _), (5, _), (9, _), (10, _), (11, _), (12, _)] ⟨rfl, rfl, rfl, rfl, rfl, rfl, trivial⟩ ?_
   refine at_seq ?_
   rcases of_ite hF with ⟨h14, hF⟩ | ⟨h14, hF⟩
   ·refine at_cond_true rfl h14 ?_
    refine sn ?_
    refine at_seq ?_
    refine at_block ?_
    refine sr ?_
    obtain ⟨h15, hF⟩ := of_guard hF
    refine at_pure (φ := ∃ b o, p2 = some ⟨b, o, none⟩) (fun _ hw => row_ptr (hw.own (.s (.s .z))).row h15) ?_
    rintro ⟨b17, o18, hp16⟩
    refine av rfl (r_idx Try.underlying44 Try.sizeOf52 rfl rfl h15 hp16) ?_
    refine av rfl (r_load_aggc (c := c_api_Entry) (z := lget t1 i9) Try.isAgg52 Try.sizeOf52 rfl (fun w1 hw => row_cell (W := fun w1 => w1 = _) (fun w1 h => by subst h; exact Below.refl _ _) (hw.own (.s (.s .z))).row h15 hp16 _ rfl)) ?_
    refine at_alloc (cs := Cd.cs c_api_Entry ({ f_P := zqV2_0, f_Owner := (0 : Int) } : S_api_Entry)) Try.zeroValue52 rfl rfl ?_
    intro b19
    refine at_store (c := c_api_Entry) (z := lget t1 i9) .z (Lens.whole _ _) Try.sizeOf52 rfl rfl rfl ?_
    refine nws [(1, _), (5, _), (7, _), (9, _), (10, _), (11, _)] ⟨rfl, rfl, rfl, rfl, rfl, rfl, trivial⟩ ?_
    refine av rfl (r_fieldAddr (fo := 18) Try.underlying52 rfl rfl (fun w => ⟨_, Try.sizeOf3 w⟩) rfl) ?_
    refine av rfl (r_load_cell Try.isAgg3 rfl (lens_cell0 (c := (cInt .i64)) (y := (lget t1 i9).f_Owner) .z (Lens.comp (Lens.whole _ _) (fun z => { lget t1 i9 with f_Owner := z }) (c_api_Entry_f_Owner (lget t1 i9))) rfl)) ?_
    refine av rfl (r_move rfl) ?_
    refine av rfl (r_ieql rfl rfl) ?_
    refine nwt [(1, _), (5, _), (7, _), (9, _), (10, _), (11, _), (18, _)] ⟨rfl, rfl, rfl, rfl, rfl, rfl, rfl, trivial⟩ ?_
    rcases of_ite hF with ⟨h20, hF⟩ | ⟨h20, hF⟩
    ·refine at_cond_true rfl h20 ?_
     refine at_region ?_
     refine av rfl (r_move rfl) ?_
     refine av rfl (r_fieldAddr (fo := 0) Try.underlying52 rfl rfl (fun w => ⟨_, Try.sizeOf46 w⟩) rfl) ?_
     refine av rfl (r_load_aggc (c := c_api_Prefix) (z := (lget t1 i9).f_P) Try.isAgg46 Try.sizeOf46 rfl (lens_cell .z (Lens.comp (Lens.whole _ _) (fun z => { lget t1 i9 with f_P := z }) (c_api_Entry_f_P (lget t1 i9))))) ?_
     refine at_litL (c := c_api_Prefix) ([zqV2_0] : List S_api_Prefix) ([(lget t1 i9).f_P] : List S_api_Prefix) Try.underlying35 Try.sizeOf46 Try.zeroValue46 rfl rfl rfl (by kernel_rfl) (fill_step (c := c_api_Prefix) (z := (lget t1 i9).f_P) rfl (Lens.all c_api_Prefix ([zqV2_0] : List S_api_Prefix) 0 (by decide)) rfl rfl) rfl ?_
     intro b21
     obtain ⟨h22, hF⟩ := of_guard hF
     refine at_append (z := .agg (Cd.cs c_api_Prefix zqV2_0).toArray) (c := c_api_Prefix) (ys := ([(lget t1 i9).f_P] : List S_api_Prefix)) (.s (.s .z)) Try.underlying35 infoV246 (by kernel_rfl) (by kernel_rfl) rfl rfl rfl rfl (fun _ hw => cells_src (hw.ok (Upd.mem .z))) (by kernel_rfl) h22 (app_small h22) rfl ?_
     intro p23 c24
     refine av rfl (r_assign rfl) ?_
     refine at_nil ?_
     refine at_drop (H := _) .z ?_
     refine at_drop (H := _) .z ?_
     refine at_weak [(1, _), (5, _), (9, _), (10, _), (11, _)] ⟨rfl, rfl, rfl, rfl, rfl, trivial⟩ ?_
     refine at_blk_normal (at_then_normal ?_)
     refine at_region ?_
     refine av rfl (r_iadd rfl rfl) ?_
     refine av rfl (r_move rfl) ?_
     refine nwt [(1, _), (5, _), (9, _), (10, _), (11, _)] ⟨rfl, rfl, rfl, rfl, rfl, trivial⟩ ?_
     exact at_weak_k (ih _ _ _ hF K p23 c24) ⟨rfl, rfl, rfl, rfl, rfl, trivial⟩
    ·refine at_cond_false rfl h20 ?_
     refine at_skip ?_
     refine at_blk_normal (at_then_normal ?_)
     refine at_region ?_
     refine av rfl (r_iadd rfl rfl) ?_
     refine av rfl (r_move rfl) ?_
     refine at_nil ?_
     refine at_drop (H := _) .z ?_
     refine at_weak [(1, _), (5, _), (9, _), (10, _), (11, _)] ⟨rfl, rfl, rfl, rfl, rfl, trivial⟩ ?_
     refine at_then_normal ?_
     exact at_weak_k (ih _ _ _ hF K p10 c11) ⟨rfl, rfl, rfl, rfl, rfl, trivial⟩
   ·refine at_cond_false rfl h14 ?_
    refine at_exit ?_
    refine at_then_exit (at_then_exit ?_)
    refine at_drop (H := _) (.s (.s .z)) ?_
    obtain rfl := of_some hF
    exact at_weak_k (K p10 c11) ⟨rfl, trivial⟩
 ·skip
  intro p12 c13
  refine at_blk_same ?_
  refine at_then_normal ?_
  refine sr ?_
  refine av rfl (r_move rfl) ?_
  refine av rfl (r_assign rfl) ?_
  refine nwt [(4, _)] ⟨rfl, trivial⟩ ?_
  refine at_ret ?_
  refine at_front (.s .z) ?_
  have K := of_some hF
  subst K
  exact at_return1 rfl rfl (fun w1 hw => ⟨p12, c13, rfl, hw⟩)
def allowed_Table_Find (h_ : List HV) (x0 : Option Nat) (x1 : S_api_Addr) : Option (Int × Bool) :=
  allowed_Table_made h_ x0 >>= fun t2 => if (!t2) = true then (some (0, false)) else (allowed_Table_own h_ x0 x1 >>= fun t4 => trie_Trie_Find h_ t4 x1 >>= fun t5 => some (t5.1.f_Owner, t5.2))
set_option maxHeartbeats 3200000 in
theorem allowed_Table_Find_ok {h_ : List HV} {x0 : Option Nat} {x1 : S_api_Addr} {r : Int × Bool} (hF : allowed_Table_Find h_ x0 x1 = some r) : ∀ {w0 w : World} {G_ : List Ent} {g0_ : Nat → Nat} {n0_ : Nat} {gh : Nat → Nat} (hw_ : Wd w0 (heapE hK g0_ n0_ gh h_ :: G_) w),
    Calls Try.prog 44 #[pv gh x0, .agg (Cd.cs c_api_Addr x1).toArray] w (fun e w' => e = .returned (.tuple #[.int .i64 r.1, .bool r.2]) ∧ Wd w0 (heapE hK g0_ n0_ gh h_ :: G_) w') := by
 intro w0 w G_ g0_ n0_ gh hw_
 unfold allowed_Table_Find at hF
 refine calls_enter (l := [pv gh x0, .agg (Cd.cs c_api_Addr x1).toArray]) Try.func44 rfl rfl rfl ?_
 refine at_enterF hw_ ?_
 refine at_weak [(0, _), (1, _)] ⟨rfl, rfl, trivial⟩ ?_
 refine sr ?_
 refine at_box (cs := Cd.cs c_api_Addr x1) rfl rfl rfl ?_
 intro b1
 refine av rfl (r_assign rfl) ?_
 refine av rfl (r_assign rfl) ?_
 refine nwt [(0, _), (3, _)] ⟨rfl, rfl, trivial⟩ ?_
 refine at_seq ?_
 refine sr ?_
 refine av rfl (r_move rfl) ?_
 obtain ⟨t2, ht2, hF⟩ := of_bindM hF
 refine at_callR (.s .z) Try.func79 rfl (by kernel_rfl) rfl rfl (fun w hw => allowed_Table_made_ok ht2 hw) ?_
 refine av rfl (r_not rfl) ?_
 refine nwt [(0, _), (3, _), (10, _)] ⟨rfl, rfl, rfl, trivial⟩ ?_
 rcases of_ite hF with ⟨h3, hF⟩ | ⟨h3, hF⟩
 ·refine at_cond_true rfl h3 ?_
  refine sr ?_
  refine av rfl (r_assign rfl) ?_
  refine av rfl (r_assign rfl) ?_
  refine at_nil ?_
  refine at_drop (H := _) .z ?_
  refine at_weak [(4, _), (5, _)] ⟨rfl, rfl, trivial⟩ ?_
  refine at_then_normal ?_
  refine rt ?_
  have K := of_some hF
  subst K
  exact at_return2 rfl rfl rfl (fun w1 hw => ⟨rfl, hw⟩)
 ·refine at_cond_false rfl h3 ?_
  refine sn ?_
  refine at_seq ?_
  refine at_weak [(0, _), (3, _)] ⟨rfl, rfl, trivial⟩ ?_
  obtain ⟨t4, ht4, hF⟩ := of_bindM hF
  obtain ⟨t5, ht5, hF⟩ := of_bindM hF
  refine at_inv [.q 12 (fun g7 => pv gh x0) [] 0 1, .q 13 (fun g7 => .agg (Cd.cs c_api_Addr x1).toArray) [] 0 1, .q 14 (fun g7 => pv gh t4) [0, 1] 0 1, .q 15 (fun g7 => .agg (Cd.cs c_api_Addr x1).toArray) [] 0 1, .q 16 (fun g7 => .tuple #[.agg (Cd.cs c_api_Entry t5.1).toArray, .bool t5.2]) [2, 3] 0 1, .q 11 (fun g7 => .tuple #[.agg (Cd.cs c_api_Entry t5.1).toArray, .bool t5.2]) [4] 0 1, .q 17 (fun g7 => .agg (Cd.cs c_api_Entry t5.1).toArray) [5] 0 1, .q 18 (fun g7 => .bool t5.2) [5] 0 2, .al 0 6 (fun g7 => .pointer (some ⟨((g7 0).1), 0, none⟩)) [], .st 1 none [8, 6], .q 7 (fun g7 => .bool t5.2) [7] 2 2] (fun g7 s => match s with | 0 => (Wd w0 (cellsE b1 (Cd.cs c_api_Addr x1) 32 :: heapE hK g0_ n0_ gh h_ :: G_)) | 1 => (Wd w0 (cellsE ((g7 0).1) (Cd.cs c_api_Entry ({ f_P := zqV2_0, f_Owner := (0 : Int) } : S_api_Entry)) 52 :: cellsE b1 (Cd.cs c_api_Addr x1) 32 :: heapE hK g0_ n0_ gh h_ :: G_)) | _ => (Wd w0 (cellsE ((g7 0).1) (Cd.cs c_api_Entry t5.1) 52 :: cellsE b1 (Cd.cs c_api_Addr x1) 32 :: heapE hK g0_ n0_ gh h_ :: G_))) 2 (by kernel_rfl) (by kernel_rfl) (by kernel_rfl) (by kernel_rfl) (by kernel_rfl) ⟨fun _ _ _ => rfl, fun _ _ _ => rfl, fun _ _ _ => rfl, fun _ _ _ => rfl, fun _ _ _ => rfl, fun _ _ _ => rfl, fun _ _ _ => rfl, fun _ _ _ => rfl, fun g7 g2 h => by show (.pointer (some ⟨((g7 0).1), 0, none⟩) : Value) = .pointer (some ⟨((g2 0).1), 0, none⟩); rw [h 0 (show 0 < 1 by decide)], fun _ _ _ => rfl, fun _ _ _ => rfl, trivial⟩ (by kernel_rfl) (fun _ h => ⟨fun _ => (0, none, 0, none), h.drew⟩) ⟨?_, ?_, ?_, ?_, ?_, ?_, ?_, ?_, ?_, ?_, ?_, trivial⟩ ?_
  ·intro Lx g7 s K hl hh k
   show At 22 ((0, _) :: (3, _) :: Lx) _ _
   refine av rfl (r_move rfl) ?_
   exact at_nil k
  ·intro Lx g7 s K hl hh k
   show At 22 ((0, _) :: (3, _) :: Lx) _ _
   rcases (by omega : s = 0 ∨ s = 1) with rfl | rfl
   ·skip
    refine av rfl (r_load_aggc (c := c_api_Addr) (z := x1) Try.isAgg32 Try.sizeOf32 rfl (lens_cell .z (Lens.whole _ _))) ?_
    exact at_nil k
   ·skip
    refine av rfl (r_load_aggc (c := c_api_Addr) (z := x1) Try.isAgg32 Try.sizeOf32 rfl (lens_cell (.s .z) (Lens.whole _ _))) ?_
    exact at_nil k
  ·intro Lx g7 s K hl hh k
   show At 22 ((12, _) :: (13, _) :: (0, _) :: (3, _) :: Lx) _ _
   rcases (by omega : s = 0 ∨ s = 1) with rfl | rfl
   ·skip
    refine at_callR (.s .z) Try.func80 rfl (by kernel_rfl) rfl rfl (fun w hw => allowed_Table_own_ok ht4 hw) ?_
    exact at_nil k
   ·skip
    refine at_callR (.s (.s .z)) Try.func80 rfl (by kernel_rfl) rfl rfl (fun w hw => allowed_Table_own_ok ht4 hw) ?_
    exact at_nil k
  ·intro Lx g7 s K hl hh k
   show At 22 ((0, _) :: (3, _) :: Lx) _ _
   rcases (by omega : s = 0 ∨ s = 1) with rfl | rfl
   ·skip
    refine av rfl (r_load_aggc (c := c_api_Addr) (z := x1) Try.isAgg32 Try.sizeOf32 rfl (lens_cell .z (Lens.whole _ _))) ?_
    exact at_nil k
   ·skip
    refine av rfl (r_load_aggc (c := c_api_Addr) (z := x1) Try.isAgg32 Try.sizeOf32 rfl (lens_cell (.s .z) (Lens.whole _ _))) ?_
    exact at_nil k
  ·intro Lx g7 s K hl hh k
   show At 22 ((14, _) :: (15, _) :: (0, _) :: (3, _) :: Lx) _ _
   rcases (by omega : s = 0 ∨ s = 1) with rfl | rfl
   ·skip
    refine at_callR (.s .z) Try.func26 rfl (by kernel_rfl) rfl rfl (fun w hw => trie_Trie_Find_ok ht5 hw) ?_
    exact at_nil k
   ·skip
    refine at_callR (.s (.s .z)) Try.func26 rfl (by kernel_rfl) rfl rfl (fun w hw => trie_Trie_Find_ok ht5 hw) ?_
    exact at_nil k
  ·intro Lx g7 s K hl hh k
   show At 22 ((16, _) :: (0, _) :: (3, _) :: Lx) _ _
   refine av rfl (r_move rfl) ?_
   exact at_nil k
  ·intro Lx g7 s K hl hh k
   show At 22 ((11, _) :: (0, _) :: (3, _) :: Lx) _ _
   refine av rfl (r_extract rfl rfl) ?_
   exact at_nil k
  ·intro Lx g7 s K hl hh k
   show At 22 ((11, _) :: (0, _) :: (3, _) :: Lx) _ _
   refine av rfl (r_extract rfl rfl) ?_
   exact at_nil k
  ·intro Lx g7 K k
   show At 22 ((0, _) :: (3, _) :: Lx) _ _
   refine at_alloc (cs := Cd.cs c_api_Entry ({ f_P := zqV2_0, f_Owner := (0 : Int) } : S_api_Entry)) Try.zeroValue52 rfl rfl ?_
   intro b6
   exact at_nil (k (b6, none, 0, none))
  ·intro Lx g7 K k
   show At 22 ((6, _) :: (17, _) :: (0, _) :: (3, _) :: Lx) _ _
   refine at_store (c := c_api_Entry) (z := t5.1) .z (Lens.whole _ _) Try.sizeOf52 rfl rfl rfl ?_
   exact at_nil k
  ·intro Lx g7 s K hl hh k
   show At 22 ((18, _) :: (0, _) :: (3, _) :: Lx) _ _
   refine av rfl (r_assign rfl) ?_
   exact at_nil k
  intro g7
  show At 22 [(12, _), (13, _), (14, _), (15, _), (16, _), (11, _), (17, _), (18, _), (6, _), (7, _), (0, _), (3, _)] _ _
  refine at_drop (H := _) (.s .z) ?_
  refine at_weak [(6, _), (7, _)] ⟨rfl, rfl, trivial⟩ ?_
  refine at_then_normal ?_
  refine sr ?_
  refine av rfl (r_fieldAddr (fo := 18) Try.underlying52 rfl rfl (fun w => ⟨_, Try.sizeOf3 w⟩) rfl) ?_
  refine av rfl (r_load_cell Try.isAgg3 rfl (lens_cell0 (c := (cInt .i64)) (y := t5.1.f_Owner) .z (Lens.comp (Lens.whole _ _) (fun z => { t5.1 with f_Owner := z }) (c_api_Entry_f_Owner t5.1)) rfl)) ?_
  refine av rfl (r_move rfl) ?_
  refine av rfl (r_assign rfl) ?_
  refine av rfl (r_assign rfl) ?_
  refine at_nil ?_
  refine at_drop (H := _) .z ?_
  refine at_weak [(4, _), (5, _)] ⟨rfl, rfl, trivial⟩ ?_
  refine at_then_normal ?_
  refine at_ret ?_
  have K := of_some hF
  subst K
  exact at_return2 rfl rfl rfl (fun w1 hw => ⟨rfl, hw⟩)
def crawlwaylaw26_alive : Option (Bool) :=
  allowed_New ([] : List HV) >>= fun t1 => if (Option.isNone t1.1) = true then (some false) else (allowed_Table_Put t1.2 t1.1 ({ { ({ f_A := ({ f_V := (0 : Int), f_B := (Vector.replicate 16 (0 : Int) : (Vector Int 16)) } : S_api_Addr), f_Bits := (0 : Int) } : S_api_Prefix) with f_A := { { ({ f_V := (0 : Int), f_B := (Vector.replicate 16 (0 : Int) : (Vector Int 16)) } : S_api_Addr) with f_V := 4 } with f_B := vset (Vector.replicate 16 (0 : Int) : (Vector Int 16)) 0 10 } } with f_Bits := 8 }) 1 >>= fun t7 => if vp (List.length t1.2) t1.1 = true then allowed_Table_Put t7.2 t1.1 ({ { ({ f_A := ({ f_V := (0 : Int), f_B := (Vector.replicate 16 (0 : Int) : (Vector Int 16)) } : S_api_Addr), f_Bits := (0 : Int) } : S_api_Prefix) with f_A := { { ({ f_V := (0 : Int), f_B := (Vector.replicate 16 (0 : Int) : (Vector Int 16)) } : S_api_Addr) with f_V := 4 } with f_B := vset (Vector.replicate 16 (0 : Int) : (Vector Int 16)) 0 10 } } with f_Bits := 8 }) 2 >>= fun t12 => if vp (List.length t7.2) t1.1 = true then allowed_Table_Find t12.2 t1.1 ({ { ({ f_V := (0 : Int), f_B := (Vector.replicate 16 (0 : Int) : (Vector Int 16)) } : S_api_Addr) with f_V := 4 } with f_B := vset (vset (vset (vset (Vector.replicate 16 (0 : Int) : (Vector Int 16)) 0 10) 1 9) 2 9) 3 9 }) >>= fun t17 => if t17.2 = true then (if (t17.1 == 2) = true then (allowed_Table_Len t12.2 t1.1 >>= fun t20 => if (t20 == 1) = true then (allowed_Table_Of t12.2 t1.1 1 >>= fun t22 => some ((t22.length : Int) == 0)) else (some false)) else (some false)) else (some false) else none else none)
theorem crawlwaylaw26_alive_ok (r : Bool) (hF : crawlwaylaw26_alive  = some r) (w : World) :
    Calls Try.prog 35 #[] w (fun e w' => e = .returned (.bool r) ∧ Below w.heap.size w w') := by
 unfold crawlwaylaw26_alive at hF
 refine calls_enter (l := []) Try.func35 rfl rfl rfl ?_
 refine at_start ?_
 refine at_heap0 hK ?_
 intro gh
 refine at_weak [] trivial ?_
 refine sr ?_
 refine av rfl (r_assign rfl) ?_
 refine nws [] trivial ?_
 obtain ⟨t1, ht1, hF⟩ := of_bindM hF
 refine at_callH (γ := Unit) (h' := t1.2) (V := fun z gh => pv gh t1.1) (T := fun z => []) Try.func36 rfl (by kernel_rfl) rfl rfl (fun w hw => (allowed_New_ok ht1 hw).mono (by rintro e w' ⟨gh, he, hw'⟩; exact ⟨gh, (), he, hw'⟩)) ?_
 rintro gh ⟨⟩ hg2
 refine av rfl (r_assign rfl) ?_
 refine nwt [(1, _)] ⟨rfl, trivial⟩ ?_
 refine at_seq ?_
 refine sr ?_
 refine av rfl (r_move rfl) ?_
 refine av rfl (r_pnil (p := t1.1) Try.underlying68 rfl rfl (.inl rfl) rfl) ?_
 refine nwt [(1, _), (7, _)] ⟨rfl, rfl, trivial⟩ ?_
 rcases of_ite hF with ⟨h5, hF⟩ | ⟨h5, hF⟩
 ·refine at_cond_true rfl h5 ?_
  refine sr ?_
  refine av rfl (r_assign rfl) ?_
  refine nwt [(0, _)] ⟨rfl, trivial⟩ ?_
  refine rt ?_
  have K := of_some hF
  subst K
  exact at_return1 rfl rfl (fun w1 hw => ⟨rfl, hw.below⟩)
 ·refine at_cond_false rfl h5 ?_
  refine sns ?_
  refine av rfl (r_build_array (zs := Cd.cs (cVec (cInt .u8) 16 (by decide)) (Vector.replicate 16 (0 : Int) : (Vector Int 16))) (cs := Cd.cs (cVec (cInt .u8) 16 (by decide)) (vset (Vector.replicate 16 (0 : Int) : (Vector Int 16)) 0 10)) Try.underlying30 Try.zeroValue30 rfl Try.sizeOf5 rfl (fill_step (c := (cInt .u8)) (z := 10) rfl (Lens.vec (cInt .u8) (by decide) (Vector.replicate 16 (0 : Int) : (Vector Int 16)) 0 (by decide)) rfl rfl)) ?_
  refine av rfl (r_build_struct (zs := Cd.cs c_api_Addr zqV2_2) (cs := Cd.cs c_api_Addr ({ { zqV2_2 with f_V := 4 } with f_B := vset (Vector.replicate 16 (0 : Int) : (Vector Int 16)) 0 10 })) Try.underlying32 Try.zeroValue32 rfl (places_api_Addr_32) rfl (fill_step (c := (cInt .i64)) (z := 4) rfl (c_api_Addr_f_V zqV2_2) rfl (fill_step (c := (cVec (cInt .u8) 16 (by decide))) (z := vset (Vector.replicate 16 (0 : Int) : (Vector Int 16)) 0 10) rfl (c_api_Addr_f_B ({ zqV2_2 with f_V := 4 })) rfl rfl))) ?_
  refine av rfl (r_build_struct (zs := Cd.cs c_api_Prefix zqV2_0) (cs := Cd.cs c_api_Prefix ({ { zqV2_0 with f_A := { { zqV2_2 with f_V := 4 } with f_B := vset (Vector.replicate 16 (0 : Int) : (Vector Int 16)) 0 10 } } with f_Bits := 8 })) Try.underlying46 Try.zeroValue46 rfl (places_api_Prefix_46) rfl (fill_step (c := c_api_Addr) (z := { { zqV2_2 with f_V := 4 } with f_B := vset (Vector.replicate 16 (0 : Int) : (Vector Int 16)) 0 10 }) rfl (c_api_Prefix_f_A zqV2_0) rfl (fill_step (c := (cInt .i64)) (z := 8) rfl (c_api_Prefix_f_Bits ({ zqV2_0 with f_A := { { zqV2_2 with f_V := 4 } with f_B := vset (Vector.replicate 16 (0 : Int) : (Vector Int 16)) 0 10 } })) rfl rfl))) ?_
  refine at_alloc (cs := Cd.cs c_api_Prefix zqV2_0) Try.zeroValue46 rfl rfl ?_
  intro b6
  refine at_store (c := c_api_Prefix) (z := { { zqV2_0 with f_A := { { zqV2_2 with f_V := 4 } with f_B := vset (Vector.replicate 16 (0 : Int) : (Vector Int 16)) 0 10 } } with f_Bits := 8 }) .z (Lens.whole _ _) Try.sizeOf46 rfl rfl rfl ?_
  refine nws [(1, _), (2, _)] ⟨rfl, rfl, trivial⟩ ?_
  refine av rfl (r_move rfl) ?_
  refine av rfl (r_load_aggc (c := c_api_Prefix) (z := { { zqV2_0 with f_A := { { zqV2_2 with f_V := 4 } with f_B := vset (Vector.replicate 16 (0 : Int) : (Vector Int 16)) 0 10 } } with f_Bits := 8 }) Try.isAgg46 Try.sizeOf46 rfl (lens_cell .z (Lens.whole _ _))) ?_
  obtain ⟨t7, ht7, hF⟩ := of_bindM hF
  obtain ⟨h8, hF⟩ := of_guard hF
  refine at_front (.s .z) ?_
  refine at_callH (γ := Unit) (h' := t7.2) (V := fun z gh => .int .i64 t7.1) (T := fun z => [cellsE b6 (Cd.cs c_api_Prefix ({ { zqV2_0 with f_A := { { zqV2_2 with f_V := 4 } with f_B := vset (Vector.replicate 16 (0 : Int) : (Vector Int 16)) 0 10 } } with f_Bits := 8 })) 46]) Try.func37 rfl (by kernel_rfl) rfl rfl (fun w hw => (allowed_Table_Put_ok ht7 hw).mono (by rintro e w' ⟨gh, he, hw'⟩; exact ⟨gh, (), he, hw'⟩)) ?_
  rintro gh ⟨⟩ hg9
  refine at_ov (t := 1) rfl (pv_ext hg9 h8) ?_
  refine nws [(1, _), (2, _)] ⟨rfl, rfl, trivial⟩ ?_
  refine av rfl (r_move rfl) ?_
  refine av rfl (r_load_aggc (c := c_api_Prefix) (z := { { zqV2_0 with f_A := { { zqV2_2 with f_V := 4 } with f_B := vset (Vector.replicate 16 (0 : Int) : (Vector Int 16)) 0 10 } } with f_Bits := 8 }) Try.isAgg46 Try.sizeOf46 rfl (lens_cell (.s .z) (Lens.whole _ _))) ?_
  obtain ⟨t12, ht12, hF⟩ := of_bindM hF
  obtain ⟨h13, hF⟩ := of_guard hF
  refine at_callH (γ := Unit) (h' := t12.2) (V := fun z gh => .int .i64 t12.1) (T := fun z => [cellsE b6 (Cd.cs c_api_Prefix ({ { zqV2_0 with f_A := { { zqV2_2 with f_V := 4 } with f_B := vset (Vector.replicate 16 (0 : Int) : (Vector Int 16)) 0 10 } } with f_Bits := 8 })) 46]) Try.func37 rfl (by kernel_rfl) rfl rfl (fun w hw => (allowed_Table_Put_ok ht12 hw).mono (by rintro e w' ⟨gh, he, hw'⟩; exact ⟨gh, (), he, hw'⟩)) ?_
  rintro gh ⟨⟩ hg14
  refine at_ov (t := 1) rfl (pv_ext hg14 h13) ?_
  refine at_nil ?_
  refine at_drop (H := _) (.s .z) ?_
  refine at_weak [(1, _)] ⟨rfl, trivial⟩ ?_
  refine at_then_normal ?_
  refine sr ?_
  refine av rfl (r_move rfl) ?_
  refine av rfl (r_build_array (zs := Cd.cs (cVec (cInt .u8) 16 (by decide)) (Vector.replicate 16 (0 : Int) : (Vector Int 16))) (cs := Cd.cs (cVec (cInt .u8) 16 (by decide)) (vset (vset (vset (vset (Vector.replicate 16 (0 : Int) : (Vector Int 16)) 0 10) 1 9) 2 9) 3 9)) Try.underlying30 Try.zeroValue30 rfl Try.sizeOf5 rfl (fill_step (c := (cInt .u8)) (z := 10) rfl (Lens.vec (cInt .u8) (by decide) (Vector.replicate 16 (0 : Int) : (Vector Int 16)) 0 (by decide)) rfl (fill_step (c := (cInt .u8)) (z := 9) rfl (Lens.vec (cInt .u8) (by decide) (vset (Vector.replicate 16 (0 : Int) : (Vector Int 16)) 0 10) 1 (by decide)) rfl (fill_step (c := (cInt .u8)) (z := 9) rfl (Lens.vec (cInt .u8) (by decide) (vset (vset (Vector.replicate 16 (0 : Int) : (Vector Int 16)) 0 10) 1 9) 2 (by decide)) rfl (fill_step (c := (cInt .u8)) (z := 9) rfl (Lens.vec (cInt .u8) (by decide) (vset (vset (vset (Vector.replicate 16 (0 : Int) : (Vector Int 16)) 0 10) 1 9) 2 9) 3 (by decide)) rfl rfl))))) ?_
  refine av rfl (r_build_struct (zs := Cd.cs c_api_Addr zqV2_2) (cs := Cd.cs c_api_Addr ({ { zqV2_2 with f_V := 4 } with f_B := vset (vset (vset (vset (Vector.replicate 16 (0 : Int) : (Vector Int 16)) 0 10) 1 9) 2 9) 3 9 })) Try.underlying32 Try.zeroValue32 rfl (places_api_Addr_32) rfl (fill_step (c := (cInt .i64)) (z := 4) rfl (c_api_Addr_f_V zqV2_2) rfl (fill_step (c := (cVec (cInt .u8) 16 (by decide))) (z := vset (vset (vset (vset (Vector.replicate 16 (0 : Int) : (Vector Int 16)) 0 10) 1 9) 2 9) 3 9) rfl (c_api_Addr_f_B ({ zqV2_2 with f_V := 4 })) rfl rfl))) ?_
  obtain ⟨t17, ht17, hF⟩ := of_bindM hF
  refine at_callR .z Try.func44 rfl (by kernel_rfl) rfl rfl (fun w hw => allowed_Table_Find_ok ht17 hw) ?_
  refine av rfl (r_move rfl) ?_
  refine av rfl (r_extract rfl rfl) ?_
  refine av rfl (r_extract rfl rfl) ?_
  refine av rfl (r_assign rfl) ?_
  refine av rfl (r_assign rfl) ?_
  refine nws [(1, _), (3, _), (4, _)] ⟨rfl, rfl, rfl, trivial⟩ ?_
  refine av rfl (r_move rfl) ?_
  refine av rfl (r_move rfl) ?_
  rcases of_ite hF with ⟨h18, hF⟩ | ⟨h18, hF⟩
  ·refine at_fix (g := 25) rfl h18 ?_
   refine at_guard_yes rfl rfl rfl ?_
   refine av rfl (r_move rfl) ?_
   refine at_guard_yes rfl rfl rfl ?_
   refine av rfl (r_ieql rfl rfl) ?_
   refine av rfl (r_pick rfl rfl rfl) ?_
   refine av rfl (r_move rfl) ?_
   rcases of_ite hF with ⟨h19, hF⟩ | ⟨h19, hF⟩
   ·refine at_fix (g := 29) rfl h19 ?_
    refine at_guard_yes rfl rfl rfl ?_
    refine av rfl (r_move rfl) ?_
    refine at_guard_yes rfl rfl rfl ?_
    obtain ⟨t20, ht20, hF⟩ := of_bindM hF
    refine at_callR .z Try.func38 rfl (by kernel_rfl) rfl rfl (fun w hw => allowed_Table_Len_ok ht20 hw) ?_
    refine at_guard_yes rfl rfl rfl ?_
    refine av rfl (r_ieql rfl rfl) ?_
    refine av rfl (r_pick rfl rfl rfl) ?_
    refine av rfl (r_move rfl) ?_
    rcases of_ite hF with ⟨h21, hF⟩ | ⟨h21, hF⟩
    ·refine at_fix (g := 34) rfl h21 ?_
     refine at_guard_yes rfl rfl rfl ?_
     refine av rfl (r_move rfl) ?_
     refine at_guard_yes rfl rfl rfl ?_
     obtain ⟨t22, ht22, hF⟩ := of_bindM hF
     refine at_callG (V := fun p cap => .slice p t22.length cap) (T := fun p cap => [heapE hK gz 0 gh t12.2, rowE c_api_Prefix 46 p cap t22]) Try.func42 rfl (by kernel_rfl) rfl rfl (fun w hw => allowed_Table_Of_ok ht22 hw) ?_
     intro p23 c24
     refine at_guard_yes rfl rfl rfl ?_
     refine av rfl (r_len_sl Try.underlying35 rfl) ?_
     refine at_guard_yes rfl rfl rfl ?_
     refine av rfl (r_ieql rfl rfl) ?_
     refine av rfl (r_pick rfl rfl rfl) ?_
     refine av rfl (r_assign rfl) ?_
     refine at_nil ?_
     refine at_drop (H := _) (.s .z) ?_
     refine at_weak [(0, _)] ⟨rfl, trivial⟩ ?_
     refine at_then_normal ?_
     refine at_ret ?_
     have K := of_some hF
     subst K
     exact at_return1 rfl rfl (fun w1 hw => ⟨rfl, hw.below⟩)
    ·refine at_fix (g := 34) rfl h21 ?_
     refine at_guard_no rfl rfl rfl rfl rfl ?_
     refine at_guard_no rfl rfl rfl rfl rfl ?_
     refine at_guard_no rfl rfl rfl rfl rfl ?_
     refine at_guard_no rfl rfl rfl rfl rfl ?_
     refine av rfl (r_pick rfl rfl rfl) ?_
     refine av rfl (r_assign rfl) ?_
     refine nwt [(0, _)] ⟨rfl, trivial⟩ ?_
     refine at_ret ?_
     have K := of_some hF
     subst K
     exact at_return1 rfl rfl (fun w1 hw => ⟨rfl, hw.below⟩)
   ·refine at_fix (g := 29) rfl h19 ?_
    refine at_guard_no rfl rfl rfl rfl rfl ?_
    refine at_guard_no rfl rfl rfl rfl rfl ?_
    refine at_guard_no rfl rfl rfl rfl rfl ?_
    refine av rfl (r_pick rfl rfl rfl) ?_
    refine av rfl (r_move rfl) ?_
    refine at_guard_no rfl rfl rfl rfl rfl ?_
    refine at_guard_no rfl rfl rfl rfl rfl ?_
    refine at_guard_no rfl rfl rfl rfl rfl ?_
    refine at_guard_no rfl rfl rfl rfl rfl ?_
    refine av rfl (r_pick rfl rfl rfl) ?_
    refine av rfl (r_assign rfl) ?_
    refine nwt [(0, _)] ⟨rfl, trivial⟩ ?_
    refine at_ret ?_
    have K := of_some hF
    subst K
    exact at_return1 rfl rfl (fun w1 hw => ⟨rfl, hw.below⟩)
  ·refine at_fix (g := 25) rfl h18 ?_
   refine at_guard_no rfl rfl rfl rfl rfl ?_
   refine at_guard_no rfl rfl rfl rfl rfl ?_
   refine av rfl (r_pick rfl rfl rfl) ?_
   refine av rfl (r_move rfl) ?_
   refine at_guard_no rfl rfl rfl rfl rfl ?_
   refine at_guard_no rfl rfl rfl rfl rfl ?_
   refine at_guard_no rfl rfl rfl rfl rfl ?_
   refine av rfl (r_pick rfl rfl rfl) ?_
   refine av rfl (r_move rfl) ?_
   refine at_guard_no rfl rfl rfl rfl rfl ?_
   refine at_guard_no rfl rfl rfl rfl rfl ?_
   refine at_guard_no rfl rfl rfl rfl rfl ?_
   refine at_guard_no rfl rfl rfl rfl rfl ?_
   refine av rfl (r_pick rfl rfl rfl) ?_
   refine av rfl (r_assign rfl) ?_
   refine nwt [(0, _)] ⟨rfl, trivial⟩ ?_
   refine at_ret ?_
   have K := of_some hF
   subst K
   exact at_return1 rfl rfl (fun w1 hw => ⟨rfl, hw.below⟩)
end Go.Proofs.Ythccncpephpdjaa
namespace Go.Proofs.Ythccncpephpdjaa
open E Go.RowKit
abbrev zqVFull_0 : S_api_Prefix := ({ f_A := ({ f_V := (0 : Int), f_B := (Vector.replicate 16 (0 : Int) : (Vector Int 16)) } : S_api_Addr), f_Bits := (0 : Int) } : S_api_Prefix)
abbrev zqVFull_1 : S_api_Addr := ({ f_V := (0 : Int), f_B := (Vector.replicate 16 (0 : Int) : (Vector Int 16)) } : S_api_Addr)
def crawlwaylaw26_AllowedFull.l0 (x0 : Int) (x1 : Int) (t5 : Option Nat × List HV) (i11 : Int) (i12 : List HV) : Option (Ctl (Bool) (List HV)) :=
  if (decide (i11 < x0)) = true then (allowed_Table_Put i12 t5.1 ({ { ({ f_A := ({ f_V := (0 : Int), f_B := (Vector.replicate 16 (0 : Int) : (Vector Int 16)) } : S_api_Addr), f_Bits := (0 : Int) } : S_api_Prefix) with f_A := { { ({ f_V := (0 : Int), f_B := (Vector.replicate 16 (0 : Int) : (Vector Int 16)) } : S_api_Addr) with f_V := 4 } with f_B := vset (vset (vset (vset (Vector.replicate 16 (0 : Int) : (Vector Int 16)) 0 10) 1 0) 2 0) 3 (wr .u8 i11) } } with f_Bits := 32 }) x1 >>= fun t14 => if vp (List.length i12) t5.1 = true then if ((t14.1 == 0) != decide (i11 < 64)) = true then (some (.ret false)) else (if (t14.1 != 0) = true then (if (t14.1 != 7) = true then (some (.ret false)) else (crawlwaylaw26_AllowedFull.l0 x0 x1 t5 (wr .i64 (i11 + 1)) t14.2)) else (crawlwaylaw26_AllowedFull.l0 x0 x1 t5 (wr .i64 (i11 + 1)) t14.2)) else none) else (some (.nx i12))
  partial_fixpoint
def crawlwaylaw26_AllowedFull (x0 : Int) (x1 : Int) : Option (Bool) :=
  if (decide (x0 < 0)) = true then (crawlwaylaw26_alive >>= fun t2 => some t2) else (if (decide (x0 > 80)) = true then (crawlwaylaw26_alive >>= fun t4 => some t4) else (allowed_New ([] : List HV) >>= fun t5 => if (Option.isNone t5.1) = true then (some false) else (crawlwaylaw26_AllowedFull.l0 x0 x1 t5 0 t5.2 >>= fun q10 => match q10 with | .ret r' => some r' | .nx sq10 => (if (x0 == 0) = true then (allowed_Table_Len sq10 t5.1 >>= fun t23 => if (t23 == 0) = true then (crawlwaylaw26_alive >>= fun t25 => some t25) else (some false)) else (allowed_Table_Put sq10 t5.1 ({ { ({ f_A := ({ f_V := (0 : Int), f_B := (Vector.replicate 16 (0 : Int) : (Vector Int 16)) } : S_api_Addr), f_Bits := (0 : Int) } : S_api_Prefix) with f_A := { { ({ f_V := (0 : Int), f_B := (Vector.replicate 16 (0 : Int) : (Vector Int 16)) } : S_api_Addr) with f_V := 4 } with f_B := vset (vset (vset (vset (Vector.replicate 16 (0 : Int) : (Vector Int 16)) 0 10) 1 0) 2 0) 3 0 } } with f_Bits := 32 }) 5 >>= fun t26 => if vp (List.length sq10) t5.1 = true then if (t26.1 == 0) = true then (allowed_Table_Len t26.2 t5.1 >>= fun t32 => if (t32 == (if 64 < x0 then 64 else x0)) = true then (crawlwaylaw26_alive >>= fun t34 => some t34) else (some false)) else (some false) else none)))))
theorem crawlwaylaw26_AllowedFull_ok (x0 : Int) (x1 : Int) (r : Bool) (hF : crawlwaylaw26_AllowedFull x0 x1 = some r) (w : World) :
    Calls Try.prog 9 #[.int .i64 x0, .int .i64 x1] w (fun e w' => e = .returned (.bool r) ∧ Below w.heap.size w w') := by
 unfold crawlwaylaw26_AllowedFull at hF
 refine calls_enter (l := [.int .i64 x0, .int .i64 x1]) Try.func9 rfl rfl rfl ?_
 refine at_start ?_
 refine at_heap0 hK ?_
 intro gh
 refine at_weak [(0, _), (1, _)] ⟨rfl, rfl, trivial⟩ ?_
 refine sr ?_
 refine av rfl (r_assign rfl) ?_
 refine nwt [(0, _), (1, _)] ⟨rfl, rfl, trivial⟩ ?_
 refine at_seq ?_
 refine sr ?_
 refine av rfl (r_move rfl) ?_
 refine av rfl (r_ilss rfl rfl) ?_
 refine av rfl (r_move rfl) ?_
 rcases of_ite hF with ⟨h1, hF⟩ | ⟨h1, hF⟩
 ·refine at_fix (g := 11) rfl h1 ?_
  refine at_guard_no rfl rfl rfl rfl rfl ?_
  refine at_guard_no rfl rfl rfl rfl rfl ?_
  refine av rfl (r_pick rfl rfl rfl) ?_
  refine nwt [(0, _), (1, _), (14, _)] ⟨rfl, rfl, rfl, trivial⟩ ?_
  refine at_cond_true rfl rfl ?_
  refine sr ?_
  obtain ⟨t2, ht2, hF⟩ := of_bindM hF
  refine at_callB Try.func35 rfl (by kernel_rfl) rfl rfl (fun w hw => crawlwaylaw26_alive_ok  _ ht2 w) ?_
  refine av rfl (r_assign rfl) ?_
  refine nwt [(4, _)] ⟨rfl, trivial⟩ ?_
  refine rt ?_
  have K := of_some hF
  subst K
  exact at_return1 rfl rfl (fun w1 hw => ⟨rfl, hw.below⟩)
 ·refine at_fix (g := 11) rfl h1 ?_
  refine at_guard_yes rfl rfl rfl ?_
  refine av rfl (r_move rfl) ?_
  refine at_guard_yes rfl rfl rfl ?_
  refine av rfl (r_igtr rfl rfl) ?_
  refine av rfl (r_pick rfl rfl rfl) ?_
  refine nwt [(0, _), (1, _), (14, _)] ⟨rfl, rfl, rfl, trivial⟩ ?_
  rcases of_ite hF with ⟨h3, hF⟩ | ⟨h3, hF⟩
  ·refine at_cond_true rfl h3 ?_
   refine sr ?_
   obtain ⟨t4, ht4, hF⟩ := of_bindM hF
   refine at_callB Try.func35 rfl (by kernel_rfl) rfl rfl (fun w hw => crawlwaylaw26_alive_ok  _ ht4 w) ?_
   refine av rfl (r_assign rfl) ?_
   refine nwt [(4, _)] ⟨rfl, trivial⟩ ?_
   refine rt ?_
   have K := of_some hF
   subst K
   exact at_return1 rfl rfl (fun w1 hw => ⟨rfl, hw.below⟩)
  ·refine at_cond_false rfl h3 ?_
   refine sns ?_
   obtain ⟨t5, ht5, hF⟩ := of_bindM hF
   refine at_callH (γ := Unit) (h' := t5.2) (V := fun z gh => pv gh t5.1) (T := fun z => []) Try.func36 rfl (by kernel_rfl) rfl rfl (fun w hw => (allowed_New_ok ht5 hw).mono (by rintro e w' ⟨gh, he, hw'⟩; exact ⟨gh, (), he, hw'⟩)) ?_
   rintro gh ⟨⟩ hg6
   refine av rfl (r_assign rfl) ?_
   refine nwt [(0, _), (1, _), (5, _)] ⟨rfl, rfl, rfl, trivial⟩ ?_
   refine at_seq ?_
   refine sr ?_
   refine av rfl (r_move rfl) ?_
   refine av rfl (r_pnil (p := t5.1) Try.underlying68 rfl rfl (.inl rfl) rfl) ?_
   refine nwt [(0, _), (1, _), (5, _), (18, _)] ⟨rfl, rfl, rfl, rfl, trivial⟩ ?_
   rcases of_ite hF with ⟨h9, hF⟩ | ⟨h9, hF⟩
   ·refine at_cond_true rfl h9 ?_
    refine sr ?_
    refine av rfl (r_assign rfl) ?_
    refine nwt [(4, _)] ⟨rfl, trivial⟩ ?_
    refine rt ?_
    have K := of_some hF
    subst K
    exact at_return1 rfl rfl (fun w1 hw => ⟨rfl, hw.below⟩)
   ·refine at_cond_false rfl h9 ?_
    refine sn ?_
    refine at_seq ?_
    refine sr ?_
    refine av rfl (r_assign rfl) ?_
    refine nwt [(0, _), (1, _), (5, _), (6, _)] ⟨rfl, rfl, rfl, rfl, trivial⟩ ?_
    refine at_block ?_
    obtain ⟨q10, hq10, hF⟩ := of_bindM hF
    refine at_weak [(0, _), (1, _), (5, _), (6, _)] ⟨rfl, rfl, rfl, rfl, trivial⟩ ?_
    refine at_loop_r (B := 0) (r := r) (q := q10) (A := fun sq10 Y => ∀ (gh : Nat → Nat), At 70 [(0, .int .i64 x0), (5, pv gh t5.1)] (Wd w [heapE hK gz 0 gh sq10]) Y) ?_ ?_
    ·intro K
     refine crawlwaylaw26_AllowedFull.l0.partial_correctness x0 x1 t5 (motive := fun i11 i12 x => KR (fun sq10 Y => ∀ (gh : Nat → Nat), At 70 [(0, .int .i64 x0), (5, pv gh t5.1)] (Wd w [heapE hK gz 0 gh sq10]) Y) _ 0 r x → Round (fun Y => ∀ (gh : Nat → Nat), At 70 [(0, .int .i64 x0), (1, .int .i64 x1), (5, pv gh t5.1), (6, .int .i64 i11)] (Wd w [heapE hK gz 0 gh i12]) Y) _ _ _) ?_ _ _ _ hq10 K gh
     ·clear K hF
      intro g ih i11 i12 x hF K gh
      refine at_round ?_
      refine at_seq ?_
      refine sr ?_
      refine av rfl (r_move rfl) ?_
      refine av rfl (r_move rfl) ?_
      refine av rfl (r_ilss rfl rfl) ?_
      refine nwt [(0, _), (1, _), (5, _), (6, _), (21, _)] ⟨rfl, rfl, rfl, rfl, rfl, trivial⟩ ?_
      rcases of_ite hF with ⟨h13, hF⟩ | ⟨h13, hF⟩
      ·refine at_cond_true rfl h13 ?_
       refine sn ?_
       refine at_seq ?_
       refine at_block ?_
       refine sr ?_
       refine av rfl (r_move rfl) ?_
       refine av rfl (r_move rfl) ?_
       refine av rfl (r_conv Try.underlying3 Try.underlying5 rfl) ?_
       refine av rfl (r_build_array (zs := Cd.cs (cVec (cInt .u8) 16 (by decide)) (Vector.replicate 16 (0 : Int) : (Vector Int 16))) (cs := Cd.cs (cVec (cInt .u8) 16 (by decide)) (vset (vset (vset (vset (Vector.replicate 16 (0 : Int) : (Vector Int 16)) 0 10) 1 0) 2 0) 3 (wr .u8 i11))) Try.underlying30 Try.zeroValue30 rfl Try.sizeOf5 rfl (fill_step (c := (cInt .u8)) (z := 10) rfl (Lens.vec (cInt .u8) (by decide) (Vector.replicate 16 (0 : Int) : (Vector Int 16)) 0 (by decide)) rfl (fill_step (c := (cInt .u8)) (z := 0) rfl (Lens.vec (cInt .u8) (by decide) (vset (Vector.replicate 16 (0 : Int) : (Vector Int 16)) 0 10) 1 (by decide)) rfl (fill_step (c := (cInt .u8)) (z := 0) rfl (Lens.vec (cInt .u8) (by decide) (vset (vset (Vector.replicate 16 (0 : Int) : (Vector Int 16)) 0 10) 1 0) 2 (by decide)) rfl (fill_step (c := (cInt .u8)) (z := wr .u8 i11) rfl (Lens.vec (cInt .u8) (by decide) (vset (vset (vset (Vector.replicate 16 (0 : Int) : (Vector Int 16)) 0 10) 1 0) 2 0) 3 (by decide)) rfl rfl))))) ?_
       refine av rfl (r_build_struct (zs := Cd.cs c_api_Addr zqVFull_1) (cs := Cd.cs c_api_Addr ({ { zqVFull_1 with f_V := 4 } with f_B := vset (vset (vset (vset (Vector.replicate 16 (0 : Int) : (Vector Int 16)) 0 10) 1 0) 2 0) 3 (wr .u8 i11) })) Try.underlying32 Try.zeroValue32 rfl (places_api_Addr_32) rfl (fill_step (c := (cInt .i64)) (z := 4) rfl (c_api_Addr_f_V zqVFull_1) rfl (fill_step (c := (cVec (cInt .u8) 16 (by decide))) (z := vset (vset (vset (vset (Vector.replicate 16 (0 : Int) : (Vector Int 16)) 0 10) 1 0) 2 0) 3 (wr .u8 i11)) rfl (c_api_Addr_f_B ({ zqVFull_1 with f_V := 4 })) rfl rfl))) ?_
       refine av rfl (r_build_struct (zs := Cd.cs c_api_Prefix zqVFull_0) (cs := Cd.cs c_api_Prefix ({ { zqVFull_0 with f_A := { { zqVFull_1 with f_V := 4 } with f_B := vset (vset (vset (vset (Vector.replicate 16 (0 : Int) : (Vector Int 16)) 0 10) 1 0) 2 0) 3 (wr .u8 i11) } } with f_Bits := 32 })) Try.underlying46 Try.zeroValue46 rfl (places_api_Prefix_46) rfl (fill_step (c := c_api_Addr) (z := { { zqVFull_1 with f_V := 4 } with f_B := vset (vset (vset (vset (Vector.replicate 16 (0 : Int) : (Vector Int 16)) 0 10) 1 0) 2 0) 3 (wr .u8 i11) }) rfl (c_api_Prefix_f_A zqVFull_0) rfl (fill_step (c := (cInt .i64)) (z := 32) rfl (c_api_Prefix_f_Bits ({ zqVFull_0 with f_A := { { zqVFull_1 with f_V := 4 } with f_B := vset (vset (vset (vset (Vector.replicate 16 (0 : Int) : (Vector Int 16)) 0 10) 1 0) 2 0) 3 (wr .u8 i11) } })) rfl rfl))) ?_
       refine av rfl (r_move rfl) ?_
       obtain ⟨t14, ht14, hF⟩ := of_bindM hF
       obtain ⟨h15, hF⟩ := of_guard hF
       refine at_callH (γ := Unit) (h' := t14.2) (V := fun z gh => .int .i64 t14.1) (T := fun z => []) Try.func37 rfl (by kernel_rfl) rfl rfl (fun w hw => (allowed_Table_Put_ok ht14 hw).mono (by rintro e w' ⟨gh, he, hw'⟩; exact ⟨gh, (), he, hw'⟩)) ?_
       rintro gh ⟨⟩ hg16
       refine at_ov (t := 5) rfl (pv_ext hg16 h15) ?_
       refine av rfl (r_assign rfl) ?_
       refine nws [(0, _), (1, _), (5, _), (6, _), (7, _)] ⟨rfl, rfl, rfl, rfl, rfl, trivial⟩ ?_
       refine av rfl (r_move rfl) ?_
       refine av rfl (r_ieql rfl rfl) ?_
       refine av rfl (r_move rfl) ?_
       refine av rfl (r_ilss rfl rfl) ?_
       refine av rfl (r_bool Try.underlying4 rfl rfl (.inr rfl) rfl) ?_
       refine av rfl (r_move rfl) ?_
       rcases of_ite hF with ⟨h19, hF⟩ | ⟨h19, hF⟩
       ·refine at_fix (g := 37) rfl h19 ?_
        refine at_guard_no rfl rfl rfl rfl rfl ?_
        refine at_guard_no rfl rfl rfl rfl rfl ?_
        refine at_guard_no rfl rfl rfl rfl rfl ?_
        refine at_guard_undef rfl rfl rfl rfl ?_
        refine at_guard_undef rfl rfl rfl rfl ?_
        refine at_guard_no rfl rfl rfl rfl rfl ?_
        refine av rfl (r_pick rfl rfl rfl) ?_
        refine nwt [(0, _), (1, _), (5, _), (6, _), (44, _)] ⟨rfl, rfl, rfl, rfl, rfl, trivial⟩ ?_
        refine at_cond_true rfl rfl ?_
        refine sr ?_
        refine av rfl (r_assign rfl) ?_
        refine nwt [(4, _)] ⟨rfl, trivial⟩ ?_
        refine at_ret ?_
        refine at_blk_ret (at_then_ret (at_then_ret (at_blk_ret (at_then_ret ?_))))
        obtain rfl := of_some hF
        subst K
        exact at_return1 rfl rfl (fun w1 hw => ⟨rfl, hw.below⟩)
       ·refine at_fix (g := 37) rfl h19 ?_
        refine at_guard_yes rfl rfl rfl ?_
        refine av rfl (r_move rfl) ?_
        refine at_guard_yes rfl rfl rfl ?_
        refine av rfl (r_ineq rfl rfl) ?_
        refine at_guard_yes rfl rfl rfl ?_
        refine av rfl (r_move rfl) ?_
        rcases of_ite hF with ⟨h20, hF⟩ | ⟨h20, hF⟩
        ·refine at_fix (g := 40) rfl h20 ?_
         refine at_guard_yes rfl rfl rfl ?_
         refine av rfl (r_move rfl) ?_
         refine at_guard_yes rfl rfl rfl ?_
         refine av rfl (r_ineq rfl rfl) ?_
         refine at_guard_yes rfl rfl rfl ?_
         refine av rfl (r_pick rfl rfl rfl) ?_
         refine av rfl (r_pick rfl rfl rfl) ?_
         refine nwt [(0, _), (1, _), (5, _), (6, _), (44, _)] ⟨rfl, rfl, rfl, rfl, rfl, trivial⟩ ?_
         rcases of_ite hF with ⟨h21, hF⟩ | ⟨h21, hF⟩
         ·refine at_cond_true rfl h21 ?_
          refine sr ?_
          refine av rfl (r_assign rfl) ?_
          refine nwt [(4, _)] ⟨rfl, trivial⟩ ?_
          refine at_ret ?_
          refine at_blk_ret (at_then_ret (at_then_ret (at_blk_ret (at_then_ret ?_))))
          obtain rfl := of_some hF
          subst K
          exact at_return1 rfl rfl (fun w1 hw => ⟨rfl, hw.below⟩)
         ·refine at_cond_false rfl h21 ?_
          refine at_skip ?_
          refine at_blk_normal (at_then_normal ?_)
          refine at_region ?_
          refine av rfl (r_move rfl) ?_
          refine av rfl (r_iadd rfl rfl) ?_
          refine av rfl (r_assign rfl) ?_
          refine nwt [(0, _), (1, _), (5, _), (6, _)] ⟨rfl, rfl, rfl, rfl, trivial⟩ ?_
          exact at_weak_k (ih _ _ _ hF K gh) ⟨rfl, rfl, rfl, rfl, trivial⟩
        ·refine at_fix (g := 40) rfl h20 ?_
         refine at_guard_no rfl rfl rfl rfl rfl ?_
         refine at_guard_no rfl rfl rfl rfl rfl ?_
         refine at_guard_yes rfl rfl rfl ?_
         refine av rfl (r_pick rfl rfl rfl) ?_
         refine av rfl (r_pick rfl rfl rfl) ?_
         refine nwt [(0, _), (1, _), (5, _), (6, _), (44, _)] ⟨rfl, rfl, rfl, rfl, rfl, trivial⟩ ?_
         refine at_cond_false rfl rfl ?_
         refine at_skip ?_
         refine at_blk_normal (at_then_normal ?_)
         refine at_region ?_
         refine av rfl (r_move rfl) ?_
         refine av rfl (r_iadd rfl rfl) ?_
         refine av rfl (r_assign rfl) ?_
         refine nwt [(0, _), (1, _), (5, _), (6, _)] ⟨rfl, rfl, rfl, rfl, trivial⟩ ?_
         exact at_weak_k (ih _ _ _ hF K gh) ⟨rfl, rfl, rfl, rfl, trivial⟩
      ·refine at_cond_false rfl h13 ?_
       refine at_exit ?_
       refine at_then_exit (at_then_exit ?_)
       obtain rfl := of_some hF
       exact at_weak_k (K gh) ⟨rfl, rfl, trivial⟩
    ·cases q10 with
     | ret r' => exact of_some hF
     | nx sq10 =>
      intro gh
      refine at_blk_same ?_
      refine at_then_normal ?_
      refine at_seq ?_
      refine sr ?_
      refine av rfl (r_move rfl) ?_
      refine av rfl (r_ieql rfl rfl) ?_
      refine nwt [(0, _), (5, _), (46, _)] ⟨rfl, rfl, rfl, trivial⟩ ?_
      rcases of_ite hF with ⟨h22, hF⟩ | ⟨h22, hF⟩
      ·refine at_cond_true rfl h22 ?_
       refine sr ?_
       refine av rfl (r_move rfl) ?_
       obtain ⟨t23, ht23, hF⟩ := of_bindM hF
       refine at_callR .z Try.func38 rfl (by kernel_rfl) rfl rfl (fun w hw => allowed_Table_Len_ok ht23 hw) ?_
       refine av rfl (r_ieql rfl rfl) ?_
       refine av rfl (r_move rfl) ?_
       rcases of_ite hF with ⟨h24, hF⟩ | ⟨h24, hF⟩
       ·refine at_fix (g := 50) rfl h24 ?_
        refine at_guard_yes rfl rfl rfl ?_
        obtain ⟨t25, ht25, hF⟩ := of_bindM hF
        refine at_callB Try.func35 rfl (by kernel_rfl) rfl rfl (fun w hw => crawlwaylaw26_alive_ok  _ ht25 w) ?_
        refine av rfl (r_pick rfl rfl rfl) ?_
        refine av rfl (r_assign rfl) ?_
        refine nwt [(4, _)] ⟨rfl, trivial⟩ ?_
        refine rt ?_
        have K := of_some hF
        subst K
        exact at_return1 rfl rfl (fun w1 hw => ⟨rfl, hw.below⟩)
       ·refine at_fix (g := 50) rfl h24 ?_
        refine at_guard_no rfl rfl rfl rfl rfl ?_
        refine av rfl (r_pick rfl rfl rfl) ?_
        refine av rfl (r_assign rfl) ?_
        refine nwt [(4, _)] ⟨rfl, trivial⟩ ?_
        refine rt ?_
        have K := of_some hF
        subst K
        exact at_return1 rfl rfl (fun w1 hw => ⟨rfl, hw.below⟩)
      ·refine at_cond_false rfl h22 ?_
       refine sns ?_
       refine av rfl (r_move rfl) ?_
       refine av rfl (r_build_array (zs := Cd.cs (cVec (cInt .u8) 16 (by decide)) (Vector.replicate 16 (0 : Int) : (Vector Int 16))) (cs := Cd.cs (cVec (cInt .u8) 16 (by decide)) (vset (vset (vset (vset (Vector.replicate 16 (0 : Int) : (Vector Int 16)) 0 10) 1 0) 2 0) 3 0)) Try.underlying30 Try.zeroValue30 rfl Try.sizeOf5 rfl (fill_step (c := (cInt .u8)) (z := 10) rfl (Lens.vec (cInt .u8) (by decide) (Vector.replicate 16 (0 : Int) : (Vector Int 16)) 0 (by decide)) rfl (fill_step (c := (cInt .u8)) (z := 0) rfl (Lens.vec (cInt .u8) (by decide) (vset (Vector.replicate 16 (0 : Int) : (Vector Int 16)) 0 10) 1 (by decide)) rfl (fill_step (c := (cInt .u8)) (z := 0) rfl (Lens.vec (cInt .u8) (by decide) (vset (vset (Vector.replicate 16 (0 : Int) : (Vector Int 16)) 0 10) 1 0) 2 (by decide)) rfl (fill_step (c := (cInt .u8)) (z := 0) rfl (Lens.vec (cInt .u8) (by decide) (vset (vset (vset (Vector.replicate 16 (0 : Int) : (Vector Int 16)) 0 10) 1 0) 2 0) 3 (by decide)) rfl rfl))))) ?_
       refine av rfl (r_build_struct (zs := Cd.cs c_api_Addr zqVFull_1) (cs := Cd.cs c_api_Addr ({ { zqVFull_1 with f_V := 4 } with f_B := vset (vset (vset (vset (Vector.replicate 16 (0 : Int) : (Vector Int 16)) 0 10) 1 0) 2 0) 3 0 })) Try.underlying32 Try.zeroValue32 rfl (places_api_Addr_32) rfl (fill_step (c := (cInt .i64)) (z := 4) rfl (c_api_Addr_f_V zqVFull_1) rfl (fill_step (c := (cVec (cInt .u8) 16 (by decide))) (z := vset (vset (vset (vset (Vector.replicate 16 (0 : Int) : (Vector Int 16)) 0 10) 1 0) 2 0) 3 0) rfl (c_api_Addr_f_B ({ zqVFull_1 with f_V := 4 })) rfl rfl))) ?_
       refine av rfl (r_build_struct (zs := Cd.cs c_api_Prefix zqVFull_0) (cs := Cd.cs c_api_Prefix ({ { zqVFull_0 with f_A := { { zqVFull_1 with f_V := 4 } with f_B := vset (vset (vset (vset (Vector.replicate 16 (0 : Int) : (Vector Int 16)) 0 10) 1 0) 2 0) 3 0 } } with f_Bits := 32 })) Try.underlying46 Try.zeroValue46 rfl (places_api_Prefix_46) rfl (fill_step (c := c_api_Addr) (z := { { zqVFull_1 with f_V := 4 } with f_B := vset (vset (vset (vset (Vector.replicate 16 (0 : Int) : (Vector Int 16)) 0 10) 1 0) 2 0) 3 0 }) rfl (c_api_Prefix_f_A zqVFull_0) rfl (fill_step (c := (cInt .i64)) (z := 32) rfl (c_api_Prefix_f_Bits ({ zqVFull_0 with f_A := { { zqVFull_1 with f_V := 4 } with f_B := vset (vset (vset (vset (Vector.replicate 16 (0 : Int) : (Vector Int 16)) 0 10) 1 0) 2 0) 3 0 } })) rfl rfl))) ?_
       obtain ⟨t26, ht26, hF⟩ := of_bindM hF
       obtain ⟨h27, hF⟩ := of_guard hF
       refine at_callH (γ := Unit) (h' := t26.2) (V := fun z gh => .int .i64 t26.1) (T := fun z => []) Try.func37 rfl (by kernel_rfl) rfl rfl (fun w hw => (allowed_Table_Put_ok ht26 hw).mono (by rintro e w' ⟨gh, he, hw'⟩; exact ⟨gh, (), he, hw'⟩)) ?_
       rintro gh ⟨⟩ hg28
       refine at_ov (t := 5) rfl (pv_ext hg28 h27) ?_
       refine av rfl (r_assign rfl) ?_
       refine nws [(0, _), (5, _), (8, _)] ⟨rfl, rfl, rfl, trivial⟩ ?_
       refine av rfl (r_move rfl) ?_
       refine av rfl (r_ieql rfl rfl) ?_
       refine av rfl (r_move rfl) ?_
       rcases of_ite hF with ⟨h31, hF⟩ | ⟨h31, hF⟩
       ·refine at_fix (g := 60) rfl h31 ?_
        refine at_guard_yes rfl rfl rfl ?_
        refine av rfl (r_move rfl) ?_
        refine at_guard_yes rfl rfl rfl ?_
        obtain ⟨t32, ht32, hF⟩ := of_bindM hF
        refine at_callR .z Try.func38 rfl (by kernel_rfl) rfl rfl (fun w hw => allowed_Table_Len_ok ht32 hw) ?_
        refine at_guard_yes rfl rfl rfl ?_
        refine av rfl (r_move rfl) ?_
        refine at_guard_yes rfl rfl rfl ?_
        refine av rfl (r_min rfl rfl) ?_
        refine at_guard_yes rfl rfl rfl ?_
        refine av rfl (r_ieql rfl rfl) ?_
        refine av rfl (r_pick rfl rfl rfl) ?_
        refine av rfl (r_move rfl) ?_
        rcases of_ite hF with ⟨h33, hF⟩ | ⟨h33, hF⟩
        ·refine at_fix (g := 67) rfl h33 ?_
         refine at_guard_yes rfl rfl rfl ?_
         obtain ⟨t34, ht34, hF⟩ := of_bindM hF
         refine at_callB Try.func35 rfl (by kernel_rfl) rfl rfl (fun w hw => crawlwaylaw26_alive_ok  _ ht34 w) ?_
         refine av rfl (r_pick rfl rfl rfl) ?_
         refine av rfl (r_assign rfl) ?_
         refine nwt [(4, _)] ⟨rfl, trivial⟩ ?_
         refine at_ret ?_
         have K := of_some hF
         subst K
         exact at_return1 rfl rfl (fun w1 hw => ⟨rfl, hw.below⟩)
        ·refine at_fix (g := 67) rfl h33 ?_
         refine at_guard_no rfl rfl rfl rfl rfl ?_
         refine av rfl (r_pick rfl rfl rfl) ?_
         refine av rfl (r_assign rfl) ?_
         refine nwt [(4, _)] ⟨rfl, trivial⟩ ?_
         refine at_ret ?_
         have K := of_some hF
         subst K
         exact at_return1 rfl rfl (fun w1 hw => ⟨rfl, hw.below⟩)
       ·refine at_fix (g := 60) rfl h31 ?_
        refine at_guard_no rfl rfl rfl rfl rfl ?_
        refine at_guard_no rfl rfl rfl rfl rfl ?_
        refine at_guard_no rfl rfl rfl rfl rfl ?_
        refine at_guard_no rfl rfl rfl rfl rfl ?_
        refine at_guard_no rfl rfl rfl rfl rfl ?_
        refine av rfl (r_pick rfl rfl rfl) ?_
        refine av rfl (r_move rfl) ?_
        refine at_guard_no rfl rfl rfl rfl rfl ?_
        refine av rfl (r_pick rfl rfl rfl) ?_
        refine av rfl (r_assign rfl) ?_
        refine nwt [(4, _)] ⟨rfl, trivial⟩ ?_
        refine at_ret ?_
        have K := of_some hF
        subst K
        exact at_return1 rfl rfl (fun w1 hw => ⟨rfl, hw.below⟩)
end Go.Proofs.Ythccncpephpdjaa
namespace Go.Proofs.Ythccncpephpdjaa.Adr
open E Go.RowKit
def vb (l : List UInt8) : Vector Int 16 := lvec 16 (ob l)
theorem vb_toList {l : List UInt8} (h : l.length = 16) : (vb l).toList = ob l := by
  unfold vb
  rw [lvec_toList 16 (ob l) (by rw [ob_length]; omega), List.take_of_length_le (by rw [ob_length]; omega)]
theorem vb_of {v : Vector Int 16} {l : List UInt8} (h : v.toList = ob l) : v = vb l := by
  have hl : l.length = 16 := by have := congrArg List.length h; rw [ob_length] at this; simpa using this.symm
  apply Vector.toList_inj.1
  rw [vb_toList hl, h]
theorem vb_inj {l k : List UInt8} (hl : l.length = 16) (hk : k.length = 16) : vb l = vb k ↔ l = k := by
  constructor
  · intro h
    have := congrArg Vector.toList h
    rw [vb_toList hl, vb_toList hk] at this
    exact ob_inj this
  · intro h; rw [h]
def mkA (V : Int) (l : List UInt8) : S_api_Addr := { f_V := V, f_B := vb l }
theorem mkA_inj {V W : Int} {l k : List UInt8} (hl : l.length = 16) (hk : k.length = 16) : mkA V l = mkA W k ↔ V = W ∧ l = k := by
  unfold mkA
  rw [S_api_Addr.mk.injEq, vb_inj hl hk]
def bg (l : List UInt8) (i : Nat) : Nat := (l.getD i 0).toNat
theorem bg_lt (l : List UInt8) (i : Nat) : bg l i < 256 := (l.getD i 0).toNat_lt
theorem bg_get {l : List UInt8} {i : Nat} {c : UInt8} (h : l[i]? = some c) : bg l i = c.toNat := by
  unfold bg; rw [List.getD_eq_getElem?_getD, h]; rfl
theorem vget_vb {l : List UInt8} (hl : l.length = 16) (i : Nat) (hi : i < 16) : vget (vb l) (i : Int) = (bg l i : Int) := by
  unfold vget
  rw [vb_toList hl, Int.toNat_natCast]
  have hc : l[i]? = some l[i] := List.getElem?_eq_getElem (by omega)
  rw [bg_get hc, List.getD_eq_getElem?_getD]
  unfold ob
  rw [List.getElem?_map, hc]; rfl
theorem vset_vb {l : List UInt8} (hl : l.length = 16) (i : Nat) (c : UInt8) : vset (vb l) (i : Int) (c.toNat : Int) = vb (l.set i c) := by
  apply Vector.toList_inj.1
  rw [vset_toList, vb_toList hl, vb_toList (by simpa using hl), Int.toNat_natCast]
  unfold ob
  rw [List.map_set]
theorem zero_vb : (Vector.replicate 16 (0 : Int) : Vector Int 16) = vb (List.replicate 16 0) := by
  apply vb_of
  rfl
theorem zero_mkA : ({ f_V := (0 : Int), f_B := (Vector.replicate 16 (0 : Int) : (Vector Int 16)) } : S_api_Addr) = mkA 0 (List.replicate 16 0) := by
  unfold mkA; rw [zero_vb]
theorem ob_take (l : List UInt8) (n : Nat) : (ob l).take n = ob (l.take n) := by unfold ob; rw [List.map_take]
theorem lsub_ob (l : List UInt8) (n : Nat) : lsub (ob l) 0 (n : Int) = ob (l.take n) := by
  unfold lsub
  rw [Int.toNat_natCast, show (0 : Int).toNat = 0 from rfl, List.drop_zero, ob_take]
def fourL (m : List UInt8) : List UInt8 := m ++ List.replicate 12 0
theorem fourL_len {m : List UInt8} (h : m.length = 4) : (fourL m).length = 16 := by simp [fourL, h]
theorem four_eq (v : Vector Int 4) (m : List UInt8) (h : v.toList = ob m) : addr_Four v = some (mkA 4 (fourL m)) := by
  have hm : m.length = 4 := by have := congrArg List.length h; rw [ob_length] at this; simpa using this.symm
  unfold addr_Four mkA
  refine congrArg some ?_
  show S_api_Addr.mk 4 _ = S_api_Addr.mk 4 _
  congr 1
  apply vb_of
  show (vcopy (Vector.replicate 16 (0 : Int)) (Int.toNat 0) (List.take (Int.toNat (16 - 0)) v.toList)).toList = _
  rw [h, show Int.toNat (16 - 0) = 16 from rfl, List.take_of_length_le (by rw [ob_length]; omega), show Int.toNat 0 = 0 from rfl, vcopy_toList _ _ _ (by rw [ob_length]; omega)]
  rw [List.take_zero, List.nil_append, Nat.zero_add, ob_length, hm]
  unfold fourL
  rw [ob_append]; rfl
theorem take4 {l : List UInt8} (hl : l.length = 16) : (lvec 4 (lsub (vb l).toList 0 4)).toList = ob (l.take 4) := by
  have e : lsub (vb l).toList 0 4 = ob (l.take 4) := by rw [vb_toList hl]; exact lsub_ob l 4
  rw [e, lvec_toList 4 _ (by rw [ob_length]; simp; omega), List.take_of_length_le (by rw [ob_length]; simp; omega)]
theorem take4_len {l : List UInt8} (hl : l.length = 16) : 4 ≤ (lsub (vb l).toList 0 4).length := by
  have e : lsub (vb l).toList 0 4 = ob (l.take 4) := by rw [vb_toList hl]; exact lsub_ob l 4
  rw [e, ob_length]; simp; omega
def low (l : List UInt8) : Bool := (l.drop 4).all (· == 0)
def rightL (V : Int) (l : List UInt8) : Bool := V == 6 || (V == 4 && low l)
theorem all_zero : ∀ (k : List UInt8), k.all (· == 0) = true ↔ k = List.replicate k.length 0
  | [] => by simp
  | c :: r => by
    rw [List.all_cons, Bool.and_eq_true, all_zero r, List.length_cons, List.replicate_succ, List.cons.injEq, beq_iff_eq]
theorem low_iff {l : List UInt8} (hl : l.length = 16) : low l = true ↔ l = fourL (l.take 4) := by
  unfold low fourL
  rw [all_zero]
  have h12 : (l.drop 4).length = 12 := by simp; omega
  rw [h12]
  constructor
  · intro h
    rw [← h]; exact (List.take_append_drop 4 l).symm
  · intro h
    have h1 : l.drop 4 = (l.take 4 ++ List.replicate 12 0).drop 4 := congrArg (List.drop 4) h
    rw [h1]
    exact List.drop_left' (by simp; omega)
theorem right_code {V : Int} {l : List UInt8} (hl : l.length = 16) : addr_Right (mkA V l) = some (rightL V l) := by
  unfold addr_Right rightL
  show (if (V == 6) = true then some true else (if (V == 4) = true then (if 4 ≤ (lsub (vb l).toList 0 4).length then addr_Four (lvec 4 (lsub (vb l).toList 0 4)) >>= fun t8 => some (decide (mkA V l = t8)) else none) else some false)) = _
  cases h6 : (V == 6)
  · cases h4 : (V == 4)
    · rfl
    · have hV : V = 4 := by simpa using h4
      rw [if_neg Bool.false_ne_true, if_pos rfl, if_pos (take4_len hl), four_eq _ _ (take4 hl), bindM_some]
      congr 1
      rw [Bool.false_or, Bool.true_and, Bool.eq_iff_iff, decide_eq_true_eq, mkA_inj hl (fourL_len (by simp; omega)), low_iff hl]
      exact ⟨fun h => h.2, fun h => ⟨hV, h⟩⟩
  · rfl
theorem right_loop {V : Int} {l : List UInt8} (hl : l.length = 16) : ∀ (k i : Nat), i + k = 16 → crawlwayref10_Right.l0 (mkA V l) (i : Int) = some (if (l.drop i).all (· == 0) = true then .nx () else .ret false) := by
  intro k
  induction k with
  | zero =>
    intro i hi
    have hz : decide ((i : Int) < 16) = false := decide_eq_false (by omega)
    rw [crawlwayref10_Right.l0.eq_def, hz, List.drop_eq_nil_of_le (by omega)]; rfl
  | succ k ih =>
    intro i hi
    have hz : decide ((i : Int) < 16) = true := decide_eq_true (by omega)
    obtain ⟨c, hc, hd⟩ := drop_get l i (by omega)
    have hg : (0 : Int) ≤ (i : Int) ∧ (i : Int) < 16 := by omega
    rw [crawlwayref10_Right.l0.eq_def, hz, if_pos rfl, if_pos hg, hd, List.all_cons]
    show (if (vget (vb l) (i : Int) != 0) = true then _ else _) = _
    rw [vget_vb hl i (by omega), bg_get hc]
    by_cases h0 : c = 0
    · subst h0
      have e1 : (((0 : UInt8).toNat : Int) != 0) = false := rfl
      rw [e1, if_neg Bool.false_ne_true, wr_i64 (by omega) (by omega), show ((i : Int) + 1) = ((i + 1 : Nat) : Int) by omega, ih (i + 1) (by omega)]
      rw [show ((0 : UInt8) == 0) = true from rfl, Bool.true_and]
    · have hne : c.toNat ≠ 0 := fun e => h0 (UInt8.toNat.inj e)
      have e1 : ((c.toNat : Int) != 0) = true := by rw [bne_iff_ne]; omega
      have e2 : (c == 0) = false := by rw [beq_eq_false_iff_ne]; exact h0
      rw [e1, if_pos rfl, e2, Bool.false_and]; rfl
theorem right_ref {V : Int} {l : List UInt8} (hl : l.length = 16) : crawlwayref10_Right (mkA V l) = some (rightL V l) := by
  unfold crawlwayref10_Right rightL
  have h := right_loop (V := V) hl 12 4 rfl
  rw [show ((4 : Nat) : Int) = 4 from rfl] at h
  rw [h]
  show (if (V == 6) = true then some true else _) = _
  cases h6 : (V == 6)
  · rw [if_neg Bool.false_ne_true, bindM_some]
    unfold low
    by_cases hz : (l.drop 4).all (· == 0) = true
    · rw [if_pos hz, hz]
      show some (V == 4) = _
      rw [Bool.false_or, Bool.and_true]
    · rw [if_neg hz]
      have : (l.drop 4).all (· == 0) = false := by simpa using hz
      rw [this, Bool.and_false]; rfl
  · rfl
def widthL (V : Int) (l : List UInt8) : Nat := if rightL V l = true then (if V = 4 then 32 else 128) else 0
theorem width_code {V : Int} {l : List UInt8} (hl : l.length = 16) : addr_Width (mkA V l) = some ((widthL V l : Nat) : Int) := by
  unfold addr_Width widthL
  rw [right_code hl, bindM_some]
  cases rightL V l
  · rfl
  · show (if (V == 4) = true then some (32 : Int) else some 128) = _
    by_cases h : V = 4
    · rw [if_pos (by simpa using h), if_pos rfl, if_pos h]; rfl
    · rw [if_neg (by simpa using h), if_pos rfl, if_neg h]; rfl
theorem right_cases {V : Int} {l : List UInt8} (h : rightL V l = true) : V = 6 ∨ (V = 4 ∧ low l = true) := by
  unfold rightL at h
  rw [Bool.or_eq_true, Bool.and_eq_true, beq_iff_eq, beq_iff_eq] at h
  exact h
theorem width_le {V : Int} {l : List UInt8} : widthL V l ≤ 128 := by
  unfold widthL; split <;> (try split) <;> omega
end Go.Proofs.Ythccncpephpdjaa.Adr
