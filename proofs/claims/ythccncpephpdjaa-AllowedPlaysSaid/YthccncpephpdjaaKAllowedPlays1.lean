/- Texts of this claim, those in one that belong together; printed by a program of this project. -/
import Derived.Test.YthccncpephpdjaaProg
import Derived.Test.YthccncpephpdjaaKAllowedPlays0
set_option linter.unusedVariables false
set_option linter.unusedSimpArgs false
namespace Go.Proofs.Ythccncpephpdjaa
open E Go.RowKit
abbrev zqU1_0 : S_api_Prefix := ({ f_A := ({ f_V := (0 : Int), f_B := (Vector.replicate 16 (0 : Int) : (Vector Int 16)) } : S_api_Addr), f_Bits := (0 : Int) } : S_api_Prefix)
abbrev zqU1_1 : S_api_Addr := ({ f_V := (0 : Int), f_B := (Vector.replicate 16 (0 : Int) : (Vector Int 16)) } : S_api_Addr)
theorem infoU152_is : (Try.prog.info? 52).isSome = true := by kernel_rfl
noncomputable def infoU152_v : TypeInfo := (Try.prog.info? 52).get infoU152_is
theorem infoU152 : Try.prog.info? 52 = some infoU152_v := (Option.some_get _).symm
def addr_Four (x0 : (Vector Int 4)) : Option (S_api_Addr) :=
  some ({ { ({ f_V := (0 : Int), f_B := (Vector.replicate 16 (0 : Int) : (Vector Int 16)) } : S_api_Addr) with f_V := 4 } with f_B := vcopy (({ ({ f_V := (0 : Int), f_B := (Vector.replicate 16 (0 : Int) : (Vector Int 16)) } : S_api_Addr) with f_V := 4 }).f_B) (Int.toNat 0) (List.take (Int.toNat (16 - 0)) (Vector.toList x0)) })
set_option maxHeartbeats 3200000 in
theorem addr_Four_ok (x0 : (Vector Int 4)) (r : S_api_Addr) (hF : addr_Four x0 = some r) (w : World) :
    Calls Try.prog 91 #[.agg (Cd.cs (cVec (cInt .u8) 4 (by decide)) x0).toArray] w (fun e w' => e = .returned (.agg (Cd.cs c_api_Addr r).toArray) ∧ Below w.heap.size w w') := by
 unfold addr_Four at hF
 refine calls_enter (l := [.agg (Cd.cs (cVec (cInt .u8) 4 (by decide)) x0).toArray]) Try.func91 rfl rfl rfl ?_
 refine at_start ?_
 refine at_weak [(0, _)] ⟨rfl, trivial⟩ ?_
 refine sr ?_
 refine at_box (cs := Cd.cs (cVec (cInt .u8) 4 (by decide)) x0) rfl rfl rfl ?_
 intro b1
 refine at_alloc (cs := Cd.cs c_api_Addr zqU1_1) Try.zeroValue32 rfl rfl ?_
 intro b2
 refine nws [(1, _), (2, _)] ⟨rfl, rfl, trivial⟩ ?_
 refine av rfl (r_build_struct (zs := Cd.cs c_api_Addr zqU1_1) (cs := Cd.cs c_api_Addr ({ zqU1_1 with f_V := 4 })) Try.underlying32 Try.zeroValue32 rfl (places_api_Addr_32) rfl (fill_step (c := (cInt .i64)) (z := 4) rfl (c_api_Addr_f_V zqU1_1) rfl rfl)) ?_
 refine at_alloc (cs := Cd.cs c_api_Addr zqU1_1) Try.zeroValue32 rfl rfl ?_
 intro b3
 refine at_store (c := c_api_Addr) (z := { zqU1_1 with f_V := 4 }) .z (Lens.whole _ _) Try.sizeOf32 rfl rfl rfl ?_
 refine nwt [(1, _), (2, _), (3, _)] ⟨rfl, rfl, rfl, trivial⟩ ?_
 refine at_seq ?_
 refine at_weak [(1, _), (2, _), (3, _)] ⟨rfl, rfl, rfl, trivial⟩ ?_
 refine at_inv [.q 5 (fun g4 => .pointer (some ⟨b3, 0 + 1, none⟩)) [] 0 0, .q 6 (fun g4 => .slice (some ⟨b3, 0 + 1, none⟩) (Vector.toList (({ zqU1_1 with f_V := 4 }).f_B)).length 16) [0] 0 0, .q 7 (fun g4 => .slice (some ⟨b1, 0, none⟩) (Vector.toList x0).length 4) [] 0 0, .st 0 (some (8, fun g4 => .int .i64 (min (List.length (Vector.toList x0)) (Int.toNat (16 - 0)) : Nat))) [1, 2]] (fun g4 s => match s with | 0 => (Wd w [cellsE b3 (Cd.cs c_api_Addr ({ zqU1_1 with f_V := 4 })) 32, cellsE b2 (Cd.cs c_api_Addr zqU1_1) 32, cellsE b1 (Cd.cs (cVec (cInt .u8) 4 (by decide)) x0) 129]) | _ => (Wd w [cellsE b3 (Cd.cs c_api_Addr ({ { zqU1_1 with f_V := 4 } with f_B := vcopy (({ zqU1_1 with f_V := 4 }).f_B) (Int.toNat 0) (List.take (Int.toNat (16 - 0)) (Vector.toList x0)) })) 32, cellsE b2 (Cd.cs c_api_Addr zqU1_1) 32, cellsE b1 (Cd.cs (cVec (cInt .u8) 4 (by decide)) x0) 129])) 1 (by kernel_rfl) (by kernel_rfl) (by kernel_rfl) (by kernel_rfl) (by kernel_rfl) ⟨fun _ _ _ => rfl, fun _ _ _ => rfl, fun _ _ _ => rfl, fun _ _ _ => rfl, trivial⟩ (by kernel_rfl) (fun _ h => ⟨fun _ => (0, none, 0, none), h.drew⟩) ⟨?_, ?_, ?_, ?_, trivial⟩ ?_
 ·intro Lx g4 s K hl hh k
  show At 10 ((1, _) :: (2, _) :: (3, _) :: Lx) _ _
  refine av rfl (r_fieldAddr (fo := 1) Try.underlying32 rfl rfl (fun w => ⟨_, Try.sizeOf30 w⟩) rfl) ?_
  exact at_nil k
 ·intro Lx g4 s K hl hh k
  show At 10 ((5, _) :: (1, _) :: (2, _) :: (3, _) :: Lx) _ _
  obtain rfl : s = 0 := by omega
  refine av rfl (r_view_all (c := (cInt .u8)) (({ zqU1_1 with f_V := 4 }).f_B) (by decide) Try.underlying30 Try.sizeOf5 rfl) ?_
  exact at_nil k
 ·intro Lx g4 s K hl hh k
  show At 10 ((1, _) :: (2, _) :: (3, _) :: Lx) _ _
  obtain rfl : s = 0 := by omega
  refine av rfl (r_slice_vec x0 Try.underlying129 Try.sizeOf5 rfl) ?_
  exact at_nil k
 ·intro Lx g4 K k
  show At 10 ((6, _) :: (7, _) :: (1, _) :: (2, _) :: (3, _) :: Lx) _ _
  refine at_copy (lo := 0) (hi := 16) (xs := Vector.toList x0) .z (Lens.comp (Lens.whole _ _) (fun z => { { zqU1_1 with f_V := 4 } with f_B := z }) (c_api_Addr_f_B ({ zqU1_1 with f_V := 4 }))) rfl (by decide) Try.underlying130 (by kernel_rfl) rfl (rsp_zero (by decide)) (by simp) rfl ⟨_, rfl⟩ (fun w1 hw => (vec_row (hw.ok (Upd.mem (.s (.s .z)))))) rfl ?_
  exact at_nil k
 intro g4
 show At 10 [(5, _), (6, _), (7, _), (8, _), (1, _), (2, _), (3, _)] _ _
 refine at_drop (H := _) (.s (.s .z)) ?_
 refine at_weak [(2, _), (3, _)] ⟨rfl, rfl, trivial⟩ ?_
 refine at_then_normal ?_
 refine sr ?_
 refine av rfl (r_load_aggc (c := c_api_Addr) (z := { { zqU1_1 with f_V := 4 } with f_B := vcopy (({ zqU1_1 with f_V := 4 }).f_B) (Int.toNat 0) (List.take (Int.toNat (16 - 0)) (Vector.toList x0)) }) Try.isAgg32 Try.sizeOf32 rfl (lens_cell .z (Lens.whole _ _))) ?_
 refine at_store (c := c_api_Addr) (z := { { zqU1_1 with f_V := 4 } with f_B := vcopy (({ zqU1_1 with f_V := 4 }).f_B) (Int.toNat 0) (List.take (Int.toNat (16 - 0)) (Vector.toList x0)) }) (.s .z) (Lens.whole _ _) Try.sizeOf32 rfl rfl rfl ?_
 refine at_nil ?_
 refine at_drop (H := _) .z ?_
 refine at_weak [(2, _)] ⟨rfl, trivial⟩ ?_
 refine at_then_normal ?_
 refine at_ret ?_
 have K := of_some hF
 subst K
 exact at_res1 rfl (res_cell (c := c_api_Addr) (y := { { zqU1_1 with f_V := 4 } with f_B := vcopy (({ zqU1_1 with f_V := 4 }).f_B) (Int.toNat 0) (List.take (Int.toNat (16 - 0)) (Vector.toList x0)) }) rfl .z (Lens.whole _ _) Try.isAgg32 Try.sizeOf32 (.inl rfl)) (fun w1 hw => ⟨rfl, hw.below⟩)
def addr_Right (x0 : S_api_Addr) : Option (Bool) :=
  if (x0.f_V == 6) = true then (some true) else (if (x0.f_V == 4) = true then (if 4 ≤ (lsub (Vector.toList x0.f_B) 0 4).length then addr_Four (lvec 4 (lsub (Vector.toList x0.f_B) 0 4)) >>= fun t8 => some (decide (x0 = t8)) else none) else (some false))
theorem addr_Right_ok (x0 : S_api_Addr) (r : Bool) (hF : addr_Right x0 = some r) (w : World) :
    Calls Try.prog 69 #[.agg (Cd.cs c_api_Addr x0).toArray] w (fun e w' => e = .returned (.bool r) ∧ Below w.heap.size w w') := by
 unfold addr_Right at hF
 refine calls_enter (l := [.agg (Cd.cs c_api_Addr x0).toArray]) Try.func69 rfl rfl rfl ?_
 refine at_start ?_
 refine at_weak [(0, _)] ⟨rfl, trivial⟩ ?_
 refine sr ?_
 refine at_box (cs := Cd.cs c_api_Addr x0) rfl rfl rfl ?_
 intro b1
 refine av rfl (r_assign rfl) ?_
 refine nwt [(1, _)] ⟨rfl, trivial⟩ ?_
 refine at_seq ?_
 refine at_draw (by kernel_rfl) (by kernel_rfl) (fun _ h => h.drew) ?_
 refine atq_val rfl rfl rfl (r_fieldAddr (fo := 0) Try.underlying32 rfl rfl (fun w => ⟨_, Try.sizeOf3 w⟩) rfl) ?_
 refine atq_val rfl rfl rfl (r_load_cell Try.isAgg3 rfl (lens_cell0 (c := (cInt .i64)) (y := x0.f_V) .z (Lens.comp (Lens.whole _ _) (fun z => { x0 with f_V := z }) (c_api_Addr_f_V x0)) rfl)) ?_
 refine atq_val rfl rfl rfl (r_ieql rfl rfl) ?_
 refine atq_val rfl rfl rfl (r_move rfl) ?_
 rcases of_ite hF with ⟨h2, hF⟩ | ⟨h2, hF⟩
 ·refine atq_fix (g := 6) rfl h2 ?_
  refine atq_guard_no rfl rfl rfl rfl rfl ?_
  refine atq_guard_no rfl rfl rfl rfl rfl ?_
  refine atq_guard_no rfl rfl rfl rfl rfl ?_
  refine atq_guard_no rfl rfl rfl rfl rfl ?_
  refine atq_guard_undef rfl rfl rfl rfl ?_
  refine atq_guard_undef rfl rfl rfl rfl ?_
  refine atq_guard_undef rfl rfl rfl rfl ?_
  refine atq_guard_undef rfl rfl rfl rfl ?_
  refine atq_guard_undef rfl rfl rfl rfl ?_
  refine atq_guard_undef rfl rfl rfl rfl ?_
  refine atq_guard_undef rfl rfl rfl rfl ?_
  refine atq_guard_no rfl rfl rfl rfl rfl ?_
  refine atq_val rfl rfl rfl (r_pick rfl rfl rfl) ?_
  refine atq_val rfl rfl rfl (r_assign rfl) ?_
  refine atq_nil ?_
  refine at_drop (H := _) .z ?_
  refine at_weak [(2, _)] ⟨rfl, trivial⟩ ?_
  refine at_then_normal ?_
  refine at_ret ?_
  have K := of_some hF
  subst K
  exact at_return1 rfl rfl (fun w1 hw => ⟨rfl, hw.below⟩)
 ·refine atq_fix (g := 6) rfl h2 ?_
  refine atq_guard_yes rfl rfl rfl ?_
  refine atq_val rfl rfl rfl (r_fieldAddr (fo := 0) Try.underlying32 rfl rfl (fun w => ⟨_, Try.sizeOf3 w⟩) rfl) ?_
  refine atq_guard_yes rfl rfl rfl ?_
  refine atq_val rfl rfl rfl (r_load_cell Try.isAgg3 rfl (lens_cell0 (c := (cInt .i64)) (y := x0.f_V) .z (Lens.comp (Lens.whole _ _) (fun z => { x0 with f_V := z }) (c_api_Addr_f_V x0)) rfl)) ?_
  refine atq_guard_yes rfl rfl rfl ?_
  refine atq_val rfl rfl rfl (r_ieql rfl rfl) ?_
  refine atq_guard_yes rfl rfl rfl ?_
  refine atq_val rfl rfl rfl (r_move rfl) ?_
  rcases of_ite hF with ⟨h3, hF⟩ | ⟨h3, hF⟩
  ·refine atq_fix (g := 10) rfl h3 ?_
   refine atq_guard_yes rfl rfl rfl ?_
   refine atq_val rfl rfl rfl (r_load_aggc (c := c_api_Addr) (z := x0) Try.isAgg32 Try.sizeOf32 rfl (lens_cell .z (Lens.whole _ _))) ?_
   refine atq_guard_yes rfl rfl rfl ?_
   refine atq_val rfl rfl rfl (r_fieldAddr (fo := 1) Try.underlying32 rfl rfl (fun w => ⟨_, Try.sizeOf30 w⟩) rfl) ?_
   refine atq_guard_yes rfl rfl rfl ?_
   refine atq_val rfl rfl rfl (r_view (c := (cInt .u8)) (v := x0.f_B) (l := 0) (h := 4) Try.underlying30 Try.sizeOf5 rfl rfl ⟨_, rfl⟩ (by decide)) ?_
   refine atq_guard_yes rfl rfl rfl ?_
   obtain ⟨h4, hF⟩ := of_guard hF
   refine atq_val rfl rfl rfl (r_arrptr Try.underlying129 rfl h4) ?_
   refine atq_guard_yes rfl rfl rfl ?_
   obtain ⟨b5, o6, hp7⟩ : ∃ b o, rsp (some ⟨b1, 0 + 1, none⟩) 16 0 (Cd.sz (cInt .u8)) = some ⟨b, o, none⟩ := rsp_plain
   refine atq_val rfl rfl rfl (r_load_aggc (c := (cVec (cInt .u8) 4 (by decide))) (z := lvec 4 (lsub (Vector.toList x0.f_B) 0 4)) Try.isAgg129 Try.sizeOf129 (by rw [← hp7]; rfl) (fun w1 hw => row_lvec (Row.sub (lens_row .z (Lens.comp (Lens.whole _ _) (fun z => { x0 with f_B := z }) (c_api_Addr_f_B x0)) hw) (vbnd (by decide))) h4 hp7)) ?_
   refine atq_guard_yes rfl rfl rfl ?_
   obtain ⟨t8, ht8, hF⟩ := of_bindM hF
   refine atq_call Try.func91 rfl (by kernel_rfl) rfl rfl (fun w hw => (addr_Four_ok _ _ ht8 w).mono fun _ _ h => ⟨h.1, hw.call h.2⟩) ?_
   refine atq_guard_yes rfl rfl rfl ?_
   refine atq_val rfl rfl rfl (r_eqagg (c := c_api_Addr) (a := x0) (b := t8) (eq_api_Addr_32) rfl Try.eqGuardType32 rfl rfl (.inl rfl) rfl) ?_
   refine atq_guard_yes rfl rfl rfl ?_
   refine atq_val rfl rfl rfl (r_pick rfl rfl rfl) ?_
   refine atq_val rfl rfl rfl (r_pick rfl rfl rfl) ?_
   refine atq_val rfl rfl rfl (r_assign rfl) ?_
   refine atq_nil ?_
   refine at_drop (H := _) .z ?_
   refine at_weak [(2, _)] ⟨rfl, trivial⟩ ?_
   refine at_then_normal ?_
   refine at_ret ?_
   have K := of_some hF
   subst K
   exact at_return1 rfl rfl (fun w1 hw => ⟨rfl, hw.below⟩)
  ·refine atq_fix (g := 10) rfl h3 ?_
   refine atq_guard_no rfl rfl rfl rfl rfl ?_
   refine atq_guard_no rfl rfl rfl rfl rfl ?_
   refine atq_guard_no rfl rfl rfl rfl rfl ?_
   refine atq_guard_no rfl rfl rfl rfl rfl ?_
   refine atq_guard_no rfl rfl rfl rfl rfl ?_
   refine atq_guard_no rfl rfl rfl rfl rfl ?_
   refine atq_guard_no rfl rfl rfl rfl rfl ?_
   refine atq_guard_yes rfl rfl rfl ?_
   refine atq_val rfl rfl rfl (r_pick rfl rfl rfl) ?_
   refine atq_val rfl rfl rfl (r_pick rfl rfl rfl) ?_
   refine atq_val rfl rfl rfl (r_assign rfl) ?_
   refine atq_nil ?_
   refine at_drop (H := _) .z ?_
   refine at_weak [(2, _)] ⟨rfl, trivial⟩ ?_
   refine at_then_normal ?_
   refine at_ret ?_
   have K := of_some hF
   subst K
   exact at_return1 rfl rfl (fun w1 hw => ⟨rfl, hw.below⟩)
def addr_Width (x0 : S_api_Addr) : Option (Int) :=
  addr_Right x0 >>= fun t2 => if (!t2) = true then (some 0) else (if (x0.f_V == 4) = true then (some 32) else (some 128))
theorem addr_Width_ok (x0 : S_api_Addr) (r : Int) (hF : addr_Width x0 = some r) (w : World) :
    Calls Try.prog 71 #[.agg (Cd.cs c_api_Addr x0).toArray] w (fun e w' => e = .returned (.int .i64 r) ∧ Below w.heap.size w w') := by
 unfold addr_Width at hF
 refine calls_enter (l := [.agg (Cd.cs c_api_Addr x0).toArray]) Try.func71 rfl rfl rfl ?_
 refine at_start ?_
 refine at_weak [(0, _)] ⟨rfl, trivial⟩ ?_
 refine sr ?_
 refine at_box (cs := Cd.cs c_api_Addr x0) rfl rfl rfl ?_
 intro b1
 refine av rfl (r_assign rfl) ?_
 refine nwt [(1, _)] ⟨rfl, trivial⟩ ?_
 refine at_seq ?_
 refine at_block ?_
 refine sr ?_
 refine av rfl (r_load_aggc (c := c_api_Addr) (z := x0) Try.isAgg32 Try.sizeOf32 rfl (lens_cell .z (Lens.whole _ _))) ?_
 obtain ⟨t2, ht2, hF⟩ := of_bindM hF
 refine at_callB Try.func69 rfl (by kernel_rfl) rfl rfl (fun w hw => addr_Right_ok _ _ ht2 w) ?_
 refine av rfl (r_not rfl) ?_
 refine av rfl (r_assign rfl) ?_
 refine nwt [(1, _), (3, _)] ⟨rfl, rfl, trivial⟩ ?_
 rcases of_ite hF with ⟨h3, hF⟩ | ⟨h3, hF⟩
 ·refine at_cond_true rfl h3 ?_
  refine sr ?_
  refine av rfl (r_assign rfl) ?_
  refine at_nil ?_
  refine at_drop (H := _) .z ?_
  refine at_weak [(2, _)] ⟨rfl, trivial⟩ ?_
  refine at_then_normal ?_
  refine at_ret ?_
  refine at_blk_ret (at_then_ret ?_)
  have K := of_some hF
  subst K
  exact at_return1 rfl rfl (fun w1 hw => ⟨rfl, hw.below⟩)
 ·refine at_cond_false rfl h3 ?_
  refine sr ?_
  refine av rfl (r_fieldAddr (fo := 0) Try.underlying32 rfl rfl (fun w => ⟨_, Try.sizeOf3 w⟩) rfl) ?_
  refine av rfl (r_load_cell Try.isAgg3 rfl (lens_cell0 (c := (cInt .i64)) (y := x0.f_V) .z (Lens.comp (Lens.whole _ _) (fun z => { x0 with f_V := z }) (c_api_Addr_f_V x0)) rfl)) ?_
  refine av rfl (r_ieql rfl rfl) ?_
  refine av rfl (r_assign rfl) ?_
  refine at_nil ?_
  refine at_drop (H := _) .z ?_
  refine at_weak [(7, _)] ⟨rfl, trivial⟩ ?_
  refine at_then_normal ?_
  rcases of_ite hF with ⟨h4, hF⟩ | ⟨h4, hF⟩
  ·refine at_cond_true rfl h4 ?_
   refine sr ?_
   refine av rfl (r_assign rfl) ?_
   refine nwt [(2, _)] ⟨rfl, trivial⟩ ?_
   refine at_ret ?_
   refine at_blk_ret (at_then_ret ?_)
   have K := of_some hF
   subst K
   exact at_return1 rfl rfl (fun w1 hw => ⟨rfl, hw.below⟩)
  ·refine at_cond_false rfl h4 ?_
   refine at_skip ?_
   refine at_blk_normal (at_then_normal ?_)
   refine sr ?_
   refine av rfl (r_assign rfl) ?_
   refine nwt [(2, _)] ⟨rfl, trivial⟩ ?_
   refine at_ret ?_
   have K := of_some hF
   subst K
   exact at_return1 rfl rfl (fun w1 hw => ⟨rfl, hw.below⟩)
def addr_Mask.l0 (x1 : Int) (i6 : Int) (i7 : S_api_Addr) : Option (S_api_Addr) :=
  if (decide (i6 < 16)) = true then (if (decide (x1 < 0)) = true then (if (0 : Int) ≤ i6 ∧ i6 < 16 then if (0 : Int) ≤ wr .u64 (wr .i64 (8 - 0)) then if (0 : Int) ≤ i6 ∧ i6 < 16 then addr_Mask.l0 x1 (wr .i64 (i6 + 1)) ({ i7 with f_B := vset i7.f_B i6 (iand .u8 (vget i7.f_B i6) (ishl .u8 255 (wr .u64 (wr .i64 (8 - 0))))) }) else none else none else none) else (if (0 : Int) ≤ i6 ∧ i6 < 16 then if (0 : Int) ≤ wr .u64 (wr .i64 (8 - (if 8 < (if wr .i64 (x1 - (wr .i64 (8 * i6))) < 0 then 0 else wr .i64 (x1 - (wr .i64 (8 * i6)))) then 8 else (if wr .i64 (x1 - (wr .i64 (8 * i6))) < 0 then 0 else wr .i64 (x1 - (wr .i64 (8 * i6))))))) then if (0 : Int) ≤ i6 ∧ i6 < 16 then addr_Mask.l0 x1 (wr .i64 (i6 + 1)) ({ i7 with f_B := vset i7.f_B i6 (iand .u8 (vget i7.f_B i6) (ishl .u8 255 (wr .u64 (wr .i64 (8 - (if 8 < (if wr .i64 (x1 - (wr .i64 (8 * i6))) < 0 then 0 else wr .i64 (x1 - (wr .i64 (8 * i6)))) then 8 else (if wr .i64 (x1 - (wr .i64 (8 * i6))) < 0 then 0 else wr .i64 (x1 - (wr .i64 (8 * i6)))))))))) }) else none else none else none)) else (some i7)
  partial_fixpoint
def addr_Mask (x0 : S_api_Addr) (x1 : Int) : Option (S_api_Addr) :=
  addr_Right x0 >>= fun t3 => if (!t3) = true then (some ({ f_V := (0 : Int), f_B := (Vector.replicate 16 (0 : Int) : (Vector Int 16)) } : S_api_Addr)) else (addr_Mask.l0 x1 0 x0 >>= fun q5 => some q5)
theorem addr_Mask_ok (x0 : S_api_Addr) (x1 : Int) (r : S_api_Addr) (hF : addr_Mask x0 x1 = some r) (w : World) :
    Calls Try.prog 92 #[.agg (Cd.cs c_api_Addr x0).toArray, .int .i64 x1] w (fun e w' => e = .returned (.agg (Cd.cs c_api_Addr r).toArray) ∧ Below w.heap.size w w') := by
 unfold addr_Mask at hF
 refine calls_enter (l := [.agg (Cd.cs c_api_Addr x0).toArray, .int .i64 x1]) Try.func92 rfl rfl rfl ?_
 refine at_start ?_
 refine at_weak [(0, _), (1, _)] ⟨rfl, rfl, trivial⟩ ?_
 refine sr ?_
 refine at_box (cs := Cd.cs c_api_Addr x0) rfl rfl rfl ?_
 intro b1
 refine at_alloc (cs := Cd.cs c_api_Addr zqU1_1) Try.zeroValue32 rfl rfl ?_
 intro b2
 refine nwt [(1, _), (2, _), (4, _)] ⟨rfl, rfl, rfl, trivial⟩ ?_
 refine at_seq ?_
 refine sr ?_
 refine av rfl (r_load_aggc (c := c_api_Addr) (z := x0) Try.isAgg32 Try.sizeOf32 rfl (lens_cell (.s .z) (Lens.whole _ _))) ?_
 obtain ⟨t3, ht3, hF⟩ := of_bindM hF
 refine at_callB Try.func69 rfl (by kernel_rfl) rfl rfl (fun w hw => addr_Right_ok _ _ ht3 w) ?_
 refine av rfl (r_not rfl) ?_
 refine nwt [(1, _), (2, _), (4, _), (9, _)] ⟨rfl, rfl, rfl, rfl, trivial⟩ ?_
 rcases of_ite hF with ⟨h4, hF⟩ | ⟨h4, hF⟩
 ·refine at_cond_true rfl h4 ?_
  refine sr ?_
  refine av rfl (r_build_struct (zs := Cd.cs c_api_Addr zqU1_1) (cs := Cd.cs c_api_Addr zqU1_1) Try.underlying32 Try.zeroValue32 rfl (places_api_Addr_32) rfl rfl) ?_
  refine at_store (c := c_api_Addr) (z := zqU1_1) .z (Lens.whole _ _) Try.sizeOf32 rfl rfl rfl ?_
  refine at_nil ?_
  refine at_drop (H := _) (.s .z) ?_
  refine at_weak [(4, _)] ⟨rfl, trivial⟩ ?_
  refine at_then_normal ?_
  refine rt ?_
  have K := of_some hF
  subst K
  exact at_res1 rfl (res_cell (c := c_api_Addr) (y := zqU1_1) rfl .z (Lens.whole _ _) Try.isAgg32 Try.sizeOf32 (.inl rfl)) (fun w1 hw => ⟨rfl, hw.below⟩)
 ·refine at_cond_false rfl h4 ?_
  refine sn ?_
  refine at_seq ?_
  refine sr ?_
  refine av rfl (r_move rfl) ?_
  refine nwt [(1, _), (2, _), (4, _), (11, _)] ⟨rfl, rfl, rfl, rfl, trivial⟩ ?_
  refine at_block ?_
  obtain ⟨q5, hq5, hF⟩ := of_bindM hF
  refine at_weak [(1, _), (2, _), (4, _), (11, _)] ⟨rfl, rfl, rfl, rfl, trivial⟩ ?_
  refine at_loop_n (B := 0) (A := fun Y => At 35 [(2, .pointer (some ⟨b1, 0, none⟩)), (4, .pointer (some ⟨b2, 0, none⟩))] (Wd w [cellsE b2 (Cd.cs c_api_Addr zqU1_1) 32, cellsE b1 (Cd.cs c_api_Addr q5) 32]) Y) ?_ ?_
  ·intro K
   refine addr_Mask.l0.partial_correctness x1 (motive := fun i6 i7 x => KN (fun Y => At 35 [(2, .pointer (some ⟨b1, 0, none⟩)), (4, .pointer (some ⟨b2, 0, none⟩))] (Wd w [cellsE b2 (Cd.cs c_api_Addr zqU1_1) 32, cellsE b1 (Cd.cs c_api_Addr x) 32]) Y) _ 0 → Round (fun Y => At 35 [(1, .int .i64 x1), (2, .pointer (some ⟨b1, 0, none⟩)), (4, .pointer (some ⟨b2, 0, none⟩)), (11, .int .i64 i6)] (Wd w [cellsE b2 (Cd.cs c_api_Addr zqU1_1) 32, cellsE b1 (Cd.cs c_api_Addr i7) 32]) Y) _ _ _) ?_ _ _ _ hq5 K
   ·clear K hF
    intro g ih i6 i7 x hF K
    refine at_round ?_
    refine sr ?_
    refine av rfl (r_ilss rfl rfl) ?_
    refine nwt [(1, _), (2, _), (4, _), (11, _), (12, _)] ⟨rfl, rfl, rfl, rfl, rfl, trivial⟩ ?_
    refine at_seq ?_
    rcases of_ite hF with ⟨h8, hF⟩ | ⟨h8, hF⟩
    ·refine at_cond_true rfl h8 ?_
     refine sn ?_
     refine at_seq ?_
     refine at_block ?_
     refine sr ?_
     refine av rfl (r_move rfl) ?_
     refine av rfl (r_assign rfl) ?_
     refine nws [(1, _), (2, _), (4, _), (5, _), (11, _)] ⟨rfl, rfl, rfl, rfl, rfl, trivial⟩ ?_
     refine av rfl (r_move rfl) ?_
     refine av rfl (r_move rfl) ?_
     refine av rfl (r_imul rfl rfl) ?_
     refine av rfl (r_isub rfl rfl) ?_
     refine av rfl (r_max rfl rfl) ?_
     refine av rfl (r_min rfl rfl) ?_
     refine av rfl (r_assign rfl) ?_
     refine nwt [(1, _), (2, _), (4, _), (5, _), (6, _), (11, _)] ⟨rfl, rfl, rfl, rfl, rfl, rfl, trivial⟩ ?_
     refine at_seq ?_
     refine sr ?_
     refine av rfl (r_move rfl) ?_
     refine av rfl (r_ilss rfl rfl) ?_
     refine nwt [(1, _), (2, _), (4, _), (5, _), (6, _), (11, _), (21, _)] ⟨rfl, rfl, rfl, rfl, rfl, rfl, rfl, trivial⟩ ?_
     rcases of_ite hF with ⟨h9, hF⟩ | ⟨h9, hF⟩
     ·refine at_cond_true rfl h9 ?_
      refine at_region ?_
      refine av rfl (r_assign rfl) ?_
      refine nwt [(1, _), (2, _), (4, _), (5, _), (6, _), (11, _)] ⟨rfl, rfl, rfl, rfl, rfl, rfl, trivial⟩ ?_
      refine at_region ?_
      refine av rfl (r_move rfl) ?_
      refine av rfl (r_fieldAddr (fo := 1) Try.underlying32 rfl rfl (fun w => ⟨_, Try.sizeOf30 w⟩) rfl) ?_
      obtain ⟨h10, hF⟩ := of_guard hF
      refine av rfl (r_idxArr Try.underlying30 Try.sizeOf5 rfl rfl h10) ?_
      refine av rfl (r_load_cell Try.isAgg5 rfl (lens_cell0 (c := (cInt .u8)) (y := vget i7.f_B i6) (.s .z) (Lens.comp (Lens.comp (Lens.whole _ _) (fun z => { i7 with f_B := z }) (c_api_Addr_f_B i7)) (fun z => vset i7.f_B i6 z) (Lens.vec (cInt .u8) (by decide) i7.f_B i6 h10)) rfl)) ?_
      refine av rfl (r_move rfl) ?_
      refine av rfl (r_isub rfl rfl) ?_
      refine av rfl (r_conv Try.underlying3 Try.underlying131 rfl) ?_
      obtain ⟨h11, hF⟩ := of_guard hF
      refine av rfl (r_ishl rfl rfl h11) ?_
      refine av rfl (r_iand rfl rfl) ?_
      refine av rfl (r_fieldAddr (fo := 1) Try.underlying32 rfl rfl (fun w => ⟨_, Try.sizeOf30 w⟩) rfl) ?_
      obtain ⟨h12, hF⟩ := of_guard hF
      refine av rfl (r_idxArr Try.underlying30 Try.sizeOf5 rfl rfl h12) ?_
      refine at_store (c := (cInt .u8)) (z := iand .u8 (vget i7.f_B i6) (ishl .u8 255 (wr .u64 (wr .i64 (8 - 0))))) (.s .z) (Lens.comp (Lens.comp (Lens.whole _ _) (fun z => { i7 with f_B := z }) (c_api_Addr_f_B i7)) (fun z => vset i7.f_B i6 z) (Lens.vec (cInt .u8) (by decide) i7.f_B i6 h12)) Try.sizeOf5 rfl rfl rfl ?_
      refine at_nil ?_
      refine at_weak [(1, _), (2, _), (4, _), (11, _)] ⟨rfl, rfl, rfl, rfl, trivial⟩ ?_
      refine at_blk_normal (at_then_normal ?_)
      refine at_region ?_
      refine av rfl (r_iadd rfl rfl) ?_
      refine av rfl (r_move rfl) ?_
      refine nwt [(1, _), (2, _), (4, _), (11, _)] ⟨rfl, rfl, rfl, rfl, trivial⟩ ?_
      exact at_weak_k (ih _ _ _ hF K) ⟨rfl, rfl, rfl, rfl, trivial⟩
     ·refine at_cond_false rfl h9 ?_
      refine sn ?_
      refine at_region ?_
      refine av rfl (r_move rfl) ?_
      refine av rfl (r_fieldAddr (fo := 1) Try.underlying32 rfl rfl (fun w => ⟨_, Try.sizeOf30 w⟩) rfl) ?_
      obtain ⟨h13, hF⟩ := of_guard hF
      refine av rfl (r_idxArr Try.underlying30 Try.sizeOf5 rfl rfl h13) ?_
      refine av rfl (r_load_cell Try.isAgg5 rfl (lens_cell0 (c := (cInt .u8)) (y := vget i7.f_B i6) (.s .z) (Lens.comp (Lens.comp (Lens.whole _ _) (fun z => { i7 with f_B := z }) (c_api_Addr_f_B i7)) (fun z => vset i7.f_B i6 z) (Lens.vec (cInt .u8) (by decide) i7.f_B i6 h13)) rfl)) ?_
      refine av rfl (r_move rfl) ?_
      refine av rfl (r_isub rfl rfl) ?_
      refine av rfl (r_conv Try.underlying3 Try.underlying131 rfl) ?_
      obtain ⟨h14, hF⟩ := of_guard hF
      refine av rfl (r_ishl rfl rfl h14) ?_
      refine av rfl (r_iand rfl rfl) ?_
      refine av rfl (r_fieldAddr (fo := 1) Try.underlying32 rfl rfl (fun w => ⟨_, Try.sizeOf30 w⟩) rfl) ?_
      obtain ⟨h15, hF⟩ := of_guard hF
      refine av rfl (r_idxArr Try.underlying30 Try.sizeOf5 rfl rfl h15) ?_
      refine at_store (c := (cInt .u8)) (z := iand .u8 (vget i7.f_B i6) (ishl .u8 255 (wr .u64 (wr .i64 (8 - (if 8 < (if wr .i64 (x1 - (wr .i64 (8 * i6))) < 0 then 0 else wr .i64 (x1 - (wr .i64 (8 * i6)))) then 8 else (if wr .i64 (x1 - (wr .i64 (8 * i6))) < 0 then 0 else wr .i64 (x1 - (wr .i64 (8 * i6)))))))))) (.s .z) (Lens.comp (Lens.comp (Lens.whole _ _) (fun z => { i7 with f_B := z }) (c_api_Addr_f_B i7)) (fun z => vset i7.f_B i6 z) (Lens.vec (cInt .u8) (by decide) i7.f_B i6 h15)) Try.sizeOf5 rfl rfl rfl ?_
      refine at_nil ?_
      refine at_weak [(1, _), (2, _), (4, _), (11, _)] ⟨rfl, rfl, rfl, rfl, trivial⟩ ?_
      refine at_blk_normal (at_then_normal ?_)
      refine at_region ?_
      refine av rfl (r_iadd rfl rfl) ?_
      refine av rfl (r_move rfl) ?_
      refine nwt [(1, _), (2, _), (4, _), (11, _)] ⟨rfl, rfl, rfl, rfl, trivial⟩ ?_
      exact at_weak_k (ih _ _ _ hF K) ⟨rfl, rfl, rfl, rfl, trivial⟩
    ·refine at_cond_false rfl h8 ?_
     refine at_exit ?_
     refine at_then_exit (at_then_exit ?_)
     obtain rfl := of_some hF
     exact at_weak_k K ⟨rfl, rfl, trivial⟩
  ·skip
   skip
   refine at_blk_same ?_
   refine at_then_normal ?_
   refine sr ?_
   refine av rfl (r_load_aggc (c := c_api_Addr) (z := q5) Try.isAgg32 Try.sizeOf32 rfl (lens_cell (.s .z) (Lens.whole _ _))) ?_
   refine at_store (c := c_api_Addr) (z := q5) .z (Lens.whole _ _) Try.sizeOf32 rfl rfl rfl ?_
   refine at_nil ?_
   refine at_drop (H := _) (.s .z) ?_
   refine at_weak [(4, _)] ⟨rfl, trivial⟩ ?_
   refine at_then_normal ?_
   refine at_ret ?_
   have K := of_some hF
   subst K
   exact at_res1 rfl (res_cell (c := c_api_Addr) (y := q5) rfl .z (Lens.whole _ _) Try.isAgg32 Try.sizeOf32 (.inl rfl)) (fun w1 hw => ⟨rfl, hw.below⟩)
def addr_Bit (x0 : S_api_Addr) (x1 : Int) : Option (Int) :=
  if (decide (x1 < 0)) = true then (some (-1)) else (addr_Width x0 >>= fun t3 => if (decide (x1 ≥ t3)) = true then (some (-1)) else (if (0 : Int) ≤ ishr .i64 x1 3 ∧ ishr .i64 x1 3 < 16 then if (0 : Int) ≤ wr .u64 (wr .i64 (7 - (iand .i64 x1 7))) then some (iand .i64 (wr .i64 (ishr .u8 (vget x0.f_B (ishr .i64 x1 3)) (wr .u64 (wr .i64 (7 - (iand .i64 x1 7)))))) 1) else none else none))
theorem addr_Bit_ok (x0 : S_api_Addr) (x1 : Int) (r : Int) (hF : addr_Bit x0 x1 = some r) (w : World) :
    Calls Try.prog 72 #[.agg (Cd.cs c_api_Addr x0).toArray, .int .i64 x1] w (fun e w' => e = .returned (.int .i64 r) ∧ Below w.heap.size w w') := by
 unfold addr_Bit at hF
 refine calls_enter (l := [.agg (Cd.cs c_api_Addr x0).toArray, .int .i64 x1]) Try.func72 rfl rfl rfl ?_
 refine at_start ?_
 refine at_weak [(0, _), (1, _)] ⟨rfl, rfl, trivial⟩ ?_
 refine sr ?_
 refine at_box (cs := Cd.cs c_api_Addr x0) rfl rfl rfl ?_
 intro b1
 refine av rfl (r_assign rfl) ?_
 refine nwt [(1, _), (2, _)] ⟨rfl, rfl, trivial⟩ ?_
 refine at_seq ?_
 refine sr ?_
 refine av rfl (r_move rfl) ?_
 refine av rfl (r_ilss rfl rfl) ?_
 refine av rfl (r_move rfl) ?_
 rcases of_ite hF with ⟨h2, hF⟩ | ⟨h2, hF⟩
 ·refine at_fix (g := 7) rfl h2 ?_
  refine at_guard_no rfl rfl rfl rfl rfl ?_
  refine at_guard_no rfl rfl rfl rfl rfl ?_
  refine at_guard_no rfl rfl rfl rfl rfl ?_
  refine at_guard_no rfl rfl rfl rfl rfl ?_
  refine av rfl (r_pick rfl rfl rfl) ?_
  refine nwt [(1, _), (2, _), (12, _)] ⟨rfl, rfl, rfl, trivial⟩ ?_
  refine at_cond_true rfl rfl ?_
  refine sr ?_
  refine av rfl (r_assign rfl) ?_
  refine at_nil ?_
  refine at_drop (H := _) .z ?_
  refine at_weak [(4, _)] ⟨rfl, trivial⟩ ?_
  refine at_then_normal ?_
  refine rt ?_
  have K := of_some hF
  subst K
  exact at_return1 rfl rfl (fun w1 hw => ⟨rfl, hw.below⟩)
 ·refine at_fix (g := 7) rfl h2 ?_
  refine at_guard_yes rfl rfl rfl ?_
  refine av rfl (r_move rfl) ?_
  refine at_guard_yes rfl rfl rfl ?_
  refine av rfl (r_load_aggc (c := c_api_Addr) (z := x0) Try.isAgg32 Try.sizeOf32 rfl (lens_cell .z (Lens.whole _ _))) ?_
  refine at_guard_yes rfl rfl rfl ?_
  obtain ⟨t3, ht3, hF⟩ := of_bindM hF
  refine at_callB Try.func71 rfl (by kernel_rfl) rfl rfl (fun w hw => addr_Width_ok _ _ ht3 w) ?_
  refine at_guard_yes rfl rfl rfl ?_
  refine av rfl (r_igeq rfl rfl) ?_
  refine av rfl (r_pick rfl rfl rfl) ?_
  refine nwt [(1, _), (2, _), (12, _)] ⟨rfl, rfl, rfl, trivial⟩ ?_
  rcases of_ite hF with ⟨h4, hF⟩ | ⟨h4, hF⟩
  ·refine at_cond_true rfl h4 ?_
   refine sr ?_
   refine av rfl (r_assign rfl) ?_
   refine at_nil ?_
   refine at_drop (H := _) .z ?_
   refine at_weak [(4, _)] ⟨rfl, trivial⟩ ?_
   refine at_then_normal ?_
   refine rt ?_
   have K := of_some hF
   subst K
   exact at_return1 rfl rfl (fun w1 hw => ⟨rfl, hw.below⟩)
  ·refine at_cond_false rfl h4 ?_
   refine sns ?_
   refine av rfl (r_move rfl) ?_
   refine av rfl (r_ishr rfl rfl (by decide)) ?_
   refine av rfl (r_fieldAddr (fo := 1) Try.underlying32 rfl rfl (fun w => ⟨_, Try.sizeOf30 w⟩) rfl) ?_
   obtain ⟨h5, hF⟩ := of_guard hF
   refine av rfl (r_idxArr Try.underlying30 Try.sizeOf5 rfl rfl h5) ?_
   refine av rfl (r_load_cell Try.isAgg5 rfl (lens_cell0 (c := (cInt .u8)) (y := vget x0.f_B (ishr .i64 x1 3)) .z (Lens.comp (Lens.comp (Lens.whole _ _) (fun z => { x0 with f_B := z }) (c_api_Addr_f_B x0)) (fun z => vset x0.f_B (ishr .i64 x1 3) z) (Lens.vec (cInt .u8) (by decide) x0.f_B (ishr .i64 x1 3) h5)) rfl)) ?_
   refine av rfl (r_move rfl) ?_
   refine av rfl (r_iand rfl rfl) ?_
   refine av rfl (r_isub rfl rfl) ?_
   refine av rfl (r_conv Try.underlying3 Try.underlying131 rfl) ?_
   obtain ⟨h6, hF⟩ := of_guard hF
   refine av rfl (r_ishr rfl rfl h6) ?_
   refine av rfl (r_conv Try.underlying5 Try.underlying3 rfl) ?_
   refine av rfl (r_iand rfl rfl) ?_
   refine av rfl (r_assign rfl) ?_
   refine at_nil ?_
   refine at_drop (H := _) .z ?_
   refine at_weak [(4, _)] ⟨rfl, trivial⟩ ?_
   refine at_then_normal ?_
   refine at_ret ?_
   have K := of_some hF
   subst K
   exact at_return1 rfl rfl (fun w1 hw => ⟨rfl, hw.below⟩)
def cidr_Of (x0 : S_api_Addr) (x1 : Int) : Option (S_api_Prefix × Int) :=
  addr_Right x0 >>= fun t3 => if (!t3) = true then (some (({ f_A := ({ f_V := (0 : Int), f_B := (Vector.replicate 16 (0 : Int) : (Vector Int 16)) } : S_api_Addr), f_Bits := (0 : Int) } : S_api_Prefix), 1)) else (if (decide (x1 < 0)) = true then (some (({ f_A := ({ f_V := (0 : Int), f_B := (Vector.replicate 16 (0 : Int) : (Vector Int 16)) } : S_api_Addr), f_Bits := (0 : Int) } : S_api_Prefix), 6)) else (addr_Width x0 >>= fun t6 => if (decide (x1 > t6)) = true then (some (({ f_A := ({ f_V := (0 : Int), f_B := (Vector.replicate 16 (0 : Int) : (Vector Int 16)) } : S_api_Addr), f_Bits := (0 : Int) } : S_api_Prefix), 6)) else (addr_Mask x0 x1 >>= fun t8 => some ({ { ({ f_A := ({ f_V := (0 : Int), f_B := (Vector.replicate 16 (0 : Int) : (Vector Int 16)) } : S_api_Addr), f_Bits := (0 : Int) } : S_api_Prefix) with f_A := t8 } with f_Bits := x1 }, 0))))
theorem cidr_Of_ok (x0 : S_api_Addr) (x1 : Int) (r : S_api_Prefix × Int) (hF : cidr_Of x0 x1 = some r) (w : World) :
    Calls Try.prog 70 #[.agg (Cd.cs c_api_Addr x0).toArray, .int .i64 x1] w (fun e w' => e = .returned (.tuple #[.agg (Cd.cs c_api_Prefix r.1).toArray, .int .i64 r.2]) ∧ Below w.heap.size w w') := by
 unfold cidr_Of at hF
 refine calls_enter (l := [.agg (Cd.cs c_api_Addr x0).toArray, .int .i64 x1]) Try.func70 rfl rfl rfl ?_
 refine at_start ?_
 refine at_weak [(0, _), (1, _)] ⟨rfl, rfl, trivial⟩ ?_
 refine sr ?_
 refine at_box (cs := Cd.cs c_api_Addr x0) rfl rfl rfl ?_
 intro b1
 refine at_alloc (cs := Cd.cs c_api_Prefix zqU1_0) Try.zeroValue46 rfl rfl ?_
 intro b2
 refine av rfl (r_assign rfl) ?_
 refine nwt [(1, _), (2, _), (4, _)] ⟨rfl, rfl, rfl, trivial⟩ ?_
 refine at_seq ?_
 refine at_block ?_
 refine sr ?_
 refine av rfl (r_load_aggc (c := c_api_Addr) (z := x0) Try.isAgg32 Try.sizeOf32 rfl (lens_cell (.s .z) (Lens.whole _ _))) ?_
 obtain ⟨t3, ht3, hF⟩ := of_bindM hF
 refine at_callB Try.func69 rfl (by kernel_rfl) rfl rfl (fun w hw => addr_Right_ok _ _ ht3 w) ?_
 refine av rfl (r_not rfl) ?_
 refine av rfl (r_assign rfl) ?_
 refine nwt [(1, _), (2, _), (4, _), (6, _)] ⟨rfl, rfl, rfl, rfl, trivial⟩ ?_
 rcases of_ite hF with ⟨h4, hF⟩ | ⟨h4, hF⟩
 ·refine at_cond_true rfl h4 ?_
  refine sr ?_
  refine av rfl (r_build_struct (zs := Cd.cs c_api_Prefix zqU1_0) (cs := Cd.cs c_api_Prefix zqU1_0) Try.underlying46 Try.zeroValue46 rfl (places_api_Prefix_46) rfl rfl) ?_
  refine at_store (c := c_api_Prefix) (z := zqU1_0) .z (Lens.whole _ _) Try.sizeOf46 rfl rfl rfl ?_
  refine av rfl (r_assign rfl) ?_
  refine at_nil ?_
  refine at_drop (H := _) (.s .z) ?_
  refine at_weak [(4, _), (5, _)] ⟨rfl, rfl, trivial⟩ ?_
  refine at_then_normal ?_
  refine at_ret ?_
  refine at_blk_ret (at_then_ret ?_)
  have K := of_some hF
  subst K
  exact at_res2 rfl (res_cell (c := c_api_Prefix) (y := zqU1_0) rfl .z (Lens.whole _ _) Try.isAgg46 Try.sizeOf46 (.inl rfl)) (res_tmp rfl) (fun w1 hw => ⟨rfl, hw.below⟩)
 ·refine at_cond_false rfl h4 ?_
  refine sr ?_
  refine av rfl (r_move rfl) ?_
  refine av rfl (r_ilss rfl rfl) ?_
  refine av rfl (r_move rfl) ?_
  rcases of_ite hF with ⟨h5, hF⟩ | ⟨h5, hF⟩
  ·refine at_fix (g := 14) rfl h5 ?_
   refine at_guard_no rfl rfl rfl rfl rfl ?_
   refine at_guard_no rfl rfl rfl rfl rfl ?_
   refine at_guard_no rfl rfl rfl rfl rfl ?_
   refine at_guard_no rfl rfl rfl rfl rfl ?_
   refine av rfl (r_pick rfl rfl rfl) ?_
   refine av rfl (r_assign rfl) ?_
   refine nwt [(1, _), (2, _), (4, _), (11, _)] ⟨rfl, rfl, rfl, rfl, trivial⟩ ?_
   refine at_cond_true rfl rfl ?_
   refine sr ?_
   refine av rfl (r_build_struct (zs := Cd.cs c_api_Prefix zqU1_0) (cs := Cd.cs c_api_Prefix zqU1_0) Try.underlying46 Try.zeroValue46 rfl (places_api_Prefix_46) rfl rfl) ?_
   refine at_store (c := c_api_Prefix) (z := zqU1_0) .z (Lens.whole _ _) Try.sizeOf46 rfl rfl rfl ?_
   refine av rfl (r_assign rfl) ?_
   refine at_nil ?_
   refine at_drop (H := _) (.s .z) ?_
   refine at_weak [(4, _), (5, _)] ⟨rfl, rfl, trivial⟩ ?_
   refine at_then_normal ?_
   refine at_ret ?_
   refine at_blk_ret (at_then_ret ?_)
   have K := of_some hF
   subst K
   exact at_res2 rfl (res_cell (c := c_api_Prefix) (y := zqU1_0) rfl .z (Lens.whole _ _) Try.isAgg46 Try.sizeOf46 (.inl rfl)) (res_tmp rfl) (fun w1 hw => ⟨rfl, hw.below⟩)
  ·refine at_fix (g := 14) rfl h5 ?_
   refine at_guard_yes rfl rfl rfl ?_
   refine av rfl (r_move rfl) ?_
   refine at_guard_yes rfl rfl rfl ?_
   refine av rfl (r_load_aggc (c := c_api_Addr) (z := x0) Try.isAgg32 Try.sizeOf32 rfl (lens_cell (.s .z) (Lens.whole _ _))) ?_
   refine at_guard_yes rfl rfl rfl ?_
   obtain ⟨t6, ht6, hF⟩ := of_bindM hF
   refine at_callB Try.func71 rfl (by kernel_rfl) rfl rfl (fun w hw => addr_Width_ok _ _ ht6 w) ?_
   refine at_guard_yes rfl rfl rfl ?_
   refine av rfl (r_igtr rfl rfl) ?_
   refine av rfl (r_pick rfl rfl rfl) ?_
   refine av rfl (r_assign rfl) ?_
   refine nwt [(1, _), (2, _), (4, _), (11, _)] ⟨rfl, rfl, rfl, rfl, trivial⟩ ?_
   rcases of_ite hF with ⟨h7, hF⟩ | ⟨h7, hF⟩
   ·refine at_cond_true rfl h7 ?_
    refine sr ?_
    refine av rfl (r_build_struct (zs := Cd.cs c_api_Prefix zqU1_0) (cs := Cd.cs c_api_Prefix zqU1_0) Try.underlying46 Try.zeroValue46 rfl (places_api_Prefix_46) rfl rfl) ?_
    refine at_store (c := c_api_Prefix) (z := zqU1_0) .z (Lens.whole _ _) Try.sizeOf46 rfl rfl rfl ?_
    refine av rfl (r_assign rfl) ?_
    refine at_nil ?_
    refine at_drop (H := _) (.s .z) ?_
    refine at_weak [(4, _), (5, _)] ⟨rfl, rfl, trivial⟩ ?_
    refine at_then_normal ?_
    refine at_ret ?_
    refine at_blk_ret (at_then_ret ?_)
    have K := of_some hF
    subst K
    exact at_res2 rfl (res_cell (c := c_api_Prefix) (y := zqU1_0) rfl .z (Lens.whole _ _) Try.isAgg46 Try.sizeOf46 (.inl rfl)) (res_tmp rfl) (fun w1 hw => ⟨rfl, hw.below⟩)
   ·refine at_cond_false rfl h7 ?_
    refine at_skip ?_
    refine at_blk_normal (at_then_normal ?_)
    refine sr ?_
    refine av rfl (r_load_aggc (c := c_api_Addr) (z := x0) Try.isAgg32 Try.sizeOf32 rfl (lens_cell (.s .z) (Lens.whole _ _))) ?_
    refine av rfl (r_move rfl) ?_
    obtain ⟨t8, ht8, hF⟩ := of_bindM hF
    refine at_callB Try.func92 rfl (by kernel_rfl) rfl rfl (fun w hw => addr_Mask_ok _ _ _ ht8 w) ?_
    refine av rfl (r_move rfl) ?_
    refine av rfl (r_build_struct (zs := Cd.cs c_api_Prefix zqU1_0) (cs := Cd.cs c_api_Prefix ({ { zqU1_0 with f_A := t8 } with f_Bits := x1 })) Try.underlying46 Try.zeroValue46 rfl (places_api_Prefix_46) rfl (fill_step (c := c_api_Addr) (z := t8) rfl (c_api_Prefix_f_A zqU1_0) rfl (fill_step (c := (cInt .i64)) (z := x1) rfl (c_api_Prefix_f_Bits ({ zqU1_0 with f_A := t8 })) rfl rfl))) ?_
    refine at_store (c := c_api_Prefix) (z := { { zqU1_0 with f_A := t8 } with f_Bits := x1 }) .z (Lens.whole _ _) Try.sizeOf46 rfl rfl rfl ?_
    refine av rfl (r_assign rfl) ?_
    refine at_nil ?_
    refine at_drop (H := _) (.s .z) ?_
    refine at_weak [(4, _), (5, _)] ⟨rfl, rfl, trivial⟩ ?_
    refine at_then_normal ?_
    refine at_ret ?_
    have K := of_some hF
    subst K
    exact at_res2 rfl (res_cell (c := c_api_Prefix) (y := { { zqU1_0 with f_A := t8 } with f_Bits := x1 }) rfl .z (Lens.whole _ _) Try.isAgg46 Try.sizeOf46 (.inl rfl)) (res_tmp rfl) (fun w1 hw => ⟨rfl, hw.below⟩)
def cidr_Right (x0 : S_api_Prefix) : Option (Bool) :=
  cidr_Of x0.f_A x0.f_Bits >>= fun t2 => if (t2.2 == 0) = true then (some (decide (t2.1 = x0))) else (some false)
theorem cidr_Right_ok (x0 : S_api_Prefix) (r : Bool) (hF : cidr_Right x0 = some r) (w : World) :
    Calls Try.prog 55 #[.agg (Cd.cs c_api_Prefix x0).toArray] w (fun e w' => e = .returned (.bool r) ∧ Below w.heap.size w w') := by
 unfold cidr_Right at hF
 refine calls_enter (l := [.agg (Cd.cs c_api_Prefix x0).toArray]) Try.func55 rfl rfl rfl ?_
 refine at_start ?_
 refine at_weak [(0, _)] ⟨rfl, trivial⟩ ?_
 refine sr ?_
 refine at_box (cs := Cd.cs c_api_Prefix x0) rfl rfl rfl ?_
 intro b1
 refine av rfl (r_assign rfl) ?_
 refine nws [(1, _)] ⟨rfl, trivial⟩ ?_
 refine av rfl (r_fieldAddr (fo := 0) Try.underlying46 rfl rfl (fun w => ⟨_, Try.sizeOf32 w⟩) rfl) ?_
 refine av rfl (r_load_aggc (c := c_api_Addr) (z := x0.f_A) Try.isAgg32 Try.sizeOf32 rfl (lens_cell .z (Lens.comp (Lens.whole _ _) (fun z => { x0 with f_A := z }) (c_api_Prefix_f_A x0)))) ?_
 refine av rfl (r_fieldAddr (fo := 17) Try.underlying46 rfl rfl (fun w => ⟨_, Try.sizeOf3 w⟩) rfl) ?_
 refine av rfl (r_load_cell Try.isAgg3 rfl (lens_cell0 (c := (cInt .i64)) (y := x0.f_Bits) .z (Lens.comp (Lens.whole _ _) (fun z => { x0 with f_Bits := z }) (c_api_Prefix_f_Bits x0)) rfl)) ?_
 obtain ⟨t2, ht2, hF⟩ := of_bindM hF
 refine at_callB Try.func70 rfl (by kernel_rfl) rfl rfl (fun w hw => cidr_Of_ok _ _ _ ht2 w) ?_
 refine av rfl (r_move rfl) ?_
 refine av rfl (r_extract rfl rfl) ?_
 refine av rfl (r_extract rfl rfl) ?_
 refine at_alloc (cs := Cd.cs c_api_Prefix zqU1_0) Try.zeroValue46 rfl rfl ?_
 intro b3
 refine at_store (c := c_api_Prefix) (z := t2.1) .z (Lens.whole _ _) Try.sizeOf46 rfl rfl rfl ?_
 refine av rfl (r_assign rfl) ?_
 refine nws [(1, _), (3, _), (4, _)] ⟨rfl, rfl, rfl, trivial⟩ ?_
 refine av rfl (r_move rfl) ?_
 refine av rfl (r_ieql rfl rfl) ?_
 refine av rfl (r_move rfl) ?_
 rcases of_ite hF with ⟨h4, hF⟩ | ⟨h4, hF⟩
 ·refine at_fix (g := 15) rfl h4 ?_
  refine at_guard_yes rfl rfl rfl ?_
  refine av rfl (r_load_aggc (c := c_api_Prefix) (z := t2.1) Try.isAgg46 Try.sizeOf46 rfl (lens_cell .z (Lens.whole _ _))) ?_
  refine at_guard_yes rfl rfl rfl ?_
  refine av rfl (r_load_aggc (c := c_api_Prefix) (z := x0) Try.isAgg46 Try.sizeOf46 rfl (lens_cell (.s .z) (Lens.whole _ _))) ?_
  refine at_guard_yes rfl rfl rfl ?_
  refine av rfl (r_eqagg (c := c_api_Prefix) (a := t2.1) (b := x0) (eq_api_Prefix_46) rfl Try.eqGuardType46 rfl rfl (.inl rfl) rfl) ?_
  refine av rfl (r_pick rfl rfl rfl) ?_
  refine av rfl (r_assign rfl) ?_
  refine at_nil ?_
  refine at_drop (H := _) .z ?_
  refine at_drop (H := _) .z ?_
  refine at_weak [(2, _)] ⟨rfl, trivial⟩ ?_
  refine at_then_normal ?_
  refine at_ret ?_
  have K := of_some hF
  subst K
  exact at_return1 rfl rfl (fun w1 hw => ⟨rfl, hw.below⟩)
 ·refine at_fix (g := 15) rfl h4 ?_
  refine at_guard_no rfl rfl rfl rfl rfl ?_
  refine at_guard_no rfl rfl rfl rfl rfl ?_
  refine at_guard_no rfl rfl rfl rfl rfl ?_
  refine av rfl (r_pick rfl rfl rfl) ?_
  refine av rfl (r_assign rfl) ?_
  refine at_nil ?_
  refine at_drop (H := _) .z ?_
  refine at_drop (H := _) .z ?_
  refine at_weak [(2, _)] ⟨rfl, trivial⟩ ?_
  refine at_then_normal ?_
  refine at_ret ?_
  have K := of_some hF
  subst K
  exact at_return1 rfl rfl (fun w1 hw => ⟨rfl, hw.below⟩)
def crawlwayref10_Right.l0 (x0 : S_api_Addr) (i4 : Int) : Option (Ctl (Bool) (Unit)) :=
  if (decide (i4 < 16)) = true then (if (0 : Int) ≤ i4 ∧ i4 < 16 then if (vget x0.f_B i4 != 0) = true then (some (.ret false)) else (crawlwayref10_Right.l0 x0 (wr .i64 (i4 + 1))) else none) else (some (.nx ()))
  partial_fixpoint
def crawlwayref10_Right (x0 : S_api_Addr) : Option (Bool) :=
  if (x0.f_V == 6) = true then (some true) else (crawlwayref10_Right.l0 x0 4 >>= fun q3 => match q3 with | .ret r' => some r' | .nx sq3 => (some (x0.f_V == 4)))
theorem crawlwayref10_Right_ok (x0 : S_api_Addr) (r : Bool) (hF : crawlwayref10_Right x0 = some r) (w : World) :
    Calls Try.prog 84 #[.agg (Cd.cs c_api_Addr x0).toArray] w (fun e w' => e = .returned (.bool r) ∧ Below w.heap.size w w') := by
 unfold crawlwayref10_Right at hF
 refine calls_enter (l := [.agg (Cd.cs c_api_Addr x0).toArray]) Try.func84 rfl rfl rfl ?_
 refine at_start ?_
 refine at_weak [(0, _)] ⟨rfl, trivial⟩ ?_
 refine sr ?_
 refine at_box (cs := Cd.cs c_api_Addr x0) rfl rfl rfl ?_
 intro b1
 refine av rfl (r_assign rfl) ?_
 refine nwt [(1, _)] ⟨rfl, trivial⟩ ?_
 refine at_seq ?_
 refine sr ?_
 refine av rfl (r_fieldAddr (fo := 0) Try.underlying32 rfl rfl (fun w => ⟨_, Try.sizeOf3 w⟩) rfl) ?_
 refine av rfl (r_load_cell Try.isAgg3 rfl (lens_cell0 (c := (cInt .i64)) (y := x0.f_V) .z (Lens.comp (Lens.whole _ _) (fun z => { x0 with f_V := z }) (c_api_Addr_f_V x0)) rfl)) ?_
 refine av rfl (r_ieql rfl rfl) ?_
 refine nwt [(1, _), (6, _)] ⟨rfl, rfl, trivial⟩ ?_
 rcases of_ite hF with ⟨h2, hF⟩ | ⟨h2, hF⟩
 ·refine at_cond_true rfl h2 ?_
  refine sr ?_
  refine av rfl (r_assign rfl) ?_
  refine at_nil ?_
  refine at_drop (H := _) .z ?_
  refine at_weak [(2, _)] ⟨rfl, trivial⟩ ?_
  refine at_then_normal ?_
  refine rt ?_
  have K := of_some hF
  subst K
  exact at_return1 rfl rfl (fun w1 hw => ⟨rfl, hw.below⟩)
 ·refine at_cond_false rfl h2 ?_
  refine sn ?_
  refine at_seq ?_
  refine sr ?_
  refine av rfl (r_assign rfl) ?_
  refine nwt [(1, _), (3, _)] ⟨rfl, rfl, trivial⟩ ?_
  refine at_block ?_
  obtain ⟨q3, hq3, hF⟩ := of_bindM hF
  refine at_weak [(1, _), (3, _)] ⟨rfl, rfl, trivial⟩ ?_
  refine at_loop_r (B := 0) (r := r) (q := q3) (A := fun (_ : Unit) Y => At 19 [(1, .pointer (some ⟨b1, 0, none⟩))] (Wd w [cellsE b1 (Cd.cs c_api_Addr x0) 32]) Y) ?_ ?_
  ·intro K
   refine crawlwayref10_Right.l0.partial_correctness x0 (motive := fun i4 x => KR (fun (_ : Unit) Y => At 19 [(1, .pointer (some ⟨b1, 0, none⟩))] (Wd w [cellsE b1 (Cd.cs c_api_Addr x0) 32]) Y) _ 0 r x → Round (fun Y => At 19 [(1, .pointer (some ⟨b1, 0, none⟩)), (3, .int .i64 i4)] (Wd w [cellsE b1 (Cd.cs c_api_Addr x0) 32]) Y) _ _ _) ?_ _ _ hq3 K
   ·clear K hF
    intro g ih i4 x hF K
    refine at_round ?_
    refine at_seq ?_
    refine sr ?_
    refine av rfl (r_move rfl) ?_
    refine av rfl (r_ilss rfl rfl) ?_
    refine nwt [(1, _), (3, _), (8, _)] ⟨rfl, rfl, rfl, trivial⟩ ?_
    rcases of_ite hF with ⟨h5, hF⟩ | ⟨h5, hF⟩
    ·refine at_cond_true rfl h5 ?_
     refine sn ?_
     refine at_seq ?_
     refine at_block ?_
     refine sr ?_
     refine av rfl (r_move rfl) ?_
     refine av rfl (r_fieldAddr (fo := 1) Try.underlying32 rfl rfl (fun w => ⟨_, Try.sizeOf30 w⟩) rfl) ?_
     obtain ⟨h6, hF⟩ := of_guard hF
     refine av rfl (r_idxArr Try.underlying30 Try.sizeOf5 rfl rfl h6) ?_
     refine av rfl (r_load_cell Try.isAgg5 rfl (lens_cell0 (c := (cInt .u8)) (y := vget x0.f_B i4) .z (Lens.comp (Lens.comp (Lens.whole _ _) (fun z => { x0 with f_B := z }) (c_api_Addr_f_B x0)) (fun z => vset x0.f_B i4 z) (Lens.vec (cInt .u8) (by decide) x0.f_B i4 h6)) rfl)) ?_
     refine av rfl (r_ineq rfl rfl) ?_
     refine nwt [(1, _), (3, _), (15, _)] ⟨rfl, rfl, rfl, trivial⟩ ?_
     rcases of_ite hF with ⟨h7, hF⟩ | ⟨h7, hF⟩
     ·refine at_cond_true rfl h7 ?_
      refine sr ?_
      refine av rfl (r_assign rfl) ?_
      refine at_nil ?_
      refine at_drop (H := _) .z ?_
      refine at_weak [(2, _)] ⟨rfl, trivial⟩ ?_
      refine at_then_normal ?_
      refine at_ret ?_
      refine at_blk_ret (at_then_ret (at_then_ret (at_blk_ret (at_then_ret ?_))))
      obtain rfl := of_some hF
      subst K
      exact at_return1 rfl rfl (fun w1 hw => ⟨rfl, hw.below⟩)
     ·refine at_cond_false rfl h7 ?_
      refine at_skip ?_
      refine at_blk_normal (at_then_normal ?_)
      refine at_region ?_
      refine av rfl (r_move rfl) ?_
      refine av rfl (r_iadd rfl rfl) ?_
      refine av rfl (r_assign rfl) ?_
      refine nwt [(1, _), (3, _)] ⟨rfl, rfl, trivial⟩ ?_
      exact at_weak_k (ih _ _ hF K) ⟨rfl, rfl, trivial⟩
    ·refine at_cond_false rfl h5 ?_
     refine at_exit ?_
     refine at_then_exit (at_then_exit ?_)
     obtain rfl := of_some hF
     exact at_weak_k K ⟨rfl, trivial⟩
  ·cases q3 with
   | ret r' => exact of_some hF
   | nx sq3 =>
    skip
    refine at_blk_same ?_
    refine at_then_normal ?_
    refine sr ?_
    refine av rfl (r_fieldAddr (fo := 0) Try.underlying32 rfl rfl (fun w => ⟨_, Try.sizeOf3 w⟩) rfl) ?_
    refine av rfl (r_load_cell Try.isAgg3 rfl (lens_cell0 (c := (cInt .i64)) (y := x0.f_V) .z (Lens.comp (Lens.whole _ _) (fun z => { x0 with f_V := z }) (c_api_Addr_f_V x0)) rfl)) ?_
    refine av rfl (r_ieql rfl rfl) ?_
    refine av rfl (r_assign rfl) ?_
    refine at_nil ?_
    refine at_drop (H := _) .z ?_
    refine at_weak [(2, _)] ⟨rfl, trivial⟩ ?_
    refine at_then_normal ?_
    refine at_ret ?_
    have K := of_some hF
    subst K
    exact at_return1 rfl rfl (fun w1 hw => ⟨rfl, hw.below⟩)
def crawlwayref10_Width (x0 : S_api_Addr) : Option (Int) :=
  crawlwayref10_Right x0 >>= fun t2 => if (!t2) = true then (some 0) else (if (x0.f_V == 4) = true then (some 32) else (some 128))
theorem crawlwayref10_Width_ok (x0 : S_api_Addr) (r : Int) (hF : crawlwayref10_Width x0 = some r) (w : World) :
    Calls Try.prog 85 #[.agg (Cd.cs c_api_Addr x0).toArray] w (fun e w' => e = .returned (.int .i64 r) ∧ Below w.heap.size w w') := by
 unfold crawlwayref10_Width at hF
 refine calls_enter (l := [.agg (Cd.cs c_api_Addr x0).toArray]) Try.func85 rfl rfl rfl ?_
 refine at_start ?_
 refine at_weak [(0, _)] ⟨rfl, trivial⟩ ?_
 refine sr ?_
 refine at_box (cs := Cd.cs c_api_Addr x0) rfl rfl rfl ?_
 intro b1
 refine av rfl (r_assign rfl) ?_
 refine nwt [(1, _)] ⟨rfl, trivial⟩ ?_
 refine at_seq ?_
 refine sr ?_
 refine av rfl (r_load_aggc (c := c_api_Addr) (z := x0) Try.isAgg32 Try.sizeOf32 rfl (lens_cell .z (Lens.whole _ _))) ?_
 obtain ⟨t2, ht2, hF⟩ := of_bindM hF
 refine at_callB Try.func84 rfl (by kernel_rfl) rfl rfl (fun w hw => crawlwayref10_Right_ok _ _ ht2 w) ?_
 refine av rfl (r_not rfl) ?_
 refine nwt [(1, _), (5, _)] ⟨rfl, rfl, trivial⟩ ?_
 rcases of_ite hF with ⟨h3, hF⟩ | ⟨h3, hF⟩
 ·refine at_cond_true rfl h3 ?_
  refine sr ?_
  refine av rfl (r_assign rfl) ?_
  refine at_nil ?_
  refine at_drop (H := _) .z ?_
  refine at_weak [(2, _)] ⟨rfl, trivial⟩ ?_
  refine at_then_normal ?_
  refine rt ?_
  have K := of_some hF
  subst K
  exact at_return1 rfl rfl (fun w1 hw => ⟨rfl, hw.below⟩)
 ·refine at_cond_false rfl h3 ?_
  refine sn ?_
  refine at_seq ?_
  refine sr ?_
  refine av rfl (r_fieldAddr (fo := 0) Try.underlying32 rfl rfl (fun w => ⟨_, Try.sizeOf3 w⟩) rfl) ?_
  refine av rfl (r_load_cell Try.isAgg3 rfl (lens_cell0 (c := (cInt .i64)) (y := x0.f_V) .z (Lens.comp (Lens.whole _ _) (fun z => { x0 with f_V := z }) (c_api_Addr_f_V x0)) rfl)) ?_
  refine av rfl (r_ieql rfl rfl) ?_
  refine at_nil ?_
  refine at_drop (H := _) .z ?_
  refine at_weak [(8, _)] ⟨rfl, trivial⟩ ?_
  refine at_then_normal ?_
  rcases of_ite hF with ⟨h4, hF⟩ | ⟨h4, hF⟩
  ·refine at_cond_true rfl h4 ?_
   refine sr ?_
   refine av rfl (r_assign rfl) ?_
   refine nwt [(2, _)] ⟨rfl, trivial⟩ ?_
   refine rt ?_
   have K := of_some hF
   subst K
   exact at_return1 rfl rfl (fun w1 hw => ⟨rfl, hw.below⟩)
  ·refine at_cond_false rfl h4 ?_
   refine sns ?_
   refine av rfl (r_assign rfl) ?_
   refine nwt [(2, _)] ⟨rfl, trivial⟩ ?_
   refine at_ret ?_
   have K := of_some hF
   subst K
   exact at_return1 rfl rfl (fun w1 hw => ⟨rfl, hw.below⟩)
def crawlwayref10_digit.l0 (x1 : Int) (i4 : Int) (i5 : Int) : Option (Int) :=
  if (decide (i5 > Int.tmod x1 8)) = true then (crawlwayref10_digit.l0 x1 (wr .i64 (Int.tdiv i4 2)) (wr .i64 (i5 - 1))) else (some i4)
  partial_fixpoint
def crawlwayref10_digit (x0 : S_api_Addr) (x1 : Int) : Option (Int) :=
  if (0 : Int) ≤ wr .i64 (Int.tdiv x1 8) ∧ wr .i64 (Int.tdiv x1 8) < 16 then crawlwayref10_digit.l0 x1 (wr .i64 (vget x0.f_B (wr .i64 (Int.tdiv x1 8)))) 7 >>= fun q3 => some (Int.tmod q3 2) else none
theorem crawlwayref10_digit_ok (x0 : S_api_Addr) (x1 : Int) (r : Int) (hF : crawlwayref10_digit x0 x1 = some r) (w : World) :
    Calls Try.prog 95 #[.agg (Cd.cs c_api_Addr x0).toArray, .int .i64 x1] w (fun e w' => e = .returned (.int .i64 r) ∧ Below w.heap.size w w') := by
 unfold crawlwayref10_digit at hF
 refine calls_enter (l := [.agg (Cd.cs c_api_Addr x0).toArray, .int .i64 x1]) Try.func95 rfl rfl rfl ?_
 refine at_start ?_
 refine at_weak [(0, _), (1, _)] ⟨rfl, rfl, trivial⟩ ?_
 refine sr ?_
 refine at_box (cs := Cd.cs c_api_Addr x0) rfl rfl rfl ?_
 intro b1
 refine av rfl (r_assign rfl) ?_
 refine nws [(1, _), (2, _)] ⟨rfl, rfl, trivial⟩ ?_
 refine av rfl (r_move rfl) ?_
 refine av rfl (r_iquo rfl rfl (by decide)) ?_
 refine av rfl (r_fieldAddr (fo := 1) Try.underlying32 rfl rfl (fun w => ⟨_, Try.sizeOf30 w⟩) rfl) ?_
 obtain ⟨h2, hF⟩ := of_guard hF
 refine av rfl (r_idxArr Try.underlying30 Try.sizeOf5 rfl rfl h2) ?_
 refine av rfl (r_load_cell Try.isAgg5 rfl (lens_cell0 (c := (cInt .u8)) (y := vget x0.f_B (wr .i64 (Int.tdiv x1 8))) .z (Lens.comp (Lens.comp (Lens.whole _ _) (fun z => { x0 with f_B := z }) (c_api_Addr_f_B x0)) (fun z => vset x0.f_B (wr .i64 (Int.tdiv x1 8)) z) (Lens.vec (cInt .u8) (by decide) x0.f_B (wr .i64 (Int.tdiv x1 8)) h2)) rfl)) ?_
 refine av rfl (r_conv Try.underlying5 Try.underlying3 rfl) ?_
 refine av rfl (r_assign rfl) ?_
 refine at_nil ?_
 refine at_drop (H := _) .z ?_
 refine at_weak [(1, _), (5, _)] ⟨rfl, rfl, trivial⟩ ?_
 refine at_then_normal ?_
 refine at_seq ?_
 refine sr ?_
 refine av rfl (r_assign rfl) ?_
 refine nwt [(1, _), (5, _), (6, _)] ⟨rfl, rfl, rfl, trivial⟩ ?_
 refine at_block ?_
 obtain ⟨q3, hq3, hF⟩ := of_bindM hF
 refine at_weak [(1, _), (5, _), (6, _)] ⟨rfl, rfl, rfl, trivial⟩ ?_
 refine at_loop_n (B := 0) (A := fun Y => At 23 [(5, .int .i64 q3)] (Wd w []) Y) ?_ ?_
 ·intro K
  refine crawlwayref10_digit.l0.partial_correctness x1 (motive := fun i4 i5 x => KN (fun Y => At 23 [(5, .int .i64 x)] (Wd w []) Y) _ 0 → Round (fun Y => At 23 [(1, .int .i64 x1), (5, .int .i64 i4), (6, .int .i64 i5)] (Wd w []) Y) _ _ _) ?_ _ _ _ hq3 K
  ·clear K hF
   intro g ih i4 i5 x hF K
   refine at_round ?_
   refine at_seq ?_
   refine sr ?_
   refine av rfl (r_move rfl) ?_
   refine av rfl (r_move rfl) ?_
   refine av rfl (r_irem rfl rfl (by decide)) ?_
   refine av rfl (r_igtr rfl rfl) ?_
   refine nwt [(1, _), (5, _), (6, _), (16, _)] ⟨rfl, rfl, rfl, rfl, trivial⟩ ?_
   rcases of_ite hF with ⟨h6, hF⟩ | ⟨h6, hF⟩
   ·refine at_cond_true rfl h6 ?_
    refine sn ?_
    refine at_seq ?_
    refine at_block ?_
    refine at_region ?_
    refine av rfl (r_move rfl) ?_
    refine av rfl (r_iquo rfl rfl (by decide)) ?_
    refine av rfl (r_assign rfl) ?_
    refine at_nil ?_
    refine at_weak [(1, _), (5, _), (6, _)] ⟨rfl, rfl, rfl, trivial⟩ ?_
    refine at_blk_normal (at_then_normal ?_)
    refine at_region ?_
    refine av rfl (r_move rfl) ?_
    refine av rfl (r_isub rfl rfl) ?_
    refine av rfl (r_assign rfl) ?_
    refine nwt [(1, _), (5, _), (6, _)] ⟨rfl, rfl, rfl, trivial⟩ ?_
    exact at_weak_k (ih _ _ _ hF K) ⟨rfl, rfl, rfl, trivial⟩
   ·refine at_cond_false rfl h6 ?_
    refine at_exit ?_
    refine at_then_exit (at_then_exit ?_)
    obtain rfl := of_some hF
    exact at_weak_k K ⟨rfl, trivial⟩
 ·skip
  skip
  refine at_blk_same ?_
  refine at_then_normal ?_
  refine sr ?_
  refine av rfl (r_move rfl) ?_
  refine av rfl (r_irem rfl rfl (by decide)) ?_
  refine av rfl (r_assign rfl) ?_
  refine nwt [(4, _)] ⟨rfl, trivial⟩ ?_
  refine at_ret ?_
  have K := of_some hF
  subst K
  exact at_return1 rfl rfl (fun w1 hw => ⟨rfl, hw.below⟩)
def crawlwayref10_Mask.l1 (i8 : Int) (i15 : Int) (i16 : Int) : Option (Int) :=
  if (decide (i16 < Int.tmod i8 8)) = true then (crawlwayref10_Mask.l1 i8 (wr .i64 (Int.tdiv i15 2)) (wr .i64 (i16 + 1))) else (some i15)
  partial_fixpoint
def crawlwayref10_Mask.l0 (x0 : S_api_Addr) (x1 : Int) (t6 : Int) (i8 : Int) (i9 : S_api_Addr) : Option (S_api_Addr) :=
  if (decide (i8 < t6)) = true then (if (decide (i8 < x1)) = true then (crawlwayref10_digit x0 i8 >>= fun t12 => if (t12 == 1) = true then (crawlwayref10_Mask.l1 i8 128 0 >>= fun q14 => if (0 : Int) ≤ wr .i64 (Int.tdiv i8 8) ∧ wr .i64 (Int.tdiv i8 8) < 16 then if (0 : Int) ≤ wr .i64 (Int.tdiv i8 8) ∧ wr .i64 (Int.tdiv i8 8) < 16 then crawlwayref10_Mask.l0 x0 x1 t6 (wr .i64 (i8 + 1)) ({ i9 with f_B := vset i9.f_B (wr .i64 (Int.tdiv i8 8)) (wr .u8 ((vget i9.f_B (wr .i64 (Int.tdiv i8 8))) + (wr .u8 q14))) }) else none else none) else (crawlwayref10_Mask.l0 x0 x1 t6 (wr .i64 (i8 + 1)) i9)) else (some i9)) else (some i9)
  partial_fixpoint
def crawlwayref10_Mask (x0 : S_api_Addr) (x1 : Int) : Option (S_api_Addr) :=
  crawlwayref10_Right x0 >>= fun t3 => if (!t3) = true then (some ({ f_V := (0 : Int), f_B := (Vector.replicate 16 (0 : Int) : (Vector Int 16)) } : S_api_Addr)) else (crawlwayref10_Width x0 >>= fun t6 => crawlwayref10_Mask.l0 x0 x1 t6 0 ({ ({ f_V := (0 : Int), f_B := (Vector.replicate 16 (0 : Int) : (Vector Int 16)) } : S_api_Addr) with f_V := x0.f_V }) >>= fun q7 => some q7)
theorem crawlwayref10_Mask_ok (x0 : S_api_Addr) (x1 : Int) (r : S_api_Addr) (hF : crawlwayref10_Mask x0 x1 = some r) (w : World) :
    Calls Try.prog 86 #[.agg (Cd.cs c_api_Addr x0).toArray, .int .i64 x1] w (fun e w' => e = .returned (.agg (Cd.cs c_api_Addr r).toArray) ∧ Below w.heap.size w w') := by
 unfold crawlwayref10_Mask at hF
 refine calls_enter (l := [.agg (Cd.cs c_api_Addr x0).toArray, .int .i64 x1]) Try.func86 rfl rfl rfl ?_
 refine at_start ?_
 refine at_weak [(0, _), (1, _)] ⟨rfl, rfl, trivial⟩ ?_
 refine sr ?_
 refine at_box (cs := Cd.cs c_api_Addr x0) rfl rfl rfl ?_
 intro b1
 refine at_alloc (cs := Cd.cs c_api_Addr zqU1_1) Try.zeroValue32 rfl rfl ?_
 intro b2
 refine nwt [(1, _), (2, _), (4, _)] ⟨rfl, rfl, rfl, trivial⟩ ?_
 refine at_seq ?_
 refine sr ?_
 refine av rfl (r_load_aggc (c := c_api_Addr) (z := x0) Try.isAgg32 Try.sizeOf32 rfl (lens_cell (.s .z) (Lens.whole _ _))) ?_
 obtain ⟨t3, ht3, hF⟩ := of_bindM hF
 refine at_callB Try.func84 rfl (by kernel_rfl) rfl rfl (fun w hw => crawlwayref10_Right_ok _ _ ht3 w) ?_
 refine av rfl (r_not rfl) ?_
 refine nwt [(1, _), (2, _), (4, _), (12, _)] ⟨rfl, rfl, rfl, rfl, trivial⟩ ?_
 rcases of_ite hF with ⟨h4, hF⟩ | ⟨h4, hF⟩
 ·refine at_cond_true rfl h4 ?_
  refine sr ?_
  refine av rfl (r_build_struct (zs := Cd.cs c_api_Addr zqU1_1) (cs := Cd.cs c_api_Addr zqU1_1) Try.underlying32 Try.zeroValue32 rfl (places_api_Addr_32) rfl rfl) ?_
  refine at_store (c := c_api_Addr) (z := zqU1_1) .z (Lens.whole _ _) Try.sizeOf32 rfl rfl rfl ?_
  refine at_nil ?_
  refine at_drop (H := _) (.s .z) ?_
  refine at_weak [(4, _)] ⟨rfl, trivial⟩ ?_
  refine at_then_normal ?_
  refine rt ?_
  have K := of_some hF
  subst K
  exact at_res1 rfl (res_cell (c := c_api_Addr) (y := zqU1_1) rfl .z (Lens.whole _ _) Try.isAgg32 Try.sizeOf32 (.inl rfl)) (fun w1 hw => ⟨rfl, hw.below⟩)
 ·refine at_cond_false rfl h4 ?_
  refine sns ?_
  refine av rfl (r_fieldAddr (fo := 0) Try.underlying32 rfl rfl (fun w => ⟨_, Try.sizeOf3 w⟩) rfl) ?_
  refine av rfl (r_load_cell Try.isAgg3 rfl (lens_cell0 (c := (cInt .i64)) (y := x0.f_V) (.s .z) (Lens.comp (Lens.whole _ _) (fun z => { x0 with f_V := z }) (c_api_Addr_f_V x0)) rfl)) ?_
  refine av rfl (r_build_struct (zs := Cd.cs c_api_Addr zqU1_1) (cs := Cd.cs c_api_Addr ({ zqU1_1 with f_V := x0.f_V })) Try.underlying32 Try.zeroValue32 rfl (places_api_Addr_32) rfl (fill_step (c := (cInt .i64)) (z := x0.f_V) rfl (c_api_Addr_f_V zqU1_1) rfl rfl)) ?_
  refine at_alloc (cs := Cd.cs c_api_Addr zqU1_1) Try.zeroValue32 rfl rfl ?_
  intro b5
  refine at_store (c := c_api_Addr) (z := { zqU1_1 with f_V := x0.f_V }) .z (Lens.whole _ _) Try.sizeOf32 rfl rfl rfl ?_
  refine nws [(1, _), (2, _), (4, _), (5, _)] ⟨rfl, rfl, rfl, rfl, trivial⟩ ?_
  refine av rfl (r_load_aggc (c := c_api_Addr) (z := x0) Try.isAgg32 Try.sizeOf32 rfl (lens_cell (.s (.s .z)) (Lens.whole _ _))) ?_
  obtain ⟨t6, ht6, hF⟩ := of_bindM hF
  refine at_callB Try.func85 rfl (by kernel_rfl) rfl rfl (fun w hw => crawlwayref10_Width_ok _ _ ht6 w) ?_
  refine av rfl (r_assign rfl) ?_
  refine nwt [(1, _), (2, _), (4, _), (5, _), (6, _)] ⟨rfl, rfl, rfl, rfl, rfl, trivial⟩ ?_
  refine at_seq ?_
  refine sr ?_
  refine av rfl (r_assign rfl) ?_
  refine nwt [(1, _), (2, _), (4, _), (5, _), (6, _), (7, _)] ⟨rfl, rfl, rfl, rfl, rfl, rfl, trivial⟩ ?_
  refine at_block ?_
  obtain ⟨q7, hq7, hF⟩ := of_bindM hF
  refine at_weak [(1, _), (2, _), (4, _), (5, _), (6, _), (7, _)] ⟨rfl, rfl, rfl, rfl, rfl, rfl, trivial⟩ ?_
  refine at_loop_n (B := 0) (A := fun Y => At 54 [(4, .pointer (some ⟨b2, 0, none⟩)), (5, .pointer (some ⟨b5, 0, none⟩))] (Wd w [cellsE b5 (Cd.cs c_api_Addr q7) 32, cellsE b2 (Cd.cs c_api_Addr zqU1_1) 32]) Y) ?_ ?_
  ·intro K
   refine crawlwayref10_Mask.l0.partial_correctness x0 x1 t6 (motive := fun i8 i9 x => KN (fun Y => At 54 [(4, .pointer (some ⟨b2, 0, none⟩)), (5, .pointer (some ⟨b5, 0, none⟩))] (Wd w [cellsE b5 (Cd.cs c_api_Addr x) 32, cellsE b2 (Cd.cs c_api_Addr zqU1_1) 32]) Y) _ 0 → Round (fun Y => At 54 [(1, .int .i64 x1), (2, .pointer (some ⟨b1, 0, none⟩)), (4, .pointer (some ⟨b2, 0, none⟩)), (5, .pointer (some ⟨b5, 0, none⟩)), (6, .int .i64 t6), (7, .int .i64 i8)] (Wd w [cellsE b5 (Cd.cs c_api_Addr i9) 32, cellsE b2 (Cd.cs c_api_Addr zqU1_1) 32, cellsE b1 (Cd.cs c_api_Addr x0) 32]) Y) _ _ _) ?_ _ _ _ hq7 K
   ·clear K hF
    intro g ih i8 i9 x hF K
    refine at_round ?_
    refine at_seq ?_
    refine sr ?_
    refine av rfl (r_move rfl) ?_
    refine av rfl (r_move rfl) ?_
    refine av rfl (r_ilss rfl rfl) ?_
    refine av rfl (r_move rfl) ?_
    rcases of_ite hF with ⟨h10, hF⟩ | ⟨h10, hF⟩
    ·refine at_fix (g := 22) rfl h10 ?_
     refine at_guard_yes rfl rfl rfl ?_
     refine av rfl (r_move rfl) ?_
     refine at_guard_yes rfl rfl rfl ?_
     refine av rfl (r_move rfl) ?_
     refine at_guard_yes rfl rfl rfl ?_
     refine av rfl (r_ilss rfl rfl) ?_
     refine av rfl (r_pick rfl rfl rfl) ?_
     refine nwt [(1, _), (2, _), (4, _), (5, _), (6, _), (7, _), (26, _)] ⟨rfl, rfl, rfl, rfl, rfl, rfl, rfl, trivial⟩ ?_
     rcases of_ite hF with ⟨h11, hF⟩ | ⟨h11, hF⟩
     ·refine at_cond_true rfl h11 ?_
      refine sn ?_
      refine at_seq ?_
      refine at_block ?_
      refine sr ?_
      refine av rfl (r_load_aggc (c := c_api_Addr) (z := x0) Try.isAgg32 Try.sizeOf32 rfl (lens_cell (.s (.s .z)) (Lens.whole _ _))) ?_
      refine av rfl (r_move rfl) ?_
      obtain ⟨t12, ht12, hF⟩ := of_bindM hF
      refine at_callB Try.func95 rfl (by kernel_rfl) rfl rfl (fun w hw => crawlwayref10_digit_ok _ _ _ ht12 w) ?_
      refine av rfl (r_ieql rfl rfl) ?_
      refine nwt [(1, _), (2, _), (4, _), (5, _), (6, _), (7, _), (32, _)] ⟨rfl, rfl, rfl, rfl, rfl, rfl, rfl, trivial⟩ ?_
      rcases of_ite hF with ⟨h13, hF⟩ | ⟨h13, hF⟩
      ·refine at_cond_true rfl h13 ?_
       refine sr ?_
       refine av rfl (r_assign rfl) ?_
       refine nwt [(1, _), (2, _), (4, _), (5, _), (6, _), (7, _), (8, _)] ⟨rfl, rfl, rfl, rfl, rfl, rfl, rfl, trivial⟩ ?_
       refine at_seq ?_
       refine sr ?_
       refine av rfl (r_assign rfl) ?_
       refine nwt [(1, _), (2, _), (4, _), (5, _), (6, _), (7, _), (8, _), (9, _)] ⟨rfl, rfl, rfl, rfl, rfl, rfl, rfl, rfl, trivial⟩ ?_
       refine at_block ?_
       obtain ⟨q14, hq14, hF⟩ := of_bindM hF
       refine at_weak [(1, _), (2, _), (4, _), (5, _), (6, _), (7, _), (8, _), (9, _)] ⟨rfl, rfl, rfl, rfl, rfl, rfl, rfl, rfl, trivial⟩ ?_
       refine at_loop_n (B := 2) (A := fun Y => At 54 [(1, .int .i64 x1), (2, .pointer (some ⟨b1, 0, none⟩)), (4, .pointer (some ⟨b2, 0, none⟩)), (5, .pointer (some ⟨b5, 0, none⟩)), (6, .int .i64 t6), (7, .int .i64 i8), (8, .int .i64 q14)] (Wd w [cellsE b5 (Cd.cs c_api_Addr i9) 32, cellsE b2 (Cd.cs c_api_Addr zqU1_1) 32, cellsE b1 (Cd.cs c_api_Addr x0) 32]) Y) ?_ ?_
       ·intro K
        refine crawlwayref10_Mask.l1.partial_correctness i8 (motive := fun i15 i16 x => KN (fun Y => At 54 [(1, .int .i64 x1), (2, .pointer (some ⟨b1, 0, none⟩)), (4, .pointer (some ⟨b2, 0, none⟩)), (5, .pointer (some ⟨b5, 0, none⟩)), (6, .int .i64 t6), (7, .int .i64 i8), (8, .int .i64 x)] (Wd w [cellsE b5 (Cd.cs c_api_Addr i9) 32, cellsE b2 (Cd.cs c_api_Addr zqU1_1) 32, cellsE b1 (Cd.cs c_api_Addr x0) 32]) Y) _ 2 → Round (fun Y => At 54 [(1, .int .i64 x1), (2, .pointer (some ⟨b1, 0, none⟩)), (4, .pointer (some ⟨b2, 0, none⟩)), (5, .pointer (some ⟨b5, 0, none⟩)), (6, .int .i64 t6), (7, .int .i64 i8), (8, .int .i64 i15), (9, .int .i64 i16)] (Wd w [cellsE b5 (Cd.cs c_api_Addr i9) 32, cellsE b2 (Cd.cs c_api_Addr zqU1_1) 32, cellsE b1 (Cd.cs c_api_Addr x0) 32]) Y) _ _ _) ?_ _ _ _ hq14 K
        ·clear K hF
         intro g ih i15 i16 x hF K
         refine at_round ?_
         refine at_seq ?_
         refine sr ?_
         refine av rfl (r_move rfl) ?_
         refine av rfl (r_move rfl) ?_
         refine av rfl (r_irem rfl rfl (by decide)) ?_
         refine av rfl (r_ilss rfl rfl) ?_
         refine nwt [(1, _), (2, _), (4, _), (5, _), (6, _), (7, _), (8, _), (9, _), (36, _)] ⟨rfl, rfl, rfl, rfl, rfl, rfl, rfl, rfl, rfl, trivial⟩ ?_
         rcases of_ite hF with ⟨h17, hF⟩ | ⟨h17, hF⟩
         ·refine at_cond_true rfl h17 ?_
          refine sn ?_
          refine at_seq ?_
          refine at_block ?_
          refine at_region ?_
          refine av rfl (r_move rfl) ?_
          refine av rfl (r_iquo rfl rfl (by decide)) ?_
          refine av rfl (r_assign rfl) ?_
          refine at_nil ?_
          refine at_weak [(1, _), (2, _), (4, _), (5, _), (6, _), (7, _), (8, _), (9, _)] ⟨rfl, rfl, rfl, rfl, rfl, rfl, rfl, rfl, trivial⟩ ?_
          refine at_blk_normal (at_then_normal ?_)
          refine at_region ?_
          refine av rfl (r_move rfl) ?_
          refine av rfl (r_iadd rfl rfl) ?_
          refine av rfl (r_assign rfl) ?_
          refine nwt [(1, _), (2, _), (4, _), (5, _), (6, _), (7, _), (8, _), (9, _)] ⟨rfl, rfl, rfl, rfl, rfl, rfl, rfl, rfl, trivial⟩ ?_
          exact at_weak_k (ih _ _ _ hF K) ⟨rfl, rfl, rfl, rfl, rfl, rfl, rfl, rfl, trivial⟩
         ·refine at_cond_false rfl h17 ?_
          refine at_exit ?_
          refine at_then_exit (at_then_exit ?_)
          obtain rfl := of_some hF
          exact at_weak_k K ⟨rfl, rfl, rfl, rfl, rfl, rfl, rfl, trivial⟩
       ·skip
        skip
        refine at_blk_same ?_
        refine at_then_normal ?_
        refine at_region ?_
        refine av rfl (r_move rfl) ?_
        refine av rfl (r_iquo rfl rfl (by decide)) ?_
        refine av rfl (r_move rfl) ?_
        refine av rfl (r_iquo rfl rfl (by decide)) ?_
        refine av rfl (r_fieldAddr (fo := 1) Try.underlying32 rfl rfl (fun w => ⟨_, Try.sizeOf30 w⟩) rfl) ?_
        obtain ⟨h18, hF⟩ := of_guard hF
        refine av rfl (r_idxArr Try.underlying30 Try.sizeOf5 rfl rfl h18) ?_
        refine av rfl (r_load_cell Try.isAgg5 rfl (lens_cell0 (c := (cInt .u8)) (y := vget i9.f_B (wr .i64 (Int.tdiv i8 8))) .z (Lens.comp (Lens.comp (Lens.whole _ _) (fun z => { i9 with f_B := z }) (c_api_Addr_f_B i9)) (fun z => vset i9.f_B (wr .i64 (Int.tdiv i8 8)) z) (Lens.vec (cInt .u8) (by decide) i9.f_B (wr .i64 (Int.tdiv i8 8)) h18)) rfl)) ?_
        refine av rfl (r_move rfl) ?_
        refine av rfl (r_conv Try.underlying3 Try.underlying5 rfl) ?_
        refine av rfl (r_iadd rfl rfl) ?_
        refine av rfl (r_fieldAddr (fo := 1) Try.underlying32 rfl rfl (fun w => ⟨_, Try.sizeOf30 w⟩) rfl) ?_
        obtain ⟨h19, hF⟩ := of_guard hF
        refine av rfl (r_idxArr Try.underlying30 Try.sizeOf5 rfl rfl h19) ?_
        refine at_store (c := (cInt .u8)) (z := wr .u8 ((vget i9.f_B (wr .i64 (Int.tdiv i8 8))) + (wr .u8 q14))) .z (Lens.comp (Lens.comp (Lens.whole _ _) (fun z => { i9 with f_B := z }) (c_api_Addr_f_B i9)) (fun z => vset i9.f_B (wr .i64 (Int.tdiv i8 8)) z) (Lens.vec (cInt .u8) (by decide) i9.f_B (wr .i64 (Int.tdiv i8 8)) h19)) Try.sizeOf5 rfl rfl rfl ?_
        refine at_nil ?_
        refine at_weak [(1, _), (2, _), (4, _), (5, _), (6, _), (7, _)] ⟨rfl, rfl, rfl, rfl, rfl, rfl, trivial⟩ ?_
        refine at_blk_normal (at_then_normal ?_)
        refine at_region ?_
        refine av rfl (r_move rfl) ?_
        refine av rfl (r_iadd rfl rfl) ?_
        refine av rfl (r_assign rfl) ?_
        refine nwt [(1, _), (2, _), (4, _), (5, _), (6, _), (7, _)] ⟨rfl, rfl, rfl, rfl, rfl, rfl, trivial⟩ ?_
        exact at_weak_k (ih _ _ _ hF K) ⟨rfl, rfl, rfl, rfl, rfl, rfl, trivial⟩
      ·refine at_cond_false rfl h13 ?_
       refine at_skip ?_
       refine at_blk_normal (at_then_normal ?_)
       refine at_region ?_
       refine av rfl (r_move rfl) ?_
       refine av rfl (r_iadd rfl rfl) ?_
       refine av rfl (r_assign rfl) ?_
       refine nwt [(1, _), (2, _), (4, _), (5, _), (6, _), (7, _)] ⟨rfl, rfl, rfl, rfl, rfl, rfl, trivial⟩ ?_
       exact at_weak_k (ih _ _ _ hF K) ⟨rfl, rfl, rfl, rfl, rfl, rfl, trivial⟩
     ·refine at_cond_false rfl h11 ?_
      refine at_exit ?_
      refine at_then_exit (at_then_exit ?_)
      refine at_drop (H := _) (.s (.s .z)) ?_
      obtain rfl := of_some hF
      exact at_weak_k K ⟨rfl, rfl, trivial⟩
    ·refine at_fix (g := 22) rfl h10 ?_
     refine at_guard_no rfl rfl rfl rfl rfl ?_
     refine at_guard_no rfl rfl rfl rfl rfl ?_
     refine at_guard_no rfl rfl rfl rfl rfl ?_
     refine av rfl (r_pick rfl rfl rfl) ?_
     refine nwt [(1, _), (2, _), (4, _), (5, _), (6, _), (7, _), (26, _)] ⟨rfl, rfl, rfl, rfl, rfl, rfl, rfl, trivial⟩ ?_
     refine at_cond_false rfl rfl ?_
     refine at_exit ?_
     refine at_then_exit (at_then_exit ?_)
     refine at_drop (H := _) (.s (.s .z)) ?_
     obtain rfl := of_some hF
     exact at_weak_k K ⟨rfl, rfl, trivial⟩
  ·skip
   skip
   refine at_blk_same ?_
   refine at_then_normal ?_
   refine sr ?_
   refine av rfl (r_load_aggc (c := c_api_Addr) (z := q7) Try.isAgg32 Try.sizeOf32 rfl (lens_cell .z (Lens.whole _ _))) ?_
   refine at_store (c := c_api_Addr) (z := q7) (.s .z) (Lens.whole _ _) Try.sizeOf32 rfl rfl rfl ?_
   refine at_nil ?_
   refine at_drop (H := _) .z ?_
   refine at_weak [(4, _)] ⟨rfl, trivial⟩ ?_
   refine at_then_normal ?_
   refine at_ret ?_
   have K := of_some hF
   subst K
   exact at_res1 rfl (res_cell (c := c_api_Addr) (y := q7) rfl .z (Lens.whole _ _) Try.isAgg32 Try.sizeOf32 (.inl rfl)) (fun w1 hw => ⟨rfl, hw.below⟩)
def crawlwayref10_Less.l0 (x0 : S_api_Addr) (x1 : S_api_Addr) (i5 : Int) : Option (Ctl (Bool) (Unit)) :=
  if (decide (i5 < 16)) = true then (if (0 : Int) ≤ i5 ∧ i5 < 16 then if (0 : Int) ≤ i5 ∧ i5 < 16 then if (vget x0.f_B i5 != vget x1.f_B i5) = true then (if (0 : Int) ≤ i5 ∧ i5 < 16 then if (0 : Int) ≤ i5 ∧ i5 < 16 then some (.ret (decide (vget x0.f_B i5 < vget x1.f_B i5))) else none else none) else (crawlwayref10_Less.l0 x0 x1 (wr .i64 (i5 + 1))) else none else none) else (some (.nx ()))
  partial_fixpoint
def crawlwayref10_Less (x0 : S_api_Addr) (x1 : S_api_Addr) : Option (Bool) :=
  if (x0.f_V != x1.f_V) = true then (some (decide (x0.f_V < x1.f_V))) else (crawlwayref10_Less.l0 x0 x1 0 >>= fun q4 => match q4 with | .ret r' => some r' | .nx sq4 => (some false))
theorem crawlwayref10_Less_ok (x0 : S_api_Addr) (x1 : S_api_Addr) (r : Bool) (hF : crawlwayref10_Less x0 x1 = some r) (w : World) :
    Calls Try.prog 96 #[.agg (Cd.cs c_api_Addr x0).toArray, .agg (Cd.cs c_api_Addr x1).toArray] w (fun e w' => e = .returned (.bool r) ∧ Below w.heap.size w w') := by
 unfold crawlwayref10_Less at hF
 refine calls_enter (l := [.agg (Cd.cs c_api_Addr x0).toArray, .agg (Cd.cs c_api_Addr x1).toArray]) Try.func96 rfl rfl rfl ?_
 refine at_start ?_
 refine at_weak [(0, _), (1, _)] ⟨rfl, rfl, trivial⟩ ?_
 refine sr ?_
 refine at_box (cs := Cd.cs c_api_Addr x0) rfl rfl rfl ?_
 intro b1
 refine at_box (cs := Cd.cs c_api_Addr x1) rfl rfl rfl ?_
 intro b2
 refine av rfl (r_assign rfl) ?_
 refine nwt [(2, _), (3, _)] ⟨rfl, rfl, trivial⟩ ?_
 refine at_seq ?_
 refine sr ?_
 refine av rfl (r_fieldAddr (fo := 0) Try.underlying32 rfl rfl (fun w => ⟨_, Try.sizeOf3 w⟩) rfl) ?_
 refine av rfl (r_load_cell Try.isAgg3 rfl (lens_cell0 (c := (cInt .i64)) (y := x0.f_V) (.s .z) (Lens.comp (Lens.whole _ _) (fun z => { x0 with f_V := z }) (c_api_Addr_f_V x0)) rfl)) ?_
 refine av rfl (r_fieldAddr (fo := 0) Try.underlying32 rfl rfl (fun w => ⟨_, Try.sizeOf3 w⟩) rfl) ?_
 refine av rfl (r_load_cell Try.isAgg3 rfl (lens_cell0 (c := (cInt .i64)) (y := x1.f_V) .z (Lens.comp (Lens.whole _ _) (fun z => { x1 with f_V := z }) (c_api_Addr_f_V x1)) rfl)) ?_
 refine av rfl (r_ineq rfl rfl) ?_
 refine nwt [(2, _), (3, _), (10, _)] ⟨rfl, rfl, rfl, trivial⟩ ?_
 rcases of_ite hF with ⟨h3, hF⟩ | ⟨h3, hF⟩
 ·refine at_cond_true rfl h3 ?_
  refine sr ?_
  refine av rfl (r_fieldAddr (fo := 0) Try.underlying32 rfl rfl (fun w => ⟨_, Try.sizeOf3 w⟩) rfl) ?_
  refine av rfl (r_load_cell Try.isAgg3 rfl (lens_cell0 (c := (cInt .i64)) (y := x0.f_V) (.s .z) (Lens.comp (Lens.whole _ _) (fun z => { x0 with f_V := z }) (c_api_Addr_f_V x0)) rfl)) ?_
  refine av rfl (r_fieldAddr (fo := 0) Try.underlying32 rfl rfl (fun w => ⟨_, Try.sizeOf3 w⟩) rfl) ?_
  refine av rfl (r_load_cell Try.isAgg3 rfl (lens_cell0 (c := (cInt .i64)) (y := x1.f_V) .z (Lens.comp (Lens.whole _ _) (fun z => { x1 with f_V := z }) (c_api_Addr_f_V x1)) rfl)) ?_
  refine av rfl (r_ilss rfl rfl) ?_
  refine av rfl (r_assign rfl) ?_
  refine at_nil ?_
  refine at_drop (H := _) .z ?_
  refine at_drop (H := _) .z ?_
  refine at_weak [(4, _)] ⟨rfl, trivial⟩ ?_
  refine at_then_normal ?_
  refine rt ?_
  have K := of_some hF
  subst K
  exact at_return1 rfl rfl (fun w1 hw => ⟨rfl, hw.below⟩)
 ·refine at_cond_false rfl h3 ?_
  refine sn ?_
  refine at_seq ?_
  refine sr ?_
  refine av rfl (r_assign rfl) ?_
  refine nwt [(2, _), (3, _), (5, _)] ⟨rfl, rfl, rfl, trivial⟩ ?_
  refine at_block ?_
  obtain ⟨q4, hq4, hF⟩ := of_bindM hF
  refine at_weak [(2, _), (3, _), (5, _)] ⟨rfl, rfl, rfl, trivial⟩ ?_
  refine at_loop_r (B := 0) (r := r) (q := q4) (A := fun (_ : Unit) Y => At 38 [] (Wd w []) Y) ?_ ?_
  ·intro K
   refine crawlwayref10_Less.l0.partial_correctness x0 x1 (motive := fun i5 x => KR (fun (_ : Unit) Y => At 38 [] (Wd w []) Y) _ 0 r x → Round (fun Y => At 38 [(2, .pointer (some ⟨b1, 0, none⟩)), (3, .pointer (some ⟨b2, 0, none⟩)), (5, .int .i64 i5)] (Wd w [cellsE b2 (Cd.cs c_api_Addr x1) 32, cellsE b1 (Cd.cs c_api_Addr x0) 32]) Y) _ _ _) ?_ _ _ hq4 K
   ·clear K hF
    intro g ih i5 x hF K
    refine at_round ?_
    refine at_seq ?_
    refine sr ?_
    refine av rfl (r_move rfl) ?_
    refine av rfl (r_ilss rfl rfl) ?_
    refine nwt [(2, _), (3, _), (5, _), (17, _)] ⟨rfl, rfl, rfl, rfl, trivial⟩ ?_
    rcases of_ite hF with ⟨h6, hF⟩ | ⟨h6, hF⟩
    ·refine at_cond_true rfl h6 ?_
     refine sn ?_
     refine at_seq ?_
     refine at_block ?_
     refine at_seq ?_
     refine at_draw (by kernel_rfl) (by kernel_rfl) (fun _ h => h.drew) ?_
     refine atq_val rfl rfl rfl (r_move rfl) ?_
     refine atq_val rfl rfl rfl (r_fieldAddr (fo := 1) Try.underlying32 rfl rfl (fun w => ⟨_, Try.sizeOf30 w⟩) rfl) ?_
     obtain ⟨h7, hF⟩ := of_guard hF
     refine atq_val rfl rfl rfl (r_idxArr Try.underlying30 Try.sizeOf5 rfl rfl h7) ?_
     refine atq_val rfl rfl rfl (r_load_cell Try.isAgg5 rfl (lens_cell0 (c := (cInt .u8)) (y := vget x0.f_B i5) (.s .z) (Lens.comp (Lens.comp (Lens.whole _ _) (fun z => { x0 with f_B := z }) (c_api_Addr_f_B x0)) (fun z => vset x0.f_B i5 z) (Lens.vec (cInt .u8) (by decide) x0.f_B i5 h7)) rfl)) ?_
     refine atq_val rfl rfl rfl (r_move rfl) ?_
     refine atq_val rfl rfl rfl (r_fieldAddr (fo := 1) Try.underlying32 rfl rfl (fun w => ⟨_, Try.sizeOf30 w⟩) rfl) ?_
     obtain ⟨h8, hF⟩ := of_guard hF
     refine atq_val rfl rfl rfl (r_idxArr Try.underlying30 Try.sizeOf5 rfl rfl h8) ?_
     refine atq_val rfl rfl rfl (r_load_cell Try.isAgg5 rfl (lens_cell0 (c := (cInt .u8)) (y := vget x1.f_B i5) .z (Lens.comp (Lens.comp (Lens.whole _ _) (fun z => { x1 with f_B := z }) (c_api_Addr_f_B x1)) (fun z => vset x1.f_B i5 z) (Lens.vec (cInt .u8) (by decide) x1.f_B i5 h8)) rfl)) ?_
     refine atq_val rfl rfl rfl (r_ineq rfl rfl) ?_
     refine atq_nil ?_
     refine at_weak [(2, _), (3, _), (5, _), (28, _)] ⟨rfl, rfl, rfl, rfl, trivial⟩ ?_
     refine at_then_normal ?_
     rcases of_ite hF with ⟨h9, hF⟩ | ⟨h9, hF⟩
     ·refine at_cond_true rfl h9 ?_
      refine at_seq ?_
      refine at_draw (by kernel_rfl) (by kernel_rfl) (fun _ h => h.drew) ?_
      refine atq_val rfl rfl rfl (r_move rfl) ?_
      refine atq_val rfl rfl rfl (r_fieldAddr (fo := 1) Try.underlying32 rfl rfl (fun w => ⟨_, Try.sizeOf30 w⟩) rfl) ?_
      obtain ⟨h10, hF⟩ := of_guard hF
      refine atq_val rfl rfl rfl (r_idxArr Try.underlying30 Try.sizeOf5 rfl rfl h10) ?_
      refine atq_val rfl rfl rfl (r_load_cell Try.isAgg5 rfl (lens_cell0 (c := (cInt .u8)) (y := vget x0.f_B i5) (.s .z) (Lens.comp (Lens.comp (Lens.whole _ _) (fun z => { x0 with f_B := z }) (c_api_Addr_f_B x0)) (fun z => vset x0.f_B i5 z) (Lens.vec (cInt .u8) (by decide) x0.f_B i5 h10)) rfl)) ?_
      refine atq_val rfl rfl rfl (r_move rfl) ?_
      refine atq_val rfl rfl rfl (r_fieldAddr (fo := 1) Try.underlying32 rfl rfl (fun w => ⟨_, Try.sizeOf30 w⟩) rfl) ?_
      obtain ⟨h11, hF⟩ := of_guard hF
      refine atq_val rfl rfl rfl (r_idxArr Try.underlying30 Try.sizeOf5 rfl rfl h11) ?_
      refine atq_val rfl rfl rfl (r_load_cell Try.isAgg5 rfl (lens_cell0 (c := (cInt .u8)) (y := vget x1.f_B i5) .z (Lens.comp (Lens.comp (Lens.whole _ _) (fun z => { x1 with f_B := z }) (c_api_Addr_f_B x1)) (fun z => vset x1.f_B i5 z) (Lens.vec (cInt .u8) (by decide) x1.f_B i5 h11)) rfl)) ?_
      refine atq_val rfl rfl rfl (r_ilss rfl rfl) ?_
      refine atq_val rfl rfl rfl (r_assign rfl) ?_
      refine atq_nil ?_
      refine at_drop (H := _) .z ?_
      refine at_drop (H := _) .z ?_
      refine at_weak [(4, _)] ⟨rfl, trivial⟩ ?_
      refine at_then_normal ?_
      refine at_ret ?_
      refine at_blk_ret (at_then_ret (at_then_ret (at_blk_ret (at_then_ret ?_))))
      obtain rfl := of_some hF
      subst K
      exact at_return1 rfl rfl (fun w1 hw => ⟨rfl, hw.below⟩)
     ·refine at_cond_false rfl h9 ?_
      refine at_skip ?_
      refine at_blk_normal (at_then_normal ?_)
      refine at_region ?_
      refine av rfl (r_move rfl) ?_
      refine av rfl (r_iadd rfl rfl) ?_
      refine av rfl (r_assign rfl) ?_
      refine nwt [(2, _), (3, _), (5, _)] ⟨rfl, rfl, rfl, trivial⟩ ?_
      exact at_weak_k (ih _ _ hF K) ⟨rfl, rfl, rfl, trivial⟩
    ·refine at_cond_false rfl h6 ?_
     refine at_exit ?_
     refine at_then_exit (at_then_exit ?_)
     refine at_drop (H := _) .z ?_
     refine at_drop (H := _) .z ?_
     obtain rfl := of_some hF
     exact at_weak_k K trivial
  ·cases q4 with
   | ret r' => exact of_some hF
   | nx sq4 =>
    skip
    refine at_blk_same ?_
    refine at_then_normal ?_
    refine sr ?_
    refine av rfl (r_assign rfl) ?_
    refine nwt [(4, _)] ⟨rfl, trivial⟩ ?_
    refine at_ret ?_
    have K := of_some hF
    subst K
    exact at_return1 rfl rfl (fun w1 hw => ⟨rfl, hw.below⟩)
def crawlwayref10_Common.l0 (x0 : S_api_Addr) (x1 : S_api_Addr) (t8 : Int) (i10 : Int) : Option (Int) :=
  if (decide (i10 < t8)) = true then (crawlwayref10_digit x0 i10 >>= fun t12 => crawlwayref10_digit x1 i10 >>= fun t13 => if (t12 == t13) = true then (crawlwayref10_Common.l0 x0 x1 t8 (wr .i64 (i10 + 1))) else (some i10)) else (some i10)
  partial_fixpoint
def crawlwayref10_Common (x0 : S_api_Addr) (x1 : S_api_Addr) : Option (Int) :=
  crawlwayref10_Right x0 >>= fun t3 => if (!t3) = true then (some (-1)) else (crawlwayref10_Right x1 >>= fun t5 => if (!t5) = true then (some (-1)) else (if (x0.f_V != x1.f_V) = true then (some (-1)) else (crawlwayref10_Width x0 >>= fun t8 => crawlwayref10_Common.l0 x0 x1 t8 0 >>= fun q9 => some q9)))
def crawlwayref11_Right (x0 : S_api_Prefix) : Option (Bool) :=
  crawlwayref10_Right x0.f_A >>= fun t2 => if (!t2) = true then (some false) else (if (decide (x0.f_Bits < 0)) = true then (some false) else (crawlwayref10_Width x0.f_A >>= fun t5 => if (decide (x0.f_Bits > t5)) = true then (some false) else (crawlwayref10_Mask x0.f_A x0.f_Bits >>= fun t7 => some (decide (x0.f_A = t7)))))
theorem crawlwayref11_Right_ok (x0 : S_api_Prefix) (r : Bool) (hF : crawlwayref11_Right x0 = some r) (w : World) :
    Calls Try.prog 57 #[.agg (Cd.cs c_api_Prefix x0).toArray] w (fun e w' => e = .returned (.bool r) ∧ Below w.heap.size w w') := by
 unfold crawlwayref11_Right at hF
 refine calls_enter (l := [.agg (Cd.cs c_api_Prefix x0).toArray]) Try.func57 rfl rfl rfl ?_
 refine at_start ?_
 refine at_weak [(0, _)] ⟨rfl, trivial⟩ ?_
 refine sr ?_
 refine at_box (cs := Cd.cs c_api_Prefix x0) rfl rfl rfl ?_
 intro b1
 refine av rfl (r_assign rfl) ?_
 refine nwt [(1, _)] ⟨rfl, trivial⟩ ?_
 refine at_seq ?_
 refine at_seq ?_
 refine at_draw (by kernel_rfl) (by kernel_rfl) (fun _ h => h.drew) ?_
 refine atq_val rfl rfl rfl (r_fieldAddr (fo := 0) Try.underlying46 rfl rfl (fun w => ⟨_, Try.sizeOf32 w⟩) rfl) ?_
 refine atq_val rfl rfl rfl (r_load_aggc (c := c_api_Addr) (z := x0.f_A) Try.isAgg32 Try.sizeOf32 rfl (lens_cell .z (Lens.comp (Lens.whole _ _) (fun z => { x0 with f_A := z }) (c_api_Prefix_f_A x0)))) ?_
 obtain ⟨t2, ht2, hF⟩ := of_bindM hF
 refine atq_call Try.func84 rfl (by kernel_rfl) rfl rfl (fun w hw => (crawlwayref10_Right_ok _ _ ht2 w).mono fun _ _ h => ⟨h.1, hw.call h.2⟩) ?_
 refine atq_val rfl rfl rfl (r_not rfl) ?_
 refine atq_val rfl rfl rfl (r_move rfl) ?_
 rcases of_ite hF with ⟨h3, hF⟩ | ⟨h3, hF⟩
 ·refine atq_fix (g := 7) rfl h3 ?_
  refine atq_guard_no rfl rfl rfl rfl rfl ?_
  refine atq_guard_no rfl rfl rfl rfl rfl ?_
  refine atq_guard_no rfl rfl rfl rfl rfl ?_
  refine atq_val rfl rfl rfl (r_pick rfl rfl rfl) ?_
  refine atq_val rfl rfl rfl (r_move rfl) ?_
  refine atq_guard_no rfl rfl rfl rfl rfl ?_
  refine atq_guard_no rfl rfl rfl rfl rfl ?_
  refine atq_guard_no rfl rfl rfl rfl rfl ?_
  refine atq_guard_no rfl rfl rfl rfl rfl ?_
  refine atq_guard_no rfl rfl rfl rfl rfl ?_
  refine atq_guard_no rfl rfl rfl rfl rfl ?_
  refine atq_val rfl rfl rfl (r_pick rfl rfl rfl) ?_
  refine atq_nil ?_
  refine at_weak [(1, _), (19, _)] ⟨rfl, rfl, trivial⟩ ?_
  refine at_then_normal ?_
  refine at_cond_true rfl rfl ?_
  refine sr ?_
  refine av rfl (r_assign rfl) ?_
  refine at_nil ?_
  refine at_drop (H := _) .z ?_
  refine at_weak [(2, _)] ⟨rfl, trivial⟩ ?_
  refine at_then_normal ?_
  refine rt ?_
  have K := of_some hF
  subst K
  exact at_return1 rfl rfl (fun w1 hw => ⟨rfl, hw.below⟩)
 ·refine atq_fix (g := 7) rfl h3 ?_
  refine atq_guard_yes rfl rfl rfl ?_
  refine atq_val rfl rfl rfl (r_fieldAddr (fo := 17) Try.underlying46 rfl rfl (fun w => ⟨_, Try.sizeOf3 w⟩) rfl) ?_
  refine atq_guard_yes rfl rfl rfl ?_
  refine atq_val rfl rfl rfl (r_load_cell Try.isAgg3 rfl (lens_cell0 (c := (cInt .i64)) (y := x0.f_Bits) .z (Lens.comp (Lens.whole _ _) (fun z => { x0 with f_Bits := z }) (c_api_Prefix_f_Bits x0)) rfl)) ?_
  refine atq_guard_yes rfl rfl rfl ?_
  refine atq_val rfl rfl rfl (r_ilss rfl rfl) ?_
  refine atq_val rfl rfl rfl (r_pick rfl rfl rfl) ?_
  refine atq_val rfl rfl rfl (r_move rfl) ?_
  rcases of_ite hF with ⟨h4, hF⟩ | ⟨h4, hF⟩
  ·refine atq_fix (g := 12) rfl h4 ?_
   refine atq_guard_no rfl rfl rfl rfl rfl ?_
   refine atq_guard_no rfl rfl rfl rfl rfl ?_
   refine atq_guard_no rfl rfl rfl rfl rfl ?_
   refine atq_guard_no rfl rfl rfl rfl rfl ?_
   refine atq_guard_no rfl rfl rfl rfl rfl ?_
   refine atq_guard_no rfl rfl rfl rfl rfl ?_
   refine atq_val rfl rfl rfl (r_pick rfl rfl rfl) ?_
   refine atq_nil ?_
   refine at_weak [(1, _), (19, _)] ⟨rfl, rfl, trivial⟩ ?_
   refine at_then_normal ?_
   refine at_cond_true rfl rfl ?_
   refine sr ?_
   refine av rfl (r_assign rfl) ?_
   refine at_nil ?_
   refine at_drop (H := _) .z ?_
   refine at_weak [(2, _)] ⟨rfl, trivial⟩ ?_
   refine at_then_normal ?_
   refine rt ?_
   have K := of_some hF
   subst K
   exact at_return1 rfl rfl (fun w1 hw => ⟨rfl, hw.below⟩)
  ·refine atq_fix (g := 12) rfl h4 ?_
   refine atq_guard_yes rfl rfl rfl ?_
   refine atq_val rfl rfl rfl (r_fieldAddr (fo := 17) Try.underlying46 rfl rfl (fun w => ⟨_, Try.sizeOf3 w⟩) rfl) ?_
   refine atq_guard_yes rfl rfl rfl ?_
   refine atq_val rfl rfl rfl (r_load_cell Try.isAgg3 rfl (lens_cell0 (c := (cInt .i64)) (y := x0.f_Bits) .z (Lens.comp (Lens.whole _ _) (fun z => { x0 with f_Bits := z }) (c_api_Prefix_f_Bits x0)) rfl)) ?_
   refine atq_guard_yes rfl rfl rfl ?_
   refine atq_val rfl rfl rfl (r_fieldAddr (fo := 0) Try.underlying46 rfl rfl (fun w => ⟨_, Try.sizeOf32 w⟩) rfl) ?_
   refine atq_guard_yes rfl rfl rfl ?_
   refine atq_val rfl rfl rfl (r_load_aggc (c := c_api_Addr) (z := x0.f_A) Try.isAgg32 Try.sizeOf32 rfl (lens_cell .z (Lens.comp (Lens.whole _ _) (fun z => { x0 with f_A := z }) (c_api_Prefix_f_A x0)))) ?_
   refine atq_guard_yes rfl rfl rfl ?_
   obtain ⟨t5, ht5, hF⟩ := of_bindM hF
   refine atq_call Try.func85 rfl (by kernel_rfl) rfl rfl (fun w hw => (crawlwayref10_Width_ok _ _ ht5 w).mono fun _ _ h => ⟨h.1, hw.call h.2⟩) ?_
   refine atq_guard_yes rfl rfl rfl ?_
   refine atq_val rfl rfl rfl (r_igtr rfl rfl) ?_
   refine atq_val rfl rfl rfl (r_pick rfl rfl rfl) ?_
   refine atq_nil ?_
   refine at_weak [(1, _), (19, _)] ⟨rfl, rfl, trivial⟩ ?_
   refine at_then_normal ?_
   rcases of_ite hF with ⟨h6, hF⟩ | ⟨h6, hF⟩
   ·refine at_cond_true rfl h6 ?_
    refine sr ?_
    refine av rfl (r_assign rfl) ?_
    refine at_nil ?_
    refine at_drop (H := _) .z ?_
    refine at_weak [(2, _)] ⟨rfl, trivial⟩ ?_
    refine at_then_normal ?_
    refine rt ?_
    have K := of_some hF
    subst K
    exact at_return1 rfl rfl (fun w1 hw => ⟨rfl, hw.below⟩)
   ·refine at_cond_false rfl h6 ?_
    refine sn ?_
    refine at_seq ?_
    refine at_draw (by kernel_rfl) (by kernel_rfl) (fun _ h => h.drew) ?_
    refine atq_val rfl rfl rfl (r_fieldAddr (fo := 0) Try.underlying46 rfl rfl (fun w => ⟨_, Try.sizeOf32 w⟩) rfl) ?_
    refine atq_val rfl rfl rfl (r_load_aggc (c := c_api_Addr) (z := x0.f_A) Try.isAgg32 Try.sizeOf32 rfl (lens_cell .z (Lens.comp (Lens.whole _ _) (fun z => { x0 with f_A := z }) (c_api_Prefix_f_A x0)))) ?_
    refine atq_val rfl rfl rfl (r_fieldAddr (fo := 0) Try.underlying46 rfl rfl (fun w => ⟨_, Try.sizeOf32 w⟩) rfl) ?_
    refine atq_val rfl rfl rfl (r_load_aggc (c := c_api_Addr) (z := x0.f_A) Try.isAgg32 Try.sizeOf32 rfl (lens_cell .z (Lens.comp (Lens.whole _ _) (fun z => { x0 with f_A := z }) (c_api_Prefix_f_A x0)))) ?_
    refine atq_val rfl rfl rfl (r_fieldAddr (fo := 17) Try.underlying46 rfl rfl (fun w => ⟨_, Try.sizeOf3 w⟩) rfl) ?_
    refine atq_val rfl rfl rfl (r_load_cell Try.isAgg3 rfl (lens_cell0 (c := (cInt .i64)) (y := x0.f_Bits) .z (Lens.comp (Lens.whole _ _) (fun z => { x0 with f_Bits := z }) (c_api_Prefix_f_Bits x0)) rfl)) ?_
    obtain ⟨t7, ht7, hF⟩ := of_bindM hF
    refine atq_call Try.func86 rfl (by kernel_rfl) rfl rfl (fun w hw => (crawlwayref10_Mask_ok _ _ _ ht7 w).mono fun _ _ h => ⟨h.1, hw.call h.2⟩) ?_
    refine atq_val rfl rfl rfl (r_eqagg (c := c_api_Addr) (a := x0.f_A) (b := t7) (eq_api_Addr_32) rfl Try.eqGuardType32 rfl rfl (.inl rfl) rfl) ?_
    refine atq_val rfl rfl rfl (r_assign rfl) ?_
    refine atq_nil ?_
    refine at_drop (H := _) .z ?_
    refine at_weak [(2, _)] ⟨rfl, trivial⟩ ?_
    refine at_then_normal ?_
    refine at_ret ?_
    have K := of_some hF
    subst K
    exact at_return1 rfl rfl (fun w1 hw => ⟨rfl, hw.below⟩)
def crawlwayref11_Has (x0 : S_api_Prefix) (x1 : S_api_Addr) : Option (Bool) :=
  crawlwayref11_Right x0 >>= fun t3 => if t3 = true then (crawlwayref10_Common x0.f_A x1 >>= fun t5 => some (decide (t5 ≥ x0.f_Bits))) else (some false)
def crawlwayref11_Less (x0 : S_api_Prefix) (x1 : S_api_Prefix) : Option (Bool) :=
  if (!decide (x0.f_A = x1.f_A)) = true then (crawlwayref10_Less x0.f_A x1.f_A >>= fun t4 => some t4) else (some (decide (x0.f_Bits < x1.f_Bits)))
theorem crawlwayref11_Less_ok (x0 : S_api_Prefix) (x1 : S_api_Prefix) (r : Bool) (hF : crawlwayref11_Less x0 x1 = some r) (w : World) :
    Calls Try.prog 90 #[.agg (Cd.cs c_api_Prefix x0).toArray, .agg (Cd.cs c_api_Prefix x1).toArray] w (fun e w' => e = .returned (.bool r) ∧ Below w.heap.size w w') := by
 unfold crawlwayref11_Less at hF
 refine calls_enter (l := [.agg (Cd.cs c_api_Prefix x0).toArray, .agg (Cd.cs c_api_Prefix x1).toArray]) Try.func90 rfl rfl rfl ?_
 refine at_start ?_
 refine at_weak [(0, _), (1, _)] ⟨rfl, rfl, trivial⟩ ?_
 refine sr ?_
 refine at_box (cs := Cd.cs c_api_Prefix x0) rfl rfl rfl ?_
 intro b1
 refine at_box (cs := Cd.cs c_api_Prefix x1) rfl rfl rfl ?_
 intro b2
 refine av rfl (r_assign rfl) ?_
 refine nwt [(2, _), (3, _)] ⟨rfl, rfl, trivial⟩ ?_
 refine at_seq ?_
 refine sr ?_
 refine av rfl (r_fieldAddr (fo := 0) Try.underlying46 rfl rfl (fun w => ⟨_, Try.sizeOf32 w⟩) rfl) ?_
 refine av rfl (r_load_aggc (c := c_api_Addr) (z := x0.f_A) Try.isAgg32 Try.sizeOf32 rfl (lens_cell (.s .z) (Lens.comp (Lens.whole _ _) (fun z => { x0 with f_A := z }) (c_api_Prefix_f_A x0)))) ?_
 refine av rfl (r_fieldAddr (fo := 0) Try.underlying46 rfl rfl (fun w => ⟨_, Try.sizeOf32 w⟩) rfl) ?_
 refine av rfl (r_load_aggc (c := c_api_Addr) (z := x1.f_A) Try.isAgg32 Try.sizeOf32 rfl (lens_cell .z (Lens.comp (Lens.whole _ _) (fun z => { x1 with f_A := z }) (c_api_Prefix_f_A x1)))) ?_
 refine av rfl (r_eqagg (c := c_api_Addr) (a := x0.f_A) (b := x1.f_A) (eq_api_Addr_32) rfl Try.eqGuardType32 rfl rfl (.inr rfl) rfl) ?_
 refine nwt [(2, _), (3, _), (9, _)] ⟨rfl, rfl, rfl, trivial⟩ ?_
 rcases of_ite hF with ⟨h3, hF⟩ | ⟨h3, hF⟩
 ·refine at_cond_true rfl h3 ?_
  refine sr ?_
  refine av rfl (r_fieldAddr (fo := 0) Try.underlying46 rfl rfl (fun w => ⟨_, Try.sizeOf32 w⟩) rfl) ?_
  refine av rfl (r_load_aggc (c := c_api_Addr) (z := x0.f_A) Try.isAgg32 Try.sizeOf32 rfl (lens_cell (.s .z) (Lens.comp (Lens.whole _ _) (fun z => { x0 with f_A := z }) (c_api_Prefix_f_A x0)))) ?_
  refine av rfl (r_fieldAddr (fo := 0) Try.underlying46 rfl rfl (fun w => ⟨_, Try.sizeOf32 w⟩) rfl) ?_
  refine av rfl (r_load_aggc (c := c_api_Addr) (z := x1.f_A) Try.isAgg32 Try.sizeOf32 rfl (lens_cell .z (Lens.comp (Lens.whole _ _) (fun z => { x1 with f_A := z }) (c_api_Prefix_f_A x1)))) ?_
  obtain ⟨t4, ht4, hF⟩ := of_bindM hF
  refine at_callB Try.func96 rfl (by kernel_rfl) rfl rfl (fun w hw => crawlwayref10_Less_ok _ _ _ ht4 w) ?_
  refine av rfl (r_assign rfl) ?_
  refine at_nil ?_
  refine at_drop (H := _) .z ?_
  refine at_drop (H := _) .z ?_
  refine at_weak [(4, _)] ⟨rfl, trivial⟩ ?_
  refine at_then_normal ?_
  refine rt ?_
  have K := of_some hF
  subst K
  exact at_return1 rfl rfl (fun w1 hw => ⟨rfl, hw.below⟩)
 ·refine at_cond_false rfl h3 ?_
  refine sns ?_
  refine av rfl (r_fieldAddr (fo := 17) Try.underlying46 rfl rfl (fun w => ⟨_, Try.sizeOf3 w⟩) rfl) ?_
  refine av rfl (r_load_cell Try.isAgg3 rfl (lens_cell0 (c := (cInt .i64)) (y := x0.f_Bits) (.s .z) (Lens.comp (Lens.whole _ _) (fun z => { x0 with f_Bits := z }) (c_api_Prefix_f_Bits x0)) rfl)) ?_
  refine av rfl (r_fieldAddr (fo := 17) Try.underlying46 rfl rfl (fun w => ⟨_, Try.sizeOf3 w⟩) rfl) ?_
  refine av rfl (r_load_cell Try.isAgg3 rfl (lens_cell0 (c := (cInt .i64)) (y := x1.f_Bits) .z (Lens.comp (Lens.whole _ _) (fun z => { x1 with f_Bits := z }) (c_api_Prefix_f_Bits x1)) rfl)) ?_
  refine av rfl (r_ilss rfl rfl) ?_
  refine av rfl (r_assign rfl) ?_
  refine at_nil ?_
  refine at_drop (H := _) .z ?_
  refine at_drop (H := _) .z ?_
  refine at_weak [(4, _)] ⟨rfl, trivial⟩ ?_
  refine at_then_normal ?_
  refine at_ret ?_
  have K := of_some hF
  subst K
  exact at_return1 rfl rfl (fun w1 hw => ⟨rfl, hw.below⟩)
def crawlwayref25_Place.l0 (x0 : List S_api_Entry) (x1 : S_api_Prefix) (i3 : Int) : Option (Ctl (Int) (Unit)) :=
  if (decide (i3 < (x0.length : Int))) = true then (if (0 : Int) ≤ i3 ∧ i3 < (x0.length : Int) then if (decide ((lget x0 i3).f_P = x1)) = true then (some (.ret i3)) else (crawlwayref25_Place.l0 x0 x1 (wr .i64 (i3 + 1))) else none) else (some (.nx ()))
  partial_fixpoint
def crawlwayref25_Place (x0 : List S_api_Entry) (x1 : S_api_Prefix) : Option (Int) :=
  crawlwayref25_Place.l0 x0 x1 0 >>= fun q2 => match q2 with | .ret r' => some r' | .nx sq2 => (some (-1))
theorem crawlwayref25_Place_ok (x0 : List S_api_Entry) (p0_ : Option Addr) (c0_ : Nat) (x1 : S_api_Prefix) (r : Int) (hF : crawlwayref25_Place x0 x1 = some r) (w : World) (hr0 : Row c_api_Entry w p0_ c0_ x0) :
    Calls Try.prog 32 #[.slice p0_ x0.length c0_, .agg (Cd.cs c_api_Prefix x1).toArray] w (fun e w' => e = .returned (.int .i64 r) ∧ Below w.heap.size w w') := by
 unfold crawlwayref25_Place at hF
 refine calls_enter (l := [.slice p0_ x0.length c0_, .agg (Cd.cs c_api_Prefix x1).toArray]) Try.func32 rfl rfl rfl ?_
 refine at_start ?_
 refine at_weak [(0, _), (1, _)] ⟨rfl, rfl, trivial⟩ ?_
 refine sr ?_
 refine at_box (cs := Cd.cs c_api_Prefix x1) rfl rfl rfl ?_
 intro b1
 refine av rfl (r_assign rfl) ?_
 refine nwt [(0, _), (3, _)] ⟨rfl, rfl, trivial⟩ ?_
 refine at_seq ?_
 refine sr ?_
 refine av rfl (r_assign rfl) ?_
 refine nwt [(0, _), (3, _), (5, _)] ⟨rfl, rfl, rfl, trivial⟩ ?_
 refine at_block ?_
 obtain ⟨q2, hq2, hF⟩ := of_bindM hF
 refine at_weak [(0, _), (3, _), (5, _)] ⟨rfl, rfl, rfl, trivial⟩ ?_
 refine at_loop_r (B := 0) (r := r) (q := q2) (A := fun (_ : Unit) Y => At 20 [] (Wd w []) Y) ?_ ?_
 ·intro K
  refine crawlwayref25_Place.l0.partial_correctness x0 x1 (motive := fun i3 x => KR (fun (_ : Unit) Y => At 20 [] (Wd w []) Y) _ 0 r x → Round (fun Y => At 20 [(0, .slice p0_ x0.length c0_), (3, .pointer (some ⟨b1, 0, none⟩)), (5, .int .i64 i3)] (Wd w [cellsE b1 (Cd.cs c_api_Prefix x1) 46]) Y) _ _ _) ?_ _ _ hq2 K
  ·clear K hF
   intro g ih i3 x hF K
   refine at_round ?_
   refine at_seq ?_
   refine sr ?_
   refine av rfl (r_move rfl) ?_
   refine av rfl (r_move rfl) ?_
   refine av rfl (r_len_sl Try.underlying44 rfl) ?_
   refine av rfl (r_ilss rfl rfl) ?_
   refine nwt [(0, _), (3, _), (5, _), (9, _)] ⟨rfl, rfl, rfl, rfl, trivial⟩ ?_
   rcases of_ite hF with ⟨h4, hF⟩ | ⟨h4, hF⟩
   ·refine at_cond_true rfl h4 ?_
    refine sn ?_
    refine at_seq ?_
    refine at_block ?_
    refine at_seq ?_
    refine at_draw (by kernel_rfl) (by kernel_rfl) (fun _ h => h.drew) ?_
    refine atq_val rfl rfl rfl (r_move rfl) ?_
    refine atq_val rfl rfl rfl (r_move rfl) ?_
    obtain ⟨h5, hF⟩ := of_guard hF
    obtain ⟨b7, o8, hp6⟩ := row_ptr hr0 h5
    refine atq_val rfl rfl rfl (r_idx Try.underlying44 Try.sizeOf52 rfl rfl h5 hp6) ?_
    refine atq_val rfl rfl rfl (r_fieldAddr (fo := 0) Try.underlying52 rfl rfl (fun w => ⟨_, Try.sizeOf46 w⟩) rfl) ?_
    refine atq_val rfl rfl rfl (r_load_aggc (c := c_api_Prefix) (z := (lget x0 i3).f_P) Try.isAgg46 Try.sizeOf46 rfl (row_lens (y := (lget x0 i3).f_P) (fun _ h => h.below) hr0 h5 hp6 (Lens.comp (Lens.whole _ _) (fun z => { (lget x0 i3) with f_P := z }) (c_api_Entry_f_P (lget x0 i3))))) ?_
    refine atq_val rfl rfl rfl (r_load_aggc (c := c_api_Prefix) (z := x1) Try.isAgg46 Try.sizeOf46 rfl (lens_cell .z (Lens.whole _ _))) ?_
    refine atq_val rfl rfl rfl (r_eqagg (c := c_api_Prefix) (a := (lget x0 i3).f_P) (b := x1) (eq_api_Prefix_46) rfl Try.eqGuardType46 rfl rfl (.inl rfl) rfl) ?_
    refine atq_nil ?_
    refine at_weak [(0, _), (3, _), (5, _), (18, _)] ⟨rfl, rfl, rfl, rfl, trivial⟩ ?_
    refine at_then_normal ?_
    rcases of_ite hF with ⟨h9, hF⟩ | ⟨h9, hF⟩
    ·refine at_cond_true rfl h9 ?_
     refine sr ?_
     refine av rfl (r_move rfl) ?_
     refine av rfl (r_assign rfl) ?_
     refine at_nil ?_
     refine at_drop (H := _) .z ?_
     refine at_weak [(4, _)] ⟨rfl, trivial⟩ ?_
     refine at_then_normal ?_
     refine at_ret ?_
     refine at_blk_ret (at_then_ret (at_then_ret (at_blk_ret (at_then_ret ?_))))
     obtain rfl := of_some hF
     subst K
     exact at_return1 rfl rfl (fun w1 hw => ⟨rfl, hw.below⟩)
    ·refine at_cond_false rfl h9 ?_
     refine at_skip ?_
     refine at_blk_normal (at_then_normal ?_)
     refine at_region ?_
     refine av rfl (r_move rfl) ?_
     refine av rfl (r_iadd rfl rfl) ?_
     refine av rfl (r_assign rfl) ?_
     refine nwt [(0, _), (3, _), (5, _)] ⟨rfl, rfl, rfl, trivial⟩ ?_
     exact at_weak_k (ih _ _ hF K) ⟨rfl, rfl, rfl, trivial⟩
   ·refine at_cond_false rfl h4 ?_
    refine at_exit ?_
    refine at_then_exit (at_then_exit ?_)
    refine at_drop (H := _) .z ?_
    obtain rfl := of_some hF
    exact at_weak_k K trivial
 ·cases q2 with
  | ret r' => exact of_some hF
  | nx sq2 =>
   skip
   refine at_blk_same ?_
   refine at_then_normal ?_
   refine sr ?_
   refine av rfl (r_assign rfl) ?_
   refine nwt [(4, _)] ⟨rfl, trivial⟩ ?_
   refine at_ret ?_
   have K := of_some hF
   subst K
   exact at_return1 rfl rfl (fun w1 hw => ⟨rfl, hw.below⟩)
def crawlwayref25_Put.l0 (x0 : List S_api_Entry) (x1 : S_api_Entry) (i6 : List S_api_Entry) (i7 : Bool) (i8 : Int) : Option (List S_api_Entry × Bool) :=
  if (decide (i8 < (x0.length : Int))) = true then (if (0 : Int) ≤ i8 ∧ i8 < (x0.length : Int) then if (decide ((lget x0 i8).f_P = x1.f_P)) = true then (crawlwayref25_Put.l0 x0 x1 i6 i7 (wr .i64 (i8 + 1))) else (if (!i7) = true then (if (0 : Int) ≤ i8 ∧ i8 < (x0.length : Int) then crawlwayref11_Less x1.f_P ((lget x0 i8).f_P) >>= fun t24 => if t24 = true then (if (i6.length + 1) * 40 ≤ 140737488355328 then if (0 : Int) ≤ i8 ∧ i8 < (x0.length : Int) then if ((i6 ++ [x1]).length + 1) * 40 ≤ 140737488355328 then crawlwayref25_Put.l0 x0 x1 ((i6 ++ [x1]) ++ [lget x0 i8]) true (wr .i64 (i8 + 1)) else none else none else none) else (if (0 : Int) ≤ i8 ∧ i8 < (x0.length : Int) then if (i6.length + 1) * 40 ≤ 140737488355328 then crawlwayref25_Put.l0 x0 x1 (i6 ++ [lget x0 i8]) i7 (wr .i64 (i8 + 1)) else none else none) else none) else (if (0 : Int) ≤ i8 ∧ i8 < (x0.length : Int) then if (i6.length + 1) * 40 ≤ 140737488355328 then crawlwayref25_Put.l0 x0 x1 (i6 ++ [lget x0 i8]) i7 (wr .i64 (i8 + 1)) else none else none)) else none) else (some (i6, i7))
  partial_fixpoint
def crawlwayref25_Put (x0 : List S_api_Entry) (x1 : S_api_Entry) : Option (List S_api_Entry) :=
  crawlwayref25_Put.l0 x0 x1 ([] : List S_api_Entry) false 0 >>= fun q5 => if (!q5.2) = true then (if (q5.1.length + 1) * 40 ≤ 140737488355328 then some (q5.1 ++ [x1]) else none) else (some q5.1)
theorem crawlwayref25_Put_ok (x0 : List S_api_Entry) (p0_ : Option Addr) (c0_ : Nat) (x1 : S_api_Entry) (r : List S_api_Entry) (hF : crawlwayref25_Put x0 x1 = some r) (w : World) (hr0 : Row c_api_Entry w p0_ c0_ x0) :
    Calls Try.prog 67 #[.slice p0_ x0.length c0_, .agg (Cd.cs c_api_Entry x1).toArray] w (fun e w' => ∃ p cap, e = .returned (.slice p r.length cap) ∧ Own c_api_Entry 52 w.heap.size w' p cap r ∧ Below w.heap.size w w') := by
 unfold crawlwayref25_Put at hF
 refine calls_enter (l := [.slice p0_ x0.length c0_, .agg (Cd.cs c_api_Entry x1).toArray]) Try.func67 rfl rfl rfl ?_
 refine at_start ?_
 refine at_weak [(0, _), (1, _)] ⟨rfl, rfl, trivial⟩ ?_
 refine sr ?_
 refine at_box (cs := Cd.cs c_api_Entry x1) rfl rfl rfl ?_
 intro b1
 refine av rfl (r_assign rfl) ?_
 refine nws [(0, _), (3, _)] ⟨rfl, rfl, trivial⟩ ?_
 refine av rfl (r_assign rfl) ?_
 refine nws [(0, _), (3, _), (5, _)] ⟨rfl, rfl, rfl, trivial⟩ ?_
 refine av rfl (r_assign rfl) ?_
 refine nwt [(0, _), (3, _), (5, _), (6, _)] ⟨rfl, rfl, rfl, rfl, trivial⟩ ?_
 refine at_seq ?_
 refine sr ?_
 refine av rfl (r_assign rfl) ?_
 refine nwt [(0, _), (3, _), (5, _), (6, _), (7, _)] ⟨rfl, rfl, rfl, rfl, rfl, trivial⟩ ?_
 refine at_block ?_
 refine at_own_nil c_api_Entry 52 ?_
 refine at_weak [(0, _), (3, _), (5, .slice (nn 2) ([] : List S_api_Entry).length 0), (6, _), (7, _)] ⟨rfl, rfl, rfl, rfl, rfl, trivial⟩ ?_
 obtain ⟨q5, hq5, hF⟩ := of_bindM hF
 refine at_weak [(0, _), (3, _), (5, _), (6, _), (7, _)] ⟨rfl, rfl, rfl, rfl, rfl, trivial⟩ ?_
 refine at_loop_n (B := 0) (A := fun Y => ∀ (p11 : Option Addr) (c12 : Nat), At 52 [(3, .pointer (some ⟨b1, 0, none⟩)), (5, .slice p11 q5.1.length c12), (6, .bool q5.2)] (Wd w [rowE c_api_Entry 52 p11 c12 q5.1, cellsE b1 (Cd.cs c_api_Entry x1) 52]) Y) ?_ ?_
 ·intro K
  refine crawlwayref25_Put.l0.partial_correctness x0 x1 (motive := fun i6 i7 i8 x => KN (fun Y => ∀ (p11 : Option Addr) (c12 : Nat), At 52 [(3, .pointer (some ⟨b1, 0, none⟩)), (5, .slice p11 x.1.length c12), (6, .bool x.2)] (Wd w [rowE c_api_Entry 52 p11 c12 x.1, cellsE b1 (Cd.cs c_api_Entry x1) 52]) Y) _ 0 → Round (fun Y => ∀ (p9 : Option Addr) (c10 : Nat), At 52 [(0, .slice p0_ x0.length c0_), (3, .pointer (some ⟨b1, 0, none⟩)), (5, .slice p9 i6.length c10), (6, .bool i7), (7, .int .i64 i8)] (Wd w [rowE c_api_Entry 52 p9 c10 i6, cellsE b1 (Cd.cs c_api_Entry x1) 52]) Y) _ _ _) ?_ _ _ _ _ hq5 K (nn 2) 0
  ·clear K hF
   intro g ih i6 i7 i8 x hF K p9 c10
   refine at_round ?_
   refine at_seq ?_
   refine sr ?_
   refine av rfl (r_move rfl) ?_
   refine av rfl (r_move rfl) ?_
   refine av rfl (r_len_sl Try.underlying44 rfl) ?_
   refine av rfl (r_ilss rfl rfl) ?_
   refine nwt [(0, _), (3, _), (5, _), (6, _), (7, _), (11, _)] ⟨rfl, rfl, rfl, rfl, rfl, rfl, trivial⟩ ?_
   rcases of_ite hF with ⟨h13, hF⟩ | ⟨h13, hF⟩
   ·refine at_cond_true rfl h13 ?_
    refine sn ?_
    refine at_seq ?_
    refine at_block ?_
    refine at_seq ?_
    refine at_seq ?_
    refine at_draw (by kernel_rfl) (by kernel_rfl) (fun _ h => h.drew) ?_
    refine atq_val rfl rfl rfl (r_move rfl) ?_
    refine atq_val rfl rfl rfl (r_move rfl) ?_
    obtain ⟨h14, hF⟩ := of_guard hF
    obtain ⟨b16, o17, hp15⟩ := row_ptr hr0 h14
    refine atq_val rfl rfl rfl (r_idx Try.underlying44 Try.sizeOf52 rfl rfl h14 hp15) ?_
    refine atq_val rfl rfl rfl (r_fieldAddr (fo := 0) Try.underlying52 rfl rfl (fun w => ⟨_, Try.sizeOf46 w⟩) rfl) ?_
    refine atq_val rfl rfl rfl (r_load_aggc (c := c_api_Prefix) (z := (lget x0 i8).f_P) Try.isAgg46 Try.sizeOf46 rfl (row_lens (y := (lget x0 i8).f_P) (fun _ h => h.below) hr0 h14 hp15 (Lens.comp (Lens.whole _ _) (fun z => { (lget x0 i8) with f_P := z }) (c_api_Entry_f_P (lget x0 i8))))) ?_
    refine atq_val rfl rfl rfl (r_fieldAddr (fo := 0) Try.underlying52 rfl rfl (fun w => ⟨_, Try.sizeOf46 w⟩) rfl) ?_
    refine atq_val rfl rfl rfl (r_load_aggc (c := c_api_Prefix) (z := x1.f_P) Try.isAgg46 Try.sizeOf46 rfl (lens_cell (.s .z) (Lens.comp (Lens.whole _ _) (fun z => { x1 with f_P := z }) (c_api_Entry_f_P x1)))) ?_
    refine atq_val rfl rfl rfl (r_eqagg (c := c_api_Prefix) (a := (lget x0 i8).f_P) (b := x1.f_P) (eq_api_Prefix_46) rfl Try.eqGuardType46 rfl rfl (.inl rfl) rfl) ?_
    refine atq_nil ?_
    refine at_weak [(0, _), (3, _), (5, _), (6, _), (7, _), (21, _)] ⟨rfl, rfl, rfl, rfl, rfl, rfl, trivial⟩ ?_
    refine at_then_normal ?_
    rcases of_ite hF with ⟨h18, hF⟩ | ⟨h18, hF⟩
    ·refine at_cond_true rfl h18 ?_
     refine at_exit ?_
     refine at_then_exit (at_blk_same (at_then_normal ?_))
     refine at_region ?_
     refine av rfl (r_move rfl) ?_
     refine av rfl (r_iadd rfl rfl) ?_
     refine av rfl (r_assign rfl) ?_
     refine nwt [(0, _), (3, _), (5, _), (6, _), (7, _)] ⟨rfl, rfl, rfl, rfl, rfl, trivial⟩ ?_
     exact at_weak_k (ih _ _ _ _ hF K p9 c10) ⟨rfl, rfl, rfl, rfl, rfl, trivial⟩
    ·refine at_cond_false rfl h18 ?_
     refine sn ?_
     refine at_seq ?_
     refine at_seq ?_
     refine at_draw (by kernel_rfl) (by kernel_rfl) (fun _ h => h.drew) ?_
     refine atq_val rfl rfl rfl (r_move rfl) ?_
     refine atq_val rfl rfl rfl (r_not rfl) ?_
     refine atq_val rfl rfl rfl (r_move rfl) ?_
     rcases of_ite hF with ⟨h19, hF⟩ | ⟨h19, hF⟩
     ·refine atq_fix (g := 24) rfl h19 ?_
      refine atq_guard_yes rfl rfl rfl ?_
      refine atq_val rfl rfl rfl (r_fieldAddr (fo := 0) Try.underlying52 rfl rfl (fun w => ⟨_, Try.sizeOf46 w⟩) rfl) ?_
      refine atq_guard_yes rfl rfl rfl ?_
      refine atq_val rfl rfl rfl (r_load_aggc (c := c_api_Prefix) (z := x1.f_P) Try.isAgg46 Try.sizeOf46 rfl (lens_cell (.s .z) (Lens.comp (Lens.whole _ _) (fun z => { x1 with f_P := z }) (c_api_Entry_f_P x1)))) ?_
      refine atq_guard_yes rfl rfl rfl ?_
      refine atq_val rfl rfl rfl (r_move rfl) ?_
      refine atq_guard_yes rfl rfl rfl ?_
      refine atq_val rfl rfl rfl (r_move rfl) ?_
      refine atq_guard_yes rfl rfl rfl ?_
      obtain ⟨h20, hF⟩ := of_guard hF
      obtain ⟨b22, o23, hp21⟩ := row_ptr hr0 h20
      refine atq_val rfl rfl rfl (r_idx Try.underlying44 Try.sizeOf52 rfl rfl h20 hp21) ?_
      refine atq_guard_yes rfl rfl rfl ?_
      refine atq_val rfl rfl rfl (r_fieldAddr (fo := 0) Try.underlying52 rfl rfl (fun w => ⟨_, Try.sizeOf46 w⟩) rfl) ?_
      refine atq_guard_yes rfl rfl rfl ?_
      refine atq_val rfl rfl rfl (r_load_aggc (c := c_api_Prefix) (z := (lget x0 i8).f_P) Try.isAgg46 Try.sizeOf46 rfl (row_lens (y := (lget x0 i8).f_P) (fun _ h => h.below) hr0 h20 hp21 (Lens.comp (Lens.whole _ _) (fun z => { (lget x0 i8) with f_P := z }) (c_api_Entry_f_P (lget x0 i8))))) ?_
      refine atq_guard_yes rfl rfl rfl ?_
      obtain ⟨t24, ht24, hF⟩ := of_bindM hF
      refine atq_call Try.func90 rfl (by kernel_rfl) rfl rfl (fun w hw => (crawlwayref11_Less_ok _ _ _ ht24 w).mono fun _ _ h => ⟨h.1, hw.call h.2⟩) ?_
      refine atq_val rfl rfl rfl (r_pick rfl rfl rfl) ?_
      refine atq_nil ?_
      refine at_weak [(0, _), (3, _), (5, _), (6, _), (7, _), (33, _)] ⟨rfl, rfl, rfl, rfl, rfl, rfl, trivial⟩ ?_
      refine at_then_normal ?_
      rcases of_ite hF with ⟨h25, hF⟩ | ⟨h25, hF⟩
      ·refine at_cond_true rfl h25 ?_
       refine sr ?_
       refine av rfl (r_move rfl) ?_
       refine av rfl (r_load_aggc (c := c_api_Entry) (z := x1) Try.isAgg52 Try.sizeOf52 rfl (lens_cell (.s .z) (Lens.whole _ _))) ?_
       refine at_litL (c := c_api_Entry) ([({ f_P := zqU1_0, f_Owner := (0 : Int) } : S_api_Entry)] : List S_api_Entry) ([x1] : List S_api_Entry) Try.underlying44 Try.sizeOf52 Try.zeroValue52 rfl rfl rfl (by kernel_rfl) (fill_step (c := c_api_Entry) (z := x1) rfl (Lens.all c_api_Entry ([({ f_P := zqU1_0, f_Owner := (0 : Int) } : S_api_Entry)] : List S_api_Entry) 0 (by decide)) rfl rfl) rfl ?_
       intro b26
       obtain ⟨h27, hF⟩ := of_guard hF
       refine at_append (z := .agg (Cd.cs c_api_Entry ({ f_P := zqU1_0, f_Owner := (0 : Int) } : S_api_Entry)).toArray) (c := c_api_Entry) (ys := ([x1] : List S_api_Entry)) (.s .z) Try.underlying44 infoU152 (by kernel_rfl) (by kernel_rfl) rfl rfl rfl rfl (fun _ hw => cells_src (hw.ok (Upd.mem .z))) (by kernel_rfl) h27 (app_small h27) rfl ?_
       intro p28 c29
       refine av rfl (r_assign rfl) ?_
       refine at_nil ?_
       refine at_drop (H := _) .z ?_
       refine at_weak [(0, _), (3, _), (5, _), (7, _)] ⟨rfl, rfl, rfl, rfl, trivial⟩ ?_
       refine at_then_normal ?_
       refine at_region ?_
       refine av rfl (r_assign rfl) ?_
       refine nwt [(0, _), (3, _), (5, _), (6, _), (7, _)] ⟨rfl, rfl, rfl, rfl, rfl, trivial⟩ ?_
       refine at_region ?_
       refine av rfl (r_move rfl) ?_
       refine av rfl (r_move rfl) ?_
       refine av rfl (r_move rfl) ?_
       obtain ⟨h30, hF⟩ := of_guard hF
       obtain ⟨b32, o33, hp31⟩ := row_ptr hr0 h30
       refine av rfl (r_idx Try.underlying44 Try.sizeOf52 rfl rfl h30 hp31) ?_
       refine av rfl (r_load_aggc (c := c_api_Entry) (z := lget x0 i8) Try.isAgg52 Try.sizeOf52 rfl (row_cell (fun _ h => h.below) hr0 h30 hp31)) ?_
       refine at_litL (c := c_api_Entry) ([({ f_P := zqU1_0, f_Owner := (0 : Int) } : S_api_Entry)] : List S_api_Entry) ([lget x0 i8] : List S_api_Entry) Try.underlying44 Try.sizeOf52 Try.zeroValue52 rfl rfl rfl (by kernel_rfl) (fill_step (c := c_api_Entry) (z := lget x0 i8) rfl (Lens.all c_api_Entry ([({ f_P := zqU1_0, f_Owner := (0 : Int) } : S_api_Entry)] : List S_api_Entry) 0 (by decide)) rfl rfl) rfl ?_
       intro b34
       obtain ⟨h35, hF⟩ := of_guard hF
       refine at_append (z := .agg (Cd.cs c_api_Entry ({ f_P := zqU1_0, f_Owner := (0 : Int) } : S_api_Entry)).toArray) (c := c_api_Entry) (ys := ([lget x0 i8] : List S_api_Entry)) (.s .z) Try.underlying44 infoU152 (by kernel_rfl) (by kernel_rfl) rfl rfl rfl rfl (fun _ hw => cells_src (hw.ok (Upd.mem .z))) (by kernel_rfl) h35 (app_small h35) rfl ?_
       intro p36 c37
       refine av rfl (r_assign rfl) ?_
       refine at_nil ?_
       refine at_drop (H := _) .z ?_
       refine at_weak [(0, _), (3, _), (5, _), (6, _), (7, _)] ⟨rfl, rfl, rfl, rfl, rfl, trivial⟩ ?_
       refine at_blk_normal (at_then_normal ?_)
       refine at_region ?_
       refine av rfl (r_move rfl) ?_
       refine av rfl (r_iadd rfl rfl) ?_
       refine av rfl (r_assign rfl) ?_
       refine nwt [(0, _), (3, _), (5, _), (6, _), (7, _)] ⟨rfl, rfl, rfl, rfl, rfl, trivial⟩ ?_
       exact at_weak_k (ih _ _ _ _ hF K p36 c37) ⟨rfl, rfl, rfl, rfl, rfl, trivial⟩
      ·refine at_cond_false rfl h25 ?_
       refine sn ?_
       refine at_region ?_
       refine av rfl (r_move rfl) ?_
       refine av rfl (r_move rfl) ?_
       refine av rfl (r_move rfl) ?_
       obtain ⟨h38, hF⟩ := of_guard hF
       obtain ⟨b40, o41, hp39⟩ := row_ptr hr0 h38
       refine av rfl (r_idx Try.underlying44 Try.sizeOf52 rfl rfl h38 hp39) ?_
       refine av rfl (r_load_aggc (c := c_api_Entry) (z := lget x0 i8) Try.isAgg52 Try.sizeOf52 rfl (row_cell (fun _ h => h.below) hr0 h38 hp39)) ?_
       refine at_litL (c := c_api_Entry) ([({ f_P := zqU1_0, f_Owner := (0 : Int) } : S_api_Entry)] : List S_api_Entry) ([lget x0 i8] : List S_api_Entry) Try.underlying44 Try.sizeOf52 Try.zeroValue52 rfl rfl rfl (by kernel_rfl) (fill_step (c := c_api_Entry) (z := lget x0 i8) rfl (Lens.all c_api_Entry ([({ f_P := zqU1_0, f_Owner := (0 : Int) } : S_api_Entry)] : List S_api_Entry) 0 (by decide)) rfl rfl) rfl ?_
       intro b42
       obtain ⟨h43, hF⟩ := of_guard hF
       refine at_append (z := .agg (Cd.cs c_api_Entry ({ f_P := zqU1_0, f_Owner := (0 : Int) } : S_api_Entry)).toArray) (c := c_api_Entry) (ys := ([lget x0 i8] : List S_api_Entry)) (.s .z) Try.underlying44 infoU152 (by kernel_rfl) (by kernel_rfl) rfl rfl rfl rfl (fun _ hw => cells_src (hw.ok (Upd.mem .z))) (by kernel_rfl) h43 (app_small h43) rfl ?_
       intro p44 c45
       refine av rfl (r_assign rfl) ?_
       refine at_nil ?_
       refine at_drop (H := _) .z ?_
       refine at_weak [(0, _), (3, _), (5, _), (6, _), (7, _)] ⟨rfl, rfl, rfl, rfl, rfl, trivial⟩ ?_
       refine at_blk_normal (at_then_normal ?_)
       refine at_region ?_
       refine av rfl (r_move rfl) ?_
       refine av rfl (r_iadd rfl rfl) ?_
       refine av rfl (r_assign rfl) ?_
       refine nwt [(0, _), (3, _), (5, _), (6, _), (7, _)] ⟨rfl, rfl, rfl, rfl, rfl, trivial⟩ ?_
       exact at_weak_k (ih _ _ _ _ hF K p44 c45) ⟨rfl, rfl, rfl, rfl, rfl, trivial⟩
     ·refine atq_fix (g := 24) rfl h19 ?_
      refine atq_guard_no rfl rfl rfl rfl rfl ?_
      refine atq_guard_no rfl rfl rfl rfl rfl ?_
      refine atq_guard_no rfl rfl rfl rfl rfl ?_
      refine atq_guard_no rfl rfl rfl rfl rfl ?_
      refine atq_guard_no rfl rfl rfl rfl rfl ?_
      refine atq_guard_no rfl rfl rfl rfl rfl ?_
      refine atq_guard_no rfl rfl rfl rfl rfl ?_
      refine atq_guard_no rfl rfl rfl rfl rfl ?_
      refine atq_val rfl rfl rfl (r_pick rfl rfl rfl) ?_
      refine atq_nil ?_
      refine at_weak [(0, _), (3, _), (5, _), (6, _), (7, _), (33, _)] ⟨rfl, rfl, rfl, rfl, rfl, rfl, trivial⟩ ?_
      refine at_then_normal ?_
      refine at_cond_false rfl rfl ?_
      refine sn ?_
      refine at_region ?_
      refine av rfl (r_move rfl) ?_
      refine av rfl (r_move rfl) ?_
      refine av rfl (r_move rfl) ?_
      obtain ⟨h46, hF⟩ := of_guard hF
      obtain ⟨b48, o49, hp47⟩ := row_ptr hr0 h46
      refine av rfl (r_idx Try.underlying44 Try.sizeOf52 rfl rfl h46 hp47) ?_
      refine av rfl (r_load_aggc (c := c_api_Entry) (z := lget x0 i8) Try.isAgg52 Try.sizeOf52 rfl (row_cell (fun _ h => h.below) hr0 h46 hp47)) ?_
      refine at_litL (c := c_api_Entry) ([({ f_P := zqU1_0, f_Owner := (0 : Int) } : S_api_Entry)] : List S_api_Entry) ([lget x0 i8] : List S_api_Entry) Try.underlying44 Try.sizeOf52 Try.zeroValue52 rfl rfl rfl (by kernel_rfl) (fill_step (c := c_api_Entry) (z := lget x0 i8) rfl (Lens.all c_api_Entry ([({ f_P := zqU1_0, f_Owner := (0 : Int) } : S_api_Entry)] : List S_api_Entry) 0 (by decide)) rfl rfl) rfl ?_
      intro b50
      obtain ⟨h51, hF⟩ := of_guard hF
      refine at_append (z := .agg (Cd.cs c_api_Entry ({ f_P := zqU1_0, f_Owner := (0 : Int) } : S_api_Entry)).toArray) (c := c_api_Entry) (ys := ([lget x0 i8] : List S_api_Entry)) (.s .z) Try.underlying44 infoU152 (by kernel_rfl) (by kernel_rfl) rfl rfl rfl rfl (fun _ hw => cells_src (hw.ok (Upd.mem .z))) (by kernel_rfl) h51 (app_small h51) rfl ?_
      intro p52 c53
      refine av rfl (r_assign rfl) ?_
      refine at_nil ?_
      refine at_drop (H := _) .z ?_
      refine at_weak [(0, _), (3, _), (5, _), (6, _), (7, _)] ⟨rfl, rfl, rfl, rfl, rfl, trivial⟩ ?_
      refine at_blk_normal (at_then_normal ?_)
      refine at_region ?_
      refine av rfl (r_move rfl) ?_
      refine av rfl (r_iadd rfl rfl) ?_
      refine av rfl (r_assign rfl) ?_
      refine nwt [(0, _), (3, _), (5, _), (6, _), (7, _)] ⟨rfl, rfl, rfl, rfl, rfl, trivial⟩ ?_
      exact at_weak_k (ih _ _ _ _ hF K p52 c53) ⟨rfl, rfl, rfl, rfl, rfl, trivial⟩
   ·refine at_cond_false rfl h13 ?_
    refine at_exit ?_
    refine at_then_exit (at_then_exit ?_)
    obtain rfl := of_some hF
    exact at_weak_k (K p9 c10) ⟨rfl, rfl, rfl, trivial⟩
 ·skip
  intro p11 c12
  refine at_blk_same ?_
  refine at_then_normal ?_
  refine at_seq ?_
  refine sr ?_
  refine av rfl (r_move rfl) ?_
  refine av rfl (r_not rfl) ?_
  refine nwt [(3, _), (5, _), (46, _)] ⟨rfl, rfl, rfl, trivial⟩ ?_
  rcases of_ite hF with ⟨h54, hF⟩ | ⟨h54, hF⟩
  ·refine at_cond_true rfl h54 ?_
   refine at_region ?_
   refine av rfl (r_move rfl) ?_
   refine av rfl (r_load_aggc (c := c_api_Entry) (z := x1) Try.isAgg52 Try.sizeOf52 rfl (lens_cell (.s .z) (Lens.whole _ _))) ?_
   refine at_litL (c := c_api_Entry) ([({ f_P := zqU1_0, f_Owner := (0 : Int) } : S_api_Entry)] : List S_api_Entry) ([x1] : List S_api_Entry) Try.underlying44 Try.sizeOf52 Try.zeroValue52 rfl rfl rfl (by kernel_rfl) (fill_step (c := c_api_Entry) (z := x1) rfl (Lens.all c_api_Entry ([({ f_P := zqU1_0, f_Owner := (0 : Int) } : S_api_Entry)] : List S_api_Entry) 0 (by decide)) rfl rfl) rfl ?_
   intro b55
   obtain ⟨h56, hF⟩ := of_guard hF
   refine at_append (z := .agg (Cd.cs c_api_Entry ({ f_P := zqU1_0, f_Owner := (0 : Int) } : S_api_Entry)).toArray) (c := c_api_Entry) (ys := ([x1] : List S_api_Entry)) (.s .z) Try.underlying44 infoU152 (by kernel_rfl) (by kernel_rfl) rfl rfl rfl rfl (fun _ hw => cells_src (hw.ok (Upd.mem .z))) (by kernel_rfl) h56 (app_small h56) rfl ?_
   intro p57 c58
   refine av rfl (r_assign rfl) ?_
   refine at_nil ?_
   refine at_drop (H := _) .z ?_
   refine at_drop (H := _) (.s .z) ?_
   refine at_weak [(5, _)] ⟨rfl, trivial⟩ ?_
   refine at_then_normal ?_
   refine sr ?_
   refine av rfl (r_move rfl) ?_
   refine av rfl (r_assign rfl) ?_
   refine nwt [(4, _)] ⟨rfl, trivial⟩ ?_
   refine at_ret ?_
   have K := of_some hF
   subst K
   exact at_return1 rfl rfl (fun w1 hw => ⟨p57, c58, rfl, hw.own .z, hw.below⟩)
  ·refine at_cond_false rfl h54 ?_
   refine sns ?_
   refine av rfl (r_move rfl) ?_
   refine av rfl (r_assign rfl) ?_
   refine at_nil ?_
   refine at_drop (H := _) (.s .z) ?_
   refine at_weak [(4, _)] ⟨rfl, trivial⟩ ?_
   refine at_then_normal ?_
   refine at_ret ?_
   have K := of_some hF
   subst K
   exact at_return1 rfl rfl (fun w1 hw => ⟨p11, c12, rfl, hw.own .z, hw.below⟩)
def crawlwayref25_Find.l0 (x0 : List S_api_Entry) (x1 : S_api_Addr) (i5 : Bool) (i6 : Int) (i7 : S_api_Entry) : Option (Bool × S_api_Entry) :=
  if (decide (i6 < (x0.length : Int))) = true then (if (0 : Int) ≤ i6 ∧ i6 < (x0.length : Int) then crawlwayref11_Has ((lget x0 i6).f_P) x1 >>= fun t13 => if t13 = true then (if (!i5) = true then (if (0 : Int) ≤ i6 ∧ i6 < (x0.length : Int) then crawlwayref25_Find.l0 x0 x1 true (wr .i64 (i6 + 1)) (lget x0 i6) else none) else (if (0 : Int) ≤ i6 ∧ i6 < (x0.length : Int) then if (decide (((lget x0 i6).f_P).f_Bits > i7.f_P.f_Bits)) = true then (if (0 : Int) ≤ i6 ∧ i6 < (x0.length : Int) then crawlwayref25_Find.l0 x0 x1 true (wr .i64 (i6 + 1)) (lget x0 i6) else none) else (crawlwayref25_Find.l0 x0 x1 i5 (wr .i64 (i6 + 1)) i7) else none)) else (crawlwayref25_Find.l0 x0 x1 i5 (wr .i64 (i6 + 1)) i7) else none) else (some (i5, i7))
  partial_fixpoint
def crawlwayref25_Find (x0 : List S_api_Entry) (x1 : S_api_Addr) : Option (S_api_Entry × Bool) :=
  crawlwayref25_Find.l0 x0 x1 false 0 ({ f_P := ({ f_A := ({ f_V := (0 : Int), f_B := (Vector.replicate 16 (0 : Int) : (Vector Int 16)) } : S_api_Addr), f_Bits := (0 : Int) } : S_api_Prefix), f_Owner := (0 : Int) } : S_api_Entry) >>= fun q4 => some (q4.2, q4.1)
def crawlwayref25_Same.l0 (x0 : List S_api_Entry) (x1 : List S_api_Entry) (i3 : Int) : Option (Ctl (Bool) (Unit)) :=
  if (decide (i3 < (x0.length : Int))) = true then (if (0 : Int) ≤ i3 ∧ i3 < (x0.length : Int) then if (0 : Int) ≤ i3 ∧ i3 < (x1.length : Int) then if (!decide (lget x0 i3 = lget x1 i3)) = true then (some (.ret false)) else (crawlwayref25_Same.l0 x0 x1 (wr .i64 (i3 + 1))) else none else none) else (some (.nx ()))
  partial_fixpoint
def crawlwayref25_Same (x0 : List S_api_Entry) (x1 : List S_api_Entry) : Option (Bool) :=
  if ((x0.length : Int) != (x1.length : Int)) = true then (some false) else (crawlwayref25_Same.l0 x0 x1 0 >>= fun q2 => match q2 with | .ret r' => some r' | .nx sq2 => (some true))
theorem crawlwayref25_Same_ok (x0 : List S_api_Entry) (p0_ : Option Addr) (c0_ : Nat) (x1 : List S_api_Entry) (p1_ : Option Addr) (c1_ : Nat) (r : Bool) (hF : crawlwayref25_Same x0 x1 = some r) (w : World) (hr0 : Row c_api_Entry w p0_ c0_ x0) (hr1 : Row c_api_Entry w p1_ c1_ x1) :
    Calls Try.prog 29 #[.slice p0_ x0.length c0_, .slice p1_ x1.length c1_] w (fun e w' => e = .returned (.bool r) ∧ Below w.heap.size w w') := by
 unfold crawlwayref25_Same at hF
 refine calls_enter (l := [.slice p0_ x0.length c0_, .slice p1_ x1.length c1_]) Try.func29 rfl rfl rfl ?_
 refine at_start ?_
 refine at_weak [(0, _), (1, _)] ⟨rfl, rfl, trivial⟩ ?_
 refine sr ?_
 refine av rfl (r_assign rfl) ?_
 refine nwt [(0, _), (1, _)] ⟨rfl, rfl, trivial⟩ ?_
 refine at_seq ?_
 refine sr ?_
 refine av rfl (r_move rfl) ?_
 refine av rfl (r_len_sl Try.underlying44 rfl) ?_
 refine av rfl (r_move rfl) ?_
 refine av rfl (r_len_sl Try.underlying44 rfl) ?_
 refine av rfl (r_ineq rfl rfl) ?_
 refine nwt [(0, _), (1, _), (10, _)] ⟨rfl, rfl, rfl, trivial⟩ ?_
 rcases of_ite hF with ⟨h1, hF⟩ | ⟨h1, hF⟩
 ·refine at_cond_true rfl h1 ?_
  refine sr ?_
  refine av rfl (r_assign rfl) ?_
  refine nwt [(4, _)] ⟨rfl, trivial⟩ ?_
  refine rt ?_
  have K := of_some hF
  subst K
  exact at_return1 rfl rfl (fun w1 hw => ⟨rfl, hw.below⟩)
 ·refine at_cond_false rfl h1 ?_
  refine sn ?_
  refine at_seq ?_
  refine sr ?_
  refine av rfl (r_assign rfl) ?_
  refine nwt [(0, _), (1, _), (5, _)] ⟨rfl, rfl, rfl, trivial⟩ ?_
  refine at_block ?_
  obtain ⟨q2, hq2, hF⟩ := of_bindM hF
  refine at_weak [(0, _), (1, _), (5, _)] ⟨rfl, rfl, rfl, trivial⟩ ?_
  refine at_loop_r (B := 0) (r := r) (q := q2) (A := fun (_ : Unit) Y => At 26 [] (Wd w []) Y) ?_ ?_
  ·intro K
   refine crawlwayref25_Same.l0.partial_correctness x0 x1 (motive := fun i3 x => KR (fun (_ : Unit) Y => At 26 [] (Wd w []) Y) _ 0 r x → Round (fun Y => At 26 [(0, .slice p0_ x0.length c0_), (1, .slice p1_ x1.length c1_), (5, .int .i64 i3)] (Wd w []) Y) _ _ _) ?_ _ _ hq2 K
   ·clear K hF
    intro g ih i3 x hF K
    refine at_round ?_
    refine at_seq ?_
    refine sr ?_
    refine av rfl (r_move rfl) ?_
    refine av rfl (r_move rfl) ?_
    refine av rfl (r_len_sl Try.underlying44 rfl) ?_
    refine av rfl (r_ilss rfl rfl) ?_
    refine nwt [(0, _), (1, _), (5, _), (14, _)] ⟨rfl, rfl, rfl, rfl, trivial⟩ ?_
    rcases of_ite hF with ⟨h4, hF⟩ | ⟨h4, hF⟩
    ·refine at_cond_true rfl h4 ?_
     refine sn ?_
     refine at_seq ?_
     refine at_block ?_
     refine at_seq ?_
     refine at_draw (by kernel_rfl) (by kernel_rfl) (fun _ h => h.drew) ?_
     refine atq_val rfl rfl rfl (r_move rfl) ?_
     refine atq_val rfl rfl rfl (r_move rfl) ?_
     obtain ⟨h5, hF⟩ := of_guard hF
     obtain ⟨b7, o8, hp6⟩ := row_ptr hr0 h5
     refine atq_val rfl rfl rfl (r_idx Try.underlying44 Try.sizeOf52 rfl rfl h5 hp6) ?_
     refine atq_val rfl rfl rfl (r_load_aggc (c := c_api_Entry) (z := lget x0 i3) Try.isAgg52 Try.sizeOf52 rfl (row_cell (fun _ h => h.below) hr0 h5 hp6)) ?_
     refine atq_val rfl rfl rfl (r_move rfl) ?_
     refine atq_val rfl rfl rfl (r_move rfl) ?_
     obtain ⟨h9, hF⟩ := of_guard hF
     obtain ⟨b11, o12, hp10⟩ := row_ptr hr1 h9
     refine atq_val rfl rfl rfl (r_idx Try.underlying44 Try.sizeOf52 rfl rfl h9 hp10) ?_
     refine atq_val rfl rfl rfl (r_load_aggc (c := c_api_Entry) (z := lget x1 i3) Try.isAgg52 Try.sizeOf52 rfl (row_cell (fun _ h => h.below) hr1 h9 hp10)) ?_
     refine atq_val rfl rfl rfl (r_eqagg (c := c_api_Entry) (a := lget x0 i3) (b := lget x1 i3) (eq_api_Entry_52) rfl Try.eqGuardType52 rfl rfl (.inr rfl) rfl) ?_
     refine atq_nil ?_
     refine at_weak [(0, _), (1, _), (5, _), (25, _)] ⟨rfl, rfl, rfl, rfl, trivial⟩ ?_
     refine at_then_normal ?_
     rcases of_ite hF with ⟨h13, hF⟩ | ⟨h13, hF⟩
     ·refine at_cond_true rfl h13 ?_
      refine sr ?_
      refine av rfl (r_assign rfl) ?_
      refine nwt [(4, _)] ⟨rfl, trivial⟩ ?_
      refine at_ret ?_
      refine at_blk_ret (at_then_ret (at_then_ret (at_blk_ret (at_then_ret ?_))))
      obtain rfl := of_some hF
      subst K
      exact at_return1 rfl rfl (fun w1 hw => ⟨rfl, hw.below⟩)
     ·refine at_cond_false rfl h13 ?_
      refine at_skip ?_
      refine at_blk_normal (at_then_normal ?_)
      refine at_region ?_
      refine av rfl (r_move rfl) ?_
      refine av rfl (r_iadd rfl rfl) ?_
      refine av rfl (r_assign rfl) ?_
      refine nwt [(0, _), (1, _), (5, _)] ⟨rfl, rfl, rfl, trivial⟩ ?_
      exact at_weak_k (ih _ _ hF K) ⟨rfl, rfl, rfl, trivial⟩
    ·refine at_cond_false rfl h4 ?_
     refine at_exit ?_
     refine at_then_exit (at_then_exit ?_)
     obtain rfl := of_some hF
     exact at_weak_k K trivial
  ·cases q2 with
   | ret r' => exact of_some hF
   | nx sq2 =>
    skip
    refine at_blk_same ?_
    refine at_then_normal ?_
    refine sr ?_
    refine av rfl (r_assign rfl) ?_
    refine nwt [(4, _)] ⟨rfl, trivial⟩ ?_
    refine at_ret ?_
    have K := of_some hF
    subst K
    exact at_return1 rfl rfl (fun w1 hw => ⟨rfl, hw.below⟩)
end Go.Proofs.Ythccncpephpdjaa
namespace Go.Proofs.Ythccncpephpdjaa
open E Go.RowKit
abbrev zqU2_0 : S_api_Prefix := ({ f_A := ({ f_V := (0 : Int), f_B := (Vector.replicate 16 (0 : Int) : (Vector Int 16)) } : S_api_Addr), f_Bits := (0 : Int) } : S_api_Prefix)
abbrev zqU2_1 : S_trie_node := ({ f_next := (Vector.replicate 2 (none : Option Nat) : (Vector (Option Nat) 2)), f_is := false, f_owner := (0 : Int) } : S_trie_node)
abbrev zqU2_2 : S_trie_Trie := ({ f_root := (none : Option Nat), f_family := (0 : Int), f_many := (0 : Int) } : S_trie_Trie)
def trie_New (h_ : List HV) (x0 : Int) : Option (Option Nat × List HV) :=
  if (x0 != 4) = true then (if (x0 != 6) = true then (some ((none : Option Nat), h_)) else (if hvp hK h_ (HV.trie_node ({ f_next := (Vector.replicate 2 (none : Option Nat) : (Vector (Option Nat) 2)), f_is := false, f_owner := (0 : Int) } : S_trie_node)) = true then if hvp hK (h_ ++ [HV.trie_node ({ f_next := (Vector.replicate 2 (none : Option Nat) : (Vector (Option Nat) 2)), f_is := false, f_owner := (0 : Int) } : S_trie_node)]) (HV.trie_Trie ({ { ({ f_root := (none : Option Nat), f_family := (0 : Int), f_many := (0 : Int) } : S_trie_Trie) with f_root := some (List.length h_) } with f_family := x0 })) = true then some (some (List.length (h_ ++ [HV.trie_node ({ f_next := (Vector.replicate 2 (none : Option Nat) : (Vector (Option Nat) 2)), f_is := false, f_owner := (0 : Int) } : S_trie_node)])), (h_ ++ [HV.trie_node ({ f_next := (Vector.replicate 2 (none : Option Nat) : (Vector (Option Nat) 2)), f_is := false, f_owner := (0 : Int) } : S_trie_node)]) ++ [HV.trie_Trie ({ { ({ f_root := (none : Option Nat), f_family := (0 : Int), f_many := (0 : Int) } : S_trie_Trie) with f_root := some (List.length h_) } with f_family := x0 })]) else none else none)) else (if hvp hK h_ (HV.trie_node ({ f_next := (Vector.replicate 2 (none : Option Nat) : (Vector (Option Nat) 2)), f_is := false, f_owner := (0 : Int) } : S_trie_node)) = true then if hvp hK (h_ ++ [HV.trie_node ({ f_next := (Vector.replicate 2 (none : Option Nat) : (Vector (Option Nat) 2)), f_is := false, f_owner := (0 : Int) } : S_trie_node)]) (HV.trie_Trie ({ { ({ f_root := (none : Option Nat), f_family := (0 : Int), f_many := (0 : Int) } : S_trie_Trie) with f_root := some (List.length h_) } with f_family := x0 })) = true then some (some (List.length (h_ ++ [HV.trie_node ({ f_next := (Vector.replicate 2 (none : Option Nat) : (Vector (Option Nat) 2)), f_is := false, f_owner := (0 : Int) } : S_trie_node)])), (h_ ++ [HV.trie_node ({ f_next := (Vector.replicate 2 (none : Option Nat) : (Vector (Option Nat) 2)), f_is := false, f_owner := (0 : Int) } : S_trie_node)]) ++ [HV.trie_Trie ({ { ({ f_root := (none : Option Nat), f_family := (0 : Int), f_many := (0 : Int) } : S_trie_Trie) with f_root := some (List.length h_) } with f_family := x0 })]) else none else none)
theorem trie_New_ok {h_ : List HV} {x0 : Int} {r : Option Nat × List HV} (hF : trie_New h_ x0 = some r) : ∀ {w0 w : World} {G_ : List Ent} {g0_ : Nat → Nat} {n0_ : Nat} {gh : Nat → Nat} (hw_ : Wd w0 (heapE hK g0_ n0_ gh h_ :: G_) w),
    Calls Try.prog 24 #[.int .i64 x0] w (fun e w' => ∃ (gh : Nat → Nat), e = .returned (pv gh r.1) ∧ Wd w0 (heapE hK g0_ n0_ gh r.2 :: G_) w') := by
 intro w0 w G_ g0_ n0_ gh hw_
 unfold trie_New at hF
 refine calls_enter (l := [.int .i64 x0]) Try.func24 rfl rfl rfl ?_
 refine at_enterF hw_ ?_
 refine at_weak [(0, _)] ⟨rfl, trivial⟩ ?_
 refine sr ?_
 refine av rfl (r_assign rfl) ?_
 refine nwt [(0, _)] ⟨rfl, trivial⟩ ?_
 refine at_seq ?_
 refine sr ?_
 refine av rfl (r_move rfl) ?_
 refine av rfl (r_ineq rfl rfl) ?_
 refine av rfl (r_move rfl) ?_
 rcases of_ite hF with ⟨h1, hF⟩ | ⟨h1, hF⟩
 ·refine at_fix (g := 5) rfl h1 ?_
  refine at_guard_yes rfl rfl rfl ?_
  refine av rfl (r_move rfl) ?_
  refine at_guard_yes rfl rfl rfl ?_
  refine av rfl (r_ineq rfl rfl) ?_
  refine av rfl (r_pick rfl rfl rfl) ?_
  refine nwt [(0, _), (8, _)] ⟨rfl, rfl, trivial⟩ ?_
  rcases of_ite hF with ⟨h2, hF⟩ | ⟨h2, hF⟩
  ·refine at_cond_true rfl h2 ?_
   refine sr ?_
   refine av rfl (r_assign rfl) ?_
   refine nwt [(2, _)] ⟨rfl, trivial⟩ ?_
   refine rt ?_
   have K := of_some hF
   subst K
   exact at_return1 rfl rfl (fun w1 hw => ⟨gh, rfl, hw⟩)
  ·refine at_cond_false rfl h2 ?_
   refine sns ?_
   refine av rfl (r_build_struct (zs := Cd.cs (c_trie_node gh) zqU2_1) (cs := Cd.cs (c_trie_node gh) zqU2_1) Try.underlying103 Try.zeroValue103 rfl (places_trie_node_103) rfl rfl) ?_
   obtain ⟨h5, hF⟩ := of_guard hF
   refine at_box (cs := Cd.cs (c_trie_node gh) zqU2_1) rfl rfl rfl ?_
   intro b_
   refine at_hpush (v := HV.trie_node zqU2_1) .z h5 (fun g' hg' => hK.ext gh g' (HV.trie_node zqU2_1) _ hg' rfl) ?_
   intro gh hg4
   refine av rfl (r_move rfl) ?_
   refine av rfl (r_build_struct (zs := Cd.cs (c_trie_Trie gh) zqU2_2) (cs := Cd.cs (c_trie_Trie gh) ({ { zqU2_2 with f_root := some (List.length h_) } with f_family := x0 })) Try.underlying105 Try.zeroValue105 rfl (places_trie_Trie_105) rfl (fill_step (c := (cPtr gh)) (z := some (List.length h_)) rfl (c_trie_Trie_f_root gh zqU2_2) rfl (fill_step (c := (cInt .i64)) (z := x0) rfl (c_trie_Trie_f_family gh ({ zqU2_2 with f_root := some (List.length h_) })) rfl rfl))) ?_
   obtain ⟨h8, hF⟩ := of_guard hF
   refine at_box (cs := Cd.cs (c_trie_Trie gh) ({ { zqU2_2 with f_root := some (List.length h_) } with f_family := x0 })) rfl rfl rfl ?_
   intro b_
   refine at_hpush (v := HV.trie_Trie ({ { zqU2_2 with f_root := some (List.length h_) } with f_family := x0 })) .z h8 (fun g' hg' => hK.ext gh g' (HV.trie_Trie ({ { zqU2_2 with f_root := some (List.length h_) } with f_family := x0 })) _ hg' rfl) ?_
   intro gh hg7
   refine av rfl (r_assign rfl) ?_
   refine nwt [(2, _)] ⟨rfl, trivial⟩ ?_
   refine at_ret ?_
   have K := of_some hF
   subst K
   exact at_return1 rfl rfl (fun w1 hw => ⟨gh, rfl, hw⟩)
 ·refine at_fix (g := 5) rfl h1 ?_
  refine at_guard_no rfl rfl rfl rfl rfl ?_
  refine at_guard_no rfl rfl rfl rfl rfl ?_
  refine av rfl (r_pick rfl rfl rfl) ?_
  refine nwt [(0, _), (8, _)] ⟨rfl, rfl, trivial⟩ ?_
  refine at_cond_false rfl rfl ?_
  refine sns ?_
  refine av rfl (r_build_struct (zs := Cd.cs (c_trie_node gh) zqU2_1) (cs := Cd.cs (c_trie_node gh) zqU2_1) Try.underlying103 Try.zeroValue103 rfl (places_trie_node_103) rfl rfl) ?_
  obtain ⟨h11, hF⟩ := of_guard hF
  refine at_box (cs := Cd.cs (c_trie_node gh) zqU2_1) rfl rfl rfl ?_
  intro b_
  refine at_hpush (v := HV.trie_node zqU2_1) .z h11 (fun g' hg' => hK.ext gh g' (HV.trie_node zqU2_1) _ hg' rfl) ?_
  intro gh hg10
  refine av rfl (r_move rfl) ?_
  refine av rfl (r_build_struct (zs := Cd.cs (c_trie_Trie gh) zqU2_2) (cs := Cd.cs (c_trie_Trie gh) ({ { zqU2_2 with f_root := some (List.length h_) } with f_family := x0 })) Try.underlying105 Try.zeroValue105 rfl (places_trie_Trie_105) rfl (fill_step (c := (cPtr gh)) (z := some (List.length h_)) rfl (c_trie_Trie_f_root gh zqU2_2) rfl (fill_step (c := (cInt .i64)) (z := x0) rfl (c_trie_Trie_f_family gh ({ zqU2_2 with f_root := some (List.length h_) })) rfl rfl))) ?_
  obtain ⟨h14, hF⟩ := of_guard hF
  refine at_box (cs := Cd.cs (c_trie_Trie gh) ({ { zqU2_2 with f_root := some (List.length h_) } with f_family := x0 })) rfl rfl rfl ?_
  intro b_
  refine at_hpush (v := HV.trie_Trie ({ { zqU2_2 with f_root := some (List.length h_) } with f_family := x0 })) .z h14 (fun g' hg' => hK.ext gh g' (HV.trie_Trie ({ { zqU2_2 with f_root := some (List.length h_) } with f_family := x0 })) _ hg' rfl) ?_
  intro gh hg13
  refine av rfl (r_assign rfl) ?_
  refine nwt [(2, _)] ⟨rfl, trivial⟩ ?_
  refine at_ret ?_
  have K := of_some hF
  subst K
  exact at_return1 rfl rfl (fun w1 hw => ⟨gh, rfl, hw⟩)
def trie_Trie_check (h_ : List HV) (x0 : Option Nat) (x1 : S_api_Prefix) : Option (Int) :=
  if (Option.isNone x0) = true then (some 2) else (cidr_Right x1 >>= fun t3 => if (!t3) = true then (some 1) else (hn_trie_Trie h_ x0 >>= fun t5 => if (x1.f_A.f_V != t5.2.f_family) = true then (some 1) else (some 0)))
theorem trie_Trie_check_ok {h_ : List HV} {x0 : Option Nat} {x1 : S_api_Prefix} {r : Int} (hF : trie_Trie_check h_ x0 x1 = some r) : ∀ {w0 w : World} {G_ : List Ent} {g0_ : Nat → Nat} {n0_ : Nat} {gh : Nat → Nat} (hw_ : Wd w0 (heapE hK g0_ n0_ gh h_ :: G_) w),
    Calls Try.prog 76 #[pv gh x0, .agg (Cd.cs c_api_Prefix x1).toArray] w (fun e w' => e = .returned (.int .i64 r) ∧ Wd w0 (heapE hK g0_ n0_ gh h_ :: G_) w') := by
 intro w0 w G_ g0_ n0_ gh hw_
 unfold trie_Trie_check at hF
 refine calls_enter (l := [pv gh x0, .agg (Cd.cs c_api_Prefix x1).toArray]) Try.func76 rfl rfl rfl ?_
 refine at_enterF hw_ ?_
 refine at_weak [(0, _), (1, _)] ⟨rfl, rfl, trivial⟩ ?_
 refine sr ?_
 refine at_box (cs := Cd.cs c_api_Prefix x1) rfl rfl rfl ?_
 intro b1
 refine av rfl (r_assign rfl) ?_
 refine nwt [(0, _), (3, _)] ⟨rfl, rfl, trivial⟩ ?_
 refine at_seq ?_
 refine at_block ?_
 refine sr ?_
 refine av rfl (r_move rfl) ?_
 refine av rfl (r_pnil (p := x0) Try.underlying42 rfl rfl (.inl rfl) rfl) ?_
 refine av rfl (r_assign rfl) ?_
 refine nwt [(0, _), (3, _), (5, _)] ⟨rfl, rfl, rfl, trivial⟩ ?_
 rcases of_ite hF with ⟨h2, hF⟩ | ⟨h2, hF⟩
 ·refine at_cond_true rfl h2 ?_
  refine sr ?_
  refine av rfl (r_assign rfl) ?_
  refine at_nil ?_
  refine at_drop (H := _) .z ?_
  refine at_weak [(4, _)] ⟨rfl, trivial⟩ ?_
  refine at_then_normal ?_
  refine at_ret ?_
  refine at_blk_ret (at_then_ret ?_)
  have K := of_some hF
  subst K
  exact at_return1 rfl rfl (fun w1 hw => ⟨rfl, hw⟩)
 ·refine at_cond_false rfl h2 ?_
  refine at_seq ?_
  refine at_draw (by kernel_rfl) (by kernel_rfl) (fun _ h => h.drew) ?_
  refine atq_val rfl rfl rfl (r_load_aggc (c := c_api_Prefix) (z := x1) Try.isAgg46 Try.sizeOf46 rfl (lens_cell .z (Lens.whole _ _))) ?_
  obtain ⟨t3, ht3, hF⟩ := of_bindM hF
  refine atq_call Try.func55 rfl (by kernel_rfl) rfl rfl (fun w hw => (cidr_Right_ok _ _ ht3 w).mono fun _ _ h => ⟨h.1, hw.call h.2⟩) ?_
  refine atq_val rfl rfl rfl (r_not rfl) ?_
  refine atq_val rfl rfl rfl (r_move rfl) ?_
  rcases of_ite hF with ⟨h4, hF⟩ | ⟨h4, hF⟩
  ·refine atq_fix (g := 12) rfl h4 ?_
   refine atq_guard_no rfl rfl rfl rfl rfl ?_
   refine atq_guard_no rfl rfl rfl rfl rfl ?_
   refine atq_guard_no rfl rfl rfl rfl rfl ?_
   refine atq_guard_no rfl rfl rfl rfl rfl ?_
   refine atq_guard_no rfl rfl rfl rfl rfl ?_
   refine atq_guard_no rfl rfl rfl rfl rfl ?_
   refine atq_guard_no rfl rfl rfl rfl rfl ?_
   refine atq_guard_no rfl rfl rfl rfl rfl ?_
   refine atq_val rfl rfl rfl (r_pick rfl rfl rfl) ?_
   refine atq_val rfl rfl rfl (r_assign rfl) ?_
   refine atq_nil ?_
   refine at_drop (H := _) .z ?_
   refine at_weak [(8, _)] ⟨rfl, trivial⟩ ?_
   refine at_then_normal ?_
   refine at_cond_true rfl rfl ?_
   refine sr ?_
   refine av rfl (r_assign rfl) ?_
   refine nwt [(4, _)] ⟨rfl, trivial⟩ ?_
   refine at_ret ?_
   refine at_blk_ret (at_then_ret ?_)
   have K := of_some hF
   subst K
   exact at_return1 rfl rfl (fun w1 hw => ⟨rfl, hw⟩)
  ·refine atq_fix (g := 12) rfl h4 ?_
   refine atq_guard_yes rfl rfl rfl ?_
   refine atq_val rfl rfl rfl (r_fieldAddr (fo := 0) Try.underlying46 rfl rfl (fun w => ⟨_, Try.sizeOf32 w⟩) rfl) ?_
   refine atq_guard_yes rfl rfl rfl ?_
   refine atq_val rfl rfl rfl (r_fieldAddr (fo := 0) Try.underlying32 rfl rfl (fun w => ⟨_, Try.sizeOf3 w⟩) rfl) ?_
   refine atq_guard_yes rfl rfl rfl ?_
   refine atq_val rfl rfl rfl (r_load_cell Try.isAgg3 rfl (lens_cell0 (c := (cInt .i64)) (y := x1.f_A.f_V) .z (Lens.comp (Lens.comp (Lens.whole _ _) (fun z => { x1 with f_A := z }) (c_api_Prefix_f_A x1)) (fun z => { x1.f_A with f_V := z }) (c_api_Addr_f_V x1.f_A)) rfl)) ?_
   refine atq_guard_yes rfl rfl rfl ?_
   refine atq_val rfl rfl rfl (r_move rfl) ?_
   refine atq_guard_yes rfl rfl rfl ?_
   obtain ⟨t5, ht5, hF⟩ := of_bindM hF
   obtain ⟨ha6, hb7⟩ := hn_trie_Trie_at ht5
   refine atq_val rfl rfl rfl (r_npc rfl ha6) ?_
   refine atq_guard_yes rfl rfl rfl ?_
   refine atq_val rfl rfl rfl (r_fieldAddr (fo := 1) Try.underlying105 rfl rfl (fun w => ⟨_, Try.sizeOf3 w⟩) rfl) ?_
   refine atq_guard_yes rfl rfl rfl ?_
   refine atq_val rfl rfl rfl (r_load_cell Try.isAgg3 rfl (hcell0 (c := (cInt .i64)) (y := t5.2.f_family) (.s .z) hb7 (fun _ h => h) (Lens.comp (Lens.whole _ _) (fun z => { t5.2 with f_family := z }) (c_trie_Trie_f_family gh t5.2)) rfl)) ?_
   refine atq_guard_yes rfl rfl rfl ?_
   refine atq_val rfl rfl rfl (r_ineq rfl rfl) ?_
   refine atq_val rfl rfl rfl (r_pick rfl rfl rfl) ?_
   refine atq_val rfl rfl rfl (r_assign rfl) ?_
   refine atq_nil ?_
   refine at_drop (H := _) .z ?_
   refine at_weak [(8, _)] ⟨rfl, trivial⟩ ?_
   refine at_then_normal ?_
   rcases of_ite hF with ⟨h8, hF⟩ | ⟨h8, hF⟩
   ·refine at_cond_true rfl h8 ?_
    refine sr ?_
    refine av rfl (r_assign rfl) ?_
    refine nwt [(4, _)] ⟨rfl, trivial⟩ ?_
    refine at_ret ?_
    refine at_blk_ret (at_then_ret ?_)
    have K := of_some hF
    subst K
    exact at_return1 rfl rfl (fun w1 hw => ⟨rfl, hw⟩)
   ·refine at_cond_false rfl h8 ?_
    refine at_skip ?_
    refine at_blk_normal (at_then_normal ?_)
    refine sr ?_
    refine av rfl (r_assign rfl) ?_
    refine nwt [(4, _)] ⟨rfl, trivial⟩ ?_
    refine at_ret ?_
    have K := of_some hF
    subst K
    exact at_return1 rfl rfl (fun w1 hw => ⟨rfl, hw⟩)
def trie_Trie_Put.l0 (x0 : Option Nat) (x1 : S_api_Prefix) (i8 : Option Nat) (i9 : Int) (i10 : List HV) : Option (Option Nat × List HV) :=
  if (decide (i9 < x1.f_Bits)) = true then (addr_Bit x1.f_A i9 >>= fun t12 => hn_trie_node i10 i8 >>= fun t13 => if (0 : Int) ≤ t12 ∧ t12 < 2 then if (Option.isNone (vget t13.2.f_next t12)) = true then (if vp (List.length i10) x0 = true then if vp (List.length i10) i8 = true then if vp (List.length i10) i8 = true then if hvp hK i10 (HV.trie_node ({ f_next := (Vector.replicate 2 (none : Option Nat) : (Vector (Option Nat) 2)), f_is := false, f_owner := (0 : Int) } : S_trie_node)) = true then hn_trie_node (i10 ++ [HV.trie_node ({ f_next := (Vector.replicate 2 (none : Option Nat) : (Vector (Option Nat) 2)), f_is := false, f_owner := (0 : Int) } : S_trie_node)]) i8 >>= fun t24 => if (0 : Int) ≤ t12 ∧ t12 < 2 then if vp (List.length (i10 ++ [HV.trie_node ({ f_next := (Vector.replicate 2 (none : Option Nat) : (Vector (Option Nat) 2)), f_is := false, f_owner := (0 : Int) } : S_trie_node)])) (some (List.length i10)) = true then hn_trie_node (List.set (i10 ++ [HV.trie_node ({ f_next := (Vector.replicate 2 (none : Option Nat) : (Vector (Option Nat) 2)), f_is := false, f_owner := (0 : Int) } : S_trie_node)]) t24.1 (HV.trie_node ({ t24.2 with f_next := vset t24.2.f_next t12 (some (List.length i10)) }))) i8 >>= fun t29 => if (0 : Int) ≤ t12 ∧ t12 < 2 then trie_Trie_Put.l0 x0 x1 (vget t29.2.f_next t12) (wr .i64 (i9 + 1)) (List.set (i10 ++ [HV.trie_node ({ f_next := (Vector.replicate 2 (none : Option Nat) : (Vector (Option Nat) 2)), f_is := false, f_owner := (0 : Int) } : S_trie_node)]) t24.1 (HV.trie_node ({ t24.2 with f_next := vset t24.2.f_next t12 (some (List.length i10)) }))) else none else none else none else none else none else none else none) else (hn_trie_node i10 i8 >>= fun t33 => if (0 : Int) ≤ t12 ∧ t12 < 2 then trie_Trie_Put.l0 x0 x1 (vget t33.2.f_next t12) (wr .i64 (i9 + 1)) i10 else none) else none) else (some (i8, i10))
  partial_fixpoint
def trie_Trie_Put (h_ : List HV) (x0 : Option Nat) (x1 : S_api_Prefix) (x2 : Int) : Option (Int × List HV) :=
  trie_Trie_check h_ x0 x1 >>= fun t2 => if (t2 != 0) = true then (some (t2, h_)) else (hn_trie_Trie h_ x0 >>= fun t4 => trie_Trie_Put.l0 x0 x1 t4.2.f_root 0 h_ >>= fun q7 => hn_trie_node q7.2 q7.1 >>= fun t37 => if (!t37.2.f_is) = true then (hn_trie_Trie q7.2 x0 >>= fun t41 => hn_trie_Trie q7.2 x0 >>= fun t44 => hn_trie_node (List.set q7.2 t44.1 (HV.trie_Trie ({ t44.2 with f_many := wr .i64 (t41.2.f_many + 1) }))) q7.1 >>= fun t47 => hn_trie_node (List.set (List.set q7.2 t44.1 (HV.trie_Trie ({ t44.2 with f_many := wr .i64 (t41.2.f_many + 1) }))) t47.1 (HV.trie_node ({ t47.2 with f_is := true }))) q7.1 >>= fun t50 => some (0, List.set (List.set (List.set q7.2 t44.1 (HV.trie_Trie ({ t44.2 with f_many := wr .i64 (t41.2.f_many + 1) }))) t47.1 (HV.trie_node ({ t47.2 with f_is := true }))) t50.1 (HV.trie_node ({ t50.2 with f_owner := x2 })))) else (hn_trie_node q7.2 q7.1 >>= fun t53 => hn_trie_node (List.set q7.2 t53.1 (HV.trie_node ({ t53.2 with f_is := true }))) q7.1 >>= fun t56 => some (0, List.set (List.set q7.2 t53.1 (HV.trie_node ({ t53.2 with f_is := true }))) t56.1 (HV.trie_node ({ t56.2 with f_owner := x2 })))))
theorem trie_Trie_Put_ok {h_ : List HV} {x0 : Option Nat} {x1 : S_api_Prefix} {x2 : Int} {r : Int × List HV} (hF : trie_Trie_Put h_ x0 x1 x2 = some r) : ∀ {w0 w : World} {G_ : List Ent} {g0_ : Nat → Nat} {n0_ : Nat} {gh : Nat → Nat} (hw_ : Wd w0 (heapE hK g0_ n0_ gh h_ :: G_) w),
    Calls Try.prog 33 #[pv gh x0, .agg (Cd.cs c_api_Prefix x1).toArray, .int .i64 x2] w (fun e w' => ∃ (gh : Nat → Nat), e = .returned (.int .i64 r.1) ∧ Wd w0 (heapE hK g0_ n0_ gh r.2 :: G_) w') := by
 intro w0 w G_ g0_ n0_ gh hw_
 unfold trie_Trie_Put at hF
 refine calls_enter (l := [pv gh x0, .agg (Cd.cs c_api_Prefix x1).toArray, .int .i64 x2]) Try.func33 rfl rfl rfl ?_
 refine at_enterF hw_ ?_
 refine at_weak [(0, _), (1, _), (2, _)] ⟨rfl, rfl, rfl, trivial⟩ ?_
 refine sr ?_
 refine at_box (cs := Cd.cs c_api_Prefix x1) rfl rfl rfl ?_
 intro b1
 refine av rfl (r_assign rfl) ?_
 refine nwt [(0, _), (2, _), (4, _)] ⟨rfl, rfl, rfl, trivial⟩ ?_
 refine at_seq ?_
 refine sr ?_
 refine av rfl (r_move rfl) ?_
 refine av rfl (r_load_aggc (c := c_api_Prefix) (z := x1) Try.isAgg46 Try.sizeOf46 rfl (lens_cell .z (Lens.whole _ _))) ?_
 obtain ⟨t2, ht2, hF⟩ := of_bindM hF
 refine at_callR (.s .z) Try.func76 rfl (by kernel_rfl) rfl rfl (fun w hw => trie_Trie_check_ok ht2 hw) ?_
 refine av rfl (r_assign rfl) ?_
 refine nws [(0, _), (2, _), (4, _), (7, _)] ⟨rfl, rfl, rfl, rfl, trivial⟩ ?_
 refine av rfl (r_move rfl) ?_
 refine av rfl (r_ineq rfl rfl) ?_
 refine nwt [(0, _), (2, _), (4, _), (7, _), (15, _)] ⟨rfl, rfl, rfl, rfl, rfl, trivial⟩ ?_
 rcases of_ite hF with ⟨h3, hF⟩ | ⟨h3, hF⟩
 ·refine at_cond_true rfl h3 ?_
  refine sr ?_
  refine av rfl (r_move rfl) ?_
  refine av rfl (r_assign rfl) ?_
  refine at_nil ?_
  refine at_drop (H := _) .z ?_
  refine at_weak [(6, _)] ⟨rfl, trivial⟩ ?_
  refine at_then_normal ?_
  refine rt ?_
  have K := of_some hF
  subst K
  exact at_return1 rfl rfl (fun w1 hw => ⟨gh, rfl, hw⟩)
 ·refine at_cond_false rfl h3 ?_
  refine sns ?_
  refine av rfl (r_move rfl) ?_
  obtain ⟨t4, ht4, hF⟩ := of_bindM hF
  obtain ⟨ha5, hb6⟩ := hn_trie_Trie_at ht4
  refine av rfl (r_npc rfl ha5) ?_
  refine av rfl (r_fieldAddr (fo := 0) Try.underlying105 rfl rfl (fun w => ⟨_, Try.sizeOf100 w⟩) rfl) ?_
  refine av rfl (r_load_cell Try.isAgg100 rfl (hcell0 (c := (cPtr gh)) (y := t4.2.f_root) (.s .z) hb6 (fun _ h => h) (Lens.comp (Lens.whole _ _) (fun z => { t4.2 with f_root := z }) (c_trie_Trie_f_root gh t4.2)) rfl)) ?_
  refine av rfl (r_assign rfl) ?_
  refine nwt [(0, _), (2, _), (4, _), (8, _)] ⟨rfl, rfl, rfl, rfl, trivial⟩ ?_
  refine at_seq ?_
  refine sr ?_
  refine av rfl (r_fieldAddr (fo := 17) Try.underlying46 rfl rfl (fun w => ⟨_, Try.sizeOf3 w⟩) rfl) ?_
  refine av rfl (r_load_cell Try.isAgg3 rfl (lens_cell0 (c := (cInt .i64)) (y := x1.f_Bits) .z (Lens.comp (Lens.whole _ _) (fun z => { x1 with f_Bits := z }) (c_api_Prefix_f_Bits x1)) rfl)) ?_
  refine av rfl (r_move rfl) ?_
  refine nwt [(0, _), (2, _), (4, _), (8, _), (22, _), (23, _)] ⟨rfl, rfl, rfl, rfl, rfl, rfl, trivial⟩ ?_
  refine at_block ?_
  obtain ⟨q7, hq7, hF⟩ := of_bindM hF
  refine at_weak [(0, _), (2, _), (4, _), (8, _), (22, _), (23, _)] ⟨rfl, rfl, rfl, rfl, rfl, rfl, trivial⟩ ?_
  refine at_loop_n (B := 0) (A := fun Y => ∀ (gh : Nat → Nat), At 70 [(0, pv gh x0), (2, .int .i64 x2), (8, pv gh q7.1)] (Wd w0 (heapE hK g0_ n0_ gh q7.2 :: G_)) Y) ?_ ?_
  ·intro K
   refine trie_Trie_Put.l0.partial_correctness x0 x1 (motive := fun i8 i9 i10 x => KN (fun Y => ∀ (gh : Nat → Nat), At 70 [(0, pv gh x0), (2, .int .i64 x2), (8, pv gh x.1)] (Wd w0 (heapE hK g0_ n0_ gh x.2 :: G_)) Y) _ 0 → Round (fun Y => ∀ (gh : Nat → Nat), At 70 [(0, pv gh x0), (2, .int .i64 x2), (4, .pointer (some ⟨b1, 0, none⟩)), (8, pv gh i8), (22, .int .i64 x1.f_Bits), (23, .int .i64 i9)] (Wd w0 (cellsE b1 (Cd.cs c_api_Prefix x1) 46 :: heapE hK g0_ n0_ gh i10 :: G_)) Y) _ _ _) ?_ _ _ _ _ hq7 K gh
   ·clear K hF
    intro g ih i8 i9 i10 x hF K gh
    refine at_round ?_
    refine sr ?_
    refine av rfl (r_ilss rfl rfl) ?_
    refine nwt [(0, _), (2, _), (4, _), (8, _), (22, _), (23, _), (24, _)] ⟨rfl, rfl, rfl, rfl, rfl, rfl, rfl, trivial⟩ ?_
    refine at_seq ?_
    rcases of_ite hF with ⟨h11, hF⟩ | ⟨h11, hF⟩
    ·refine at_cond_true rfl h11 ?_
     refine sn ?_
     refine at_seq ?_
     refine at_block ?_
     refine sr ?_
     refine av rfl (r_move rfl) ?_
     refine av rfl (r_assign rfl) ?_
     refine nws [(0, _), (2, _), (4, _), (8, _), (9, _), (22, _), (23, _)] ⟨rfl, rfl, rfl, rfl, rfl, rfl, rfl, trivial⟩ ?_
     refine av rfl (r_fieldAddr (fo := 0) Try.underlying46 rfl rfl (fun w => ⟨_, Try.sizeOf32 w⟩) rfl) ?_
     refine av rfl (r_load_aggc (c := c_api_Addr) (z := x1.f_A) Try.isAgg32 Try.sizeOf32 rfl (lens_cell .z (Lens.comp (Lens.whole _ _) (fun z => { x1 with f_A := z }) (c_api_Prefix_f_A x1)))) ?_
     refine av rfl (r_move rfl) ?_
     obtain ⟨t12, ht12, hF⟩ := of_bindM hF
     refine at_callB Try.func72 rfl (by kernel_rfl) rfl rfl (fun w hw => addr_Bit_ok _ _ _ ht12 w) ?_
     refine av rfl (r_assign rfl) ?_
     refine nwt [(0, _), (2, _), (4, _), (8, _), (10, _), (22, _), (23, _)] ⟨rfl, rfl, rfl, rfl, rfl, rfl, rfl, trivial⟩ ?_
     refine at_seq ?_
     refine sr ?_
     refine av rfl (r_move rfl) ?_
     refine av rfl (r_move rfl) ?_
     obtain ⟨t13, ht13, hF⟩ := of_bindM hF
     obtain ⟨ha14, hb15⟩ := hn_trie_node_at ht13
     refine av rfl (r_npc rfl ha14) ?_
     refine av rfl (r_fieldAddr (fo := 0) Try.underlying103 rfl rfl (fun w => ⟨_, Try.sizeOf101 w⟩) rfl) ?_
     obtain ⟨h16, hF⟩ := of_guard hF
     refine av rfl (r_idxArr Try.underlying101 Try.sizeOf100 rfl rfl h16) ?_
     refine av rfl (r_load_cell Try.isAgg100 rfl (hcell0 (c := (cPtr gh)) (y := vget t13.2.f_next t12) (.s .z) hb15 (fun _ h => h) (Lens.comp (Lens.comp (Lens.whole _ _) (fun z => { t13.2 with f_next := z }) (c_trie_node_f_next gh t13.2)) (fun z => vset t13.2.f_next t12 z) (Lens.vec (cPtr gh) (by decide) t13.2.f_next t12 h16)) rfl)) ?_
     refine av rfl (r_pnil (p := vget t13.2.f_next t12) Try.underlying100 rfl rfl (.inl rfl) rfl) ?_
     refine nwt [(0, _), (2, _), (4, _), (8, _), (10, _), (22, _), (23, _), (36, _)] ⟨rfl, rfl, rfl, rfl, rfl, rfl, rfl, rfl, trivial⟩ ?_
     rcases of_ite hF with ⟨h17, hF⟩ | ⟨h17, hF⟩
     ·refine at_cond_true rfl h17 ?_
      refine at_region ?_
      refine av rfl (r_move rfl) ?_
      refine av rfl (r_move rfl) ?_
      refine av rfl (r_build_struct (zs := Cd.cs (c_trie_node gh) zqU2_1) (cs := Cd.cs (c_trie_node gh) zqU2_1) Try.underlying103 Try.zeroValue103 rfl (places_trie_node_103) rfl rfl) ?_
      obtain ⟨h20, hF⟩ := of_guard hF
      obtain ⟨h21, hF⟩ := of_guard hF
      obtain ⟨h22, hF⟩ := of_guard hF
      obtain ⟨h23, hF⟩ := of_guard hF
      refine at_box (cs := Cd.cs (c_trie_node gh) zqU2_1) rfl rfl rfl ?_
      intro b_
      refine at_hpush (v := HV.trie_node zqU2_1) (.s .z) h23 (fun g' hg' => hK.ext gh g' (HV.trie_node zqU2_1) _ hg' rfl) ?_
      intro gh hg19
      refine at_ov (t := 0) rfl (pv_ext hg19 h20) ?_
      refine at_ov (t := 8) rfl (pv_ext hg19 h21) ?_
      refine at_ov (t := 37) rfl (pv_ext hg19 h22) ?_
      obtain ⟨t24, ht24, hF⟩ := of_bindM hF
      obtain ⟨ha25, hb26⟩ := hn_trie_node_at ht24
      refine av rfl (r_npc rfl ha25) ?_
      refine av rfl (r_fieldAddr (fo := 0) Try.underlying103 rfl rfl (fun w => ⟨_, Try.sizeOf101 w⟩) rfl) ?_
      obtain ⟨h27, hF⟩ := of_guard hF
      refine av rfl (r_idxArr Try.underlying101 Try.sizeOf100 rfl rfl h27) ?_
      obtain ⟨h28, hF⟩ := of_guard hF
      refine at_hstore (v' := HV.trie_node ({ t24.2 with f_next := vset t24.2.f_next t12 (some (List.length i10)) })) (c := (cPtr gh)) (z := some (List.length i10)) (.s .z) hb26 (fun _ h => h) (Lens.comp (Lens.comp (Lens.whole _ _) (fun z => { t24.2 with f_next := z }) (c_trie_node_f_next gh t24.2)) (fun z => vset t24.2.f_next t12 z) (Lens.vec (cPtr gh) (by decide) t24.2.f_next t12 h27)) (by rfl) (fun j hj => (mem_vset hj).imp id (fun e => vp_lt h28 j e)) Try.sizeOf100 rfl rfl rfl ?_
      refine nwt [(0, _), (2, _), (4, _), (8, _), (10, _), (22, _), (23, _)] ⟨rfl, rfl, rfl, rfl, rfl, rfl, rfl, trivial⟩ ?_
      refine at_region ?_
      refine av rfl (r_move rfl) ?_
      refine av rfl (r_move rfl) ?_
      obtain ⟨t29, ht29, hF⟩ := of_bindM hF
      obtain ⟨ha30, hb31⟩ := hn_trie_node_at ht29
      refine av rfl (r_npc rfl ha30) ?_
      refine av rfl (r_fieldAddr (fo := 0) Try.underlying103 rfl rfl (fun w => ⟨_, Try.sizeOf101 w⟩) rfl) ?_
      obtain ⟨h32, hF⟩ := of_guard hF
      refine av rfl (r_idxArr Try.underlying101 Try.sizeOf100 rfl rfl h32) ?_
      refine av rfl (r_load_cell Try.isAgg100 rfl (hcell0 (c := (cPtr gh)) (y := vget t29.2.f_next t12) (.s .z) hb31 (fun _ h => h) (Lens.comp (Lens.comp (Lens.whole _ _) (fun z => { t29.2 with f_next := z }) (c_trie_node_f_next gh t29.2)) (fun z => vset t29.2.f_next t12 z) (Lens.vec (cPtr gh) (by decide) t29.2.f_next t12 h32)) rfl)) ?_
      refine av rfl (r_assign rfl) ?_
      refine at_nil ?_
      refine at_weak [(0, _), (2, _), (4, _), (8, _), (22, _), (23, _)] ⟨rfl, rfl, rfl, rfl, rfl, rfl, trivial⟩ ?_
      refine at_blk_normal (at_then_normal ?_)
      refine at_region ?_
      refine av rfl (r_iadd rfl rfl) ?_
      refine av rfl (r_move rfl) ?_
      refine nwt [(0, _), (2, _), (4, _), (8, _), (22, _), (23, _)] ⟨rfl, rfl, rfl, rfl, rfl, rfl, trivial⟩ ?_
      exact at_weak_k (ih _ _ _ _ hF K gh) ⟨rfl, rfl, rfl, rfl, rfl, rfl, trivial⟩
     ·refine at_cond_false rfl h17 ?_
      refine sn ?_
      refine at_region ?_
      refine av rfl (r_move rfl) ?_
      refine av rfl (r_move rfl) ?_
      obtain ⟨t33, ht33, hF⟩ := of_bindM hF
      obtain ⟨ha34, hb35⟩ := hn_trie_node_at ht33
      refine av rfl (r_npc rfl ha34) ?_
      refine av rfl (r_fieldAddr (fo := 0) Try.underlying103 rfl rfl (fun w => ⟨_, Try.sizeOf101 w⟩) rfl) ?_
      obtain ⟨h36, hF⟩ := of_guard hF
      refine av rfl (r_idxArr Try.underlying101 Try.sizeOf100 rfl rfl h36) ?_
      refine av rfl (r_load_cell Try.isAgg100 rfl (hcell0 (c := (cPtr gh)) (y := vget t33.2.f_next t12) (.s .z) hb35 (fun _ h => h) (Lens.comp (Lens.comp (Lens.whole _ _) (fun z => { t33.2 with f_next := z }) (c_trie_node_f_next gh t33.2)) (fun z => vset t33.2.f_next t12 z) (Lens.vec (cPtr gh) (by decide) t33.2.f_next t12 h36)) rfl)) ?_
      refine av rfl (r_assign rfl) ?_
      refine at_nil ?_
      refine at_weak [(0, _), (2, _), (4, _), (8, _), (22, _), (23, _)] ⟨rfl, rfl, rfl, rfl, rfl, rfl, trivial⟩ ?_
      refine at_blk_normal (at_then_normal ?_)
      refine at_region ?_
      refine av rfl (r_iadd rfl rfl) ?_
      refine av rfl (r_move rfl) ?_
      refine nwt [(0, _), (2, _), (4, _), (8, _), (22, _), (23, _)] ⟨rfl, rfl, rfl, rfl, rfl, rfl, trivial⟩ ?_
      exact at_weak_k (ih _ _ _ _ hF K gh) ⟨rfl, rfl, rfl, rfl, rfl, rfl, trivial⟩
    ·refine at_cond_false rfl h11 ?_
     refine at_exit ?_
     refine at_then_exit (at_then_exit ?_)
     refine at_drop (H := _) .z ?_
     obtain rfl := of_some hF
     exact at_weak_k (K gh) ⟨rfl, rfl, rfl, trivial⟩
  ·skip
   intro gh
   refine at_blk_same ?_
   refine at_then_normal ?_
   refine at_seq ?_
   refine sr ?_
   refine av rfl (r_move rfl) ?_
   obtain ⟨t37, ht37, hF⟩ := of_bindM hF
   obtain ⟨ha38, hb39⟩ := hn_trie_node_at ht37
   refine av rfl (r_npc rfl ha38) ?_
   refine av rfl (r_fieldAddr (fo := 2) Try.underlying103 rfl rfl (fun w => ⟨_, Try.sizeOf4 w⟩) rfl) ?_
   refine av rfl (r_load_cell Try.isAgg4 rfl (hcell0 (c := cBool) (y := t37.2.f_is) .z hb39 (fun _ h => h) (Lens.comp (Lens.whole _ _) (fun z => { t37.2 with f_is := z }) (c_trie_node_f_is gh t37.2)) rfl)) ?_
   refine av rfl (r_not rfl) ?_
   refine nwt [(0, _), (2, _), (8, _), (55, _)] ⟨rfl, rfl, rfl, rfl, trivial⟩ ?_
   rcases of_ite hF with ⟨h40, hF⟩ | ⟨h40, hF⟩
   ·refine at_cond_true rfl h40 ?_
    refine at_region ?_
    refine av rfl (r_move rfl) ?_
    obtain ⟨t41, ht41, hF⟩ := of_bindM hF
    obtain ⟨ha42, hb43⟩ := hn_trie_Trie_at ht41
    refine av rfl (r_npc rfl ha42) ?_
    refine av rfl (r_fieldAddr (fo := 2) Try.underlying105 rfl rfl (fun w => ⟨_, Try.sizeOf3 w⟩) rfl) ?_
    refine av rfl (r_load_cell Try.isAgg3 rfl (hcell0 (c := (cInt .i64)) (y := t41.2.f_many) .z hb43 (fun _ h => h) (Lens.comp (Lens.whole _ _) (fun z => { t41.2 with f_many := z }) (c_trie_Trie_f_many gh t41.2)) rfl)) ?_
    refine av rfl (r_iadd rfl rfl) ?_
    obtain ⟨t44, ht44, hF⟩ := of_bindM hF
    obtain ⟨ha45, hb46⟩ := hn_trie_Trie_at ht44
    refine av rfl (r_npc rfl ha45) ?_
    refine av rfl (r_fieldAddr (fo := 2) Try.underlying105 rfl rfl (fun w => ⟨_, Try.sizeOf3 w⟩) rfl) ?_
    refine at_hstore (v' := HV.trie_Trie ({ t44.2 with f_many := wr .i64 (t41.2.f_many + 1) })) (c := (cInt .i64)) (z := wr .i64 (t41.2.f_many + 1)) .z hb46 (fun _ h => h) (Lens.comp (Lens.whole _ _) (fun z => { t44.2 with f_many := z }) (c_trie_Trie_f_many gh t44.2)) (by rfl) (fun j hj => .inl hj) Try.sizeOf3 rfl rfl rfl ?_
    refine nws [(2, _), (8, _)] ⟨rfl, rfl, trivial⟩ ?_
    refine av rfl (r_move rfl) ?_
    refine av rfl (r_move rfl) ?_
    refine av rfl (r_move rfl) ?_
    obtain ⟨t47, ht47, hF⟩ := of_bindM hF
    obtain ⟨ha48, hb49⟩ := hn_trie_node_at ht47
    refine av rfl (r_npc rfl ha48) ?_
    refine av rfl (r_fieldAddr (fo := 2) Try.underlying103 rfl rfl (fun w => ⟨_, Try.sizeOf4 w⟩) rfl) ?_
    refine at_hstore (v' := HV.trie_node ({ t47.2 with f_is := true })) (c := cBool) (z := true) .z hb49 (fun _ h => h) (Lens.comp (Lens.whole _ _) (fun z => { t47.2 with f_is := z }) (c_trie_node_f_is gh t47.2)) (by rfl) (fun j hj => .inl hj) Try.sizeOf4 rfl rfl rfl ?_
    obtain ⟨t50, ht50, hF⟩ := of_bindM hF
    obtain ⟨ha51, hb52⟩ := hn_trie_node_at ht50
    refine av rfl (r_npc rfl ha51) ?_
    refine av rfl (r_fieldAddr (fo := 3) Try.underlying103 rfl rfl (fun w => ⟨_, Try.sizeOf3 w⟩) rfl) ?_
    refine at_hstore (v' := HV.trie_node ({ t50.2 with f_owner := x2 })) (c := (cInt .i64)) (z := x2) .z hb52 (fun _ h => h) (Lens.comp (Lens.whole _ _) (fun z => { t50.2 with f_owner := z }) (c_trie_node_f_owner gh t50.2)) (by rfl) (fun j hj => .inl hj) Try.sizeOf3 rfl rfl rfl ?_
    refine nws [] trivial ?_
    refine av rfl (r_assign rfl) ?_
    refine nwt [(6, _)] ⟨rfl, trivial⟩ ?_
    refine at_ret ?_
    have K := of_some hF
    subst K
    exact at_return1 rfl rfl (fun w1 hw => ⟨gh, rfl, hw⟩)
   ·refine at_cond_false rfl h40 ?_
    refine sns ?_
    refine av rfl (r_move rfl) ?_
    refine av rfl (r_move rfl) ?_
    refine av rfl (r_move rfl) ?_
    obtain ⟨t53, ht53, hF⟩ := of_bindM hF
    obtain ⟨ha54, hb55⟩ := hn_trie_node_at ht53
    refine av rfl (r_npc rfl ha54) ?_
    refine av rfl (r_fieldAddr (fo := 2) Try.underlying103 rfl rfl (fun w => ⟨_, Try.sizeOf4 w⟩) rfl) ?_
    refine at_hstore (v' := HV.trie_node ({ t53.2 with f_is := true })) (c := cBool) (z := true) .z hb55 (fun _ h => h) (Lens.comp (Lens.whole _ _) (fun z => { t53.2 with f_is := z }) (c_trie_node_f_is gh t53.2)) (by rfl) (fun j hj => .inl hj) Try.sizeOf4 rfl rfl rfl ?_
    obtain ⟨t56, ht56, hF⟩ := of_bindM hF
    obtain ⟨ha57, hb58⟩ := hn_trie_node_at ht56
    refine av rfl (r_npc rfl ha57) ?_
    refine av rfl (r_fieldAddr (fo := 3) Try.underlying103 rfl rfl (fun w => ⟨_, Try.sizeOf3 w⟩) rfl) ?_
    refine at_hstore (v' := HV.trie_node ({ t56.2 with f_owner := x2 })) (c := (cInt .i64)) (z := x2) .z hb58 (fun _ h => h) (Lens.comp (Lens.whole _ _) (fun z => { t56.2 with f_owner := z }) (c_trie_node_f_owner gh t56.2)) (by rfl) (fun j hj => .inl hj) Try.sizeOf3 rfl rfl rfl ?_
    refine nws [] trivial ?_
    refine av rfl (r_assign rfl) ?_
    refine nwt [(6, _)] ⟨rfl, trivial⟩ ?_
    refine at_ret ?_
    have K := of_some hF
    subst K
    exact at_return1 rfl rfl (fun w1 hw => ⟨gh, rfl, hw⟩)
def trie_Trie_Find.l0 (h_ : List HV) (x1 : S_api_Addr) (i15 : Bool) (i16 : Option Nat) (i17 : Int) (i18 : S_api_Entry) : Option (Bool × S_api_Entry) :=
  if (!(Option.isNone i16)) = true then (hn_trie_node h_ i16 >>= fun t20 => if t20.2.f_is = true then (cidr_Of x1 i17 >>= fun t24 => hn_trie_node h_ i16 >>= fun t26 => addr_Width x1 >>= fun t29 => if (i17 == t29) = true then (some (true, { { ({ f_P := ({ f_A := ({ f_V := (0 : Int), f_B := (Vector.replicate 16 (0 : Int) : (Vector Int 16)) } : S_api_Addr), f_Bits := (0 : Int) } : S_api_Prefix), f_Owner := (0 : Int) } : S_api_Entry) with f_P := t24.1 } with f_Owner := t26.2.f_owner })) else (addr_Bit x1 i17 >>= fun t31 => hn_trie_node h_ i16 >>= fun t32 => if (0 : Int) ≤ t31 ∧ t31 < 2 then trie_Trie_Find.l0 h_ x1 true (vget t32.2.f_next t31) (wr .i64 (i17 + 1)) ({ { ({ f_P := ({ f_A := ({ f_V := (0 : Int), f_B := (Vector.replicate 16 (0 : Int) : (Vector Int 16)) } : S_api_Addr), f_Bits := (0 : Int) } : S_api_Prefix), f_Owner := (0 : Int) } : S_api_Entry) with f_P := t24.1 } with f_Owner := t26.2.f_owner }) else none)) else (addr_Width x1 >>= fun t36 => if (i17 == t36) = true then (some (i15, i18)) else (addr_Bit x1 i17 >>= fun t38 => hn_trie_node h_ i16 >>= fun t39 => if (0 : Int) ≤ t38 ∧ t38 < 2 then trie_Trie_Find.l0 h_ x1 i15 (vget t39.2.f_next t38) (wr .i64 (i17 + 1)) i18 else none))) else (some (i15, i18))
  partial_fixpoint
def trie_Trie_Find (h_ : List HV) (x0 : Option Nat) (x1 : S_api_Addr) : Option (S_api_Entry × Bool) :=
  if (Option.isNone x0) = true then (some (({ f_P := ({ f_A := ({ f_V := (0 : Int), f_B := (Vector.replicate 16 (0 : Int) : (Vector Int 16)) } : S_api_Addr), f_Bits := (0 : Int) } : S_api_Prefix), f_Owner := (0 : Int) } : S_api_Entry), false)) else (addr_Right x1 >>= fun t4 => if (!t4) = true then (some (({ f_P := ({ f_A := ({ f_V := (0 : Int), f_B := (Vector.replicate 16 (0 : Int) : (Vector Int 16)) } : S_api_Addr), f_Bits := (0 : Int) } : S_api_Prefix), f_Owner := (0 : Int) } : S_api_Entry), false)) else (hn_trie_Trie h_ x0 >>= fun t6 => if (x1.f_V != t6.2.f_family) = true then (some (({ f_P := ({ f_A := ({ f_V := (0 : Int), f_B := (Vector.replicate 16 (0 : Int) : (Vector Int 16)) } : S_api_Addr), f_Bits := (0 : Int) } : S_api_Prefix), f_Owner := (0 : Int) } : S_api_Entry), false)) else (hn_trie_Trie h_ x0 >>= fun t11 => trie_Trie_Find.l0 h_ x1 false t11.2.f_root 0 ({ f_P := ({ f_A := ({ f_V := (0 : Int), f_B := (Vector.replicate 16 (0 : Int) : (Vector Int 16)) } : S_api_Addr), f_Bits := (0 : Int) } : S_api_Prefix), f_Owner := (0 : Int) } : S_api_Entry) >>= fun q14 => some (q14.2, q14.1))))
set_option maxRecDepth 10000 in
theorem trie_Trie_Find_ok {h_ : List HV} {x0 : Option Nat} {x1 : S_api_Addr} {r : S_api_Entry × Bool} (hF : trie_Trie_Find h_ x0 x1 = some r) : ∀ {w0 w : World} {G_ : List Ent} {g0_ : Nat → Nat} {n0_ : Nat} {gh : Nat → Nat} (hw_ : Wd w0 (heapE hK g0_ n0_ gh h_ :: G_) w),
    Calls Try.prog 26 #[pv gh x0, .agg (Cd.cs c_api_Addr x1).toArray] w (fun e w' => e = .returned (.tuple #[.agg (Cd.cs c_api_Entry r.1).toArray, .bool r.2]) ∧ Wd w0 (heapE hK g0_ n0_ gh h_ :: G_) w') := by
 intro w0 w G_ g0_ n0_ gh hw_
 unfold trie_Trie_Find at hF
 refine calls_enter (l := [pv gh x0, .agg (Cd.cs c_api_Addr x1).toArray]) Try.func26 rfl rfl rfl ?_
 refine at_enterF hw_ ?_
 refine at_weak [(0, _), (1, _)] ⟨rfl, rfl, trivial⟩ ?_
 refine sr ?_
 refine at_box (cs := Cd.cs c_api_Addr x1) rfl rfl rfl ?_
 intro b1
 refine at_alloc (cs := Cd.cs c_api_Entry ({ f_P := zqU2_0, f_Owner := (0 : Int) } : S_api_Entry)) Try.zeroValue52 rfl rfl ?_
 intro b2
 refine av rfl (r_assign rfl) ?_
 refine nwt [(0, _), (3, _), (4, _)] ⟨rfl, rfl, rfl, trivial⟩ ?_
 refine at_seq ?_
 refine at_seq ?_
 refine at_draw (by kernel_rfl) (by kernel_rfl) (fun _ h => h.drew) ?_
 refine atq_val rfl rfl rfl (r_move rfl) ?_
 refine atq_val rfl rfl rfl (r_pnil (p := x0) Try.underlying42 rfl rfl (.inl rfl) rfl) ?_
 refine atq_val rfl rfl rfl (r_move rfl) ?_
 rcases of_ite hF with ⟨h3, hF⟩ | ⟨h3, hF⟩
 ·refine atq_fix (g := 14) rfl h3 ?_
  refine atq_guard_no rfl rfl rfl rfl rfl ?_
  refine atq_guard_no rfl rfl rfl rfl rfl ?_
  refine atq_guard_no rfl rfl rfl rfl rfl ?_
  refine atq_val rfl rfl rfl (r_pick rfl rfl rfl) ?_
  refine atq_val rfl rfl rfl (r_move rfl) ?_
  refine atq_guard_no rfl rfl rfl rfl rfl ?_
  refine atq_guard_no rfl rfl rfl rfl rfl ?_
  refine atq_guard_no rfl rfl rfl rfl rfl ?_
  refine atq_guard_no rfl rfl rfl rfl rfl ?_
  refine atq_guard_no rfl rfl rfl rfl rfl ?_
  refine atq_guard_no rfl rfl rfl rfl rfl ?_
  refine atq_guard_no rfl rfl rfl rfl rfl ?_
  refine atq_val rfl rfl rfl (r_pick rfl rfl rfl) ?_
  refine atq_nil ?_
  refine at_weak [(0, _), (3, _), (4, _), (27, _)] ⟨rfl, rfl, rfl, rfl, trivial⟩ ?_
  refine at_then_normal ?_
  refine at_cond_true rfl rfl ?_
  refine sr ?_
  refine av rfl (r_build_struct (zs := Cd.cs c_api_Entry ({ f_P := zqU2_0, f_Owner := (0 : Int) } : S_api_Entry)) (cs := Cd.cs c_api_Entry ({ f_P := zqU2_0, f_Owner := (0 : Int) } : S_api_Entry)) Try.underlying52 Try.zeroValue52 rfl (places_api_Entry_52) rfl rfl) ?_
  refine at_store (c := c_api_Entry) (z := ({ f_P := zqU2_0, f_Owner := (0 : Int) } : S_api_Entry)) .z (Lens.whole _ _) Try.sizeOf52 rfl rfl rfl ?_
  refine av rfl (r_assign rfl) ?_
  refine at_nil ?_
  refine at_drop (H := _) (.s .z) ?_
  refine at_weak [(4, _), (5, _)] ⟨rfl, rfl, trivial⟩ ?_
  refine at_then_normal ?_
  refine rt ?_
  have K := of_some hF
  subst K
  exact at_res2 rfl (res_cell (c := c_api_Entry) (y := ({ f_P := zqU2_0, f_Owner := (0 : Int) } : S_api_Entry)) rfl .z (Lens.whole _ _) Try.isAgg52 Try.sizeOf52 (.inl rfl)) (res_tmp rfl) (fun w1 hw => ⟨rfl, hw.pop⟩)
 ·refine atq_fix (g := 14) rfl h3 ?_
  refine atq_guard_yes rfl rfl rfl ?_
  refine atq_val rfl rfl rfl (r_load_aggc (c := c_api_Addr) (z := x1) Try.isAgg32 Try.sizeOf32 rfl (lens_cell (.s .z) (Lens.whole _ _))) ?_
  refine atq_guard_yes rfl rfl rfl ?_
  obtain ⟨t4, ht4, hF⟩ := of_bindM hF
  refine atq_call Try.func69 rfl (by kernel_rfl) rfl rfl (fun w hw => (addr_Right_ok _ _ ht4 w).mono fun _ _ h => ⟨h.1, hw.call h.2⟩) ?_
  refine atq_guard_yes rfl rfl rfl ?_
  refine atq_val rfl rfl rfl (r_not rfl) ?_
  refine atq_val rfl rfl rfl (r_pick rfl rfl rfl) ?_
  refine atq_val rfl rfl rfl (r_move rfl) ?_
  rcases of_ite hF with ⟨h5, hF⟩ | ⟨h5, hF⟩
  ·refine atq_fix (g := 19) rfl h5 ?_
   refine atq_guard_no rfl rfl rfl rfl rfl ?_
   refine atq_guard_no rfl rfl rfl rfl rfl ?_
   refine atq_guard_no rfl rfl rfl rfl rfl ?_
   refine atq_guard_no rfl rfl rfl rfl rfl ?_
   refine atq_guard_no rfl rfl rfl rfl rfl ?_
   refine atq_guard_no rfl rfl rfl rfl rfl ?_
   refine atq_guard_no rfl rfl rfl rfl rfl ?_
   refine atq_val rfl rfl rfl (r_pick rfl rfl rfl) ?_
   refine atq_nil ?_
   refine at_weak [(0, _), (3, _), (4, _), (27, _)] ⟨rfl, rfl, rfl, rfl, trivial⟩ ?_
   refine at_then_normal ?_
   refine at_cond_true rfl rfl ?_
   refine sr ?_
   refine av rfl (r_build_struct (zs := Cd.cs c_api_Entry ({ f_P := zqU2_0, f_Owner := (0 : Int) } : S_api_Entry)) (cs := Cd.cs c_api_Entry ({ f_P := zqU2_0, f_Owner := (0 : Int) } : S_api_Entry)) Try.underlying52 Try.zeroValue52 rfl (places_api_Entry_52) rfl rfl) ?_
   refine at_store (c := c_api_Entry) (z := ({ f_P := zqU2_0, f_Owner := (0 : Int) } : S_api_Entry)) .z (Lens.whole _ _) Try.sizeOf52 rfl rfl rfl ?_
   refine av rfl (r_assign rfl) ?_
   refine at_nil ?_
   refine at_drop (H := _) (.s .z) ?_
   refine at_weak [(4, _), (5, _)] ⟨rfl, rfl, trivial⟩ ?_
   refine at_then_normal ?_
   refine rt ?_
   have K := of_some hF
   subst K
   exact at_res2 rfl (res_cell (c := c_api_Entry) (y := ({ f_P := zqU2_0, f_Owner := (0 : Int) } : S_api_Entry)) rfl .z (Lens.whole _ _) Try.isAgg52 Try.sizeOf52 (.inl rfl)) (res_tmp rfl) (fun w1 hw => ⟨rfl, hw.pop⟩)
  ·refine atq_fix (g := 19) rfl h5 ?_
   refine atq_guard_yes rfl rfl rfl ?_
   refine atq_val rfl rfl rfl (r_fieldAddr (fo := 0) Try.underlying32 rfl rfl (fun w => ⟨_, Try.sizeOf3 w⟩) rfl) ?_
   refine atq_guard_yes rfl rfl rfl ?_
   refine atq_val rfl rfl rfl (r_load_cell Try.isAgg3 rfl (lens_cell0 (c := (cInt .i64)) (y := x1.f_V) (.s .z) (Lens.comp (Lens.whole _ _) (fun z => { x1 with f_V := z }) (c_api_Addr_f_V x1)) rfl)) ?_
   refine atq_guard_yes rfl rfl rfl ?_
   refine atq_val rfl rfl rfl (r_move rfl) ?_
   refine atq_guard_yes rfl rfl rfl ?_
   obtain ⟨t6, ht6, hF⟩ := of_bindM hF
   obtain ⟨ha7, hb8⟩ := hn_trie_Trie_at ht6
   refine atq_val rfl rfl rfl (r_npc rfl ha7) ?_
   refine atq_guard_yes rfl rfl rfl ?_
   refine atq_val rfl rfl rfl (r_fieldAddr (fo := 1) Try.underlying105 rfl rfl (fun w => ⟨_, Try.sizeOf3 w⟩) rfl) ?_
   refine atq_guard_yes rfl rfl rfl ?_
   refine atq_val rfl rfl rfl (r_load_cell Try.isAgg3 rfl (hcell0 (c := (cInt .i64)) (y := t6.2.f_family) (.s (.s .z)) hb8 (fun _ h => h) (Lens.comp (Lens.whole _ _) (fun z => { t6.2 with f_family := z }) (c_trie_Trie_f_family gh t6.2)) rfl)) ?_
   refine atq_guard_yes rfl rfl rfl ?_
   refine atq_val rfl rfl rfl (r_ineq rfl rfl) ?_
   refine atq_val rfl rfl rfl (r_pick rfl rfl rfl) ?_
   refine atq_nil ?_
   refine at_weak [(0, _), (3, _), (4, _), (27, _)] ⟨rfl, rfl, rfl, rfl, trivial⟩ ?_
   refine at_then_normal ?_
   rcases of_ite hF with ⟨h9, hF⟩ | ⟨h9, hF⟩
   ·refine at_cond_true rfl h9 ?_
    refine sr ?_
    refine av rfl (r_build_struct (zs := Cd.cs c_api_Entry ({ f_P := zqU2_0, f_Owner := (0 : Int) } : S_api_Entry)) (cs := Cd.cs c_api_Entry ({ f_P := zqU2_0, f_Owner := (0 : Int) } : S_api_Entry)) Try.underlying52 Try.zeroValue52 rfl (places_api_Entry_52) rfl rfl) ?_
    refine at_store (c := c_api_Entry) (z := ({ f_P := zqU2_0, f_Owner := (0 : Int) } : S_api_Entry)) .z (Lens.whole _ _) Try.sizeOf52 rfl rfl rfl ?_
    refine av rfl (r_assign rfl) ?_
    refine at_nil ?_
    refine at_drop (H := _) (.s .z) ?_
    refine at_weak [(4, _), (5, _)] ⟨rfl, rfl, trivial⟩ ?_
    refine at_then_normal ?_
    refine rt ?_
    have K := of_some hF
    subst K
    exact at_res2 rfl (res_cell (c := c_api_Entry) (y := ({ f_P := zqU2_0, f_Owner := (0 : Int) } : S_api_Entry)) rfl .z (Lens.whole _ _) Try.isAgg52 Try.sizeOf52 (.inl rfl)) (res_tmp rfl) (fun w1 hw => ⟨rfl, hw.pop⟩)
   ·refine at_cond_false rfl h9 ?_
    refine sns ?_
    refine at_alloc (cs := Cd.cs c_api_Entry ({ f_P := zqU2_0, f_Owner := (0 : Int) } : S_api_Entry)) Try.zeroValue52 rfl rfl ?_
    intro b10
    refine nws [(0, _), (3, _), (4, _), (6, _)] ⟨rfl, rfl, rfl, rfl, trivial⟩ ?_
    refine av rfl (r_assign rfl) ?_
    refine nws [(0, _), (3, _), (4, _), (6, _), (7, _)] ⟨rfl, rfl, rfl, rfl, rfl, trivial⟩ ?_
    refine av rfl (r_move rfl) ?_
    obtain ⟨t11, ht11, hF⟩ := of_bindM hF
    obtain ⟨ha12, hb13⟩ := hn_trie_Trie_at ht11
    refine av rfl (r_npc rfl ha12) ?_
    refine av rfl (r_fieldAddr (fo := 0) Try.underlying105 rfl rfl (fun w => ⟨_, Try.sizeOf100 w⟩) rfl) ?_
    refine av rfl (r_load_cell Try.isAgg100 rfl (hcell0 (c := (cPtr gh)) (y := t11.2.f_root) (.s (.s (.s .z))) hb13 (fun _ h => h) (Lens.comp (Lens.whole _ _) (fun z => { t11.2 with f_root := z }) (c_trie_Trie_f_root gh t11.2)) rfl)) ?_
    refine av rfl (r_assign rfl) ?_
    refine nwt [(3, _), (4, _), (6, _), (7, _), (8, _)] ⟨rfl, rfl, rfl, rfl, rfl, trivial⟩ ?_
    refine at_seq ?_
    refine sr ?_
    refine av rfl (r_assign rfl) ?_
    refine nwt [(3, _), (4, _), (6, _), (7, _), (8, _), (9, _)] ⟨rfl, rfl, rfl, rfl, rfl, rfl, trivial⟩ ?_
    refine at_block ?_
    obtain ⟨q14, hq14, hF⟩ := of_bindM hF
    refine at_weak [(3, _), (4, _), (6, _), (7, _), (8, _), (9, _)] ⟨rfl, rfl, rfl, rfl, rfl, rfl, trivial⟩ ?_
    refine at_loop_n (B := 0) (A := fun Y => At 67 [(4, .pointer (some ⟨b2, 0, none⟩)), (6, .pointer (some ⟨b10, 0, none⟩)), (7, .bool q14.1)] (Wd w0 (cellsE b10 (Cd.cs c_api_Entry q14.2) 52 :: cellsE b2 (Cd.cs c_api_Entry ({ f_P := zqU2_0, f_Owner := (0 : Int) } : S_api_Entry)) 52 :: heapE hK g0_ n0_ gh h_ :: G_)) Y) ?_ ?_
    ·intro K
     refine trie_Trie_Find.l0.partial_correctness h_ x1 (motive := fun i15 i16 i17 i18 x => KN (fun Y => At 67 [(4, .pointer (some ⟨b2, 0, none⟩)), (6, .pointer (some ⟨b10, 0, none⟩)), (7, .bool x.1)] (Wd w0 (cellsE b10 (Cd.cs c_api_Entry x.2) 52 :: cellsE b2 (Cd.cs c_api_Entry ({ f_P := zqU2_0, f_Owner := (0 : Int) } : S_api_Entry)) 52 :: heapE hK g0_ n0_ gh h_ :: G_)) Y) _ 0 → Round (fun Y => At 67 [(3, .pointer (some ⟨b1, 0, none⟩)), (4, .pointer (some ⟨b2, 0, none⟩)), (6, .pointer (some ⟨b10, 0, none⟩)), (7, .bool i15), (8, pv gh i16), (9, .int .i64 i17)] (Wd w0 (cellsE b10 (Cd.cs c_api_Entry i18) 52 :: cellsE b2 (Cd.cs c_api_Entry ({ f_P := zqU2_0, f_Owner := (0 : Int) } : S_api_Entry)) 52 :: cellsE b1 (Cd.cs c_api_Addr x1) 32 :: heapE hK g0_ n0_ gh h_ :: G_)) Y) _ _ _) ?_ _ _ _ _ _ hq14 K
     ·clear K hF
      intro g ih i15 i16 i17 i18 x hF K
      refine at_round ?_
      refine at_seq ?_
      refine sr ?_
      refine av rfl (r_move rfl) ?_
      refine av rfl (r_pnil (p := i16) Try.underlying100 rfl rfl (.inr rfl) rfl) ?_
      refine nwt [(3, _), (4, _), (6, _), (7, _), (8, _), (9, _), (34, _)] ⟨rfl, rfl, rfl, rfl, rfl, rfl, rfl, trivial⟩ ?_
      rcases of_ite hF with ⟨h19, hF⟩ | ⟨h19, hF⟩
      ·refine at_cond_true rfl h19 ?_
       refine sn ?_
       refine at_seq ?_
       refine at_block ?_
       refine at_seq ?_
       refine sr ?_
       refine av rfl (r_move rfl) ?_
       obtain ⟨t20, ht20, hF⟩ := of_bindM hF
       obtain ⟨ha21, hb22⟩ := hn_trie_node_at ht20
       refine av rfl (r_npc rfl ha21) ?_
       refine av rfl (r_fieldAddr (fo := 2) Try.underlying103 rfl rfl (fun w => ⟨_, Try.sizeOf4 w⟩) rfl) ?_
       refine av rfl (r_load_cell Try.isAgg4 rfl (hcell0 (c := cBool) (y := t20.2.f_is) (.s (.s (.s .z))) hb22 (fun _ h => h) (Lens.comp (Lens.whole _ _) (fun z => { t20.2 with f_is := z }) (c_trie_node_f_is gh t20.2)) rfl)) ?_
       refine nwt [(3, _), (4, _), (6, _), (7, _), (8, _), (9, _), (40, _)] ⟨rfl, rfl, rfl, rfl, rfl, rfl, rfl, trivial⟩ ?_
       rcases of_ite hF with ⟨h23, hF⟩ | ⟨h23, hF⟩
       ·refine at_cond_true rfl h23 ?_
        refine sr ?_
        refine av rfl (r_load_aggc (c := c_api_Addr) (z := x1) Try.isAgg32 Try.sizeOf32 rfl (lens_cell (.s (.s .z)) (Lens.whole _ _))) ?_
        refine av rfl (r_move rfl) ?_
        obtain ⟨t24, ht24, hF⟩ := of_bindM hF
        refine at_callB Try.func70 rfl (by kernel_rfl) rfl rfl (fun w hw => cidr_Of_ok _ _ _ ht24 w) ?_
        refine av rfl (r_move rfl) ?_
        refine av rfl (r_extract rfl rfl) ?_
        refine av rfl (r_extract rfl rfl) ?_
        refine at_alloc (cs := Cd.cs c_api_Prefix zqU2_0) Try.zeroValue46 rfl rfl ?_
        intro b25
        refine at_store (c := c_api_Prefix) (z := t24.1) .z (Lens.whole _ _) Try.sizeOf46 rfl rfl rfl ?_
        refine av rfl (r_assign rfl) ?_
        refine nwt [(3, _), (4, _), (6, _), (8, _), (9, _), (10, _)] ⟨rfl, rfl, rfl, rfl, rfl, rfl, trivial⟩ ?_
        refine at_draw_tail 6 (by kernel_rfl) (by kernel_rfl) (fun _ h => h.drew) ?_
        simp only [List.take_succ_cons, List.take_zero, List.drop_succ_cons, List.drop_zero]
        refine ats_val rfl rfl rfl (r_load_aggc (c := c_api_Prefix) (z := t24.1) Try.isAgg46 Try.sizeOf46 rfl (lens_cell .z (Lens.whole _ _))) ?_
        refine ats_val rfl rfl rfl (r_move rfl) ?_
        obtain ⟨t26, ht26, hF⟩ := of_bindM hF
        obtain ⟨ha27, hb28⟩ := hn_trie_node_at ht26
        refine ats_val rfl rfl rfl (r_npc rfl ha27) ?_
        refine ats_val rfl rfl rfl (r_fieldAddr (fo := 3) Try.underlying103 rfl rfl (fun w => ⟨_, Try.sizeOf3 w⟩) rfl) ?_
        refine ats_val rfl rfl rfl (r_load_cell Try.isAgg3 rfl (hcell0 (c := (cInt .i64)) (y := t26.2.f_owner) (.s (.s (.s (.s .z)))) hb28 (fun _ h => h) (Lens.comp (Lens.whole _ _) (fun z => { t26.2 with f_owner := z }) (c_trie_node_f_owner gh t26.2)) rfl)) ?_
        refine ats_val rfl rfl rfl (r_build_struct (zs := Cd.cs c_api_Entry ({ f_P := zqU2_0, f_Owner := (0 : Int) } : S_api_Entry)) (cs := Cd.cs c_api_Entry ({ { ({ f_P := zqU2_0, f_Owner := (0 : Int) } : S_api_Entry) with f_P := t24.1 } with f_Owner := t26.2.f_owner })) Try.underlying52 Try.zeroValue52 rfl (places_api_Entry_52) rfl (fill_step (c := c_api_Prefix) (z := t24.1) rfl (c_api_Entry_f_P ({ f_P := zqU2_0, f_Owner := (0 : Int) } : S_api_Entry)) rfl (fill_step (c := (cInt .i64)) (z := t26.2.f_owner) rfl (c_api_Entry_f_Owner ({ ({ f_P := zqU2_0, f_Owner := (0 : Int) } : S_api_Entry) with f_P := t24.1 })) rfl rfl))) ?_
        refine ats_nil ?_
        refine at_store (c := c_api_Entry) (z := { { ({ f_P := zqU2_0, f_Owner := (0 : Int) } : S_api_Entry) with f_P := t24.1 } with f_Owner := t26.2.f_owner }) (.s .z) (Lens.whole _ _) Try.sizeOf52 rfl rfl rfl ?_
        refine av rfl (r_assign rfl) ?_
        refine at_nil ?_
        refine at_drop (H := _) .z ?_
        refine at_weak [(3, _), (4, _), (6, _), (7, _), (8, _), (9, _)] ⟨rfl, rfl, rfl, rfl, rfl, rfl, trivial⟩ ?_
        refine at_then_normal ?_
        refine at_seq ?_
        refine sr ?_
        refine av rfl (r_move rfl) ?_
        refine av rfl (r_load_aggc (c := c_api_Addr) (z := x1) Try.isAgg32 Try.sizeOf32 rfl (lens_cell (.s (.s .z)) (Lens.whole _ _))) ?_
        obtain ⟨t29, ht29, hF⟩ := of_bindM hF
        refine at_callB Try.func71 rfl (by kernel_rfl) rfl rfl (fun w hw => addr_Width_ok _ _ ht29 w) ?_
        refine av rfl (r_ieql rfl rfl) ?_
        refine nwt [(3, _), (4, _), (6, _), (7, _), (8, _), (9, _), (56, _)] ⟨rfl, rfl, rfl, rfl, rfl, rfl, rfl, trivial⟩ ?_
        rcases of_ite hF with ⟨h30, hF⟩ | ⟨h30, hF⟩
        ·refine at_cond_true rfl h30 ?_
         refine at_exit ?_
         refine at_then_exit (at_blk_other rfl (at_then_exit (at_then_exit ?_)))
         refine at_drop (H := _) (.s (.s .z)) ?_
         obtain rfl := of_some hF
         exact at_weak_k K ⟨rfl, rfl, rfl, trivial⟩
        ·refine at_cond_false rfl h30 ?_
         refine sn ?_
         refine at_draw (by kernel_rfl) (by kernel_rfl) (fun _ h => h.drew) ?_
         refine atq_val rfl rfl rfl (r_move rfl) ?_
         refine atq_val rfl rfl rfl (r_load_aggc (c := c_api_Addr) (z := x1) Try.isAgg32 Try.sizeOf32 rfl (lens_cell (.s (.s .z)) (Lens.whole _ _))) ?_
         refine atq_val rfl rfl rfl (r_move rfl) ?_
         obtain ⟨t31, ht31, hF⟩ := of_bindM hF
         refine atq_call Try.func72 rfl (by kernel_rfl) rfl rfl (fun w hw => (addr_Bit_ok _ _ _ ht31 w).mono fun _ _ h => ⟨h.1, hw.call h.2⟩) ?_
         obtain ⟨t32, ht32, hF⟩ := of_bindM hF
         obtain ⟨ha33, hb34⟩ := hn_trie_node_at ht32
         refine atq_val rfl rfl rfl (r_npc rfl ha33) ?_
         refine atq_val rfl rfl rfl (r_fieldAddr (fo := 0) Try.underlying103 rfl rfl (fun w => ⟨_, Try.sizeOf101 w⟩) rfl) ?_
         obtain ⟨h35, hF⟩ := of_guard hF
         refine atq_val rfl rfl rfl (r_idxArr Try.underlying101 Try.sizeOf100 rfl rfl h35) ?_
         refine atq_val rfl rfl rfl (r_load_cell Try.isAgg100 rfl (hcell0 (c := (cPtr gh)) (y := vget t32.2.f_next t31) (.s (.s (.s .z))) hb34 (fun _ h => h) (Lens.comp (Lens.comp (Lens.whole _ _) (fun z => { t32.2 with f_next := z }) (c_trie_node_f_next gh t32.2)) (fun z => vset t32.2.f_next t31 z) (Lens.vec (cPtr gh) (by decide) t32.2.f_next t31 h35)) rfl)) ?_
         refine atq_val rfl rfl rfl (r_assign rfl) ?_
         refine atq_nil ?_
         refine at_weak [(3, _), (4, _), (6, _), (7, _), (8, _), (9, _)] ⟨rfl, rfl, rfl, rfl, rfl, rfl, trivial⟩ ?_
         refine at_blk_normal (at_then_normal ?_)
         refine at_region ?_
         refine av rfl (r_move rfl) ?_
         refine av rfl (r_iadd rfl rfl) ?_
         refine av rfl (r_assign rfl) ?_
         refine nwt [(3, _), (4, _), (6, _), (7, _), (8, _), (9, _)] ⟨rfl, rfl, rfl, rfl, rfl, rfl, trivial⟩ ?_
         exact at_weak_k (ih _ _ _ _ _ hF K) ⟨rfl, rfl, rfl, rfl, rfl, rfl, trivial⟩
       ·refine at_cond_false rfl h23 ?_
        refine sn ?_
        refine at_seq ?_
        refine sr ?_
        refine av rfl (r_move rfl) ?_
        refine av rfl (r_load_aggc (c := c_api_Addr) (z := x1) Try.isAgg32 Try.sizeOf32 rfl (lens_cell (.s (.s .z)) (Lens.whole _ _))) ?_
        obtain ⟨t36, ht36, hF⟩ := of_bindM hF
        refine at_callB Try.func71 rfl (by kernel_rfl) rfl rfl (fun w hw => addr_Width_ok _ _ ht36 w) ?_
        refine av rfl (r_ieql rfl rfl) ?_
        refine nwt [(3, _), (4, _), (6, _), (7, _), (8, _), (9, _), (56, _)] ⟨rfl, rfl, rfl, rfl, rfl, rfl, rfl, trivial⟩ ?_
        rcases of_ite hF with ⟨h37, hF⟩ | ⟨h37, hF⟩
        ·refine at_cond_true rfl h37 ?_
         refine at_exit ?_
         refine at_then_exit (at_blk_other rfl (at_then_exit (at_then_exit ?_)))
         refine at_drop (H := _) (.s (.s .z)) ?_
         obtain rfl := of_some hF
         exact at_weak_k K ⟨rfl, rfl, rfl, trivial⟩
        ·refine at_cond_false rfl h37 ?_
         refine sn ?_
         refine at_draw (by kernel_rfl) (by kernel_rfl) (fun _ h => h.drew) ?_
         refine atq_val rfl rfl rfl (r_move rfl) ?_
         refine atq_val rfl rfl rfl (r_load_aggc (c := c_api_Addr) (z := x1) Try.isAgg32 Try.sizeOf32 rfl (lens_cell (.s (.s .z)) (Lens.whole _ _))) ?_
         refine atq_val rfl rfl rfl (r_move rfl) ?_
         obtain ⟨t38, ht38, hF⟩ := of_bindM hF
         refine atq_call Try.func72 rfl (by kernel_rfl) rfl rfl (fun w hw => (addr_Bit_ok _ _ _ ht38 w).mono fun _ _ h => ⟨h.1, hw.call h.2⟩) ?_
         obtain ⟨t39, ht39, hF⟩ := of_bindM hF
         obtain ⟨ha40, hb41⟩ := hn_trie_node_at ht39
         refine atq_val rfl rfl rfl (r_npc rfl ha40) ?_
         refine atq_val rfl rfl rfl (r_fieldAddr (fo := 0) Try.underlying103 rfl rfl (fun w => ⟨_, Try.sizeOf101 w⟩) rfl) ?_
         obtain ⟨h42, hF⟩ := of_guard hF
         refine atq_val rfl rfl rfl (r_idxArr Try.underlying101 Try.sizeOf100 rfl rfl h42) ?_
         refine atq_val rfl rfl rfl (r_load_cell Try.isAgg100 rfl (hcell0 (c := (cPtr gh)) (y := vget t39.2.f_next t38) (.s (.s (.s .z))) hb41 (fun _ h => h) (Lens.comp (Lens.comp (Lens.whole _ _) (fun z => { t39.2 with f_next := z }) (c_trie_node_f_next gh t39.2)) (fun z => vset t39.2.f_next t38 z) (Lens.vec (cPtr gh) (by decide) t39.2.f_next t38 h42)) rfl)) ?_
         refine atq_val rfl rfl rfl (r_assign rfl) ?_
         refine atq_nil ?_
         refine at_weak [(3, _), (4, _), (6, _), (7, _), (8, _), (9, _)] ⟨rfl, rfl, rfl, rfl, rfl, rfl, trivial⟩ ?_
         refine at_blk_normal (at_then_normal ?_)
         refine at_region ?_
         refine av rfl (r_move rfl) ?_
         refine av rfl (r_iadd rfl rfl) ?_
         refine av rfl (r_assign rfl) ?_
         refine nwt [(3, _), (4, _), (6, _), (7, _), (8, _), (9, _)] ⟨rfl, rfl, rfl, rfl, rfl, rfl, trivial⟩ ?_
         exact at_weak_k (ih _ _ _ _ _ hF K) ⟨rfl, rfl, rfl, rfl, rfl, rfl, trivial⟩
      ·refine at_cond_false rfl h19 ?_
       refine at_exit ?_
       refine at_then_exit (at_then_exit ?_)
       refine at_drop (H := _) (.s (.s .z)) ?_
       obtain rfl := of_some hF
       exact at_weak_k K ⟨rfl, rfl, rfl, trivial⟩
    ·skip
     skip
     refine at_blk_same ?_
     refine at_then_normal ?_
     refine sr ?_
     refine av rfl (r_load_aggc (c := c_api_Entry) (z := q14.2) Try.isAgg52 Try.sizeOf52 rfl (lens_cell .z (Lens.whole _ _))) ?_
     refine av rfl (r_move rfl) ?_
     refine at_store (c := c_api_Entry) (z := q14.2) (.s .z) (Lens.whole _ _) Try.sizeOf52 rfl rfl rfl ?_
     refine av rfl (r_assign rfl) ?_
     refine at_nil ?_
     refine at_drop (H := _) .z ?_
     refine at_weak [(4, _), (5, _)] ⟨rfl, rfl, trivial⟩ ?_
     refine at_then_normal ?_
     refine at_ret ?_
     have K := of_some hF
     subst K
     exact at_res2 rfl (res_cell (c := c_api_Entry) (y := q14.2) rfl .z (Lens.whole _ _) Try.isAgg52 Try.sizeOf52 (.inl rfl)) (res_tmp rfl) (fun w1 hw => ⟨rfl, hw.pop⟩)
def trie_Trie_at.l0 (h_ : List HV) (x1 : S_api_Prefix) (i6 : Option Nat) (i7 : Int) : Option (Option Nat) :=
  if (decide (i7 < x1.f_Bits)) = true then (if (!(Option.isNone i6)) = true then (addr_Bit x1.f_A i7 >>= fun t10 => hn_trie_node h_ i6 >>= fun t11 => if (0 : Int) ≤ t10 ∧ t10 < 2 then trie_Trie_at.l0 h_ x1 (vget t11.2.f_next t10) (wr .i64 (i7 + 1)) else none) else (some i6)) else (some i6)
  partial_fixpoint
def trie_Trie_at (h_ : List HV) (x0 : Option Nat) (x1 : S_api_Prefix) : Option (Option Nat) :=
  hn_trie_Trie h_ x0 >>= fun t2 => trie_Trie_at.l0 h_ x1 t2.2.f_root 0 >>= fun q5 => if (Option.isNone q5) = true then (some (none : Option Nat)) else (hn_trie_node h_ q5 >>= fun t16 => if (!t16.2.f_is) = true then (some (none : Option Nat)) else (some q5))
theorem trie_Trie_at_ok {h_ : List HV} {x0 : Option Nat} {x1 : S_api_Prefix} {r : Option Nat} (hF : trie_Trie_at h_ x0 x1 = some r) : ∀ {w0 w : World} {G_ : List Ent} {g0_ : Nat → Nat} {n0_ : Nat} {gh : Nat → Nat} (hw_ : Wd w0 (heapE hK g0_ n0_ gh h_ :: G_) w),
    Calls Try.prog 77 #[pv gh x0, .agg (Cd.cs c_api_Prefix x1).toArray] w (fun e w' => e = .returned (pv gh r) ∧ Wd w0 (heapE hK g0_ n0_ gh h_ :: G_) w') := by
 intro w0 w G_ g0_ n0_ gh hw_
 unfold trie_Trie_at at hF
 refine calls_enter (l := [pv gh x0, .agg (Cd.cs c_api_Prefix x1).toArray]) Try.func77 rfl rfl rfl ?_
 refine at_enterF hw_ ?_
 refine at_weak [(0, _), (1, _)] ⟨rfl, rfl, trivial⟩ ?_
 refine sr ?_
 refine at_box (cs := Cd.cs c_api_Prefix x1) rfl rfl rfl ?_
 intro b1
 refine av rfl (r_assign rfl) ?_
 refine nws [(0, _), (3, _)] ⟨rfl, rfl, trivial⟩ ?_
 refine av rfl (r_move rfl) ?_
 obtain ⟨t2, ht2, hF⟩ := of_bindM hF
 obtain ⟨ha3, hb4⟩ := hn_trie_Trie_at ht2
 refine av rfl (r_npc rfl ha3) ?_
 refine av rfl (r_fieldAddr (fo := 0) Try.underlying105 rfl rfl (fun w => ⟨_, Try.sizeOf100 w⟩) rfl) ?_
 refine av rfl (r_load_cell Try.isAgg100 rfl (hcell0 (c := (cPtr gh)) (y := t2.2.f_root) (.s .z) hb4 (fun _ h => h) (Lens.comp (Lens.whole _ _) (fun z => { t2.2 with f_root := z }) (c_trie_Trie_f_root gh t2.2)) rfl)) ?_
 refine av rfl (r_assign rfl) ?_
 refine nwt [(3, _), (5, _)] ⟨rfl, rfl, trivial⟩ ?_
 refine at_seq ?_
 refine sr ?_
 refine av rfl (r_assign rfl) ?_
 refine nwt [(3, _), (5, _), (6, _)] ⟨rfl, rfl, rfl, trivial⟩ ?_
 refine at_block ?_
 obtain ⟨q5, hq5, hF⟩ := of_bindM hF
 refine at_weak [(3, _), (5, _), (6, _)] ⟨rfl, rfl, rfl, trivial⟩ ?_
 refine at_loop_n (B := 0) (A := fun Y => At 40 [(5, pv gh q5)] (Wd w0 (heapE hK g0_ n0_ gh h_ :: G_)) Y) ?_ ?_
 ·intro K
  refine trie_Trie_at.l0.partial_correctness h_ x1 (motive := fun i6 i7 x => KN (fun Y => At 40 [(5, pv gh x)] (Wd w0 (heapE hK g0_ n0_ gh h_ :: G_)) Y) _ 0 → Round (fun Y => At 40 [(3, .pointer (some ⟨b1, 0, none⟩)), (5, pv gh i6), (6, .int .i64 i7)] (Wd w0 (cellsE b1 (Cd.cs c_api_Prefix x1) 46 :: heapE hK g0_ n0_ gh h_ :: G_)) Y) _ _ _) ?_ _ _ _ hq5 K
  ·clear K hF
   intro g ih i6 i7 x hF K
   refine at_round ?_
   refine at_seq ?_
   refine sr ?_
   refine av rfl (r_move rfl) ?_
   refine av rfl (r_fieldAddr (fo := 17) Try.underlying46 rfl rfl (fun w => ⟨_, Try.sizeOf3 w⟩) rfl) ?_
   refine av rfl (r_load_cell Try.isAgg3 rfl (lens_cell0 (c := (cInt .i64)) (y := x1.f_Bits) .z (Lens.comp (Lens.whole _ _) (fun z => { x1 with f_Bits := z }) (c_api_Prefix_f_Bits x1)) rfl)) ?_
   refine av rfl (r_ilss rfl rfl) ?_
   refine av rfl (r_move rfl) ?_
   rcases of_ite hF with ⟨h8, hF⟩ | ⟨h8, hF⟩
   ·refine at_fix (g := 15) rfl h8 ?_
    refine at_guard_yes rfl rfl rfl ?_
    refine av rfl (r_move rfl) ?_
    refine at_guard_yes rfl rfl rfl ?_
    refine av rfl (r_pnil (p := i6) Try.underlying100 rfl rfl (.inr rfl) rfl) ?_
    refine av rfl (r_pick rfl rfl rfl) ?_
    refine nwt [(3, _), (5, _), (6, _), (18, _)] ⟨rfl, rfl, rfl, rfl, trivial⟩ ?_
    rcases of_ite hF with ⟨h9, hF⟩ | ⟨h9, hF⟩
    ·refine at_cond_true rfl h9 ?_
     refine sn ?_
     refine at_seq ?_
     refine at_block ?_
     refine at_draw (by kernel_rfl) (by kernel_rfl) (fun _ h => h.drew) ?_
     refine atq_val rfl rfl rfl (r_move rfl) ?_
     refine atq_val rfl rfl rfl (r_fieldAddr (fo := 0) Try.underlying46 rfl rfl (fun w => ⟨_, Try.sizeOf32 w⟩) rfl) ?_
     refine atq_val rfl rfl rfl (r_load_aggc (c := c_api_Addr) (z := x1.f_A) Try.isAgg32 Try.sizeOf32 rfl (lens_cell .z (Lens.comp (Lens.whole _ _) (fun z => { x1 with f_A := z }) (c_api_Prefix_f_A x1)))) ?_
     refine atq_val rfl rfl rfl (r_move rfl) ?_
     obtain ⟨t10, ht10, hF⟩ := of_bindM hF
     refine atq_call Try.func72 rfl (by kernel_rfl) rfl rfl (fun w hw => (addr_Bit_ok _ _ _ ht10 w).mono fun _ _ h => ⟨h.1, hw.call h.2⟩) ?_
     obtain ⟨t11, ht11, hF⟩ := of_bindM hF
     obtain ⟨ha12, hb13⟩ := hn_trie_node_at ht11
     refine atq_val rfl rfl rfl (r_npc rfl ha12) ?_
     refine atq_val rfl rfl rfl (r_fieldAddr (fo := 0) Try.underlying103 rfl rfl (fun w => ⟨_, Try.sizeOf101 w⟩) rfl) ?_
     obtain ⟨h14, hF⟩ := of_guard hF
     refine atq_val rfl rfl rfl (r_idxArr Try.underlying101 Try.sizeOf100 rfl rfl h14) ?_
     refine atq_val rfl rfl rfl (r_load_cell Try.isAgg100 rfl (hcell0 (c := (cPtr gh)) (y := vget t11.2.f_next t10) (.s .z) hb13 (fun _ h => h) (Lens.comp (Lens.comp (Lens.whole _ _) (fun z => { t11.2 with f_next := z }) (c_trie_node_f_next gh t11.2)) (fun z => vset t11.2.f_next t10 z) (Lens.vec (cPtr gh) (by decide) t11.2.f_next t10 h14)) rfl)) ?_
     refine atq_val rfl rfl rfl (r_assign rfl) ?_
     refine atq_nil ?_
     refine at_weak [(3, _), (5, _), (6, _)] ⟨rfl, rfl, rfl, trivial⟩ ?_
     refine at_blk_normal (at_then_normal ?_)
     refine at_region ?_
     refine av rfl (r_move rfl) ?_
     refine av rfl (r_iadd rfl rfl) ?_
     refine av rfl (r_assign rfl) ?_
     refine nwt [(3, _), (5, _), (6, _)] ⟨rfl, rfl, rfl, trivial⟩ ?_
     exact at_weak_k (ih _ _ _ hF K) ⟨rfl, rfl, rfl, trivial⟩
    ·refine at_cond_false rfl h9 ?_
     refine at_exit ?_
     refine at_then_exit (at_then_exit ?_)
     refine at_drop (H := _) .z ?_
     obtain rfl := of_some hF
     exact at_weak_k K ⟨rfl, trivial⟩
   ·refine at_fix (g := 15) rfl h8 ?_
    refine at_guard_no rfl rfl rfl rfl rfl ?_
    refine at_guard_no rfl rfl rfl rfl rfl ?_
    refine av rfl (r_pick rfl rfl rfl) ?_
    refine nwt [(3, _), (5, _), (6, _), (18, _)] ⟨rfl, rfl, rfl, rfl, trivial⟩ ?_
    refine at_cond_false rfl rfl ?_
    refine at_exit ?_
    refine at_then_exit (at_then_exit ?_)
    refine at_drop (H := _) .z ?_
    obtain rfl := of_some hF
    exact at_weak_k K ⟨rfl, trivial⟩
 ·skip
  skip
  refine at_blk_same ?_
  refine at_then_normal ?_
  refine at_seq ?_
  refine sr ?_
  refine av rfl (r_move rfl) ?_
  refine av rfl (r_pnil (p := q5) Try.underlying100 rfl rfl (.inl rfl) rfl) ?_
  refine av rfl (r_move rfl) ?_
  rcases of_ite hF with ⟨h15, hF⟩ | ⟨h15, hF⟩
  ·refine at_fix (g := 32) rfl h15 ?_
   refine at_guard_no rfl rfl rfl rfl rfl ?_
   refine at_guard_no rfl rfl rfl rfl rfl ?_
   refine at_guard_no rfl rfl rfl rfl rfl ?_
   refine at_guard_no rfl rfl rfl rfl rfl ?_
   refine at_guard_no rfl rfl rfl rfl rfl ?_
   refine av rfl (r_pick rfl rfl rfl) ?_
   refine nwt [(5, _), (38, _)] ⟨rfl, rfl, trivial⟩ ?_
   refine at_cond_true rfl rfl ?_
   refine sr ?_
   refine av rfl (r_assign rfl) ?_
   refine nwt [(4, _)] ⟨rfl, trivial⟩ ?_
   refine rt ?_
   have K := of_some hF
   subst K
   exact at_return1 rfl rfl (fun w1 hw => ⟨rfl, hw⟩)
  ·refine at_fix (g := 32) rfl h15 ?_
   refine at_guard_yes rfl rfl rfl ?_
   refine av rfl (r_move rfl) ?_
   refine at_guard_yes rfl rfl rfl ?_
   obtain ⟨t16, ht16, hF⟩ := of_bindM hF
   obtain ⟨ha17, hb18⟩ := hn_trie_node_at ht16
   refine av rfl (r_npc rfl ha17) ?_
   refine at_guard_yes rfl rfl rfl ?_
   refine av rfl (r_fieldAddr (fo := 2) Try.underlying103 rfl rfl (fun w => ⟨_, Try.sizeOf4 w⟩) rfl) ?_
   refine at_guard_yes rfl rfl rfl ?_
   refine av rfl (r_load_cell Try.isAgg4 rfl (hcell0 (c := cBool) (y := t16.2.f_is) .z hb18 (fun _ h => h) (Lens.comp (Lens.whole _ _) (fun z => { t16.2 with f_is := z }) (c_trie_node_f_is gh t16.2)) rfl)) ?_
   refine at_guard_yes rfl rfl rfl ?_
   refine av rfl (r_not rfl) ?_
   refine av rfl (r_pick rfl rfl rfl) ?_
   refine nwt [(5, _), (38, _)] ⟨rfl, rfl, trivial⟩ ?_
   rcases of_ite hF with ⟨h19, hF⟩ | ⟨h19, hF⟩
   ·refine at_cond_true rfl h19 ?_
    refine sr ?_
    refine av rfl (r_assign rfl) ?_
    refine nwt [(4, _)] ⟨rfl, trivial⟩ ?_
    refine rt ?_
    have K := of_some hF
    subst K
    exact at_return1 rfl rfl (fun w1 hw => ⟨rfl, hw⟩)
   ·refine at_cond_false rfl h19 ?_
    refine sns ?_
    refine av rfl (r_move rfl) ?_
    refine av rfl (r_assign rfl) ?_
    refine nwt [(4, _)] ⟨rfl, trivial⟩ ?_
    refine at_ret ?_
    have K := of_some hF
    subst K
    exact at_return1 rfl rfl (fun w1 hw => ⟨rfl, hw⟩)
def trie_node_prune.l0 (rec_ : List HV → Option Nat → Option (Bool × List HV)) (x0 : Option Nat) (t4 : Nat × S_trie_node) (i8 : Bool) (i9 : Int) (i10 : List HV) : Option (Bool × List HV) :=
  if (decide (i9 < 2)) = true then (if (0 : Int) ≤ i9 ∧ i9 < 2 then if (Option.isNone (vget t4.2.f_next i9)) = true then (trie_node_prune.l0 rec_ x0 t4 i8 (wr .i64 (i9 + 1)) i10) else (rec_ i10 (vget t4.2.f_next i9) >>= fun t14 => if t14.1 = true then (hn_trie_node t14.2 x0 >>= fun t16 => if (0 : Int) ≤ i9 ∧ i9 < 2 then trie_node_prune.l0 rec_ x0 t4 i8 (wr .i64 (i9 + 1)) (List.set t14.2 t16.1 (HV.trie_node ({ t16.2 with f_next := vset t16.2.f_next i9 (none : Option Nat) }))) else none) else (trie_node_prune.l0 rec_ x0 t4 false (wr .i64 (i9 + 1)) t14.2)) else none) else (some (i8, i10))
  partial_fixpoint
def trie_node_prune.go : Nat → List HV → Option Nat → Option (Bool × List HV)
  | 0 => fun _ _ => none
  | f_ + 1 => fun h_ x0 => hn_trie_node h_ x0 >>= fun t1 => hn_trie_node h_ x0 >>= fun t4 => trie_node_prune.l0 (trie_node_prune.go f_) x0 t4 (!t1.2.f_is) 0 h_ >>= fun q7 => some (q7.1, q7.2)
def trie_node_prune (h_ : List HV) (x0 : Option Nat) : Option (Bool × List HV) := trie_node_prune.go 400 h_ x0
theorem trie_node_prune.go_ok (f_ : Nat) : ∀ {h_ : List HV} {x0 : Option Nat} {r : Bool × List HV} (hF : trie_node_prune.go f_ h_ x0 = some r) {w0 w : World} {G_ : List Ent} {g0_ : Nat → Nat} {n0_ : Nat} {gh : Nat → Nat} (hw_ : Wd w0 (heapE hK g0_ n0_ gh h_ :: G_) w),
    Calls Try.prog 78 #[pv gh x0] w (fun e w' => e = .returned (.bool r.1) ∧ Wd w0 (heapE hK g0_ n0_ gh r.2 :: G_) w') := by
 induction f_ with
 | zero => intro h_ x0 r hF; exact absurd hF (by simp [trie_node_prune.go])
 | succ f_ ihf =>
 intro h_ x0 r hF w0 w G_ g0_ n0_ gh hw_
 unfold trie_node_prune.go at hF
 refine calls_enter (l := [pv gh x0]) Try.func78 rfl rfl rfl ?_
 refine at_enterF hw_ ?_
 refine at_weak [(0, _)] ⟨rfl, trivial⟩ ?_
 refine sr ?_
 refine av rfl (r_assign rfl) ?_
 refine nws [(0, _)] ⟨rfl, trivial⟩ ?_
 refine av rfl (r_move rfl) ?_
 obtain ⟨t1, ht1, hF⟩ := of_bindM hF
 obtain ⟨ha2, hb3⟩ := hn_trie_node_at ht1
 refine av rfl (r_npc rfl ha2) ?_
 refine av rfl (r_fieldAddr (fo := 2) Try.underlying103 rfl rfl (fun w => ⟨_, Try.sizeOf4 w⟩) rfl) ?_
 refine av rfl (r_load_cell Try.isAgg4 rfl (hcell0 (c := cBool) (y := t1.2.f_is) .z hb3 (fun _ h => h) (Lens.comp (Lens.whole _ _) (fun z => { t1.2 with f_is := z }) (c_trie_node_f_is gh t1.2)) rfl)) ?_
 refine av rfl (r_not rfl) ?_
 refine av rfl (r_assign rfl) ?_
 refine nwt [(0, _), (3, _)] ⟨rfl, rfl, trivial⟩ ?_
 refine at_seq ?_
 refine sr ?_
 refine av rfl (r_move rfl) ?_
 obtain ⟨t4, ht4, hF⟩ := of_bindM hF
 obtain ⟨ha5, hb6⟩ := hn_trie_node_at ht4
 refine av rfl (r_npc rfl ha5) ?_
 refine av rfl (r_fieldAddr (fo := 0) Try.underlying103 rfl rfl (fun w => ⟨_, Try.sizeOf101 w⟩) rfl) ?_
 refine av rfl (r_load_aggc (c := (cVec (cPtr gh) 2 (by decide))) (z := t4.2.f_next) Try.isAgg101 Try.sizeOf101 rfl (hcell .z hb6 (fun _ h => h) (Lens.comp (Lens.whole _ _) (fun z => { t4.2 with f_next := z }) (c_trie_node_f_next gh t4.2)))) ?_
 refine av rfl (r_move rfl) ?_
 refine nwt [(0, _), (3, _), (14, _), (15, _)] ⟨rfl, rfl, rfl, rfl, trivial⟩ ?_
 refine at_block ?_
 obtain ⟨q7, hq7, hF⟩ := of_bindM hF
 refine at_weak [(0, _), (3, _), (14, _), (15, _)] ⟨rfl, rfl, rfl, rfl, trivial⟩ ?_
 refine at_loop_n (B := 0) (A := fun Y => At 32 [(3, .bool q7.1)] (Wd w0 (heapE hK g0_ n0_ gh q7.2 :: G_)) Y) ?_ ?_
 ·intro K
  refine trie_node_prune.l0.partial_correctness (trie_node_prune.go f_) x0 t4 (motive := fun i8 i9 i10 x => KN (fun Y => At 32 [(3, .bool x.1)] (Wd w0 (heapE hK g0_ n0_ gh x.2 :: G_)) Y) _ 0 → Round (fun Y => At 32 [(0, pv gh x0), (3, .bool i8), (14, .agg (Cd.cs (cVec (cPtr gh) 2 (by decide)) t4.2.f_next).toArray), (15, .int .i64 i9)] (Wd w0 (heapE hK g0_ n0_ gh i10 :: G_)) Y) _ _ _) ?_ _ _ _ _ hq7 K
  ·clear K hF
   intro g ih i8 i9 i10 x hF K
   refine at_round ?_
   refine sr ?_
   refine av rfl (r_ilss rfl rfl) ?_
   refine nwt [(0, _), (3, _), (14, _), (15, _), (16, _)] ⟨rfl, rfl, rfl, rfl, rfl, trivial⟩ ?_
   refine at_seq ?_
   rcases of_ite hF with ⟨h11, hF⟩ | ⟨h11, hF⟩
   ·refine at_cond_true rfl h11 ?_
    refine sn ?_
    refine at_seq ?_
    refine at_block ?_
    refine sr ?_
    refine av rfl (r_move rfl) ?_
    obtain ⟨h12, hF⟩ := of_guard hF
    refine av rfl (r_idxVal Try.underlying101 Try.sizeOf100 rfl rfl h12 (part_vOf (Lens.vec (cPtr gh) (by decide) t4.2.f_next i9 h12) Try.isAgg100 Try.sizeOf100 (.inr rfl))) ?_
    refine av rfl (r_assign rfl) ?_
    refine av rfl (r_assign rfl) ?_
    refine nwt [(0, _), (3, _), (4, _), (5, _), (14, _), (15, _)] ⟨rfl, rfl, rfl, rfl, rfl, rfl, trivial⟩ ?_
    refine at_block ?_
    refine sr ?_
    refine av rfl (r_move rfl) ?_
    refine av rfl (r_pnil (p := vget t4.2.f_next i9) Try.underlying100 rfl rfl (.inl rfl) rfl) ?_
    refine av rfl (r_assign rfl) ?_
    refine nwt [(0, _), (3, _), (4, _), (5, _), (14, _), (15, _), (19, _)] ⟨rfl, rfl, rfl, rfl, rfl, rfl, rfl, trivial⟩ ?_
    rcases of_ite hF with ⟨h13, hF⟩ | ⟨h13, hF⟩
    ·refine at_cond_true rfl h13 ?_
     refine at_skip ?_
     refine at_blk_normal (at_blk_normal (at_then_normal ?_))
     refine at_region ?_
     refine av rfl (r_iadd rfl rfl) ?_
     refine av rfl (r_move rfl) ?_
     refine nwt [(0, _), (3, _), (14, _), (15, _)] ⟨rfl, rfl, rfl, rfl, trivial⟩ ?_
     exact at_weak_k (ih _ _ _ _ hF K) ⟨rfl, rfl, rfl, rfl, trivial⟩
    ·refine at_cond_false rfl h13 ?_
     refine sr ?_
     refine av rfl (r_move rfl) ?_
     obtain ⟨t14, ht14, hF⟩ := of_bindM hF
     refine at_callN (v := .bool t14.1) (T := (heapE hK g0_ n0_ gh t14.2 :: G_)) Try.func78 rfl (by kernel_rfl) rfl rfl (fun w hw => ihf ht14 hw) ?_
     refine av rfl (r_assign rfl) ?_
     refine nwt [(0, _), (3, _), (4, _), (14, _), (15, _), (22, _)] ⟨rfl, rfl, rfl, rfl, rfl, rfl, trivial⟩ ?_
     rcases of_ite hF with ⟨h15, hF⟩ | ⟨h15, hF⟩
     ·refine at_cond_true rfl h15 ?_
      refine at_region ?_
      refine av rfl (r_move rfl) ?_
      refine av rfl (r_move rfl) ?_
      obtain ⟨t16, ht16, hF⟩ := of_bindM hF
      obtain ⟨ha17, hb18⟩ := hn_trie_node_at ht16
      refine av rfl (r_npc rfl ha17) ?_
      refine av rfl (r_fieldAddr (fo := 0) Try.underlying103 rfl rfl (fun w => ⟨_, Try.sizeOf101 w⟩) rfl) ?_
      obtain ⟨h19, hF⟩ := of_guard hF
      refine av rfl (r_idxArr Try.underlying101 Try.sizeOf100 rfl rfl h19) ?_
      refine at_hstore (v' := HV.trie_node ({ t16.2 with f_next := vset t16.2.f_next i9 (none : Option Nat) })) (c := (cPtr gh)) (z := (none : Option Nat)) .z hb18 (fun _ h => h) (Lens.comp (Lens.comp (Lens.whole _ _) (fun z => { t16.2 with f_next := z }) (c_trie_node_f_next gh t16.2)) (fun z => vset t16.2.f_next i9 z) (Lens.vec (cPtr gh) (by decide) t16.2.f_next i9 h19)) (by rfl) (fun j hj => (mem_vset hj).imp id (fun e => vp_lt rfl j e)) Try.sizeOf100 rfl rfl rfl ?_
      refine at_nil ?_
      refine at_weak [(0, _), (3, _), (14, _), (15, _)] ⟨rfl, rfl, rfl, rfl, trivial⟩ ?_
      refine at_blk_normal (at_blk_normal (at_then_normal ?_))
      refine at_region ?_
      refine av rfl (r_iadd rfl rfl) ?_
      refine av rfl (r_move rfl) ?_
      refine nwt [(0, _), (3, _), (14, _), (15, _)] ⟨rfl, rfl, rfl, rfl, trivial⟩ ?_
      exact at_weak_k (ih _ _ _ _ hF K) ⟨rfl, rfl, rfl, rfl, trivial⟩
     ·refine at_cond_false rfl h15 ?_
      refine at_region ?_
      refine av rfl (r_assign rfl) ?_
      refine at_nil ?_
      refine at_weak [(0, _), (3, _), (14, _), (15, _)] ⟨rfl, rfl, rfl, rfl, trivial⟩ ?_
      refine at_blk_normal (at_blk_normal (at_then_normal ?_))
      refine at_region ?_
      refine av rfl (r_iadd rfl rfl) ?_
      refine av rfl (r_move rfl) ?_
      refine nwt [(0, _), (3, _), (14, _), (15, _)] ⟨rfl, rfl, rfl, rfl, trivial⟩ ?_
      exact at_weak_k (ih _ _ _ _ hF K) ⟨rfl, rfl, rfl, rfl, trivial⟩
   ·refine at_cond_false rfl h11 ?_
    refine at_exit ?_
    refine at_then_exit (at_then_exit ?_)
    obtain rfl := of_some hF
    exact at_weak_k K ⟨rfl, trivial⟩
 ·skip
  skip
  refine at_blk_same ?_
  refine at_then_normal ?_
  refine sr ?_
  refine av rfl (r_move rfl) ?_
  refine av rfl (r_assign rfl) ?_
  refine nwt [(2, _)] ⟨rfl, trivial⟩ ?_
  refine at_ret ?_
  have K := of_some hF
  subst K
  exact at_return1 rfl rfl (fun w1 hw => ⟨rfl, hw⟩)
theorem trie_node_prune_ok {h_ : List HV} {x0 : Option Nat} {r : Bool × List HV} (hF : trie_node_prune h_ x0 = some r) : ∀ {w0 w : World} {G_ : List Ent} {g0_ : Nat → Nat} {n0_ : Nat} {gh : Nat → Nat} (hw_ : Wd w0 (heapE hK g0_ n0_ gh h_ :: G_) w),
    Calls Try.prog 78 #[pv gh x0] w (fun e w' => e = .returned (.bool r.1) ∧ Wd w0 (heapE hK g0_ n0_ gh r.2 :: G_) w') := trie_node_prune.go_ok 400 hF
def trie_Trie_Drop (h_ : List HV) (x0 : Option Nat) (x1 : S_api_Prefix) : Option (Int × List HV) :=
  trie_Trie_check h_ x0 x1 >>= fun t2 => if (t2 != 0) = true then (some (t2, h_)) else (trie_Trie_at h_ x0 x1 >>= fun t4 => if (Option.isNone t4) = true then (some (8, h_)) else (hn_trie_node h_ t4 >>= fun t6 => hn_trie_node (List.set h_ t6.1 (HV.trie_node ({ t6.2 with f_is := false }))) t4 >>= fun t9 => hn_trie_Trie (List.set (List.set h_ t6.1 (HV.trie_node ({ t6.2 with f_is := false }))) t9.1 (HV.trie_node ({ t9.2 with f_owner := 0 }))) x0 >>= fun t12 => hn_trie_Trie (List.set (List.set h_ t6.1 (HV.trie_node ({ t6.2 with f_is := false }))) t9.1 (HV.trie_node ({ t9.2 with f_owner := 0 }))) x0 >>= fun t15 => hn_trie_Trie (List.set (List.set (List.set h_ t6.1 (HV.trie_node ({ t6.2 with f_is := false }))) t9.1 (HV.trie_node ({ t9.2 with f_owner := 0 }))) t15.1 (HV.trie_Trie ({ t15.2 with f_many := wr .i64 (t12.2.f_many - 1) }))) x0 >>= fun t18 => trie_node_prune (List.set (List.set (List.set h_ t6.1 (HV.trie_node ({ t6.2 with f_is := false }))) t9.1 (HV.trie_node ({ t9.2 with f_owner := 0 }))) t15.1 (HV.trie_Trie ({ t15.2 with f_many := wr .i64 (t12.2.f_many - 1) }))) t18.2.f_root >>= fun t21 => some (0, t21.2)))
theorem trie_Trie_Drop_ok {h_ : List HV} {x0 : Option Nat} {x1 : S_api_Prefix} {r : Int × List HV} (hF : trie_Trie_Drop h_ x0 x1 = some r) : ∀ {w0 w : World} {G_ : List Ent} {g0_ : Nat → Nat} {n0_ : Nat} {gh : Nat → Nat} (hw_ : Wd w0 (heapE hK g0_ n0_ gh h_ :: G_) w),
    Calls Try.prog 34 #[pv gh x0, .agg (Cd.cs c_api_Prefix x1).toArray] w (fun e w' => e = .returned (.int .i64 r.1) ∧ Wd w0 (heapE hK g0_ n0_ gh r.2 :: G_) w') := by
 intro w0 w G_ g0_ n0_ gh hw_
 unfold trie_Trie_Drop at hF
 refine calls_enter (l := [pv gh x0, .agg (Cd.cs c_api_Prefix x1).toArray]) Try.func34 rfl rfl rfl ?_
 refine at_enterF hw_ ?_
 refine at_weak [(0, _), (1, _)] ⟨rfl, rfl, trivial⟩ ?_
 refine sr ?_
 refine at_box (cs := Cd.cs c_api_Prefix x1) rfl rfl rfl ?_
 intro b1
 refine av rfl (r_assign rfl) ?_
 refine nwt [(0, _), (3, _)] ⟨rfl, rfl, trivial⟩ ?_
 refine at_seq ?_
 refine sr ?_
 refine av rfl (r_move rfl) ?_
 refine av rfl (r_load_aggc (c := c_api_Prefix) (z := x1) Try.isAgg46 Try.sizeOf46 rfl (lens_cell .z (Lens.whole _ _))) ?_
 obtain ⟨t2, ht2, hF⟩ := of_bindM hF
 refine at_callR (.s .z) Try.func76 rfl (by kernel_rfl) rfl rfl (fun w hw => trie_Trie_check_ok ht2 hw) ?_
 refine av rfl (r_assign rfl) ?_
 refine nws [(0, _), (3, _), (5, _)] ⟨rfl, rfl, rfl, trivial⟩ ?_
 refine av rfl (r_move rfl) ?_
 refine av rfl (r_ineq rfl rfl) ?_
 refine nwt [(0, _), (3, _), (5, _), (11, _)] ⟨rfl, rfl, rfl, rfl, trivial⟩ ?_
 rcases of_ite hF with ⟨h3, hF⟩ | ⟨h3, hF⟩
 ·refine at_cond_true rfl h3 ?_
  refine sr ?_
  refine av rfl (r_move rfl) ?_
  refine av rfl (r_assign rfl) ?_
  refine at_nil ?_
  refine at_drop (H := _) .z ?_
  refine at_weak [(4, _)] ⟨rfl, trivial⟩ ?_
  refine at_then_normal ?_
  refine rt ?_
  have K := of_some hF
  subst K
  exact at_return1 rfl rfl (fun w1 hw => ⟨rfl, hw⟩)
 ·refine at_cond_false rfl h3 ?_
  refine sns ?_
  refine av rfl (r_move rfl) ?_
  refine av rfl (r_load_aggc (c := c_api_Prefix) (z := x1) Try.isAgg46 Try.sizeOf46 rfl (lens_cell .z (Lens.whole _ _))) ?_
  obtain ⟨t4, ht4, hF⟩ := of_bindM hF
  refine at_callR (.s .z) Try.func77 rfl (by kernel_rfl) rfl rfl (fun w hw => trie_Trie_at_ok ht4 hw) ?_
  refine av rfl (r_assign rfl) ?_
  refine at_nil ?_
  refine at_drop (H := _) .z ?_
  refine at_weak [(0, _), (6, _)] ⟨rfl, rfl, trivial⟩ ?_
  refine at_then_normal ?_
  refine at_seq ?_
  refine sr ?_
  refine av rfl (r_move rfl) ?_
  refine av rfl (r_pnil (p := t4) Try.underlying100 rfl rfl (.inl rfl) rfl) ?_
  refine nwt [(0, _), (6, _), (17, _)] ⟨rfl, rfl, rfl, trivial⟩ ?_
  rcases of_ite hF with ⟨h5, hF⟩ | ⟨h5, hF⟩
  ·refine at_cond_true rfl h5 ?_
   refine sr ?_
   refine av rfl (r_assign rfl) ?_
   refine nwt [(4, _)] ⟨rfl, trivial⟩ ?_
   refine rt ?_
   have K := of_some hF
   subst K
   exact at_return1 rfl rfl (fun w1 hw => ⟨rfl, hw⟩)
  ·refine at_cond_false rfl h5 ?_
   refine sns ?_
   refine av rfl (r_move rfl) ?_
   refine av rfl (r_move rfl) ?_
   obtain ⟨t6, ht6, hF⟩ := of_bindM hF
   obtain ⟨ha7, hb8⟩ := hn_trie_node_at ht6
   refine av rfl (r_npc rfl ha7) ?_
   refine av rfl (r_fieldAddr (fo := 2) Try.underlying103 rfl rfl (fun w => ⟨_, Try.sizeOf4 w⟩) rfl) ?_
   refine at_hstore (v' := HV.trie_node ({ t6.2 with f_is := false })) (c := cBool) (z := false) .z hb8 (fun _ h => h) (Lens.comp (Lens.whole _ _) (fun z => { t6.2 with f_is := z }) (c_trie_node_f_is gh t6.2)) (by rfl) (fun j hj => .inl hj) Try.sizeOf4 rfl rfl rfl ?_
   obtain ⟨t9, ht9, hF⟩ := of_bindM hF
   obtain ⟨ha10, hb11⟩ := hn_trie_node_at ht9
   refine av rfl (r_npc rfl ha10) ?_
   refine av rfl (r_fieldAddr (fo := 3) Try.underlying103 rfl rfl (fun w => ⟨_, Try.sizeOf3 w⟩) rfl) ?_
   refine at_hstore (v' := HV.trie_node ({ t9.2 with f_owner := 0 })) (c := (cInt .i64)) (z := 0) .z hb11 (fun _ h => h) (Lens.comp (Lens.whole _ _) (fun z => { t9.2 with f_owner := z }) (c_trie_node_f_owner gh t9.2)) (by rfl) (fun j hj => .inl hj) Try.sizeOf3 rfl rfl rfl ?_
   refine nws [(0, _)] ⟨rfl, trivial⟩ ?_
   refine av rfl (r_move rfl) ?_
   obtain ⟨t12, ht12, hF⟩ := of_bindM hF
   obtain ⟨ha13, hb14⟩ := hn_trie_Trie_at ht12
   refine av rfl (r_npc rfl ha13) ?_
   refine av rfl (r_fieldAddr (fo := 2) Try.underlying105 rfl rfl (fun w => ⟨_, Try.sizeOf3 w⟩) rfl) ?_
   refine av rfl (r_load_cell Try.isAgg3 rfl (hcell0 (c := (cInt .i64)) (y := t12.2.f_many) .z hb14 (fun _ h => h) (Lens.comp (Lens.whole _ _) (fun z => { t12.2 with f_many := z }) (c_trie_Trie_f_many gh t12.2)) rfl)) ?_
   refine av rfl (r_isub rfl rfl) ?_
   obtain ⟨t15, ht15, hF⟩ := of_bindM hF
   obtain ⟨ha16, hb17⟩ := hn_trie_Trie_at ht15
   refine av rfl (r_npc rfl ha16) ?_
   refine av rfl (r_fieldAddr (fo := 2) Try.underlying105 rfl rfl (fun w => ⟨_, Try.sizeOf3 w⟩) rfl) ?_
   refine at_hstore (v' := HV.trie_Trie ({ t15.2 with f_many := wr .i64 (t12.2.f_many - 1) })) (c := (cInt .i64)) (z := wr .i64 (t12.2.f_many - 1)) .z hb17 (fun _ h => h) (Lens.comp (Lens.whole _ _) (fun z => { t15.2 with f_many := z }) (c_trie_Trie_f_many gh t15.2)) (by rfl) (fun j hj => .inl hj) Try.sizeOf3 rfl rfl rfl ?_
   refine nws [(0, _)] ⟨rfl, trivial⟩ ?_
   refine av rfl (r_move rfl) ?_
   obtain ⟨t18, ht18, hF⟩ := of_bindM hF
   obtain ⟨ha19, hb20⟩ := hn_trie_Trie_at ht18
   refine av rfl (r_npc rfl ha19) ?_
   refine av rfl (r_fieldAddr (fo := 0) Try.underlying105 rfl rfl (fun w => ⟨_, Try.sizeOf100 w⟩) rfl) ?_
   refine av rfl (r_load_cell Try.isAgg100 rfl (hcell0 (c := (cPtr gh)) (y := t18.2.f_root) .z hb20 (fun _ h => h) (Lens.comp (Lens.whole _ _) (fun z => { t18.2 with f_root := z }) (c_trie_Trie_f_root gh t18.2)) rfl)) ?_
   obtain ⟨t21, ht21, hF⟩ := of_bindM hF
   refine at_callN (v := .bool t21.1) (T := (heapE hK g0_ n0_ gh t21.2 :: G_)) Try.func78 rfl (by kernel_rfl) rfl rfl (fun w hw => trie_node_prune_ok ht21 hw) ?_
   refine nws [] trivial ?_
   refine av rfl (r_assign rfl) ?_
   refine nwt [(4, _)] ⟨rfl, trivial⟩ ?_
   refine at_ret ?_
   have K := of_some hF
   subst K
   exact at_return1 rfl rfl (fun w1 hw => ⟨rfl, hw⟩)
end Go.Proofs.Ythccncpephpdjaa
namespace Go.Proofs.Ythccncpephpdjaa
open E Go.RowKit
abbrev zqU3_0 : S_api_Prefix := ({ f_A := ({ f_V := (0 : Int), f_B := (Vector.replicate 16 (0 : Int) : (Vector Int 16)) } : S_api_Addr), f_Bits := (0 : Int) } : S_api_Prefix)
abbrev zqU3_1 : S_api_Addr := ({ f_V := (0 : Int), f_B := (Vector.replicate 16 (0 : Int) : (Vector Int 16)) } : S_api_Addr)
theorem infoU352_is : (Try.prog.info? 52).isSome = true := by kernel_rfl
noncomputable def infoU352_v : TypeInfo := (Try.prog.info? 52).get infoU352_is
theorem infoU352 : Try.prog.info? 52 = some infoU352_v := (Option.some_get _).symm
def trie_Trie_All_1 (x0 : S_api_Entry) (x1 : List S_api_Entry) : Option (List S_api_Entry) :=
  if (x1.length + 1) * 40 ≤ 140737488355328 then some (x1 ++ [x0]) else none
theorem trie_Trie_All_1_ok {x0 : S_api_Entry} {x1 : List S_api_Entry} {r : List S_api_Entry} (hF : trie_Trie_All_1 x0 x1 = some r) : ∀ {w0 w : World} {G_ : List Ent} {b1_ : Nat} {p1_ : Option Addr} {c1_ : Nat} (hw_ : Wd w0 (svE c_api_Entry 52 44 b1_ p1_ c1_ x1 :: G_) w),
    Calls Try.prog 75 #[.agg (Cd.cs c_api_Entry x0).toArray, .pointer (some ⟨b1_, 0, none⟩)] w (fun e w' => ∃ (q0 : Option Addr) (d0 : Nat), e = .returned (.tuple #[]) ∧ Wd w0 (svE c_api_Entry 52 44 b1_ q0 d0 r :: G_) w') := by
 intro w0 w G_ b1_ p1_ c1_ hw_
 unfold trie_Trie_All_1 at hF
 refine calls_enter (l := [.agg (Cd.cs c_api_Entry x0).toArray, .pointer (some ⟨b1_, 0, none⟩)]) Try.func75 rfl rfl rfl ?_
 refine at_enterF hw_ ?_
 refine at_weak [(0, _), (1, _)] ⟨rfl, rfl, trivial⟩ ?_
 refine sr ?_
 refine at_box (cs := Cd.cs c_api_Entry x0) rfl rfl rfl ?_
 intro b1
 refine nwt [(1, _), (2, _)] ⟨rfl, rfl, trivial⟩ ?_
 refine at_region ?_
 refine at_svOpen (.s .z) ?_
 refine av rfl (r_load_cell Try.isAgg44 rfl (fun w1 hw => cells_get (hw.ok (Upd.mem .z)) 0 _ rfl)) ?_
 refine av rfl (r_load_aggc (c := c_api_Entry) (z := x0) Try.isAgg52 Try.sizeOf52 rfl (lens_cell (.s (.s .z)) (Lens.whole _ _))) ?_
 refine at_litL (c := c_api_Entry) ([({ f_P := zqU3_0, f_Owner := (0 : Int) } : S_api_Entry)] : List S_api_Entry) ([x0] : List S_api_Entry) Try.underlying44 Try.sizeOf52 Try.zeroValue52 rfl rfl rfl (by kernel_rfl) (fill_step (c := c_api_Entry) (z := x0) rfl (Lens.all c_api_Entry ([({ f_P := zqU3_0, f_Owner := (0 : Int) } : S_api_Entry)] : List S_api_Entry) 0 (by decide)) rfl rfl) rfl ?_
 intro b2
 obtain ⟨h3, hF⟩ := of_guard hF
 refine at_append (z := .agg (Cd.cs c_api_Entry ({ f_P := zqU3_0, f_Owner := (0 : Int) } : S_api_Entry)).toArray) (c := c_api_Entry) (ys := ([x0] : List S_api_Entry)) (.s (.s .z)) Try.underlying44 infoU352 (by kernel_rfl) (by kernel_rfl) rfl rfl rfl rfl (fun _ hw => cells_src (hw.ok (Upd.mem .z))) (by kernel_rfl) h3 (app_small h3) rfl ?_
 intro p4 c5
 refine at_storeSv (.s .z) Try.sizeOf44 rfl rfl ⟨_, _, _, rfl⟩ ⟨_, _, _, rfl⟩ ?_
 refine at_nil ?_
 refine at_drop (H := _) .z ?_
 refine at_drop (H := _) (.s (.s .z)) ?_
 refine at_weak [] trivial ?_
 refine at_svClose ?_
 have K := of_some hF
 subst K
 exact at_return0 rfl (fun w1 hw => ⟨p4, c5, rfl, hw⟩)
def trie_node_each__trie_Trie_All_1.go : Nat → List HV → Option Nat → S_api_Addr → Int → List S_api_Entry → Option (List S_api_Entry)
  | 0 => fun _ _ _ _ _ => none
  | f_ + 1 => fun h_ x0 x1 x2 x3 => if (Option.isNone x0) = true then (some x3) else (hn_trie_node h_ x0 >>= fun t3 => if t3.2.f_is = true then (hn_trie_node h_ x0 >>= fun t7 => trie_Trie_All_1 ({ { ({ f_P := ({ f_A := ({ f_V := (0 : Int), f_B := (Vector.replicate 16 (0 : Int) : (Vector Int 16)) } : S_api_Addr), f_Bits := (0 : Int) } : S_api_Prefix), f_Owner := (0 : Int) } : S_api_Entry) with f_P := { { ({ f_A := ({ f_V := (0 : Int), f_B := (Vector.replicate 16 (0 : Int) : (Vector Int 16)) } : S_api_Addr), f_Bits := (0 : Int) } : S_api_Prefix) with f_A := x1 } with f_Bits := x2 } } with f_Owner := t7.2.f_owner }) x3 >>= fun t10 => hn_trie_node h_ x0 >>= fun t14 => (trie_node_each__trie_Trie_All_1.go f_) h_ (vget t14.2.f_next 0) x1 (wr .i64 (x2 + 1)) t10 >>= fun t17 => hn_trie_node h_ x0 >>= fun t21 => if (!(Option.isNone (vget t21.2.f_next 1))) = true then (if (0 : Int) ≤ ishr .i64 x2 3 ∧ ishr .i64 x2 3 < 16 then if (0 : Int) ≤ wr .u64 (iand .i64 x2 7) then if (0 : Int) ≤ ishr .i64 x2 3 ∧ ishr .i64 x2 3 < 16 then hn_trie_node h_ x0 >>= fun t28 => (trie_node_each__trie_Trie_All_1.go f_) h_ (vget t28.2.f_next 1) ({ x1 with f_B := vset x1.f_B (ishr .i64 x2 3) (ior .u8 (vget x1.f_B (ishr .i64 x2 3)) (ishr .u8 128 (wr .u64 (iand .i64 x2 7)))) }) (wr .i64 (x2 + 1)) t17 >>= fun t31 => some t31 else none else none else none) else (some t17)) else (hn_trie_node h_ x0 >>= fun t35 => (trie_node_each__trie_Trie_All_1.go f_) h_ (vget t35.2.f_next 0) x1 (wr .i64 (x2 + 1)) x3 >>= fun t38 => hn_trie_node h_ x0 >>= fun t42 => if (!(Option.isNone (vget t42.2.f_next 1))) = true then (if (0 : Int) ≤ ishr .i64 x2 3 ∧ ishr .i64 x2 3 < 16 then if (0 : Int) ≤ wr .u64 (iand .i64 x2 7) then if (0 : Int) ≤ ishr .i64 x2 3 ∧ ishr .i64 x2 3 < 16 then hn_trie_node h_ x0 >>= fun t49 => (trie_node_each__trie_Trie_All_1.go f_) h_ (vget t49.2.f_next 1) ({ x1 with f_B := vset x1.f_B (ishr .i64 x2 3) (ior .u8 (vget x1.f_B (ishr .i64 x2 3)) (ishr .u8 128 (wr .u64 (iand .i64 x2 7)))) }) (wr .i64 (x2 + 1)) t38 >>= fun t52 => some t52 else none else none else none) else (some t38)))
def trie_node_each__trie_Trie_All_1 (h_ : List HV) (x0 : Option Nat) (x1 : S_api_Addr) (x2 : Int) (x3 : List S_api_Entry) : Option (List S_api_Entry) := trie_node_each__trie_Trie_All_1.go 400 h_ x0 x1 x2 x3
set_option maxHeartbeats 3200000 in
theorem trie_node_each__trie_Trie_All_1.go_ok (f_ : Nat) : ∀ {h_ : List HV} {x0 : Option Nat} {x1 : S_api_Addr} {x2 : Int} {x3 : List S_api_Entry} {r : List S_api_Entry} (hF : trie_node_each__trie_Trie_All_1.go f_ h_ x0 x1 x2 x3 = some r) {w0 w : World} {G_ : List Ent} {g0_ : Nat → Nat} {n0_ : Nat} {gh : Nat → Nat} {b3_ : Nat} {p3_ : Option Addr} {c3_ : Nat} (hw_ : Wd w0 (heapE hK g0_ n0_ gh h_ :: svE c_api_Entry 52 44 b3_ p3_ c3_ x3 :: G_) w),
    Calls Try.prog 74 #[pv gh x0, .agg (Cd.cs c_api_Addr x1).toArray, .int .i64 x2, .func (.func 75) #[] #[.pointer (some ⟨b3_, 0, none⟩)]] w (fun e w' => ∃ (q0 : Option Addr) (d0 : Nat), e = .returned (.tuple #[]) ∧ Wd w0 (heapE hK g0_ n0_ gh h_ :: svE c_api_Entry 52 44 b3_ q0 d0 r :: G_) w') := by
 induction f_ with
 | zero => intro h_ x0 x1 x2 x3 r hF; exact absurd hF (by simp [trie_node_each__trie_Trie_All_1.go])
 | succ f_ ihf =>
 intro h_ x0 x1 x2 x3 r hF w0 w G_ g0_ n0_ gh b3_ p3_ c3_ hw_
 unfold trie_node_each__trie_Trie_All_1.go at hF
 refine calls_enter (l := [pv gh x0, .agg (Cd.cs c_api_Addr x1).toArray, .int .i64 x2, .func (.func 75) #[] #[.pointer (some ⟨b3_, 0, none⟩)]]) Try.func74 rfl rfl rfl ?_
 refine at_enterF hw_ ?_
 refine at_weak [(0, _), (1, _), (2, _), (3, _)] ⟨rfl, rfl, rfl, rfl, trivial⟩ ?_
 refine sr ?_
 refine at_box (cs := Cd.cs c_api_Addr x1) rfl rfl rfl ?_
 intro b1
 refine nwt [(0, _), (2, _), (3, _), (5, _)] ⟨rfl, rfl, rfl, rfl, trivial⟩ ?_
 refine at_seq ?_
 refine sr ?_
 refine av rfl (r_move rfl) ?_
 refine av rfl (r_pnil (p := x0) Try.underlying100 rfl rfl (.inl rfl) rfl) ?_
 refine nwt [(0, _), (2, _), (3, _), (5, _), (9, _)] ⟨rfl, rfl, rfl, rfl, rfl, trivial⟩ ?_
 rcases of_ite hF with ⟨h2, hF⟩ | ⟨h2, hF⟩
 ·refine at_cond_true rfl h2 ?_
  refine rt ?_
  refine at_drop (H := _) .z ?_
  have K := of_some hF
  subst K
  exact at_return0' rfl (fun w1 hw => ⟨p3_, c3_, rfl, hw⟩)
 ·refine at_cond_false rfl h2 ?_
  refine sn ?_
  refine at_seq ?_
  refine sr ?_
  refine av rfl (r_move rfl) ?_
  obtain ⟨t3, ht3, hF⟩ := of_bindM hF
  obtain ⟨ha4, hb5⟩ := hn_trie_node_at ht3
  refine av rfl (r_npc rfl ha4) ?_
  refine av rfl (r_fieldAddr (fo := 2) Try.underlying103 rfl rfl (fun w => ⟨_, Try.sizeOf4 w⟩) rfl) ?_
  refine av rfl (r_load_cell Try.isAgg4 rfl (hcell0 (c := cBool) (y := t3.2.f_is) (.s .z) hb5 (fun _ h => h) (Lens.comp (Lens.whole _ _) (fun z => { t3.2 with f_is := z }) (c_trie_node_f_is gh t3.2)) rfl)) ?_
  refine nwt [(0, _), (2, _), (3, _), (5, _), (13, _)] ⟨rfl, rfl, rfl, rfl, rfl, trivial⟩ ?_
  rcases of_ite hF with ⟨h6, hF⟩ | ⟨h6, hF⟩
  ·refine at_cond_true rfl h6 ?_
   refine at_weak [(0, _), (2, _), (3, _), (5, _)] ⟨rfl, rfl, rfl, rfl, trivial⟩ ?_
   obtain ⟨t7, ht7, hF⟩ := of_bindM hF
   obtain ⟨ha8, hb9⟩ := hn_trie_node_at ht7
   obtain ⟨t10, ht10, hF⟩ := of_bindM hF
   refine at_inv [.q 14 (fun g13 => .func (.func 75) #[] #[.pointer (some ⟨b3_, 0, none⟩)]) [] 0 0, .q 15 (fun g13 => .agg (Cd.cs c_api_Addr x1).toArray) [] 0 0, .q 16 (fun g13 => .int .i64 x2) [] 0 0, .q 17 (fun g13 => .agg (Cd.cs c_api_Prefix ({ { zqU3_0 with f_A := x1 } with f_Bits := x2 })).toArray) [1, 2] 0 0, .q 18 (fun g13 => pv gh x0) [] 0 0, .q 19 (fun g13 => .pointer (some ⟨gh t7.1, 0, none⟩)) [4] 0 0, .q 20 (fun g13 => .pointer (some ⟨gh t7.1, 0 + 3, none⟩)) [5] 0 0, .q 21 (fun g13 => .int .i64 t7.2.f_owner) [6] 0 0, .q 22 (fun g13 => .agg (Cd.cs c_api_Entry ({ { ({ f_P := zqU3_0, f_Owner := (0 : Int) } : S_api_Entry) with f_P := { { zqU3_0 with f_A := x1 } with f_Bits := x2 } } with f_Owner := t7.2.f_owner })).toArray) [3, 7] 0 0, .al 0 23 (fun g13 => undef) [0, 8]] (fun g13 s => match s with | 0 => (Wd w0 (cellsE b1 (Cd.cs c_api_Addr x1) 32 :: heapE hK g0_ n0_ gh h_ :: svE c_api_Entry 52 44 b3_ p3_ c3_ x3 :: G_)) | _ => (Wd w0 (svE c_api_Entry 52 44 b3_ ((g13 0).2.1) ((g13 0).2.2.1) t10 :: cellsE b1 (Cd.cs c_api_Addr x1) 32 :: heapE hK g0_ n0_ gh h_ :: G_))) 1 (by kernel_rfl) (by kernel_rfl) (by kernel_rfl) (by kernel_rfl) (by kernel_rfl) ⟨fun _ _ _ => rfl, fun _ _ _ => rfl, fun _ _ _ => rfl, fun _ _ _ => rfl, fun _ _ _ => rfl, fun _ _ _ => rfl, fun _ _ _ => rfl, fun _ _ _ => rfl, fun _ _ _ => rfl, fun _ _ _ => rfl, trivial⟩ (by kernel_rfl) (fun _ h => ⟨fun _ => (0, none, 0, none), h.drew⟩) ⟨?_, ?_, ?_, ?_, ?_, ?_, ?_, ?_, ?_, ?_, trivial⟩ ?_
   ·intro Lx g13 s K hl hh k
    show At 62 ((0, _) :: (2, _) :: (3, _) :: (5, _) :: Lx) _ _
    refine av rfl (r_move rfl) ?_
    exact at_nil k
   ·intro Lx g13 s K hl hh k
    show At 62 ((0, _) :: (2, _) :: (3, _) :: (5, _) :: Lx) _ _
    obtain rfl : s = 0 := by omega
    refine av rfl (r_load_aggc (c := c_api_Addr) (z := x1) Try.isAgg32 Try.sizeOf32 rfl (lens_cell .z (Lens.whole _ _))) ?_
    exact at_nil k
   ·intro Lx g13 s K hl hh k
    show At 62 ((0, _) :: (2, _) :: (3, _) :: (5, _) :: Lx) _ _
    refine av rfl (r_move rfl) ?_
    exact at_nil k
   ·intro Lx g13 s K hl hh k
    show At 62 ((15, _) :: (16, _) :: (0, _) :: (2, _) :: (3, _) :: (5, _) :: Lx) _ _
    obtain rfl : s = 0 := by omega
    refine av rfl (r_build_struct (zs := Cd.cs c_api_Prefix zqU3_0) (cs := Cd.cs c_api_Prefix ({ { zqU3_0 with f_A := x1 } with f_Bits := x2 })) Try.underlying46 Try.zeroValue46 rfl (places_api_Prefix_46) rfl (fill_step (c := c_api_Addr) (z := x1) rfl (c_api_Prefix_f_A zqU3_0) rfl (fill_step (c := (cInt .i64)) (z := x2) rfl (c_api_Prefix_f_Bits ({ zqU3_0 with f_A := x1 })) rfl rfl))) ?_
    exact at_nil k
   ·intro Lx g13 s K hl hh k
    show At 62 ((0, _) :: (2, _) :: (3, _) :: (5, _) :: Lx) _ _
    refine av rfl (r_move rfl) ?_
    exact at_nil k
   ·intro Lx g13 s K hl hh k
    show At 62 ((18, _) :: (0, _) :: (2, _) :: (3, _) :: (5, _) :: Lx) _ _
    refine av rfl (r_npc rfl ha8) ?_
    exact at_nil k
   ·intro Lx g13 s K hl hh k
    show At 62 ((19, _) :: (0, _) :: (2, _) :: (3, _) :: (5, _) :: Lx) _ _
    refine av rfl (r_fieldAddr (fo := 3) Try.underlying103 rfl rfl (fun w => ⟨_, Try.sizeOf3 w⟩) rfl) ?_
    exact at_nil k
   ·intro Lx g13 s K hl hh k
    show At 62 ((20, _) :: (0, _) :: (2, _) :: (3, _) :: (5, _) :: Lx) _ _
    obtain rfl : s = 0 := by omega
    refine av rfl (r_load_cell Try.isAgg3 rfl (hcell0 (c := (cInt .i64)) (y := t7.2.f_owner) (.s .z) hb9 (fun _ h => h) (Lens.comp (Lens.whole _ _) (fun z => { t7.2 with f_owner := z }) (c_trie_node_f_owner gh t7.2)) rfl)) ?_
    exact at_nil k
   ·intro Lx g13 s K hl hh k
    show At 62 ((17, _) :: (21, _) :: (0, _) :: (2, _) :: (3, _) :: (5, _) :: Lx) _ _
    obtain rfl : s = 0 := by omega
    refine av rfl (r_build_struct (zs := Cd.cs c_api_Entry ({ f_P := zqU3_0, f_Owner := (0 : Int) } : S_api_Entry)) (cs := Cd.cs c_api_Entry ({ { ({ f_P := zqU3_0, f_Owner := (0 : Int) } : S_api_Entry) with f_P := { { zqU3_0 with f_A := x1 } with f_Bits := x2 } } with f_Owner := t7.2.f_owner })) Try.underlying52 Try.zeroValue52 rfl (places_api_Entry_52) rfl (fill_step (c := c_api_Prefix) (z := { { zqU3_0 with f_A := x1 } with f_Bits := x2 }) rfl (c_api_Entry_f_P ({ f_P := zqU3_0, f_Owner := (0 : Int) } : S_api_Entry)) rfl (fill_step (c := (cInt .i64)) (z := t7.2.f_owner) rfl (c_api_Entry_f_Owner ({ ({ f_P := zqU3_0, f_Owner := (0 : Int) } : S_api_Entry) with f_P := { { zqU3_0 with f_A := x1 } with f_Bits := x2 } })) rfl rfl))) ?_
    exact at_nil k
   ·intro Lx g13 K k
    show At 62 ((14, _) :: (22, _) :: (0, _) :: (2, _) :: (3, _) :: (5, _) :: Lx) _ _
    refine at_calleeC (caps := [.pointer (some ⟨b3_, 0, none⟩)]) rfl ?_
    refine at_front (.s .z) ?_
    refine at_front (.s .z) ?_
    refine at_front (.s (.s .z)) ?_
    refine at_callG (V := fun p cap => .tuple #[]) (T := fun p cap => (svE c_api_Entry 52 44 b3_ p cap t10 :: cellsE b1 (Cd.cs c_api_Addr x1) 32 :: heapE hK g0_ n0_ gh h_ :: G_)) Try.func75 rfl (by kernel_rfl) rfl rfl (fun w hw => trie_Trie_All_1_ok ht10 hw) ?_
    intro p11 c12
    exact at_nil (k (0, p11, c12, none))
   intro g13
   show At 62 [(14, _), (15, _), (16, _), (17, _), (18, _), (19, _), (20, _), (21, _), (22, _), (23, _), (0, _), (2, _), (3, _), (5, _)] _ _
   refine at_weak [(0, _), (2, _), (3, _), (5, _)] ⟨rfl, rfl, rfl, rfl, trivial⟩ ?_
   refine at_then_normal ?_
   refine at_seq ?_
   refine at_weak [(0, _), (2, _), (3, _), (5, _)] ⟨rfl, rfl, rfl, rfl, trivial⟩ ?_
   obtain ⟨t14, ht14, hF⟩ := of_bindM hF
   obtain ⟨ha15, hb16⟩ := hn_trie_node_at ht14
   obtain ⟨t17, ht17, hF⟩ := of_bindM hF
   refine at_inv [.q 24 (fun g20 => pv gh x0) [] 0 0, .q 25 (fun g20 => .pointer (some ⟨gh t14.1, 0, none⟩)) [0] 0 0, .q 26 (fun g20 => .pointer (some ⟨gh t14.1, 0 + 0, none⟩)) [1] 0 0, .q 27 (fun g20 => .pointer (some ⟨gh t14.1, 0 + 0 + Int.toNat 0 * 1, none⟩)) [2] 0 0, .q 28 (fun g20 => pv gh (vget t14.2.f_next 0)) [3] 0 0, .q 29 (fun g20 => .agg (Cd.cs c_api_Addr x1).toArray) [] 0 0, .q 30 (fun g20 => .int .i64 x2) [] 0 0, .q 31 (fun g20 => .int .i64 (wr .i64 (x2 + 1))) [6] 0 0, .q 32 (fun g20 => .func (.func 75) #[] #[.pointer (some ⟨b3_, 0, none⟩)]) [] 0 0, .al 0 33 (fun g20 => undef) [4, 5, 7, 8]] (fun g20 s => match s with | 0 => (Wd w0 (svE c_api_Entry 52 44 b3_ (g13 0).2.1 (g13 0).2.2.1 t10 :: cellsE b1 (Cd.cs c_api_Addr x1) 32 :: heapE hK g0_ n0_ gh h_ :: G_)) | _ => (Wd w0 (heapE hK g0_ n0_ gh h_ :: svE c_api_Entry 52 44 b3_ ((g20 0).2.1) ((g20 0).2.2.1) t17 :: cellsE b1 (Cd.cs c_api_Addr x1) 32 :: G_))) 1 (by kernel_rfl) (by kernel_rfl) (by kernel_rfl) (by kernel_rfl) (by kernel_rfl) ⟨fun _ _ _ => rfl, fun _ _ _ => rfl, fun _ _ _ => rfl, fun _ _ _ => rfl, fun _ _ _ => rfl, fun _ _ _ => rfl, fun _ _ _ => rfl, fun _ _ _ => rfl, fun _ _ _ => rfl, fun _ _ _ => rfl, trivial⟩ (by kernel_rfl) (fun _ h => ⟨fun _ => (0, none, 0, none), h.drew⟩) ⟨?_, ?_, ?_, ?_, ?_, ?_, ?_, ?_, ?_, ?_, trivial⟩ ?_
   ·intro Lx g20 s K hl hh k
    show At 62 ((0, _) :: (2, _) :: (3, _) :: (5, _) :: Lx) _ _
    refine av rfl (r_move rfl) ?_
    exact at_nil k
   ·intro Lx g20 s K hl hh k
    show At 62 ((24, _) :: (0, _) :: (2, _) :: (3, _) :: (5, _) :: Lx) _ _
    refine av rfl (r_npc rfl ha15) ?_
    exact at_nil k
   ·intro Lx g20 s K hl hh k
    show At 62 ((25, _) :: (0, _) :: (2, _) :: (3, _) :: (5, _) :: Lx) _ _
    refine av rfl (r_fieldAddr (fo := 0) Try.underlying103 rfl rfl (fun w => ⟨_, Try.sizeOf101 w⟩) rfl) ?_
    exact at_nil k
   ·intro Lx g20 s K hl hh k
    show At 62 ((26, _) :: (0, _) :: (2, _) :: (3, _) :: (5, _) :: Lx) _ _
    refine av rfl (r_idxArr Try.underlying101 Try.sizeOf100 rfl rfl (by decide)) ?_
    exact at_nil k
   ·intro Lx g20 s K hl hh k
    show At 62 ((27, _) :: (0, _) :: (2, _) :: (3, _) :: (5, _) :: Lx) _ _
    obtain rfl : s = 0 := by omega
    refine av rfl (r_load_cell Try.isAgg100 rfl (hcell0 (c := (cPtr gh)) (y := vget t14.2.f_next 0) (.s (.s .z)) hb16 (fun _ h => h) (Lens.comp (Lens.comp (Lens.whole _ _) (fun z => { t14.2 with f_next := z }) (c_trie_node_f_next gh t14.2)) (fun z => vset t14.2.f_next 0 z) (Lens.vec (cPtr gh) (by decide) t14.2.f_next 0 (by decide))) rfl)) ?_
    exact at_nil k
   ·intro Lx g20 s K hl hh k
    show At 62 ((0, _) :: (2, _) :: (3, _) :: (5, _) :: Lx) _ _
    obtain rfl : s = 0 := by omega
    refine av rfl (r_load_aggc (c := c_api_Addr) (z := x1) Try.isAgg32 Try.sizeOf32 rfl (lens_cell (.s .z) (Lens.whole _ _))) ?_
    exact at_nil k
   ·intro Lx g20 s K hl hh k
    show At 62 ((0, _) :: (2, _) :: (3, _) :: (5, _) :: Lx) _ _
    refine av rfl (r_move rfl) ?_
    exact at_nil k
   ·intro Lx g20 s K hl hh k
    show At 62 ((30, _) :: (0, _) :: (2, _) :: (3, _) :: (5, _) :: Lx) _ _
    refine av rfl (r_iadd rfl rfl) ?_
    exact at_nil k
   ·intro Lx g20 s K hl hh k
    show At 62 ((0, _) :: (2, _) :: (3, _) :: (5, _) :: Lx) _ _
    refine av rfl (r_move rfl) ?_
    exact at_nil k
   ·intro Lx g20 K k
    show At 62 ((28, _) :: (29, _) :: (31, _) :: (32, _) :: (0, _) :: (2, _) :: (3, _) :: (5, _) :: Lx) _ _
    refine at_front (.s .z) ?_
    refine at_front (.s .z) ?_
    refine at_front (.s (.s .z)) ?_
    refine at_callG (V := fun p cap => .tuple #[]) (T := fun p cap => (heapE hK g0_ n0_ gh h_ :: svE c_api_Entry 52 44 b3_ p cap t17 :: cellsE b1 (Cd.cs c_api_Addr x1) 32 :: G_)) Try.func74 rfl (by kernel_rfl) rfl rfl (fun w hw => ihf ht17 hw) ?_
    intro p18 c19
    exact at_nil (k (0, p18, c19, none))
   intro g20
   show At 62 [(24, _), (25, _), (26, _), (27, _), (28, _), (29, _), (30, _), (31, _), (32, _), (33, _), (0, _), (2, _), (3, _), (5, _)] _ _
   refine at_weak [(0, _), (2, _), (3, _), (5, _)] ⟨rfl, rfl, rfl, rfl, trivial⟩ ?_
   refine at_then_normal ?_
   refine sr ?_
   refine av rfl (r_move rfl) ?_
   obtain ⟨t21, ht21, hF⟩ := of_bindM hF
   obtain ⟨ha22, hb23⟩ := hn_trie_node_at ht21
   refine av rfl (r_npc rfl ha22) ?_
   refine av rfl (r_fieldAddr (fo := 0) Try.underlying103 rfl rfl (fun w => ⟨_, Try.sizeOf101 w⟩) rfl) ?_
   refine av rfl (r_idxArr Try.underlying101 Try.sizeOf100 rfl rfl (by decide)) ?_
   refine av rfl (r_load_cell Try.isAgg100 rfl (hcell0 (c := (cPtr gh)) (y := vget t21.2.f_next 1) .z hb23 (fun _ h => h) (Lens.comp (Lens.comp (Lens.whole _ _) (fun z => { t21.2 with f_next := z }) (c_trie_node_f_next gh t21.2)) (fun z => vset t21.2.f_next 1 z) (Lens.vec (cPtr gh) (by decide) t21.2.f_next 1 (by decide))) rfl)) ?_
   refine av rfl (r_pnil (p := vget t21.2.f_next 1) Try.underlying100 rfl rfl (.inr rfl) rfl) ?_
   refine nwt [(0, _), (2, _), (3, _), (5, _), (39, _)] ⟨rfl, rfl, rfl, rfl, rfl, trivial⟩ ?_
   rcases of_ite hF with ⟨h24, hF⟩ | ⟨h24, hF⟩
   ·refine at_cond_true rfl h24 ?_
    refine sr ?_
    refine av rfl (r_move rfl) ?_
    refine av rfl (r_ishr rfl rfl (by decide)) ?_
    refine av rfl (r_fieldAddr (fo := 1) Try.underlying32 rfl rfl (fun w => ⟨_, Try.sizeOf30 w⟩) rfl) ?_
    obtain ⟨h25, hF⟩ := of_guard hF
    refine av rfl (r_idxArr Try.underlying30 Try.sizeOf5 rfl rfl h25) ?_
    refine av rfl (r_load_cell Try.isAgg5 rfl (lens_cell0 (c := (cInt .u8)) (y := vget x1.f_B (ishr .i64 x2 3)) (.s (.s .z)) (Lens.comp (Lens.comp (Lens.whole _ _) (fun z => { x1 with f_B := z }) (c_api_Addr_f_B x1)) (fun z => vset x1.f_B (ishr .i64 x2 3) z) (Lens.vec (cInt .u8) (by decide) x1.f_B (ishr .i64 x2 3) h25)) rfl)) ?_
    refine av rfl (r_move rfl) ?_
    refine av rfl (r_iand rfl rfl) ?_
    refine av rfl (r_conv Try.underlying3 Try.underlying131 rfl) ?_
    obtain ⟨h26, hF⟩ := of_guard hF
    refine av rfl (r_ishr rfl rfl h26) ?_
    refine av rfl (r_ior rfl rfl) ?_
    refine av rfl (r_fieldAddr (fo := 1) Try.underlying32 rfl rfl (fun w => ⟨_, Try.sizeOf30 w⟩) rfl) ?_
    obtain ⟨h27, hF⟩ := of_guard hF
    refine av rfl (r_idxArr Try.underlying30 Try.sizeOf5 rfl rfl h27) ?_
    refine at_store (c := (cInt .u8)) (z := ior .u8 (vget x1.f_B (ishr .i64 x2 3)) (ishr .u8 128 (wr .u64 (iand .i64 x2 7)))) (.s (.s .z)) (Lens.comp (Lens.comp (Lens.whole _ _) (fun z => { x1 with f_B := z }) (c_api_Addr_f_B x1)) (fun z => vset x1.f_B (ishr .i64 x2 3) z) (Lens.vec (cInt .u8) (by decide) x1.f_B (ishr .i64 x2 3) h27)) Try.sizeOf5 rfl rfl rfl ?_
    refine nwt [(0, _), (2, _), (3, _), (5, _)] ⟨rfl, rfl, rfl, rfl, trivial⟩ ?_
    refine at_weak [(0, _), (2, _), (3, _), (5, _)] ⟨rfl, rfl, rfl, rfl, trivial⟩ ?_
    obtain ⟨t28, ht28, hF⟩ := of_bindM hF
    obtain ⟨ha29, hb30⟩ := hn_trie_node_at ht28
    obtain ⟨t31, ht31, hF⟩ := of_bindM hF
    refine at_inv [.q 52 (fun g34 => pv gh x0) [] 0 0, .q 53 (fun g34 => .pointer (some ⟨gh t28.1, 0, none⟩)) [0] 0 0, .q 54 (fun g34 => .pointer (some ⟨gh t28.1, 0 + 0, none⟩)) [1] 0 0, .q 55 (fun g34 => .pointer (some ⟨gh t28.1, 0 + 0 + Int.toNat 1 * 1, none⟩)) [2] 0 0, .q 56 (fun g34 => pv gh (vget t28.2.f_next 1)) [3] 0 0, .q 57 (fun g34 => .agg (Cd.cs c_api_Addr ({ x1 with f_B := vset x1.f_B (ishr .i64 x2 3) (ior .u8 (vget x1.f_B (ishr .i64 x2 3)) (ishr .u8 128 (wr .u64 (iand .i64 x2 7)))) })).toArray) [] 0 0, .q 58 (fun g34 => .int .i64 x2) [] 0 0, .q 59 (fun g34 => .int .i64 (wr .i64 (x2 + 1))) [6] 0 0, .q 60 (fun g34 => .func (.func 75) #[] #[.pointer (some ⟨b3_, 0, none⟩)]) [] 0 0, .al 0 61 (fun g34 => undef) [4, 5, 7, 8]] (fun g34 s => match s with | 0 => (Wd w0 (heapE hK g0_ n0_ gh h_ :: svE c_api_Entry 52 44 b3_ (g20 0).2.1 (g20 0).2.2.1 t17 :: cellsE b1 (Cd.cs c_api_Addr ({ x1 with f_B := vset x1.f_B (ishr .i64 x2 3) (ior .u8 (vget x1.f_B (ishr .i64 x2 3)) (ishr .u8 128 (wr .u64 (iand .i64 x2 7)))) })) 32 :: G_)) | _ => (Wd w0 (heapE hK g0_ n0_ gh h_ :: svE c_api_Entry 52 44 b3_ ((g34 0).2.1) ((g34 0).2.2.1) t31 :: cellsE b1 (Cd.cs c_api_Addr ({ x1 with f_B := vset x1.f_B (ishr .i64 x2 3) (ior .u8 (vget x1.f_B (ishr .i64 x2 3)) (ishr .u8 128 (wr .u64 (iand .i64 x2 7)))) })) 32 :: G_))) 1 (by kernel_rfl) (by kernel_rfl) (by kernel_rfl) (by kernel_rfl) (by kernel_rfl) ⟨fun _ _ _ => rfl, fun _ _ _ => rfl, fun _ _ _ => rfl, fun _ _ _ => rfl, fun _ _ _ => rfl, fun _ _ _ => rfl, fun _ _ _ => rfl, fun _ _ _ => rfl, fun _ _ _ => rfl, fun _ _ _ => rfl, trivial⟩ (by kernel_rfl) (fun _ h => ⟨fun _ => (0, none, 0, none), h.drew⟩) ⟨?_, ?_, ?_, ?_, ?_, ?_, ?_, ?_, ?_, ?_, trivial⟩ ?_
    ·intro Lx g34 s K hl hh k
     show At 62 ((0, _) :: (2, _) :: (3, _) :: (5, _) :: Lx) _ _
     refine av rfl (r_move rfl) ?_
     exact at_nil k
    ·intro Lx g34 s K hl hh k
     show At 62 ((52, _) :: (0, _) :: (2, _) :: (3, _) :: (5, _) :: Lx) _ _
     refine av rfl (r_npc rfl ha29) ?_
     exact at_nil k
    ·intro Lx g34 s K hl hh k
     show At 62 ((53, _) :: (0, _) :: (2, _) :: (3, _) :: (5, _) :: Lx) _ _
     refine av rfl (r_fieldAddr (fo := 0) Try.underlying103 rfl rfl (fun w => ⟨_, Try.sizeOf101 w⟩) rfl) ?_
     exact at_nil k
    ·intro Lx g34 s K hl hh k
     show At 62 ((54, _) :: (0, _) :: (2, _) :: (3, _) :: (5, _) :: Lx) _ _
     refine av rfl (r_idxArr Try.underlying101 Try.sizeOf100 rfl rfl (by decide)) ?_
     exact at_nil k
    ·intro Lx g34 s K hl hh k
     show At 62 ((55, _) :: (0, _) :: (2, _) :: (3, _) :: (5, _) :: Lx) _ _
     obtain rfl : s = 0 := by omega
     refine av rfl (r_load_cell Try.isAgg100 rfl (hcell0 (c := (cPtr gh)) (y := vget t28.2.f_next 1) .z hb30 (fun _ h => h) (Lens.comp (Lens.comp (Lens.whole _ _) (fun z => { t28.2 with f_next := z }) (c_trie_node_f_next gh t28.2)) (fun z => vset t28.2.f_next 1 z) (Lens.vec (cPtr gh) (by decide) t28.2.f_next 1 (by decide))) rfl)) ?_
     exact at_nil k
    ·intro Lx g34 s K hl hh k
     show At 62 ((0, _) :: (2, _) :: (3, _) :: (5, _) :: Lx) _ _
     obtain rfl : s = 0 := by omega
     refine av rfl (r_load_aggc (c := c_api_Addr) (z := { x1 with f_B := vset x1.f_B (ishr .i64 x2 3) (ior .u8 (vget x1.f_B (ishr .i64 x2 3)) (ishr .u8 128 (wr .u64 (iand .i64 x2 7)))) }) Try.isAgg32 Try.sizeOf32 rfl (lens_cell (.s (.s .z)) (Lens.whole _ _))) ?_
     exact at_nil k
    ·intro Lx g34 s K hl hh k
     show At 62 ((0, _) :: (2, _) :: (3, _) :: (5, _) :: Lx) _ _
     refine av rfl (r_move rfl) ?_
     exact at_nil k
    ·intro Lx g34 s K hl hh k
     show At 62 ((58, _) :: (0, _) :: (2, _) :: (3, _) :: (5, _) :: Lx) _ _
     refine av rfl (r_iadd rfl rfl) ?_
     exact at_nil k
    ·intro Lx g34 s K hl hh k
     show At 62 ((0, _) :: (2, _) :: (3, _) :: (5, _) :: Lx) _ _
     refine av rfl (r_move rfl) ?_
     exact at_nil k
    ·intro Lx g34 K k
     show At 62 ((56, _) :: (57, _) :: (59, _) :: (60, _) :: (0, _) :: (2, _) :: (3, _) :: (5, _) :: Lx) _ _
     refine at_callG (V := fun p cap => .tuple #[]) (T := fun p cap => (heapE hK g0_ n0_ gh h_ :: svE c_api_Entry 52 44 b3_ p cap t31 :: cellsE b1 (Cd.cs c_api_Addr ({ x1 with f_B := vset x1.f_B (ishr .i64 x2 3) (ior .u8 (vget x1.f_B (ishr .i64 x2 3)) (ishr .u8 128 (wr .u64 (iand .i64 x2 7)))) })) 32 :: G_)) Try.func74 rfl (by kernel_rfl) rfl rfl (fun w hw => ihf ht31 hw) ?_
     intro p32 c33
     exact at_nil (k (0, p32, c33, none))
    intro g34
    show At 62 [(52, _), (53, _), (54, _), (55, _), (56, _), (57, _), (58, _), (59, _), (60, _), (61, _), (0, _), (2, _), (3, _), (5, _)] _ _
    refine at_drop (H := _) (.s (.s .z)) ?_
    refine at_weak [] trivial ?_
    have K := of_some hF
    subst K
    exact at_return0 rfl (fun w1 hw => ⟨(g34 0).2.1, (g34 0).2.2.1, rfl, hw⟩)
   ·refine at_cond_false rfl h24 ?_
    refine at_skip ?_
    refine at_drop (H := _) (.s (.s .z)) ?_
    have K := of_some hF
    subst K
    exact at_return0 rfl (fun w1 hw => ⟨(g20 0).2.1, (g20 0).2.2.1, rfl, hw⟩)
  ·refine at_cond_false rfl h6 ?_
   refine sn ?_
   refine at_seq ?_
   refine at_weak [(0, _), (2, _), (3, _), (5, _)] ⟨rfl, rfl, rfl, rfl, trivial⟩ ?_
   obtain ⟨t35, ht35, hF⟩ := of_bindM hF
   obtain ⟨ha36, hb37⟩ := hn_trie_node_at ht35
   obtain ⟨t38, ht38, hF⟩ := of_bindM hF
   refine at_inv [.q 24 (fun g41 => pv gh x0) [] 0 0, .q 25 (fun g41 => .pointer (some ⟨gh t35.1, 0, none⟩)) [0] 0 0, .q 26 (fun g41 => .pointer (some ⟨gh t35.1, 0 + 0, none⟩)) [1] 0 0, .q 27 (fun g41 => .pointer (some ⟨gh t35.1, 0 + 0 + Int.toNat 0 * 1, none⟩)) [2] 0 0, .q 28 (fun g41 => pv gh (vget t35.2.f_next 0)) [3] 0 0, .q 29 (fun g41 => .agg (Cd.cs c_api_Addr x1).toArray) [] 0 0, .q 30 (fun g41 => .int .i64 x2) [] 0 0, .q 31 (fun g41 => .int .i64 (wr .i64 (x2 + 1))) [6] 0 0, .q 32 (fun g41 => .func (.func 75) #[] #[.pointer (some ⟨b3_, 0, none⟩)]) [] 0 0, .al 0 33 (fun g41 => undef) [4, 5, 7, 8]] (fun g41 s => match s with | 0 => (Wd w0 (cellsE b1 (Cd.cs c_api_Addr x1) 32 :: heapE hK g0_ n0_ gh h_ :: svE c_api_Entry 52 44 b3_ p3_ c3_ x3 :: G_)) | _ => (Wd w0 (heapE hK g0_ n0_ gh h_ :: svE c_api_Entry 52 44 b3_ ((g41 0).2.1) ((g41 0).2.2.1) t38 :: cellsE b1 (Cd.cs c_api_Addr x1) 32 :: G_))) 1 (by kernel_rfl) (by kernel_rfl) (by kernel_rfl) (by kernel_rfl) (by kernel_rfl) ⟨fun _ _ _ => rfl, fun _ _ _ => rfl, fun _ _ _ => rfl, fun _ _ _ => rfl, fun _ _ _ => rfl, fun _ _ _ => rfl, fun _ _ _ => rfl, fun _ _ _ => rfl, fun _ _ _ => rfl, fun _ _ _ => rfl, trivial⟩ (by kernel_rfl) (fun _ h => ⟨fun _ => (0, none, 0, none), h.drew⟩) ⟨?_, ?_, ?_, ?_, ?_, ?_, ?_, ?_, ?_, ?_, trivial⟩ ?_
   ·intro Lx g41 s K hl hh k
    show At 62 ((0, _) :: (2, _) :: (3, _) :: (5, _) :: Lx) _ _
    refine av rfl (r_move rfl) ?_
    exact at_nil k
   ·intro Lx g41 s K hl hh k
    show At 62 ((24, _) :: (0, _) :: (2, _) :: (3, _) :: (5, _) :: Lx) _ _
    refine av rfl (r_npc rfl ha36) ?_
    exact at_nil k
   ·intro Lx g41 s K hl hh k
    show At 62 ((25, _) :: (0, _) :: (2, _) :: (3, _) :: (5, _) :: Lx) _ _
    refine av rfl (r_fieldAddr (fo := 0) Try.underlying103 rfl rfl (fun w => ⟨_, Try.sizeOf101 w⟩) rfl) ?_
    exact at_nil k
   ·intro Lx g41 s K hl hh k
    show At 62 ((26, _) :: (0, _) :: (2, _) :: (3, _) :: (5, _) :: Lx) _ _
    refine av rfl (r_idxArr Try.underlying101 Try.sizeOf100 rfl rfl (by decide)) ?_
    exact at_nil k
   ·intro Lx g41 s K hl hh k
    show At 62 ((27, _) :: (0, _) :: (2, _) :: (3, _) :: (5, _) :: Lx) _ _
    obtain rfl : s = 0 := by omega
    refine av rfl (r_load_cell Try.isAgg100 rfl (hcell0 (c := (cPtr gh)) (y := vget t35.2.f_next 0) (.s .z) hb37 (fun _ h => h) (Lens.comp (Lens.comp (Lens.whole _ _) (fun z => { t35.2 with f_next := z }) (c_trie_node_f_next gh t35.2)) (fun z => vset t35.2.f_next 0 z) (Lens.vec (cPtr gh) (by decide) t35.2.f_next 0 (by decide))) rfl)) ?_
    exact at_nil k
   ·intro Lx g41 s K hl hh k
    show At 62 ((0, _) :: (2, _) :: (3, _) :: (5, _) :: Lx) _ _
    obtain rfl : s = 0 := by omega
    refine av rfl (r_load_aggc (c := c_api_Addr) (z := x1) Try.isAgg32 Try.sizeOf32 rfl (lens_cell .z (Lens.whole _ _))) ?_
    exact at_nil k
   ·intro Lx g41 s K hl hh k
    show At 62 ((0, _) :: (2, _) :: (3, _) :: (5, _) :: Lx) _ _
    refine av rfl (r_move rfl) ?_
    exact at_nil k
   ·intro Lx g41 s K hl hh k
    show At 62 ((30, _) :: (0, _) :: (2, _) :: (3, _) :: (5, _) :: Lx) _ _
    refine av rfl (r_iadd rfl rfl) ?_
    exact at_nil k
   ·intro Lx g41 s K hl hh k
    show At 62 ((0, _) :: (2, _) :: (3, _) :: (5, _) :: Lx) _ _
    refine av rfl (r_move rfl) ?_
    exact at_nil k
   ·intro Lx g41 K k
    show At 62 ((28, _) :: (29, _) :: (31, _) :: (32, _) :: (0, _) :: (2, _) :: (3, _) :: (5, _) :: Lx) _ _
    refine at_front (.s (.s .z)) ?_
    refine at_front (.s (.s .z)) ?_
    refine at_callG (V := fun p cap => .tuple #[]) (T := fun p cap => (heapE hK g0_ n0_ gh h_ :: svE c_api_Entry 52 44 b3_ p cap t38 :: cellsE b1 (Cd.cs c_api_Addr x1) 32 :: G_)) Try.func74 rfl (by kernel_rfl) rfl rfl (fun w hw => ihf ht38 hw) ?_
    intro p39 c40
    exact at_nil (k (0, p39, c40, none))
   intro g41
   show At 62 [(24, _), (25, _), (26, _), (27, _), (28, _), (29, _), (30, _), (31, _), (32, _), (33, _), (0, _), (2, _), (3, _), (5, _)] _ _
   refine at_weak [(0, _), (2, _), (3, _), (5, _)] ⟨rfl, rfl, rfl, rfl, trivial⟩ ?_
   refine at_then_normal ?_
   refine sr ?_
   refine av rfl (r_move rfl) ?_
   obtain ⟨t42, ht42, hF⟩ := of_bindM hF
   obtain ⟨ha43, hb44⟩ := hn_trie_node_at ht42
   refine av rfl (r_npc rfl ha43) ?_
   refine av rfl (r_fieldAddr (fo := 0) Try.underlying103 rfl rfl (fun w => ⟨_, Try.sizeOf101 w⟩) rfl) ?_
   refine av rfl (r_idxArr Try.underlying101 Try.sizeOf100 rfl rfl (by decide)) ?_
   refine av rfl (r_load_cell Try.isAgg100 rfl (hcell0 (c := (cPtr gh)) (y := vget t42.2.f_next 1) .z hb44 (fun _ h => h) (Lens.comp (Lens.comp (Lens.whole _ _) (fun z => { t42.2 with f_next := z }) (c_trie_node_f_next gh t42.2)) (fun z => vset t42.2.f_next 1 z) (Lens.vec (cPtr gh) (by decide) t42.2.f_next 1 (by decide))) rfl)) ?_
   refine av rfl (r_pnil (p := vget t42.2.f_next 1) Try.underlying100 rfl rfl (.inr rfl) rfl) ?_
   refine nwt [(0, _), (2, _), (3, _), (5, _), (39, _)] ⟨rfl, rfl, rfl, rfl, rfl, trivial⟩ ?_
   rcases of_ite hF with ⟨h45, hF⟩ | ⟨h45, hF⟩
   ·refine at_cond_true rfl h45 ?_
    refine sr ?_
    refine av rfl (r_move rfl) ?_
    refine av rfl (r_ishr rfl rfl (by decide)) ?_
    refine av rfl (r_fieldAddr (fo := 1) Try.underlying32 rfl rfl (fun w => ⟨_, Try.sizeOf30 w⟩) rfl) ?_
    obtain ⟨h46, hF⟩ := of_guard hF
    refine av rfl (r_idxArr Try.underlying30 Try.sizeOf5 rfl rfl h46) ?_
    refine av rfl (r_load_cell Try.isAgg5 rfl (lens_cell0 (c := (cInt .u8)) (y := vget x1.f_B (ishr .i64 x2 3)) (.s (.s .z)) (Lens.comp (Lens.comp (Lens.whole _ _) (fun z => { x1 with f_B := z }) (c_api_Addr_f_B x1)) (fun z => vset x1.f_B (ishr .i64 x2 3) z) (Lens.vec (cInt .u8) (by decide) x1.f_B (ishr .i64 x2 3) h46)) rfl)) ?_
    refine av rfl (r_move rfl) ?_
    refine av rfl (r_iand rfl rfl) ?_
    refine av rfl (r_conv Try.underlying3 Try.underlying131 rfl) ?_
    obtain ⟨h47, hF⟩ := of_guard hF
    refine av rfl (r_ishr rfl rfl h47) ?_
    refine av rfl (r_ior rfl rfl) ?_
    refine av rfl (r_fieldAddr (fo := 1) Try.underlying32 rfl rfl (fun w => ⟨_, Try.sizeOf30 w⟩) rfl) ?_
    obtain ⟨h48, hF⟩ := of_guard hF
    refine av rfl (r_idxArr Try.underlying30 Try.sizeOf5 rfl rfl h48) ?_
    refine at_store (c := (cInt .u8)) (z := ior .u8 (vget x1.f_B (ishr .i64 x2 3)) (ishr .u8 128 (wr .u64 (iand .i64 x2 7)))) (.s (.s .z)) (Lens.comp (Lens.comp (Lens.whole _ _) (fun z => { x1 with f_B := z }) (c_api_Addr_f_B x1)) (fun z => vset x1.f_B (ishr .i64 x2 3) z) (Lens.vec (cInt .u8) (by decide) x1.f_B (ishr .i64 x2 3) h48)) Try.sizeOf5 rfl rfl rfl ?_
    refine nwt [(0, _), (2, _), (3, _), (5, _)] ⟨rfl, rfl, rfl, rfl, trivial⟩ ?_
    refine at_weak [(0, _), (2, _), (3, _), (5, _)] ⟨rfl, rfl, rfl, rfl, trivial⟩ ?_
    obtain ⟨t49, ht49, hF⟩ := of_bindM hF
    obtain ⟨ha50, hb51⟩ := hn_trie_node_at ht49
    obtain ⟨t52, ht52, hF⟩ := of_bindM hF
    refine at_inv [.q 52 (fun g55 => pv gh x0) [] 0 0, .q 53 (fun g55 => .pointer (some ⟨gh t49.1, 0, none⟩)) [0] 0 0, .q 54 (fun g55 => .pointer (some ⟨gh t49.1, 0 + 0, none⟩)) [1] 0 0, .q 55 (fun g55 => .pointer (some ⟨gh t49.1, 0 + 0 + Int.toNat 1 * 1, none⟩)) [2] 0 0, .q 56 (fun g55 => pv gh (vget t49.2.f_next 1)) [3] 0 0, .q 57 (fun g55 => .agg (Cd.cs c_api_Addr ({ x1 with f_B := vset x1.f_B (ishr .i64 x2 3) (ior .u8 (vget x1.f_B (ishr .i64 x2 3)) (ishr .u8 128 (wr .u64 (iand .i64 x2 7)))) })).toArray) [] 0 0, .q 58 (fun g55 => .int .i64 x2) [] 0 0, .q 59 (fun g55 => .int .i64 (wr .i64 (x2 + 1))) [6] 0 0, .q 60 (fun g55 => .func (.func 75) #[] #[.pointer (some ⟨b3_, 0, none⟩)]) [] 0 0, .al 0 61 (fun g55 => undef) [4, 5, 7, 8]] (fun g55 s => match s with | 0 => (Wd w0 (heapE hK g0_ n0_ gh h_ :: svE c_api_Entry 52 44 b3_ (g41 0).2.1 (g41 0).2.2.1 t38 :: cellsE b1 (Cd.cs c_api_Addr ({ x1 with f_B := vset x1.f_B (ishr .i64 x2 3) (ior .u8 (vget x1.f_B (ishr .i64 x2 3)) (ishr .u8 128 (wr .u64 (iand .i64 x2 7)))) })) 32 :: G_)) | _ => (Wd w0 (heapE hK g0_ n0_ gh h_ :: svE c_api_Entry 52 44 b3_ ((g55 0).2.1) ((g55 0).2.2.1) t52 :: cellsE b1 (Cd.cs c_api_Addr ({ x1 with f_B := vset x1.f_B (ishr .i64 x2 3) (ior .u8 (vget x1.f_B (ishr .i64 x2 3)) (ishr .u8 128 (wr .u64 (iand .i64 x2 7)))) })) 32 :: G_))) 1 (by kernel_rfl) (by kernel_rfl) (by kernel_rfl) (by kernel_rfl) (by kernel_rfl) ⟨fun _ _ _ => rfl, fun _ _ _ => rfl, fun _ _ _ => rfl, fun _ _ _ => rfl, fun _ _ _ => rfl, fun _ _ _ => rfl, fun _ _ _ => rfl, fun _ _ _ => rfl, fun _ _ _ => rfl, fun _ _ _ => rfl, trivial⟩ (by kernel_rfl) (fun _ h => ⟨fun _ => (0, none, 0, none), h.drew⟩) ⟨?_, ?_, ?_, ?_, ?_, ?_, ?_, ?_, ?_, ?_, trivial⟩ ?_
    ·intro Lx g55 s K hl hh k
     show At 62 ((0, _) :: (2, _) :: (3, _) :: (5, _) :: Lx) _ _
     refine av rfl (r_move rfl) ?_
     exact at_nil k
    ·intro Lx g55 s K hl hh k
     show At 62 ((52, _) :: (0, _) :: (2, _) :: (3, _) :: (5, _) :: Lx) _ _
     refine av rfl (r_npc rfl ha50) ?_
     exact at_nil k
    ·intro Lx g55 s K hl hh k
     show At 62 ((53, _) :: (0, _) :: (2, _) :: (3, _) :: (5, _) :: Lx) _ _
     refine av rfl (r_fieldAddr (fo := 0) Try.underlying103 rfl rfl (fun w => ⟨_, Try.sizeOf101 w⟩) rfl) ?_
     exact at_nil k
    ·intro Lx g55 s K hl hh k
     show At 62 ((54, _) :: (0, _) :: (2, _) :: (3, _) :: (5, _) :: Lx) _ _
     refine av rfl (r_idxArr Try.underlying101 Try.sizeOf100 rfl rfl (by decide)) ?_
     exact at_nil k
    ·intro Lx g55 s K hl hh k
     show At 62 ((55, _) :: (0, _) :: (2, _) :: (3, _) :: (5, _) :: Lx) _ _
     obtain rfl : s = 0 := by omega
     refine av rfl (r_load_cell Try.isAgg100 rfl (hcell0 (c := (cPtr gh)) (y := vget t49.2.f_next 1) .z hb51 (fun _ h => h) (Lens.comp (Lens.comp (Lens.whole _ _) (fun z => { t49.2 with f_next := z }) (c_trie_node_f_next gh t49.2)) (fun z => vset t49.2.f_next 1 z) (Lens.vec (cPtr gh) (by decide) t49.2.f_next 1 (by decide))) rfl)) ?_
     exact at_nil k
    ·intro Lx g55 s K hl hh k
     show At 62 ((0, _) :: (2, _) :: (3, _) :: (5, _) :: Lx) _ _
     obtain rfl : s = 0 := by omega
     refine av rfl (r_load_aggc (c := c_api_Addr) (z := { x1 with f_B := vset x1.f_B (ishr .i64 x2 3) (ior .u8 (vget x1.f_B (ishr .i64 x2 3)) (ishr .u8 128 (wr .u64 (iand .i64 x2 7)))) }) Try.isAgg32 Try.sizeOf32 rfl (lens_cell (.s (.s .z)) (Lens.whole _ _))) ?_
     exact at_nil k
    ·intro Lx g55 s K hl hh k
     show At 62 ((0, _) :: (2, _) :: (3, _) :: (5, _) :: Lx) _ _
     refine av rfl (r_move rfl) ?_
     exact at_nil k
    ·intro Lx g55 s K hl hh k
     show At 62 ((58, _) :: (0, _) :: (2, _) :: (3, _) :: (5, _) :: Lx) _ _
     refine av rfl (r_iadd rfl rfl) ?_
     exact at_nil k
    ·intro Lx g55 s K hl hh k
     show At 62 ((0, _) :: (2, _) :: (3, _) :: (5, _) :: Lx) _ _
     refine av rfl (r_move rfl) ?_
     exact at_nil k
    ·intro Lx g55 K k
     show At 62 ((56, _) :: (57, _) :: (59, _) :: (60, _) :: (0, _) :: (2, _) :: (3, _) :: (5, _) :: Lx) _ _
     refine at_callG (V := fun p cap => .tuple #[]) (T := fun p cap => (heapE hK g0_ n0_ gh h_ :: svE c_api_Entry 52 44 b3_ p cap t52 :: cellsE b1 (Cd.cs c_api_Addr ({ x1 with f_B := vset x1.f_B (ishr .i64 x2 3) (ior .u8 (vget x1.f_B (ishr .i64 x2 3)) (ishr .u8 128 (wr .u64 (iand .i64 x2 7)))) })) 32 :: G_)) Try.func74 rfl (by kernel_rfl) rfl rfl (fun w hw => ihf ht52 hw) ?_
     intro p53 c54
     exact at_nil (k (0, p53, c54, none))
    intro g55
    show At 62 [(52, _), (53, _), (54, _), (55, _), (56, _), (57, _), (58, _), (59, _), (60, _), (61, _), (0, _), (2, _), (3, _), (5, _)] _ _
    refine at_drop (H := _) (.s (.s .z)) ?_
    refine at_weak [] trivial ?_
    have K := of_some hF
    subst K
    exact at_return0 rfl (fun w1 hw => ⟨(g55 0).2.1, (g55 0).2.2.1, rfl, hw⟩)
   ·refine at_cond_false rfl h45 ?_
    refine at_skip ?_
    refine at_drop (H := _) (.s (.s .z)) ?_
    have K := of_some hF
    subst K
    exact at_return0 rfl (fun w1 hw => ⟨(g41 0).2.1, (g41 0).2.2.1, rfl, hw⟩)
theorem trie_node_each__trie_Trie_All_1_ok {h_ : List HV} {x0 : Option Nat} {x1 : S_api_Addr} {x2 : Int} {x3 : List S_api_Entry} {r : List S_api_Entry} (hF : trie_node_each__trie_Trie_All_1 h_ x0 x1 x2 x3 = some r) : ∀ {w0 w : World} {G_ : List Ent} {g0_ : Nat → Nat} {n0_ : Nat} {gh : Nat → Nat} {b3_ : Nat} {p3_ : Option Addr} {c3_ : Nat} (hw_ : Wd w0 (heapE hK g0_ n0_ gh h_ :: svE c_api_Entry 52 44 b3_ p3_ c3_ x3 :: G_) w),
    Calls Try.prog 74 #[pv gh x0, .agg (Cd.cs c_api_Addr x1).toArray, .int .i64 x2, .func (.func 75) #[] #[.pointer (some ⟨b3_, 0, none⟩)]] w (fun e w' => ∃ (q0 : Option Addr) (d0 : Nat), e = .returned (.tuple #[]) ∧ Wd w0 (heapE hK g0_ n0_ gh h_ :: svE c_api_Entry 52 44 b3_ q0 d0 r :: G_) w') := trie_node_each__trie_Trie_All_1.go_ok 400 hF
def trie_Trie_All (h_ : List HV) (x0 : Option Nat) : Option (List S_api_Entry) :=
  if (Option.isNone x0) = true then (some ([] : List S_api_Entry)) else (hn_trie_Trie h_ x0 >>= fun t3 => hn_trie_Trie h_ x0 >>= fun t6 => trie_node_each__trie_Trie_All_1 h_ t3.2.f_root ({ ({ f_V := (0 : Int), f_B := (Vector.replicate 16 (0 : Int) : (Vector Int 16)) } : S_api_Addr) with f_V := t6.2.f_family }) 0 ([] : List S_api_Entry) >>= fun t9 => some t9)
set_option maxHeartbeats 3200000 in
theorem trie_Trie_All_ok {h_ : List HV} {x0 : Option Nat} {r : List S_api_Entry} (hF : trie_Trie_All h_ x0 = some r) : ∀ {w0 w : World} {G_ : List Ent} {g0_ : Nat → Nat} {n0_ : Nat} {gh : Nat → Nat} (hw_ : Wd w0 (heapE hK g0_ n0_ gh h_ :: G_) w),
    Calls Try.prog 30 #[pv gh x0] w (fun e w' => ∃ (p : Option Addr) (cap : Nat), e = .returned (.slice p r.length cap) ∧ Wd w0 (heapE hK g0_ n0_ gh h_ :: rowE c_api_Entry 52 p cap r :: G_) w') := by
 intro w0 w G_ g0_ n0_ gh hw_
 unfold trie_Trie_All at hF
 refine calls_enter (l := [pv gh x0]) Try.func30 rfl rfl rfl ?_
 refine at_enterF hw_ ?_
 refine at_weak [(0, _)] ⟨rfl, trivial⟩ ?_
 refine sr ?_
 refine av rfl (r_assign rfl) ?_
 refine nwt [(0, _)] ⟨rfl, trivial⟩ ?_
 refine at_seq ?_
 refine sr ?_
 refine av rfl (r_move rfl) ?_
 refine av rfl (r_pnil (p := x0) Try.underlying42 rfl rfl (.inl rfl) rfl) ?_
 refine nwt [(0, _), (5, _)] ⟨rfl, rfl, trivial⟩ ?_
 rcases of_ite hF with ⟨h1, hF⟩ | ⟨h1, hF⟩
 ·refine at_cond_true rfl h1 ?_
  refine sr ?_
  refine av rfl (r_assign rfl) ?_
  refine nwt [(2, _)] ⟨rfl, trivial⟩ ?_
  refine rt ?_
  refine at_own_nil c_api_Entry 52 ?_
  refine at_front (.s .z) ?_
  have K := of_some hF
  subst K
  exact at_return1 rfl rfl (fun w1 hw => ⟨none, 0, rfl, hw⟩)
 ·refine at_cond_false rfl h1 ?_
  refine sns ?_
  refine at_allocSv c_api_Entry 52 Try.underlying44 Try.zeroValue44 rfl ?_
  intro b2
  refine nwt [(0, _), (3, _)] ⟨rfl, rfl, trivial⟩ ?_
  refine at_seq ?_
  refine at_weak [(0, _), (3, _)] ⟨rfl, rfl, trivial⟩ ?_
  obtain ⟨t3, ht3, hF⟩ := of_bindM hF
  obtain ⟨ha4, hb5⟩ := hn_trie_Trie_at ht3
  obtain ⟨t6, ht6, hF⟩ := of_bindM hF
  obtain ⟨ha7, hb8⟩ := hn_trie_Trie_at ht6
  obtain ⟨t9, ht9, hF⟩ := of_bindM hF
  refine at_inv [.q 6 (fun g12 => pv gh x0) [] 0 0, .q 7 (fun g12 => .pointer (some ⟨gh t3.1, 0, none⟩)) [0] 0 0, .q 8 (fun g12 => .pointer (some ⟨gh t3.1, 0 + 0, none⟩)) [1] 0 0, .q 9 (fun g12 => pv gh t3.2.f_root) [2] 0 0, .q 10 (fun g12 => pv gh x0) [] 0 0, .q 11 (fun g12 => .pointer (some ⟨gh t6.1, 0, none⟩)) [4] 0 0, .q 12 (fun g12 => .pointer (some ⟨gh t6.1, 0 + 1, none⟩)) [5] 0 0, .q 13 (fun g12 => .int .i64 t6.2.f_family) [6] 0 0, .q 14 (fun g12 => .agg (Cd.cs c_api_Addr ({ zqU3_1 with f_V := t6.2.f_family })).toArray) [7] 0 0, .q 15 (fun g12 => .func (.func 75) #[] #[.pointer (some ⟨b2, 0, none⟩)]) [] 0 0, .al 0 16 (fun g12 => undef) [3, 8, 9]] (fun g12 s => match s with | 0 => (Wd w0 (svE c_api_Entry 52 44 b2 none 0 ([] : List S_api_Entry) :: heapE hK g0_ n0_ gh h_ :: G_)) | _ => (Wd w0 (heapE hK g0_ n0_ gh h_ :: svE c_api_Entry 52 44 b2 ((g12 0).2.1) ((g12 0).2.2.1) t9 :: G_))) 1 (by kernel_rfl) (by kernel_rfl) (by kernel_rfl) (by kernel_rfl) (by kernel_rfl) ⟨fun _ _ _ => rfl, fun _ _ _ => rfl, fun _ _ _ => rfl, fun _ _ _ => rfl, fun _ _ _ => rfl, fun _ _ _ => rfl, fun _ _ _ => rfl, fun _ _ _ => rfl, fun _ _ _ => rfl, fun _ _ _ => rfl, fun _ _ _ => rfl, trivial⟩ (by kernel_rfl) (fun _ h => ⟨fun _ => (0, none, 0, none), h.drew⟩) ⟨?_, ?_, ?_, ?_, ?_, ?_, ?_, ?_, ?_, ?_, ?_, trivial⟩ ?_
  ·intro Lx g12 s K hl hh k
   show At 18 ((0, _) :: (3, _) :: Lx) _ _
   refine av rfl (r_move rfl) ?_
   exact at_nil k
  ·intro Lx g12 s K hl hh k
   show At 18 ((6, _) :: (0, _) :: (3, _) :: Lx) _ _
   refine av rfl (r_npc rfl ha4) ?_
   exact at_nil k
  ·intro Lx g12 s K hl hh k
   show At 18 ((7, _) :: (0, _) :: (3, _) :: Lx) _ _
   refine av rfl (r_fieldAddr (fo := 0) Try.underlying105 rfl rfl (fun w => ⟨_, Try.sizeOf100 w⟩) rfl) ?_
   exact at_nil k
  ·intro Lx g12 s K hl hh k
   show At 18 ((8, _) :: (0, _) :: (3, _) :: Lx) _ _
   obtain rfl : s = 0 := by omega
   refine av rfl (r_load_cell Try.isAgg100 rfl (hcell0 (c := (cPtr gh)) (y := t3.2.f_root) (.s .z) hb5 (fun _ h => h) (Lens.comp (Lens.whole _ _) (fun z => { t3.2 with f_root := z }) (c_trie_Trie_f_root gh t3.2)) rfl)) ?_
   exact at_nil k
  ·intro Lx g12 s K hl hh k
   show At 18 ((0, _) :: (3, _) :: Lx) _ _
   refine av rfl (r_move rfl) ?_
   exact at_nil k
  ·intro Lx g12 s K hl hh k
   show At 18 ((10, _) :: (0, _) :: (3, _) :: Lx) _ _
   refine av rfl (r_npc rfl ha7) ?_
   exact at_nil k
  ·intro Lx g12 s K hl hh k
   show At 18 ((11, _) :: (0, _) :: (3, _) :: Lx) _ _
   refine av rfl (r_fieldAddr (fo := 1) Try.underlying105 rfl rfl (fun w => ⟨_, Try.sizeOf3 w⟩) rfl) ?_
   exact at_nil k
  ·intro Lx g12 s K hl hh k
   show At 18 ((12, _) :: (0, _) :: (3, _) :: Lx) _ _
   obtain rfl : s = 0 := by omega
   refine av rfl (r_load_cell Try.isAgg3 rfl (hcell0 (c := (cInt .i64)) (y := t6.2.f_family) (.s .z) hb8 (fun _ h => h) (Lens.comp (Lens.whole _ _) (fun z => { t6.2 with f_family := z }) (c_trie_Trie_f_family gh t6.2)) rfl)) ?_
   exact at_nil k
  ·intro Lx g12 s K hl hh k
   show At 18 ((13, _) :: (0, _) :: (3, _) :: Lx) _ _
   obtain rfl : s = 0 := by omega
   refine av rfl (r_build_struct (zs := Cd.cs c_api_Addr zqU3_1) (cs := Cd.cs c_api_Addr ({ zqU3_1 with f_V := t6.2.f_family })) Try.underlying32 Try.zeroValue32 rfl (places_api_Addr_32) rfl (fill_step (c := (cInt .i64)) (z := t6.2.f_family) rfl (c_api_Addr_f_V zqU3_1) rfl rfl)) ?_
   exact at_nil k
  ·intro Lx g12 s K hl hh k
   show At 18 ((0, _) :: (3, _) :: Lx) _ _
   obtain rfl : s = 0 := by omega
   refine av rfl (r_makeFunc rfl) ?_
   exact at_nil k
  ·intro Lx g12 K k
   show At 18 ((9, _) :: (14, _) :: (15, _) :: (0, _) :: (3, _) :: Lx) _ _
   refine at_front (.s .z) ?_
   refine at_callG (V := fun p cap => .tuple #[]) (T := fun p cap => (heapE hK g0_ n0_ gh h_ :: svE c_api_Entry 52 44 b2 p cap t9 :: G_)) Try.func74 rfl (by kernel_rfl) rfl rfl (fun w hw => trie_node_each__trie_Trie_All_1_ok ht9 hw) ?_
   intro p10 c11
   exact at_nil (k (0, p10, c11, none))
  intro g12
  show At 18 [(6, _), (7, _), (8, _), (9, _), (10, _), (11, _), (12, _), (13, _), (14, _), (15, _), (16, _), (0, _), (3, _)] _ _
  refine at_weak [(3, _)] ⟨rfl, trivial⟩ ?_
  refine at_then_normal ?_
  refine sr ?_
  refine at_svOpen (.s .z) ?_
  refine av rfl (r_load_cell Try.isAgg44 rfl (fun w1 hw => cells_get (hw.ok (Upd.mem .z)) 0 _ rfl)) ?_
  refine av rfl (r_assign rfl) ?_
  refine at_nil ?_
  refine at_drop (H := _) .z ?_
  refine at_weak [(2, _)] ⟨rfl, trivial⟩ ?_
  refine at_then_normal ?_
  refine at_ret ?_
  refine at_front (.s .z) ?_
  have K := of_some hF
  subst K
  exact at_return1 rfl rfl (fun w1 hw => ⟨(g12 0).2.1, (g12 0).2.2.1, rfl, hw⟩)
end Go.Proofs.Ythccncpephpdjaa
