/- Functions with the same answers as the Go functions that they are named for, and the proofs of it, by a program of this project (gen.py). -/
import Derived.Test.YtecolkjlpklaaaaDoorT
import Derived.Test.YtecolkjlpklaaaaDoorShelf
import Derived.Test.YtecolkjlpklaaaaDoorW
import Derived.Test.YtecolkjlpklaaaaDoorL
import Derived.Test.YtecolkjlpklaaaaDoorS
import Derived.Test.YtecolkjlpklaaaaDoorJ
import Derived.Test.YtecolkjlpklaaaaDoorK
import Derived.Test.YtecolkjlpklaaaaDoorProg
import Derived.Test.YtecolkjlpklaaaaDoorG1
set_option linter.unusedVariables false
set_option linter.unusedSimpArgs false
namespace Go.Proofs.YtecolkjlpklaaaaDoor
open E Go.RowKit


def addr_Four (x0 : (Vector Int 4)) : Option (S_api_Addr) :=
  some ({ { ({ f_V := (0 : Int), f_B := (Vector.replicate 16 (0 : Int) : (Vector Int 16)) } : S_api_Addr) with f_V := 4 } with f_B := vcopy (({ ({ f_V := (0 : Int), f_B := (Vector.replicate 16 (0 : Int) : (Vector Int 16)) } : S_api_Addr) with f_V := 4 }).f_B) (Int.toNat 0) (List.take (Int.toNat (16 - 0)) (Vector.toList x0)) })
set_option maxRecDepth 10000 in
theorem addr_Four_ok (x0 : (Vector Int 4)) (r : S_api_Addr) (hF : addr_Four x0 = some r) (w : World) :
    Calls Tryd.prog 41 #[.agg (Cd.cs (cVec (cInt .u8) 4 (by decide)) x0).toArray] w (fun e w' => e = .returned (.agg (Cd.cs c_api_Addr r).toArray) ∧ Below w.heap.size w w') := by
  unfold addr_Four at hF
  refine calls_enter (l := [.agg (Cd.cs (cVec (cInt .u8) 4 (by decide)) x0).toArray]) Tryd.func41 rfl rfl rfl ?_
  refine at_start ?_
  refine at_weak [(0, _)] ⟨rfl, trivial⟩ ?_
  refine at_seq ?_
  refine at_region ?_
  refine at_box (cs := Cd.cs (cVec (cInt .u8) 4 (by decide)) x0) rfl rfl rfl ?_
  intro b1
  refine at_alloc (cs := Cd.cs c_api_Addr ({ f_V := (0 : Int), f_B := (Vector.replicate 16 (0 : Int) : (Vector Int 16)) } : S_api_Addr)) Tryd.zeroValue24 rfl rfl ?_
  intro b2
  refine at_nil ?_
  refine at_weak [(1, _), (2, _)] ⟨rfl, rfl, trivial⟩ ?_
  refine at_then_normal ?_
  refine at_seq ?_
  refine at_region ?_
  refine at_val rfl rfl rfl (r_build_struct (zs := Cd.cs c_api_Addr ({ f_V := (0 : Int), f_B := (Vector.replicate 16 (0 : Int) : (Vector Int 16)) } : S_api_Addr)) (cs := Cd.cs c_api_Addr ({ ({ f_V := (0 : Int), f_B := (Vector.replicate 16 (0 : Int) : (Vector Int 16)) } : S_api_Addr) with f_V := 4 })) Tryd.underlying24 Tryd.zeroValue24 rfl (places_api_Addr_24) rfl (fill_step (c := (cInt .i64)) (z := 4) rfl (c_api_Addr_f_V ({ f_V := (0 : Int), f_B := (Vector.replicate 16 (0 : Int) : (Vector Int 16)) } : S_api_Addr)) rfl rfl)) ?_
  refine at_alloc (cs := Cd.cs c_api_Addr ({ f_V := (0 : Int), f_B := (Vector.replicate 16 (0 : Int) : (Vector Int 16)) } : S_api_Addr)) Tryd.zeroValue24 rfl rfl ?_
  intro b3
  refine at_store (c := c_api_Addr) (z := { ({ f_V := (0 : Int), f_B := (Vector.replicate 16 (0 : Int) : (Vector Int 16)) } : S_api_Addr) with f_V := 4 }) .z (Lens.whole _ _) Tryd.sizeOf24 rfl rfl rfl ?_
  refine at_nil ?_
  refine at_weak [(1, _), (2, _), (3, _)] ⟨rfl, rfl, rfl, trivial⟩ ?_
  refine at_then_normal ?_
  refine at_seq ?_
  refine at_draw_tail 3 (by kernel_rfl) (by kernel_rfl) (fun _ h => h.drew) ?_
  simp only [List.take_succ_cons, List.take_zero, List.drop_succ_cons, List.drop_zero]
  refine ats_val rfl rfl rfl (r_fieldAddr (fo := 1) Tryd.underlying24 rfl rfl (fun w => ⟨_, Tryd.sizeOf22 w⟩) rfl) ?_
  refine ats_val rfl rfl rfl (r_view_all (c := (cInt .u8)) (({ ({ f_V := (0 : Int), f_B := (Vector.replicate 16 (0 : Int) : (Vector Int 16)) } : S_api_Addr) with f_V := 4 }).f_B) (by decide) Tryd.underlying22 Tryd.sizeOf5 rfl) ?_
  refine ats_val rfl rfl rfl (r_slice_vec x0 Tryd.underlying47 Tryd.sizeOf5 rfl) ?_
  refine ats_nil ?_
  refine at_copy (lo := 0) (hi := 16) (xs := Vector.toList x0) .z (Lens.comp (Lens.whole _ _) (fun z => { { ({ f_V := (0 : Int), f_B := (Vector.replicate 16 (0 : Int) : (Vector Int 16)) } : S_api_Addr) with f_V := 4 } with f_B := z }) (c_api_Addr_f_B ({ ({ f_V := (0 : Int), f_B := (Vector.replicate 16 (0 : Int) : (Vector Int 16)) } : S_api_Addr) with f_V := 4 }))) rfl (by decide) Tryd.underlying33 (by kernel_rfl) rfl (rsp_zero (by decide)) (by simp) rfl ⟨_, rfl⟩ (fun w1 hw => (vec_row (hw.ok (Upd.mem (.s (.s .z)))))) rfl ?_
  refine at_nil ?_
  refine at_drop (H := _) (.s (.s .z)) ?_
  refine at_weak [(2, _), (3, _)] ⟨rfl, rfl, trivial⟩ ?_
  refine at_then_normal ?_
  refine at_seq ?_
  refine at_region ?_
  refine at_val rfl rfl rfl (r_load_aggc (c := c_api_Addr) (z := { { ({ f_V := (0 : Int), f_B := (Vector.replicate 16 (0 : Int) : (Vector Int 16)) } : S_api_Addr) with f_V := 4 } with f_B := vcopy (({ ({ f_V := (0 : Int), f_B := (Vector.replicate 16 (0 : Int) : (Vector Int 16)) } : S_api_Addr) with f_V := 4 }).f_B) (Int.toNat 0) (List.take (Int.toNat (16 - 0)) (Vector.toList x0)) }) Tryd.isAgg24 Tryd.sizeOf24 rfl (lens_cell .z (Lens.whole _ _))) ?_
  refine at_store (c := c_api_Addr) (z := { { ({ f_V := (0 : Int), f_B := (Vector.replicate 16 (0 : Int) : (Vector Int 16)) } : S_api_Addr) with f_V := 4 } with f_B := vcopy (({ ({ f_V := (0 : Int), f_B := (Vector.replicate 16 (0 : Int) : (Vector Int 16)) } : S_api_Addr) with f_V := 4 }).f_B) (Int.toNat 0) (List.take (Int.toNat (16 - 0)) (Vector.toList x0)) }) (.s .z) (Lens.whole _ _) Tryd.sizeOf24 rfl rfl rfl ?_
  refine at_nil ?_
  refine at_drop (H := _) .z ?_
  refine at_weak [(2, _)] ⟨rfl, trivial⟩ ?_
  refine at_then_normal ?_
  refine at_ret ?_
  have K := of_some hF
  subst K
  exact at_res1 rfl (res_cell (c := c_api_Addr) (y := { { ({ f_V := (0 : Int), f_B := (Vector.replicate 16 (0 : Int) : (Vector Int 16)) } : S_api_Addr) with f_V := 4 } with f_B := vcopy (({ ({ f_V := (0 : Int), f_B := (Vector.replicate 16 (0 : Int) : (Vector Int 16)) } : S_api_Addr) with f_V := 4 }).f_B) (Int.toNat 0) (List.take (Int.toNat (16 - 0)) (Vector.toList x0)) }) rfl .z (Lens.whole _ _) Tryd.isAgg24 Tryd.sizeOf24 (.inl rfl)) (fun w1 hw => ⟨rfl, hw.below⟩)

def addr_Six (x0 : (Vector Int 16)) : Option (S_api_Addr) :=
  some ({ { ({ f_V := (0 : Int), f_B := (Vector.replicate 16 (0 : Int) : (Vector Int 16)) } : S_api_Addr) with f_V := 6 } with f_B := x0 })
theorem addr_Six_ok (x0 : (Vector Int 16)) (r : S_api_Addr) (hF : addr_Six x0 = some r) (w : World) :
    Calls Tryd.prog 42 #[.agg (Cd.cs (cVec (cInt .u8) 16 (by decide)) x0).toArray] w (fun e w' => e = .returned (.agg (Cd.cs c_api_Addr r).toArray) ∧ Below w.heap.size w w') := by
  unfold addr_Six at hF
  refine calls_enter (l := [.agg (Cd.cs (cVec (cInt .u8) 16 (by decide)) x0).toArray]) Tryd.func42 rfl rfl rfl ?_
  refine at_start ?_
  refine at_weak [(0, _)] ⟨rfl, trivial⟩ ?_
  refine at_seq ?_
  refine at_region ?_
  refine at_box (cs := Cd.cs (cVec (cInt .u8) 16 (by decide)) x0) rfl rfl rfl ?_
  intro b1
  refine at_alloc (cs := Cd.cs c_api_Addr ({ f_V := (0 : Int), f_B := (Vector.replicate 16 (0 : Int) : (Vector Int 16)) } : S_api_Addr)) Tryd.zeroValue24 rfl rfl ?_
  intro b2
  refine at_nil ?_
  refine at_weak [(1, _), (2, _)] ⟨rfl, rfl, trivial⟩ ?_
  refine at_then_normal ?_
  refine at_seq ?_
  refine at_region ?_
  refine at_val rfl rfl rfl (r_load_aggc (c := (cVec (cInt .u8) 16 (by decide))) (z := x0) Tryd.isAgg22 Tryd.sizeOf22 rfl (lens_cell (.s .z) (Lens.whole _ _))) ?_
  refine at_val rfl rfl rfl (r_build_struct (zs := Cd.cs c_api_Addr ({ f_V := (0 : Int), f_B := (Vector.replicate 16 (0 : Int) : (Vector Int 16)) } : S_api_Addr)) (cs := Cd.cs c_api_Addr ({ { ({ f_V := (0 : Int), f_B := (Vector.replicate 16 (0 : Int) : (Vector Int 16)) } : S_api_Addr) with f_V := 6 } with f_B := x0 })) Tryd.underlying24 Tryd.zeroValue24 rfl (places_api_Addr_24) rfl (fill_step (c := (cInt .i64)) (z := 6) rfl (c_api_Addr_f_V ({ f_V := (0 : Int), f_B := (Vector.replicate 16 (0 : Int) : (Vector Int 16)) } : S_api_Addr)) rfl (fill_step (c := (cVec (cInt .u8) 16 (by decide))) (z := x0) rfl (c_api_Addr_f_B ({ ({ f_V := (0 : Int), f_B := (Vector.replicate 16 (0 : Int) : (Vector Int 16)) } : S_api_Addr) with f_V := 6 })) rfl rfl))) ?_
  refine at_store (c := c_api_Addr) (z := { { ({ f_V := (0 : Int), f_B := (Vector.replicate 16 (0 : Int) : (Vector Int 16)) } : S_api_Addr) with f_V := 6 } with f_B := x0 }) .z (Lens.whole _ _) Tryd.sizeOf24 rfl rfl rfl ?_
  refine at_nil ?_
  refine at_drop (H := _) (.s .z) ?_
  refine at_weak [(2, _)] ⟨rfl, trivial⟩ ?_
  refine at_then_normal ?_
  refine at_ret ?_
  have K := of_some hF
  subst K
  exact at_res1 rfl (res_cell (c := c_api_Addr) (y := { { ({ f_V := (0 : Int), f_B := (Vector.replicate 16 (0 : Int) : (Vector Int 16)) } : S_api_Addr) with f_V := 6 } with f_B := x0 }) rfl .z (Lens.whole _ _) Tryd.isAgg24 Tryd.sizeOf24 (.inl rfl)) (fun w1 hw => ⟨rfl, hw.below⟩)

def addr_Right (x0 : S_api_Addr) : Option (Bool) :=
  if (x0.f_V == 6) = true then (some true) else (if (x0.f_V == 4) = true then (if 4 ≤ (lsub (Vector.toList x0.f_B) 0 4).length then addr_Four (lvec 4 (lsub (Vector.toList x0.f_B) 0 4)) >>= fun t8 => some (decide (x0 = t8)) else none) else (some false))
theorem addr_Right_ok (x0 : S_api_Addr) (r : Bool) (hF : addr_Right x0 = some r) (w : World) :
    Calls Tryd.prog 36 #[.agg (Cd.cs c_api_Addr x0).toArray] w (fun e w' => e = .returned (.bool r) ∧ Below w.heap.size w w') := by
  unfold addr_Right at hF
  refine calls_enter (l := [.agg (Cd.cs c_api_Addr x0).toArray]) Tryd.func36 rfl rfl rfl ?_
  refine at_start ?_
  refine at_weak [(0, _)] ⟨rfl, trivial⟩ ?_
  refine at_seq ?_
  refine at_region ?_
  refine at_box (cs := Cd.cs c_api_Addr x0) rfl rfl rfl ?_
  intro b1
  refine at_val rfl rfl rfl (r_assign rfl) ?_
  refine at_nil ?_
  refine at_weak [(1, _)] ⟨rfl, trivial⟩ ?_
  refine at_then_normal ?_
  refine at_seq ?_
  refine at_draw (by kernel_rfl) (by kernel_rfl) (fun _ h => h.drew) ?_
  refine atq_val rfl rfl rfl (r_fieldAddr (fo := 0) Tryd.underlying24 rfl rfl (fun w => ⟨_, Tryd.sizeOf3 w⟩) rfl) ?_
  refine atq_val rfl rfl rfl (r_load_cell Tryd.isAgg3 rfl (lens_cell0 (c := (cInt .i64)) (y := x0.f_V) .z (Lens.comp (Lens.whole _ _) (fun z => { x0 with f_V := z }) (c_api_Addr_f_V x0)) rfl)) ?_
  refine atq_val rfl rfl rfl (r_ieql rfl rfl) ?_
  refine atq_val rfl rfl rfl (r_move rfl) ?_
  rcases of_ite hF with ⟨h2, hF⟩ | ⟨h2, hF⟩
  · refine atq_fix (g := 6) rfl h2 ?_
    refine atq_guard_no rfl rfl rfl rfl rfl ?_
    refine atq_guard_no rfl rfl rfl rfl rfl ?_
    refine atq_guard_no rfl rfl rfl rfl rfl ?_
    refine atq_guard_no rfl rfl rfl rfl rfl ?_
    refine atq_guard_undef rfl rfl rfl rfl ?_
    refine atq_guard_undef rfl rfl rfl rfl ?_
    refine atq_guard_undef rfl rfl rfl rfl ?_
    refine atq_guard_undef rfl rfl rfl rfl ?_
    refine atq_guard_undef rfl rfl rfl rfl ?_
    refine atq_guard_undef rfl rfl rfl rfl ?_
    refine atq_guard_undef rfl rfl rfl rfl ?_
    refine atq_guard_no rfl rfl rfl rfl rfl ?_
    refine atq_val rfl rfl rfl (r_pick rfl rfl rfl) ?_
    refine atq_val rfl rfl rfl (r_assign rfl) ?_
    refine atq_nil ?_
    refine at_drop (H := _) .z ?_
    refine at_weak [(2, _)] ⟨rfl, trivial⟩ ?_
    refine at_then_normal ?_
    refine at_ret ?_
    have K := of_some hF
    subst K
    exact at_return1 rfl rfl (fun w1 hw => ⟨rfl, hw.below⟩)
  · refine atq_fix (g := 6) rfl h2 ?_
    refine atq_guard_yes rfl rfl rfl ?_
    refine atq_val rfl rfl rfl (r_fieldAddr (fo := 0) Tryd.underlying24 rfl rfl (fun w => ⟨_, Tryd.sizeOf3 w⟩) rfl) ?_
    refine atq_guard_yes rfl rfl rfl ?_
    refine atq_val rfl rfl rfl (r_load_cell Tryd.isAgg3 rfl (lens_cell0 (c := (cInt .i64)) (y := x0.f_V) .z (Lens.comp (Lens.whole _ _) (fun z => { x0 with f_V := z }) (c_api_Addr_f_V x0)) rfl)) ?_
    refine atq_guard_yes rfl rfl rfl ?_
    refine atq_val rfl rfl rfl (r_ieql rfl rfl) ?_
    refine atq_guard_yes rfl rfl rfl ?_
    refine atq_val rfl rfl rfl (r_move rfl) ?_
    rcases of_ite hF with ⟨h3, hF⟩ | ⟨h3, hF⟩
    · refine atq_fix (g := 10) rfl h3 ?_
      refine atq_guard_yes rfl rfl rfl ?_
      refine atq_val rfl rfl rfl (r_load_aggc (c := c_api_Addr) (z := x0) Tryd.isAgg24 Tryd.sizeOf24 rfl (lens_cell .z (Lens.whole _ _))) ?_
      refine atq_guard_yes rfl rfl rfl ?_
      refine atq_val rfl rfl rfl (r_fieldAddr (fo := 1) Tryd.underlying24 rfl rfl (fun w => ⟨_, Tryd.sizeOf22 w⟩) rfl) ?_
      refine atq_guard_yes rfl rfl rfl ?_
      refine atq_val rfl rfl rfl (r_view (c := (cInt .u8)) (v := x0.f_B) (l := 0) (h := 4) Tryd.underlying22 Tryd.sizeOf5 rfl rfl ⟨_, rfl⟩ (by decide)) ?_
      refine atq_guard_yes rfl rfl rfl ?_
      obtain ⟨h4, hF⟩ := of_guard hF
      refine atq_val rfl rfl rfl (r_arrptr Tryd.underlying47 rfl h4) ?_
      refine atq_guard_yes rfl rfl rfl ?_
      obtain ⟨b5, o6, hp7⟩ : ∃ b o, rsp (some ⟨b1, 0 + 1, none⟩) 16 0 (Cd.sz (cInt .u8)) = some ⟨b, o, none⟩ := rsp_plain
      refine atq_val rfl rfl rfl (r_load_aggc (c := (cVec (cInt .u8) 4 (by decide))) (z := lvec 4 (lsub (Vector.toList x0.f_B) 0 4)) Tryd.isAgg47 Tryd.sizeOf47 (by rw [← hp7]; rfl) (fun w1 hw => row_lvec (Row.sub (lens_row .z (Lens.comp (Lens.whole _ _) (fun z => { x0 with f_B := z }) (c_api_Addr_f_B x0)) hw) (vbnd (by decide))) h4 hp7)) ?_
      refine atq_guard_yes rfl rfl rfl ?_
      obtain ⟨t8, ht8, hF⟩ := of_bindM hF
      refine atq_call Tryd.func41 rfl (by kernel_rfl) rfl rfl (fun w hw => (addr_Four_ok _ _ ht8 w).mono fun _ _ h => ⟨h.1, hw.call h.2⟩) ?_
      refine atq_guard_yes rfl rfl rfl ?_
      refine atq_val rfl rfl rfl (r_eqagg (c := c_api_Addr) (a := x0) (b := t8) (eq_api_Addr_24) rfl Tryd.eqGuardType24 rfl rfl (.inl rfl) rfl) ?_
      refine atq_guard_yes rfl rfl rfl ?_
      refine atq_val rfl rfl rfl (r_pick rfl rfl rfl) ?_
      refine atq_val rfl rfl rfl (r_pick rfl rfl rfl) ?_
      refine atq_val rfl rfl rfl (r_assign rfl) ?_
      refine atq_nil ?_
      refine at_drop (H := _) .z ?_
      refine at_weak [(2, _)] ⟨rfl, trivial⟩ ?_
      refine at_then_normal ?_
      refine at_ret ?_
      have K := of_some hF
      subst K
      exact at_return1 rfl rfl (fun w1 hw => ⟨rfl, hw.below⟩)
    · refine atq_fix (g := 10) rfl h3 ?_
      refine atq_guard_no rfl rfl rfl rfl rfl ?_
      refine atq_guard_no rfl rfl rfl rfl rfl ?_
      refine atq_guard_no rfl rfl rfl rfl rfl ?_
      refine atq_guard_no rfl rfl rfl rfl rfl ?_
      refine atq_guard_no rfl rfl rfl rfl rfl ?_
      refine atq_guard_no rfl rfl rfl rfl rfl ?_
      refine atq_guard_no rfl rfl rfl rfl rfl ?_
      refine atq_guard_yes rfl rfl rfl ?_
      refine atq_val rfl rfl rfl (r_pick rfl rfl rfl) ?_
      refine atq_val rfl rfl rfl (r_pick rfl rfl rfl) ?_
      refine atq_val rfl rfl rfl (r_assign rfl) ?_
      refine atq_nil ?_
      refine at_drop (H := _) .z ?_
      refine at_weak [(2, _)] ⟨rfl, trivial⟩ ?_
      refine at_then_normal ?_
      refine at_ret ?_
      have K := of_some hF
      subst K
      exact at_return1 rfl rfl (fun w1 hw => ⟨rfl, hw.below⟩)

def addr_Width (x0 : S_api_Addr) : Option (Int) :=
  addr_Right x0 >>= fun t2 => if (!t2) = true then (some 0) else (if (x0.f_V == 4) = true then (some 32) else (some 128))
theorem addr_Width_ok (x0 : S_api_Addr) (r : Int) (hF : addr_Width x0 = some r) (w : World) :
    Calls Tryd.prog 40 #[.agg (Cd.cs c_api_Addr x0).toArray] w (fun e w' => e = .returned (.int .i64 r) ∧ Below w.heap.size w w') := by
  unfold addr_Width at hF
  refine calls_enter (l := [.agg (Cd.cs c_api_Addr x0).toArray]) Tryd.func40 rfl rfl rfl ?_
  refine at_start ?_
  refine at_weak [(0, _)] ⟨rfl, trivial⟩ ?_
  refine at_seq ?_
  refine at_region ?_
  refine at_box (cs := Cd.cs c_api_Addr x0) rfl rfl rfl ?_
  intro b1
  refine at_val rfl rfl rfl (r_assign rfl) ?_
  refine at_nil ?_
  refine at_weak [(1, _)] ⟨rfl, trivial⟩ ?_
  refine at_then_normal ?_
  refine at_seq ?_
  refine at_block ?_
  refine at_seq ?_
  refine at_region ?_
  refine at_val rfl rfl rfl (r_load_aggc (c := c_api_Addr) (z := x0) Tryd.isAgg24 Tryd.sizeOf24 rfl (lens_cell .z (Lens.whole _ _))) ?_
  obtain ⟨t2, ht2, hF⟩ := of_bindM hF
  refine at_callB Tryd.func36 rfl (by kernel_rfl) rfl rfl (fun w hw => addr_Right_ok _ _ ht2 w) ?_
  refine at_val rfl rfl rfl (r_not rfl) ?_
  refine at_val rfl rfl rfl (r_assign rfl) ?_
  refine at_nil ?_
  refine at_weak [(1, _), (3, _)] ⟨rfl, rfl, trivial⟩ ?_
  refine at_then_normal ?_
  rcases of_ite hF with ⟨h3, hF⟩ | ⟨h3, hF⟩
  · refine at_cond_true rfl h3 ?_
    refine at_seq ?_
    refine at_region ?_
    refine at_val rfl rfl rfl (r_assign rfl) ?_
    refine at_nil ?_
    refine at_drop (H := _) .z ?_
    refine at_weak [(2, _)] ⟨rfl, trivial⟩ ?_
    refine at_then_normal ?_
    refine at_ret ?_
    refine at_blk_ret (at_then_ret ?_)
    have K := of_some hF
    subst K
    exact at_return1 rfl rfl (fun w1 hw => ⟨rfl, hw.below⟩)
  · refine at_cond_false rfl h3 ?_
    refine at_seq ?_
    refine at_region ?_
    refine at_val rfl rfl rfl (r_fieldAddr (fo := 0) Tryd.underlying24 rfl rfl (fun w => ⟨_, Tryd.sizeOf3 w⟩) rfl) ?_
    refine at_val rfl rfl rfl (r_load_cell Tryd.isAgg3 rfl (lens_cell0 (c := (cInt .i64)) (y := x0.f_V) .z (Lens.comp (Lens.whole _ _) (fun z => { x0 with f_V := z }) (c_api_Addr_f_V x0)) rfl)) ?_
    refine at_val rfl rfl rfl (r_ieql rfl rfl) ?_
    refine at_val rfl rfl rfl (r_assign rfl) ?_
    refine at_nil ?_
    refine at_drop (H := _) .z ?_
    refine at_weak [(7, _)] ⟨rfl, trivial⟩ ?_
    refine at_then_normal ?_
    rcases of_ite hF with ⟨h4, hF⟩ | ⟨h4, hF⟩
    · refine at_cond_true rfl h4 ?_
      refine at_seq ?_
      refine at_region ?_
      refine at_val rfl rfl rfl (r_assign rfl) ?_
      refine at_nil ?_
      refine at_weak [(2, _)] ⟨rfl, trivial⟩ ?_
      refine at_then_normal ?_
      refine at_ret ?_
      refine at_blk_ret (at_then_ret ?_)
      have K := of_some hF
      subst K
      exact at_return1 rfl rfl (fun w1 hw => ⟨rfl, hw.below⟩)
    · refine at_cond_false rfl h4 ?_
      refine at_skip ?_
      refine at_blk_normal (at_then_normal ?_)
      refine at_seq ?_
      refine at_region ?_
      refine at_val rfl rfl rfl (r_assign rfl) ?_
      refine at_nil ?_
      refine at_weak [(2, _)] ⟨rfl, trivial⟩ ?_
      refine at_then_normal ?_
      refine at_ret ?_
      have K := of_some hF
      subst K
      exact at_return1 rfl rfl (fun w1 hw => ⟨rfl, hw.below⟩)

def addr_Mask.l0 (x1 : Int) (i6 : Int) (i7 : S_api_Addr) : Option (S_api_Addr) :=
  if (decide (i6 < 16)) = true then (if (decide (x1 < 0)) = true then (if (0 : Int) ≤ i6 ∧ i6 < 16 then if (0 : Int) ≤ wr .u64 (wr .i64 (8 - 0)) then if (0 : Int) ≤ i6 ∧ i6 < 16 then addr_Mask.l0 x1 (wr .i64 (i6 + 1)) ({ i7 with f_B := vset i7.f_B i6 (iand .u8 (vget i7.f_B i6) (ishl .u8 255 (wr .u64 (wr .i64 (8 - 0))))) }) else none else none else none) else (if (0 : Int) ≤ i6 ∧ i6 < 16 then if (0 : Int) ≤ wr .u64 (wr .i64 (8 - (if 8 < (if wr .i64 (x1 - (wr .i64 (8 * i6))) < 0 then 0 else wr .i64 (x1 - (wr .i64 (8 * i6)))) then 8 else (if wr .i64 (x1 - (wr .i64 (8 * i6))) < 0 then 0 else wr .i64 (x1 - (wr .i64 (8 * i6))))))) then if (0 : Int) ≤ i6 ∧ i6 < 16 then addr_Mask.l0 x1 (wr .i64 (i6 + 1)) ({ i7 with f_B := vset i7.f_B i6 (iand .u8 (vget i7.f_B i6) (ishl .u8 255 (wr .u64 (wr .i64 (8 - (if 8 < (if wr .i64 (x1 - (wr .i64 (8 * i6))) < 0 then 0 else wr .i64 (x1 - (wr .i64 (8 * i6)))) then 8 else (if wr .i64 (x1 - (wr .i64 (8 * i6))) < 0 then 0 else wr .i64 (x1 - (wr .i64 (8 * i6)))))))))) }) else none else none else none)) else (some i7)
  partial_fixpoint
def addr_Mask (x0 : S_api_Addr) (x1 : Int) : Option (S_api_Addr) :=
  addr_Right x0 >>= fun t3 => if (!t3) = true then (some ({ f_V := (0 : Int), f_B := (Vector.replicate 16 (0 : Int) : (Vector Int 16)) } : S_api_Addr)) else (addr_Mask.l0 x1 0 x0 >>= fun q5 => some q5)
theorem addr_Mask_ok (x0 : S_api_Addr) (x1 : Int) (r : S_api_Addr) (hF : addr_Mask x0 x1 = some r) (w : World) :
    Calls Tryd.prog 15 #[.agg (Cd.cs c_api_Addr x0).toArray, .int .i64 x1] w (fun e w' => e = .returned (.agg (Cd.cs c_api_Addr r).toArray) ∧ Below w.heap.size w w') := by
  unfold addr_Mask at hF
  refine calls_enter (l := [.agg (Cd.cs c_api_Addr x0).toArray, .int .i64 x1]) Tryd.func15 rfl rfl rfl ?_
  refine at_start ?_
  refine at_weak [(0, _), (1, _)] ⟨rfl, rfl, trivial⟩ ?_
  refine at_seq ?_
  refine at_region ?_
  refine at_box (cs := Cd.cs c_api_Addr x0) rfl rfl rfl ?_
  intro b1
  refine at_alloc (cs := Cd.cs c_api_Addr ({ f_V := (0 : Int), f_B := (Vector.replicate 16 (0 : Int) : (Vector Int 16)) } : S_api_Addr)) Tryd.zeroValue24 rfl rfl ?_
  intro b2
  refine at_nil ?_
  refine at_weak [(1, _), (2, _), (4, _)] ⟨rfl, rfl, rfl, trivial⟩ ?_
  refine at_then_normal ?_
  refine at_seq ?_
  refine at_seq ?_
  refine at_region ?_
  refine at_val rfl rfl rfl (r_load_aggc (c := c_api_Addr) (z := x0) Tryd.isAgg24 Tryd.sizeOf24 rfl (lens_cell (.s .z) (Lens.whole _ _))) ?_
  obtain ⟨t3, ht3, hF⟩ := of_bindM hF
  refine at_callB Tryd.func36 rfl (by kernel_rfl) rfl rfl (fun w hw => addr_Right_ok _ _ ht3 w) ?_
  refine at_val rfl rfl rfl (r_not rfl) ?_
  refine at_nil ?_
  refine at_weak [(1, _), (2, _), (4, _), (9, _)] ⟨rfl, rfl, rfl, rfl, trivial⟩ ?_
  refine at_then_normal ?_
  rcases of_ite hF with ⟨h4, hF⟩ | ⟨h4, hF⟩
  · refine at_cond_true rfl h4 ?_
    refine at_seq ?_
    refine at_region ?_
    refine at_val rfl rfl rfl (r_build_struct (zs := Cd.cs c_api_Addr ({ f_V := (0 : Int), f_B := (Vector.replicate 16 (0 : Int) : (Vector Int 16)) } : S_api_Addr)) (cs := Cd.cs c_api_Addr ({ f_V := (0 : Int), f_B := (Vector.replicate 16 (0 : Int) : (Vector Int 16)) } : S_api_Addr)) Tryd.underlying24 Tryd.zeroValue24 rfl (places_api_Addr_24) rfl rfl) ?_
    refine at_store (c := c_api_Addr) (z := ({ f_V := (0 : Int), f_B := (Vector.replicate 16 (0 : Int) : (Vector Int 16)) } : S_api_Addr)) .z (Lens.whole _ _) Tryd.sizeOf24 rfl rfl rfl ?_
    refine at_nil ?_
    refine at_drop (H := _) (.s .z) ?_
    refine at_weak [(4, _)] ⟨rfl, trivial⟩ ?_
    refine at_then_normal ?_
    refine at_ret ?_
    refine at_then_ret ?_
    have K := of_some hF
    subst K
    exact at_res1 rfl (res_cell (c := c_api_Addr) (y := ({ f_V := (0 : Int), f_B := (Vector.replicate 16 (0 : Int) : (Vector Int 16)) } : S_api_Addr)) rfl .z (Lens.whole _ _) Tryd.isAgg24 Tryd.sizeOf24 (.inl rfl)) (fun w1 hw => ⟨rfl, hw.below⟩)
  · refine at_cond_false rfl h4 ?_
    refine at_skip ?_
    refine at_then_normal ?_
    refine at_seq ?_
    refine at_seq ?_
    refine at_region ?_
    refine at_val rfl rfl rfl (r_move rfl) ?_
    refine at_nil ?_
    refine at_weak [(1, _), (2, _), (4, _), (11, _)] ⟨rfl, rfl, rfl, rfl, trivial⟩ ?_
    refine at_then_normal ?_
    refine at_block ?_
    obtain ⟨q5, hq5, hF⟩ := of_bindM hF
    refine at_weak [(1, _), (2, _), (4, _), (11, _)] ⟨rfl, rfl, rfl, rfl, trivial⟩ ?_
    refine at_loop_n (B := 0) (A := fun Y => At 35 [(2, .pointer (some ⟨b1, 0, none⟩)), (4, .pointer (some ⟨b2, 0, none⟩))] (Wd w [cellsE b2 (Cd.cs c_api_Addr ({ f_V := (0 : Int), f_B := (Vector.replicate 16 (0 : Int) : (Vector Int 16)) } : S_api_Addr)) 24, cellsE b1 (Cd.cs c_api_Addr q5) 24]) Y) ?_ ?_
    · intro K
      refine addr_Mask.l0.partial_correctness x1 (motive := fun i6 i7 x => KN (fun Y => At 35 [(2, .pointer (some ⟨b1, 0, none⟩)), (4, .pointer (some ⟨b2, 0, none⟩))] (Wd w [cellsE b2 (Cd.cs c_api_Addr ({ f_V := (0 : Int), f_B := (Vector.replicate 16 (0 : Int) : (Vector Int 16)) } : S_api_Addr)) 24, cellsE b1 (Cd.cs c_api_Addr x) 24]) Y) _ 0 → Round (fun Y => At 35 [(1, .int .i64 x1), (2, .pointer (some ⟨b1, 0, none⟩)), (4, .pointer (some ⟨b2, 0, none⟩)), (11, .int .i64 i6)] (Wd w [cellsE b2 (Cd.cs c_api_Addr ({ f_V := (0 : Int), f_B := (Vector.replicate 16 (0 : Int) : (Vector Int 16)) } : S_api_Addr)) 24, cellsE b1 (Cd.cs c_api_Addr i7) 24]) Y) _ _ _) ?_ _ _ _ hq5 K
      · clear K hF
        intro g ih i6 i7 x hF K
        refine at_round ?_
        refine at_seq ?_
        refine at_region ?_
        refine at_val rfl rfl rfl (r_ilss rfl rfl) ?_
        refine at_nil ?_
        refine at_weak [(1, _), (2, _), (4, _), (11, _), (12, _)] ⟨rfl, rfl, rfl, rfl, rfl, trivial⟩ ?_
        refine at_then_normal ?_
        refine at_seq ?_
        rcases of_ite hF with ⟨h8, hF⟩ | ⟨h8, hF⟩
        · refine at_cond_true rfl h8 ?_
          refine at_skip ?_
          refine at_then_normal ?_
          refine at_seq ?_
          refine at_block ?_
          refine at_seq ?_
          refine at_region ?_
          refine at_val rfl rfl rfl (r_move rfl) ?_
          refine at_val rfl rfl rfl (r_assign rfl) ?_
          refine at_nil ?_
          refine at_weak [(1, _), (2, _), (4, _), (5, _), (11, _)] ⟨rfl, rfl, rfl, rfl, rfl, trivial⟩ ?_
          refine at_then_normal ?_
          refine at_seq ?_
          refine at_region ?_
          refine at_val rfl rfl rfl (r_move rfl) ?_
          refine at_val rfl rfl rfl (r_move rfl) ?_
          refine at_val rfl rfl rfl (r_imul rfl rfl) ?_
          refine at_val rfl rfl rfl (r_isub rfl rfl) ?_
          refine at_val rfl rfl rfl (r_max rfl rfl) ?_
          refine at_val rfl rfl rfl (r_min rfl rfl) ?_
          refine at_val rfl rfl rfl (r_assign rfl) ?_
          refine at_nil ?_
          refine at_weak [(1, _), (2, _), (4, _), (5, _), (6, _), (11, _)] ⟨rfl, rfl, rfl, rfl, rfl, rfl, trivial⟩ ?_
          refine at_then_normal ?_
          refine at_seq ?_
          refine at_seq ?_
          refine at_region ?_
          refine at_val rfl rfl rfl (r_move rfl) ?_
          refine at_val rfl rfl rfl (r_ilss rfl rfl) ?_
          refine at_nil ?_
          refine at_weak [(1, _), (2, _), (4, _), (5, _), (6, _), (11, _), (21, _)] ⟨rfl, rfl, rfl, rfl, rfl, rfl, rfl, trivial⟩ ?_
          refine at_then_normal ?_
          rcases of_ite hF with ⟨h9, hF⟩ | ⟨h9, hF⟩
          · refine at_cond_true rfl h9 ?_
            refine at_region ?_
            refine at_val rfl rfl rfl (r_assign rfl) ?_
            refine at_nil ?_
            refine at_weak [(1, _), (2, _), (4, _), (5, _), (6, _), (11, _)] ⟨rfl, rfl, rfl, rfl, rfl, rfl, trivial⟩ ?_
            refine at_then_normal ?_
            refine at_region ?_
            refine at_val rfl rfl rfl (r_move rfl) ?_
            refine at_val rfl rfl rfl (r_fieldAddr (fo := 1) Tryd.underlying24 rfl rfl (fun w => ⟨_, Tryd.sizeOf22 w⟩) rfl) ?_
            obtain ⟨h10, hF⟩ := of_guard hF
            refine at_val rfl rfl rfl (r_idxArr Tryd.underlying22 Tryd.sizeOf5 rfl rfl h10) ?_
            refine at_val rfl rfl rfl (r_load_cell Tryd.isAgg5 rfl (lens_cell0 (c := (cInt .u8)) (y := vget i7.f_B i6) (.s .z) (Lens.comp (Lens.comp (Lens.whole _ _) (fun z => { i7 with f_B := z }) (c_api_Addr_f_B i7)) (fun z => vset i7.f_B i6 z) (Lens.vec (cInt .u8) (by decide) i7.f_B i6 h10)) rfl)) ?_
            refine at_val rfl rfl rfl (r_move rfl) ?_
            refine at_val rfl rfl rfl (r_isub rfl rfl) ?_
            refine at_val rfl rfl rfl (r_conv Tryd.underlying3 Tryd.underlying69 rfl) ?_
            obtain ⟨h11, hF⟩ := of_guard hF
            refine at_val rfl rfl rfl (r_ishl rfl rfl h11) ?_
            refine at_val rfl rfl rfl (r_iand rfl rfl) ?_
            refine at_val rfl rfl rfl (r_fieldAddr (fo := 1) Tryd.underlying24 rfl rfl (fun w => ⟨_, Tryd.sizeOf22 w⟩) rfl) ?_
            obtain ⟨h12, hF⟩ := of_guard hF
            refine at_val rfl rfl rfl (r_idxArr Tryd.underlying22 Tryd.sizeOf5 rfl rfl h12) ?_
            refine at_store (c := (cInt .u8)) (z := iand .u8 (vget i7.f_B i6) (ishl .u8 255 (wr .u64 (wr .i64 (8 - 0))))) (.s .z) (Lens.comp (Lens.comp (Lens.whole _ _) (fun z => { i7 with f_B := z }) (c_api_Addr_f_B i7)) (fun z => vset i7.f_B i6 z) (Lens.vec (cInt .u8) (by decide) i7.f_B i6 h12)) Tryd.sizeOf5 rfl rfl rfl ?_
            refine at_nil ?_
            refine at_weak [(1, _), (2, _), (4, _), (11, _)] ⟨rfl, rfl, rfl, rfl, trivial⟩ ?_
            refine at_blk_normal (at_then_normal ?_)
            refine at_region ?_
            refine at_val rfl rfl rfl (r_iadd rfl rfl) ?_
            refine at_val rfl rfl rfl (r_move rfl) ?_
            refine at_nil ?_
            refine at_weak [(1, _), (2, _), (4, _), (11, _)] ⟨rfl, rfl, rfl, rfl, trivial⟩ ?_
            refine at_then_normal ?_
            exact at_weak_k (ih _ _ _ hF K) ⟨rfl, rfl, rfl, rfl, trivial⟩
          · refine at_cond_false rfl h9 ?_
            refine at_skip ?_
            refine at_then_normal ?_
            refine at_region ?_
            refine at_val rfl rfl rfl (r_move rfl) ?_
            refine at_val rfl rfl rfl (r_fieldAddr (fo := 1) Tryd.underlying24 rfl rfl (fun w => ⟨_, Tryd.sizeOf22 w⟩) rfl) ?_
            obtain ⟨h13, hF⟩ := of_guard hF
            refine at_val rfl rfl rfl (r_idxArr Tryd.underlying22 Tryd.sizeOf5 rfl rfl h13) ?_
            refine at_val rfl rfl rfl (r_load_cell Tryd.isAgg5 rfl (lens_cell0 (c := (cInt .u8)) (y := vget i7.f_B i6) (.s .z) (Lens.comp (Lens.comp (Lens.whole _ _) (fun z => { i7 with f_B := z }) (c_api_Addr_f_B i7)) (fun z => vset i7.f_B i6 z) (Lens.vec (cInt .u8) (by decide) i7.f_B i6 h13)) rfl)) ?_
            refine at_val rfl rfl rfl (r_move rfl) ?_
            refine at_val rfl rfl rfl (r_isub rfl rfl) ?_
            refine at_val rfl rfl rfl (r_conv Tryd.underlying3 Tryd.underlying69 rfl) ?_
            obtain ⟨h14, hF⟩ := of_guard hF
            refine at_val rfl rfl rfl (r_ishl rfl rfl h14) ?_
            refine at_val rfl rfl rfl (r_iand rfl rfl) ?_
            refine at_val rfl rfl rfl (r_fieldAddr (fo := 1) Tryd.underlying24 rfl rfl (fun w => ⟨_, Tryd.sizeOf22 w⟩) rfl) ?_
            obtain ⟨h15, hF⟩ := of_guard hF
            refine at_val rfl rfl rfl (r_idxArr Tryd.underlying22 Tryd.sizeOf5 rfl rfl h15) ?_
            refine at_store (c := (cInt .u8)) (z := iand .u8 (vget i7.f_B i6) (ishl .u8 255 (wr .u64 (wr .i64 (8 - (if 8 < (if wr .i64 (x1 - (wr .i64 (8 * i6))) < 0 then 0 else wr .i64 (x1 - (wr .i64 (8 * i6)))) then 8 else (if wr .i64 (x1 - (wr .i64 (8 * i6))) < 0 then 0 else wr .i64 (x1 - (wr .i64 (8 * i6)))))))))) (.s .z) (Lens.comp (Lens.comp (Lens.whole _ _) (fun z => { i7 with f_B := z }) (c_api_Addr_f_B i7)) (fun z => vset i7.f_B i6 z) (Lens.vec (cInt .u8) (by decide) i7.f_B i6 h15)) Tryd.sizeOf5 rfl rfl rfl ?_
            refine at_nil ?_
            refine at_weak [(1, _), (2, _), (4, _), (11, _)] ⟨rfl, rfl, rfl, rfl, trivial⟩ ?_
            refine at_blk_normal (at_then_normal ?_)
            refine at_region ?_
            refine at_val rfl rfl rfl (r_iadd rfl rfl) ?_
            refine at_val rfl rfl rfl (r_move rfl) ?_
            refine at_nil ?_
            refine at_weak [(1, _), (2, _), (4, _), (11, _)] ⟨rfl, rfl, rfl, rfl, trivial⟩ ?_
            refine at_then_normal ?_
            exact at_weak_k (ih _ _ _ hF K) ⟨rfl, rfl, rfl, rfl, trivial⟩
        · refine at_cond_false rfl h8 ?_
          refine at_exit ?_
          refine at_then_exit (at_then_exit ?_)
          obtain rfl := of_some hF
          exact at_weak_k K ⟨rfl, rfl, trivial⟩
    · skip
      skip
      refine at_blk_same ?_
      refine at_then_normal ?_
      refine at_seq ?_
      refine at_region ?_
      refine at_val rfl rfl rfl (r_load_aggc (c := c_api_Addr) (z := q5) Tryd.isAgg24 Tryd.sizeOf24 rfl (lens_cell (.s .z) (Lens.whole _ _))) ?_
      refine at_store (c := c_api_Addr) (z := q5) .z (Lens.whole _ _) Tryd.sizeOf24 rfl rfl rfl ?_
      refine at_nil ?_
      refine at_drop (H := _) (.s .z) ?_
      refine at_weak [(4, _)] ⟨rfl, trivial⟩ ?_
      refine at_then_normal ?_
      refine at_ret ?_
      have K := of_some hF
      subst K
      exact at_res1 rfl (res_cell (c := c_api_Addr) (y := q5) rfl .z (Lens.whole _ _) Tryd.isAgg24 Tryd.sizeOf24 (.inl rfl)) (fun w1 hw => ⟨rfl, hw.below⟩)

def addr_Bit (x0 : S_api_Addr) (x1 : Int) : Option (Int) :=
  if (decide (x1 < 0)) = true then (some (-1)) else (addr_Width x0 >>= fun t3 => if (decide (x1 ≥ t3)) = true then (some (-1)) else (if (0 : Int) ≤ ishr .i64 x1 3 ∧ ishr .i64 x1 3 < 16 then if (0 : Int) ≤ wr .u64 (wr .i64 (7 - (iand .i64 x1 7))) then some (iand .i64 (wr .i64 (ishr .u8 (vget x0.f_B (ishr .i64 x1 3)) (wr .u64 (wr .i64 (7 - (iand .i64 x1 7)))))) 1) else none else none))
theorem addr_Bit_ok (x0 : S_api_Addr) (x1 : Int) (r : Int) (hF : addr_Bit x0 x1 = some r) (w : World) :
    Calls Tryd.prog 16 #[.agg (Cd.cs c_api_Addr x0).toArray, .int .i64 x1] w (fun e w' => e = .returned (.int .i64 r) ∧ Below w.heap.size w w') := by
  unfold addr_Bit at hF
  refine calls_enter (l := [.agg (Cd.cs c_api_Addr x0).toArray, .int .i64 x1]) Tryd.func16 rfl rfl rfl ?_
  refine at_start ?_
  refine at_weak [(0, _), (1, _)] ⟨rfl, rfl, trivial⟩ ?_
  refine at_seq ?_
  refine at_region ?_
  refine at_box (cs := Cd.cs c_api_Addr x0) rfl rfl rfl ?_
  intro b1
  refine at_val rfl rfl rfl (r_assign rfl) ?_
  refine at_nil ?_
  refine at_weak [(1, _), (2, _)] ⟨rfl, rfl, trivial⟩ ?_
  refine at_then_normal ?_
  refine at_seq ?_
  refine at_seq ?_
  refine at_region ?_
  refine at_val rfl rfl rfl (r_move rfl) ?_
  refine at_val rfl rfl rfl (r_ilss rfl rfl) ?_
  refine at_val rfl rfl rfl (r_move rfl) ?_
  rcases of_ite hF with ⟨h2, hF⟩ | ⟨h2, hF⟩
  · refine at_fix (g := 7) rfl h2 ?_
    refine at_guard_no rfl rfl rfl rfl rfl ?_
    refine at_guard_no rfl rfl rfl rfl rfl ?_
    refine at_guard_no rfl rfl rfl rfl rfl ?_
    refine at_guard_no rfl rfl rfl rfl rfl ?_
    refine at_val rfl rfl rfl (r_pick rfl rfl rfl) ?_
    refine at_nil ?_
    refine at_weak [(1, _), (2, _), (12, _)] ⟨rfl, rfl, rfl, trivial⟩ ?_
    refine at_then_normal ?_
    refine at_cond_true rfl rfl ?_
    refine at_seq ?_
    refine at_region ?_
    refine at_val rfl rfl rfl (r_assign rfl) ?_
    refine at_nil ?_
    refine at_drop (H := _) .z ?_
    refine at_weak [(4, _)] ⟨rfl, trivial⟩ ?_
    refine at_then_normal ?_
    refine at_ret ?_
    refine at_then_ret ?_
    have K := of_some hF
    subst K
    exact at_return1 rfl rfl (fun w1 hw => ⟨rfl, hw.below⟩)
  · refine at_fix (g := 7) rfl h2 ?_
    refine at_guard_yes rfl rfl rfl ?_
    refine at_val rfl rfl rfl (r_move rfl) ?_
    refine at_guard_yes rfl rfl rfl ?_
    refine at_val rfl rfl rfl (r_load_aggc (c := c_api_Addr) (z := x0) Tryd.isAgg24 Tryd.sizeOf24 rfl (lens_cell .z (Lens.whole _ _))) ?_
    refine at_guard_yes rfl rfl rfl ?_
    obtain ⟨t3, ht3, hF⟩ := of_bindM hF
    refine at_callB Tryd.func40 rfl (by kernel_rfl) rfl rfl (fun w hw => addr_Width_ok _ _ ht3 w) ?_
    refine at_guard_yes rfl rfl rfl ?_
    refine at_val rfl rfl rfl (r_igeq rfl rfl) ?_
    refine at_val rfl rfl rfl (r_pick rfl rfl rfl) ?_
    refine at_nil ?_
    refine at_weak [(1, _), (2, _), (12, _)] ⟨rfl, rfl, rfl, trivial⟩ ?_
    refine at_then_normal ?_
    rcases of_ite hF with ⟨h4, hF⟩ | ⟨h4, hF⟩
    · refine at_cond_true rfl h4 ?_
      refine at_seq ?_
      refine at_region ?_
      refine at_val rfl rfl rfl (r_assign rfl) ?_
      refine at_nil ?_
      refine at_drop (H := _) .z ?_
      refine at_weak [(4, _)] ⟨rfl, trivial⟩ ?_
      refine at_then_normal ?_
      refine at_ret ?_
      refine at_then_ret ?_
      have K := of_some hF
      subst K
      exact at_return1 rfl rfl (fun w1 hw => ⟨rfl, hw.below⟩)
    · refine at_cond_false rfl h4 ?_
      refine at_skip ?_
      refine at_then_normal ?_
      refine at_seq ?_
      refine at_region ?_
      refine at_val rfl rfl rfl (r_move rfl) ?_
      refine at_val rfl rfl rfl (r_ishr rfl rfl (by decide)) ?_
      refine at_val rfl rfl rfl (r_fieldAddr (fo := 1) Tryd.underlying24 rfl rfl (fun w => ⟨_, Tryd.sizeOf22 w⟩) rfl) ?_
      obtain ⟨h5, hF⟩ := of_guard hF
      refine at_val rfl rfl rfl (r_idxArr Tryd.underlying22 Tryd.sizeOf5 rfl rfl h5) ?_
      refine at_val rfl rfl rfl (r_load_cell Tryd.isAgg5 rfl (lens_cell0 (c := (cInt .u8)) (y := vget x0.f_B (ishr .i64 x1 3)) .z (Lens.comp (Lens.comp (Lens.whole _ _) (fun z => { x0 with f_B := z }) (c_api_Addr_f_B x0)) (fun z => vset x0.f_B (ishr .i64 x1 3) z) (Lens.vec (cInt .u8) (by decide) x0.f_B (ishr .i64 x1 3) h5)) rfl)) ?_
      refine at_val rfl rfl rfl (r_move rfl) ?_
      refine at_val rfl rfl rfl (r_iand rfl rfl) ?_
      refine at_val rfl rfl rfl (r_isub rfl rfl) ?_
      refine at_val rfl rfl rfl (r_conv Tryd.underlying3 Tryd.underlying69 rfl) ?_
      obtain ⟨h6, hF⟩ := of_guard hF
      refine at_val rfl rfl rfl (r_ishr rfl rfl h6) ?_
      refine at_val rfl rfl rfl (r_conv Tryd.underlying5 Tryd.underlying3 rfl) ?_
      refine at_val rfl rfl rfl (r_iand rfl rfl) ?_
      refine at_val rfl rfl rfl (r_assign rfl) ?_
      refine at_nil ?_
      refine at_drop (H := _) .z ?_
      refine at_weak [(4, _)] ⟨rfl, trivial⟩ ?_
      refine at_then_normal ?_
      refine at_ret ?_
      have K := of_some hF
      subst K
      exact at_return1 rfl rfl (fun w1 hw => ⟨rfl, hw.below⟩)

def crawlwayref10_Right.l0 (x0 : S_api_Addr) (i4 : Int) : Option (Ctl (Bool) (Unit)) :=
  if (decide (i4 < 16)) = true then (if (0 : Int) ≤ i4 ∧ i4 < 16 then if (vget x0.f_B i4 != 0) = true then (some (.ret false)) else (crawlwayref10_Right.l0 x0 (wr .i64 (i4 + 1))) else none) else (some (.nx ()))
  partial_fixpoint
def crawlwayref10_Right (x0 : S_api_Addr) : Option (Bool) :=
  if (x0.f_V == 6) = true then (some true) else (crawlwayref10_Right.l0 x0 4 >>= fun q3 => match q3 with | .ret r' => some r' | .nx sq3 => (some (x0.f_V == 4)))
theorem crawlwayref10_Right_ok (x0 : S_api_Addr) (r : Bool) (hF : crawlwayref10_Right x0 = some r) (w : World) :
    Calls Tryd.prog 26 #[.agg (Cd.cs c_api_Addr x0).toArray] w (fun e w' => e = .returned (.bool r) ∧ Below w.heap.size w w') := by
  unfold crawlwayref10_Right at hF
  refine calls_enter (l := [.agg (Cd.cs c_api_Addr x0).toArray]) Tryd.func26 rfl rfl rfl ?_
  refine at_start ?_
  refine at_weak [(0, _)] ⟨rfl, trivial⟩ ?_
  refine at_seq ?_
  refine at_region ?_
  refine at_box (cs := Cd.cs c_api_Addr x0) rfl rfl rfl ?_
  intro b1
  refine at_val rfl rfl rfl (r_assign rfl) ?_
  refine at_nil ?_
  refine at_weak [(1, _)] ⟨rfl, trivial⟩ ?_
  refine at_then_normal ?_
  refine at_seq ?_
  refine at_seq ?_
  refine at_region ?_
  refine at_val rfl rfl rfl (r_fieldAddr (fo := 0) Tryd.underlying24 rfl rfl (fun w => ⟨_, Tryd.sizeOf3 w⟩) rfl) ?_
  refine at_val rfl rfl rfl (r_load_cell Tryd.isAgg3 rfl (lens_cell0 (c := (cInt .i64)) (y := x0.f_V) .z (Lens.comp (Lens.whole _ _) (fun z => { x0 with f_V := z }) (c_api_Addr_f_V x0)) rfl)) ?_
  refine at_val rfl rfl rfl (r_ieql rfl rfl) ?_
  refine at_nil ?_
  refine at_weak [(1, _), (6, _)] ⟨rfl, rfl, trivial⟩ ?_
  refine at_then_normal ?_
  rcases of_ite hF with ⟨h2, hF⟩ | ⟨h2, hF⟩
  · refine at_cond_true rfl h2 ?_
    refine at_seq ?_
    refine at_region ?_
    refine at_val rfl rfl rfl (r_assign rfl) ?_
    refine at_nil ?_
    refine at_drop (H := _) .z ?_
    refine at_weak [(2, _)] ⟨rfl, trivial⟩ ?_
    refine at_then_normal ?_
    refine at_ret ?_
    refine at_then_ret ?_
    have K := of_some hF
    subst K
    exact at_return1 rfl rfl (fun w1 hw => ⟨rfl, hw.below⟩)
  · refine at_cond_false rfl h2 ?_
    refine at_skip ?_
    refine at_then_normal ?_
    refine at_seq ?_
    refine at_seq ?_
    refine at_region ?_
    refine at_val rfl rfl rfl (r_assign rfl) ?_
    refine at_nil ?_
    refine at_weak [(1, _), (3, _)] ⟨rfl, rfl, trivial⟩ ?_
    refine at_then_normal ?_
    refine at_block ?_
    obtain ⟨q3, hq3, hF⟩ := of_bindM hF
    refine at_weak [(1, _), (3, _)] ⟨rfl, rfl, trivial⟩ ?_
    refine at_loop_r (B := 0) (r := r) (q := q3) (A := fun (_ : Unit) Y => At 19 [(1, .pointer (some ⟨b1, 0, none⟩))] (Wd w [cellsE b1 (Cd.cs c_api_Addr x0) 24]) Y) ?_ ?_
    · intro K
      refine crawlwayref10_Right.l0.partial_correctness x0 (motive := fun i4 x => KR (fun (_ : Unit) Y => At 19 [(1, .pointer (some ⟨b1, 0, none⟩))] (Wd w [cellsE b1 (Cd.cs c_api_Addr x0) 24]) Y) _ 0 r x → Round (fun Y => At 19 [(1, .pointer (some ⟨b1, 0, none⟩)), (3, .int .i64 i4)] (Wd w [cellsE b1 (Cd.cs c_api_Addr x0) 24]) Y) _ _ _) ?_ _ _ hq3 K
      · clear K hF
        intro g ih i4 x hF K
        refine at_round ?_
        refine at_seq ?_
        refine at_seq ?_
        refine at_region ?_
        refine at_val rfl rfl rfl (r_move rfl) ?_
        refine at_val rfl rfl rfl (r_ilss rfl rfl) ?_
        refine at_nil ?_
        refine at_weak [(1, _), (3, _), (8, _)] ⟨rfl, rfl, rfl, trivial⟩ ?_
        refine at_then_normal ?_
        rcases of_ite hF with ⟨h5, hF⟩ | ⟨h5, hF⟩
        · refine at_cond_true rfl h5 ?_
          refine at_skip ?_
          refine at_then_normal ?_
          refine at_seq ?_
          refine at_block ?_
          refine at_seq ?_
          refine at_region ?_
          refine at_val rfl rfl rfl (r_move rfl) ?_
          refine at_val rfl rfl rfl (r_fieldAddr (fo := 1) Tryd.underlying24 rfl rfl (fun w => ⟨_, Tryd.sizeOf22 w⟩) rfl) ?_
          obtain ⟨h6, hF⟩ := of_guard hF
          refine at_val rfl rfl rfl (r_idxArr Tryd.underlying22 Tryd.sizeOf5 rfl rfl h6) ?_
          refine at_val rfl rfl rfl (r_load_cell Tryd.isAgg5 rfl (lens_cell0 (c := (cInt .u8)) (y := vget x0.f_B i4) .z (Lens.comp (Lens.comp (Lens.whole _ _) (fun z => { x0 with f_B := z }) (c_api_Addr_f_B x0)) (fun z => vset x0.f_B i4 z) (Lens.vec (cInt .u8) (by decide) x0.f_B i4 h6)) rfl)) ?_
          refine at_val rfl rfl rfl (r_ineq rfl rfl) ?_
          refine at_nil ?_
          refine at_weak [(1, _), (3, _), (15, _)] ⟨rfl, rfl, rfl, trivial⟩ ?_
          refine at_then_normal ?_
          rcases of_ite hF with ⟨h7, hF⟩ | ⟨h7, hF⟩
          · refine at_cond_true rfl h7 ?_
            refine at_seq ?_
            refine at_region ?_
            refine at_val rfl rfl rfl (r_assign rfl) ?_
            refine at_nil ?_
            refine at_drop (H := _) .z ?_
            refine at_weak [(2, _)] ⟨rfl, trivial⟩ ?_
            refine at_then_normal ?_
            refine at_ret ?_
            refine at_blk_ret (at_then_ret (at_then_ret (at_blk_ret (at_then_ret ?_))))
            obtain rfl := of_some hF
            subst K
            exact at_return1 rfl rfl (fun w1 hw => ⟨rfl, hw.below⟩)
          · refine at_cond_false rfl h7 ?_
            refine at_skip ?_
            refine at_blk_normal (at_then_normal ?_)
            refine at_region ?_
            refine at_val rfl rfl rfl (r_move rfl) ?_
            refine at_val rfl rfl rfl (r_iadd rfl rfl) ?_
            refine at_val rfl rfl rfl (r_assign rfl) ?_
            refine at_nil ?_
            refine at_weak [(1, _), (3, _)] ⟨rfl, rfl, trivial⟩ ?_
            refine at_then_normal ?_
            exact at_weak_k (ih _ _ hF K) ⟨rfl, rfl, trivial⟩
        · refine at_cond_false rfl h5 ?_
          refine at_exit ?_
          refine at_then_exit (at_then_exit ?_)
          obtain rfl := of_some hF
          exact at_weak_k K ⟨rfl, trivial⟩
    · cases q3 with
      | ret r' => exact of_some hF
      | nx sq3 =>
        skip
        refine at_blk_same ?_
        refine at_then_normal ?_
        refine at_seq ?_
        refine at_region ?_
        refine at_val rfl rfl rfl (r_fieldAddr (fo := 0) Tryd.underlying24 rfl rfl (fun w => ⟨_, Tryd.sizeOf3 w⟩) rfl) ?_
        refine at_val rfl rfl rfl (r_load_cell Tryd.isAgg3 rfl (lens_cell0 (c := (cInt .i64)) (y := x0.f_V) .z (Lens.comp (Lens.whole _ _) (fun z => { x0 with f_V := z }) (c_api_Addr_f_V x0)) rfl)) ?_
        refine at_val rfl rfl rfl (r_ieql rfl rfl) ?_
        refine at_val rfl rfl rfl (r_assign rfl) ?_
        refine at_nil ?_
        refine at_drop (H := _) .z ?_
        refine at_weak [(2, _)] ⟨rfl, trivial⟩ ?_
        refine at_then_normal ?_
        refine at_ret ?_
        have K := of_some hF
        subst K
        exact at_return1 rfl rfl (fun w1 hw => ⟨rfl, hw.below⟩)

def crawlwayref10_Width (x0 : S_api_Addr) : Option (Int) :=
  crawlwayref10_Right x0 >>= fun t2 => if (!t2) = true then (some 0) else (if (x0.f_V == 4) = true then (some 32) else (some 128))
theorem crawlwayref10_Width_ok (x0 : S_api_Addr) (r : Int) (hF : crawlwayref10_Width x0 = some r) (w : World) :
    Calls Tryd.prog 29 #[.agg (Cd.cs c_api_Addr x0).toArray] w (fun e w' => e = .returned (.int .i64 r) ∧ Below w.heap.size w w') := by
  unfold crawlwayref10_Width at hF
  refine calls_enter (l := [.agg (Cd.cs c_api_Addr x0).toArray]) Tryd.func29 rfl rfl rfl ?_
  refine at_start ?_
  refine at_weak [(0, _)] ⟨rfl, trivial⟩ ?_
  refine at_seq ?_
  refine at_region ?_
  refine at_box (cs := Cd.cs c_api_Addr x0) rfl rfl rfl ?_
  intro b1
  refine at_val rfl rfl rfl (r_assign rfl) ?_
  refine at_nil ?_
  refine at_weak [(1, _)] ⟨rfl, trivial⟩ ?_
  refine at_then_normal ?_
  refine at_seq ?_
  refine at_seq ?_
  refine at_region ?_
  refine at_val rfl rfl rfl (r_load_aggc (c := c_api_Addr) (z := x0) Tryd.isAgg24 Tryd.sizeOf24 rfl (lens_cell .z (Lens.whole _ _))) ?_
  obtain ⟨t2, ht2, hF⟩ := of_bindM hF
  refine at_callB Tryd.func26 rfl (by kernel_rfl) rfl rfl (fun w hw => crawlwayref10_Right_ok _ _ ht2 w) ?_
  refine at_val rfl rfl rfl (r_not rfl) ?_
  refine at_nil ?_
  refine at_weak [(1, _), (5, _)] ⟨rfl, rfl, trivial⟩ ?_
  refine at_then_normal ?_
  rcases of_ite hF with ⟨h3, hF⟩ | ⟨h3, hF⟩
  · refine at_cond_true rfl h3 ?_
    refine at_seq ?_
    refine at_region ?_
    refine at_val rfl rfl rfl (r_assign rfl) ?_
    refine at_nil ?_
    refine at_drop (H := _) .z ?_
    refine at_weak [(2, _)] ⟨rfl, trivial⟩ ?_
    refine at_then_normal ?_
    refine at_ret ?_
    refine at_then_ret ?_
    have K := of_some hF
    subst K
    exact at_return1 rfl rfl (fun w1 hw => ⟨rfl, hw.below⟩)
  · refine at_cond_false rfl h3 ?_
    refine at_skip ?_
    refine at_then_normal ?_
    refine at_seq ?_
    refine at_seq ?_
    refine at_region ?_
    refine at_val rfl rfl rfl (r_fieldAddr (fo := 0) Tryd.underlying24 rfl rfl (fun w => ⟨_, Tryd.sizeOf3 w⟩) rfl) ?_
    refine at_val rfl rfl rfl (r_load_cell Tryd.isAgg3 rfl (lens_cell0 (c := (cInt .i64)) (y := x0.f_V) .z (Lens.comp (Lens.whole _ _) (fun z => { x0 with f_V := z }) (c_api_Addr_f_V x0)) rfl)) ?_
    refine at_val rfl rfl rfl (r_ieql rfl rfl) ?_
    refine at_nil ?_
    refine at_drop (H := _) .z ?_
    refine at_weak [(8, _)] ⟨rfl, trivial⟩ ?_
    refine at_then_normal ?_
    rcases of_ite hF with ⟨h4, hF⟩ | ⟨h4, hF⟩
    · refine at_cond_true rfl h4 ?_
      refine at_seq ?_
      refine at_region ?_
      refine at_val rfl rfl rfl (r_assign rfl) ?_
      refine at_nil ?_
      refine at_weak [(2, _)] ⟨rfl, trivial⟩ ?_
      refine at_then_normal ?_
      refine at_ret ?_
      refine at_then_ret ?_
      have K := of_some hF
      subst K
      exact at_return1 rfl rfl (fun w1 hw => ⟨rfl, hw.below⟩)
    · refine at_cond_false rfl h4 ?_
      refine at_skip ?_
      refine at_then_normal ?_
      refine at_seq ?_
      refine at_region ?_
      refine at_val rfl rfl rfl (r_assign rfl) ?_
      refine at_nil ?_
      refine at_weak [(2, _)] ⟨rfl, trivial⟩ ?_
      refine at_then_normal ?_
      refine at_ret ?_
      have K := of_some hF
      subst K
      exact at_return1 rfl rfl (fun w1 hw => ⟨rfl, hw.below⟩)

def crawlwayref10_digit.l0 (x1 : Int) (i4 : Int) (i5 : Int) : Option (Int) :=
  if (decide (i5 > Int.tmod x1 8)) = true then (crawlwayref10_digit.l0 x1 (wr .i64 (Int.tdiv i4 2)) (wr .i64 (i5 - 1))) else (some i4)
  partial_fixpoint
def crawlwayref10_digit (x0 : S_api_Addr) (x1 : Int) : Option (Int) :=
  if (0 : Int) ≤ wr .i64 (Int.tdiv x1 8) ∧ wr .i64 (Int.tdiv x1 8) < 16 then crawlwayref10_digit.l0 x1 (wr .i64 (vget x0.f_B (wr .i64 (Int.tdiv x1 8)))) 7 >>= fun q3 => some (Int.tmod q3 2) else none
theorem crawlwayref10_digit_ok (x0 : S_api_Addr) (x1 : Int) (r : Int) (hF : crawlwayref10_digit x0 x1 = some r) (w : World) :
    Calls Tryd.prog 64 #[.agg (Cd.cs c_api_Addr x0).toArray, .int .i64 x1] w (fun e w' => e = .returned (.int .i64 r) ∧ Below w.heap.size w w') := by
  unfold crawlwayref10_digit at hF
  refine calls_enter (l := [.agg (Cd.cs c_api_Addr x0).toArray, .int .i64 x1]) Tryd.func64 rfl rfl rfl ?_
  refine at_start ?_
  refine at_weak [(0, _), (1, _)] ⟨rfl, rfl, trivial⟩ ?_
  refine at_seq ?_
  refine at_region ?_
  refine at_box (cs := Cd.cs c_api_Addr x0) rfl rfl rfl ?_
  intro b1
  refine at_val rfl rfl rfl (r_assign rfl) ?_
  refine at_nil ?_
  refine at_weak [(1, _), (2, _)] ⟨rfl, rfl, trivial⟩ ?_
  refine at_then_normal ?_
  refine at_seq ?_
  refine at_region ?_
  refine at_val rfl rfl rfl (r_move rfl) ?_
  refine at_val rfl rfl rfl (r_iquo rfl rfl (by decide)) ?_
  refine at_val rfl rfl rfl (r_fieldAddr (fo := 1) Tryd.underlying24 rfl rfl (fun w => ⟨_, Tryd.sizeOf22 w⟩) rfl) ?_
  obtain ⟨h2, hF⟩ := of_guard hF
  refine at_val rfl rfl rfl (r_idxArr Tryd.underlying22 Tryd.sizeOf5 rfl rfl h2) ?_
  refine at_val rfl rfl rfl (r_load_cell Tryd.isAgg5 rfl (lens_cell0 (c := (cInt .u8)) (y := vget x0.f_B (wr .i64 (Int.tdiv x1 8))) .z (Lens.comp (Lens.comp (Lens.whole _ _) (fun z => { x0 with f_B := z }) (c_api_Addr_f_B x0)) (fun z => vset x0.f_B (wr .i64 (Int.tdiv x1 8)) z) (Lens.vec (cInt .u8) (by decide) x0.f_B (wr .i64 (Int.tdiv x1 8)) h2)) rfl)) ?_
  refine at_val rfl rfl rfl (r_conv Tryd.underlying5 Tryd.underlying3 rfl) ?_
  refine at_val rfl rfl rfl (r_assign rfl) ?_
  refine at_nil ?_
  refine at_drop (H := _) .z ?_
  refine at_weak [(1, _), (5, _)] ⟨rfl, rfl, trivial⟩ ?_
  refine at_then_normal ?_
  refine at_seq ?_
  refine at_seq ?_
  refine at_region ?_
  refine at_val rfl rfl rfl (r_assign rfl) ?_
  refine at_nil ?_
  refine at_weak [(1, _), (5, _), (6, _)] ⟨rfl, rfl, rfl, trivial⟩ ?_
  refine at_then_normal ?_
  refine at_block ?_
  obtain ⟨q3, hq3, hF⟩ := of_bindM hF
  refine at_weak [(1, _), (5, _), (6, _)] ⟨rfl, rfl, rfl, trivial⟩ ?_
  refine at_loop_n (B := 0) (A := fun Y => At 23 [(5, .int .i64 q3)] (Wd w []) Y) ?_ ?_
  · intro K
    refine crawlwayref10_digit.l0.partial_correctness x1 (motive := fun i4 i5 x => KN (fun Y => At 23 [(5, .int .i64 x)] (Wd w []) Y) _ 0 → Round (fun Y => At 23 [(1, .int .i64 x1), (5, .int .i64 i4), (6, .int .i64 i5)] (Wd w []) Y) _ _ _) ?_ _ _ _ hq3 K
    · clear K hF
      intro g ih i4 i5 x hF K
      refine at_round ?_
      refine at_seq ?_
      refine at_seq ?_
      refine at_region ?_
      refine at_val rfl rfl rfl (r_move rfl) ?_
      refine at_val rfl rfl rfl (r_move rfl) ?_
      refine at_val rfl rfl rfl (r_irem rfl rfl (by decide)) ?_
      refine at_val rfl rfl rfl (r_igtr rfl rfl) ?_
      refine at_nil ?_
      refine at_weak [(1, _), (5, _), (6, _), (16, _)] ⟨rfl, rfl, rfl, rfl, trivial⟩ ?_
      refine at_then_normal ?_
      rcases of_ite hF with ⟨h6, hF⟩ | ⟨h6, hF⟩
      · refine at_cond_true rfl h6 ?_
        refine at_skip ?_
        refine at_then_normal ?_
        refine at_seq ?_
        refine at_block ?_
        refine at_region ?_
        refine at_val rfl rfl rfl (r_move rfl) ?_
        refine at_val rfl rfl rfl (r_iquo rfl rfl (by decide)) ?_
        refine at_val rfl rfl rfl (r_assign rfl) ?_
        refine at_nil ?_
        refine at_weak [(1, _), (5, _), (6, _)] ⟨rfl, rfl, rfl, trivial⟩ ?_
        refine at_blk_normal (at_then_normal ?_)
        refine at_region ?_
        refine at_val rfl rfl rfl (r_move rfl) ?_
        refine at_val rfl rfl rfl (r_isub rfl rfl) ?_
        refine at_val rfl rfl rfl (r_assign rfl) ?_
        refine at_nil ?_
        refine at_weak [(1, _), (5, _), (6, _)] ⟨rfl, rfl, rfl, trivial⟩ ?_
        refine at_then_normal ?_
        exact at_weak_k (ih _ _ _ hF K) ⟨rfl, rfl, rfl, trivial⟩
      · refine at_cond_false rfl h6 ?_
        refine at_exit ?_
        refine at_then_exit (at_then_exit ?_)
        obtain rfl := of_some hF
        exact at_weak_k K ⟨rfl, trivial⟩
  · skip
    skip
    refine at_blk_same ?_
    refine at_then_normal ?_
    refine at_seq ?_
    refine at_region ?_
    refine at_val rfl rfl rfl (r_move rfl) ?_
    refine at_val rfl rfl rfl (r_irem rfl rfl (by decide)) ?_
    refine at_val rfl rfl rfl (r_assign rfl) ?_
    refine at_nil ?_
    refine at_weak [(4, _)] ⟨rfl, trivial⟩ ?_
    refine at_then_normal ?_
    refine at_ret ?_
    have K := of_some hF
    subst K
    exact at_return1 rfl rfl (fun w1 hw => ⟨rfl, hw.below⟩)

def crawlwayref10_Bit (x0 : S_api_Addr) (x1 : Int) : Option (Int) :=
  if (decide (x1 < 0)) = true then (some (-1)) else (crawlwayref10_Width x0 >>= fun t3 => if (decide (x1 ≥ t3)) = true then (some (-1)) else (crawlwayref10_digit x0 x1 >>= fun t5 => some t5))
theorem crawlwayref10_Bit_ok (x0 : S_api_Addr) (x1 : Int) (r : Int) (hF : crawlwayref10_Bit x0 x1 = some r) (w : World) :
    Calls Tryd.prog 17 #[.agg (Cd.cs c_api_Addr x0).toArray, .int .i64 x1] w (fun e w' => e = .returned (.int .i64 r) ∧ Below w.heap.size w w') := by
  unfold crawlwayref10_Bit at hF
  refine calls_enter (l := [.agg (Cd.cs c_api_Addr x0).toArray, .int .i64 x1]) Tryd.func17 rfl rfl rfl ?_
  refine at_start ?_
  refine at_weak [(0, _), (1, _)] ⟨rfl, rfl, trivial⟩ ?_
  refine at_seq ?_
  refine at_region ?_
  refine at_box (cs := Cd.cs c_api_Addr x0) rfl rfl rfl ?_
  intro b1
  refine at_val rfl rfl rfl (r_assign rfl) ?_
  refine at_nil ?_
  refine at_weak [(1, _), (2, _)] ⟨rfl, rfl, trivial⟩ ?_
  refine at_then_normal ?_
  refine at_seq ?_
  refine at_seq ?_
  refine at_region ?_
  refine at_val rfl rfl rfl (r_move rfl) ?_
  refine at_val rfl rfl rfl (r_ilss rfl rfl) ?_
  refine at_val rfl rfl rfl (r_move rfl) ?_
  rcases of_ite hF with ⟨h2, hF⟩ | ⟨h2, hF⟩
  · refine at_fix (g := 7) rfl h2 ?_
    refine at_guard_no rfl rfl rfl rfl rfl ?_
    refine at_guard_no rfl rfl rfl rfl rfl ?_
    refine at_guard_no rfl rfl rfl rfl rfl ?_
    refine at_guard_no rfl rfl rfl rfl rfl ?_
    refine at_val rfl rfl rfl (r_pick rfl rfl rfl) ?_
    refine at_nil ?_
    refine at_weak [(1, _), (2, _), (12, _)] ⟨rfl, rfl, rfl, trivial⟩ ?_
    refine at_then_normal ?_
    refine at_cond_true rfl rfl ?_
    refine at_seq ?_
    refine at_region ?_
    refine at_val rfl rfl rfl (r_assign rfl) ?_
    refine at_nil ?_
    refine at_drop (H := _) .z ?_
    refine at_weak [(4, _)] ⟨rfl, trivial⟩ ?_
    refine at_then_normal ?_
    refine at_ret ?_
    refine at_then_ret ?_
    have K := of_some hF
    subst K
    exact at_return1 rfl rfl (fun w1 hw => ⟨rfl, hw.below⟩)
  · refine at_fix (g := 7) rfl h2 ?_
    refine at_guard_yes rfl rfl rfl ?_
    refine at_val rfl rfl rfl (r_move rfl) ?_
    refine at_guard_yes rfl rfl rfl ?_
    refine at_val rfl rfl rfl (r_load_aggc (c := c_api_Addr) (z := x0) Tryd.isAgg24 Tryd.sizeOf24 rfl (lens_cell .z (Lens.whole _ _))) ?_
    refine at_guard_yes rfl rfl rfl ?_
    obtain ⟨t3, ht3, hF⟩ := of_bindM hF
    refine at_callB Tryd.func29 rfl (by kernel_rfl) rfl rfl (fun w hw => crawlwayref10_Width_ok _ _ ht3 w) ?_
    refine at_guard_yes rfl rfl rfl ?_
    refine at_val rfl rfl rfl (r_igeq rfl rfl) ?_
    refine at_val rfl rfl rfl (r_pick rfl rfl rfl) ?_
    refine at_nil ?_
    refine at_weak [(1, _), (2, _), (12, _)] ⟨rfl, rfl, rfl, trivial⟩ ?_
    refine at_then_normal ?_
    rcases of_ite hF with ⟨h4, hF⟩ | ⟨h4, hF⟩
    · refine at_cond_true rfl h4 ?_
      refine at_seq ?_
      refine at_region ?_
      refine at_val rfl rfl rfl (r_assign rfl) ?_
      refine at_nil ?_
      refine at_drop (H := _) .z ?_
      refine at_weak [(4, _)] ⟨rfl, trivial⟩ ?_
      refine at_then_normal ?_
      refine at_ret ?_
      refine at_then_ret ?_
      have K := of_some hF
      subst K
      exact at_return1 rfl rfl (fun w1 hw => ⟨rfl, hw.below⟩)
    · refine at_cond_false rfl h4 ?_
      refine at_skip ?_
      refine at_then_normal ?_
      refine at_seq ?_
      refine at_region ?_
      refine at_val rfl rfl rfl (r_load_aggc (c := c_api_Addr) (z := x0) Tryd.isAgg24 Tryd.sizeOf24 rfl (lens_cell .z (Lens.whole _ _))) ?_
      refine at_val rfl rfl rfl (r_move rfl) ?_
      obtain ⟨t5, ht5, hF⟩ := of_bindM hF
      refine at_callB Tryd.func64 rfl (by kernel_rfl) rfl rfl (fun w hw => crawlwayref10_digit_ok _ _ _ ht5 w) ?_
      refine at_val rfl rfl rfl (r_assign rfl) ?_
      refine at_nil ?_
      refine at_drop (H := _) .z ?_
      refine at_weak [(4, _)] ⟨rfl, trivial⟩ ?_
      refine at_then_normal ?_
      refine at_ret ?_
      have K := of_some hF
      subst K
      exact at_return1 rfl rfl (fun w1 hw => ⟨rfl, hw.below⟩)

def crawlwayref10_Mask.l1 (i8 : Int) (i15 : Int) (i16 : Int) : Option (Int) :=
  if (decide (i16 < Int.tmod i8 8)) = true then (crawlwayref10_Mask.l1 i8 (wr .i64 (Int.tdiv i15 2)) (wr .i64 (i16 + 1))) else (some i15)
  partial_fixpoint
def crawlwayref10_Mask.l0 (x0 : S_api_Addr) (x1 : Int) (t6 : Int) (i8 : Int) (i9 : S_api_Addr) : Option (S_api_Addr) :=
  if (decide (i8 < t6)) = true then (if (decide (i8 < x1)) = true then (crawlwayref10_digit x0 i8 >>= fun t12 => if (t12 == 1) = true then (crawlwayref10_Mask.l1 i8 128 0 >>= fun q14 => if (0 : Int) ≤ wr .i64 (Int.tdiv i8 8) ∧ wr .i64 (Int.tdiv i8 8) < 16 then if (0 : Int) ≤ wr .i64 (Int.tdiv i8 8) ∧ wr .i64 (Int.tdiv i8 8) < 16 then crawlwayref10_Mask.l0 x0 x1 t6 (wr .i64 (i8 + 1)) ({ i9 with f_B := vset i9.f_B (wr .i64 (Int.tdiv i8 8)) (wr .u8 ((vget i9.f_B (wr .i64 (Int.tdiv i8 8))) + (wr .u8 q14))) }) else none else none) else (crawlwayref10_Mask.l0 x0 x1 t6 (wr .i64 (i8 + 1)) i9)) else (some i9)) else (some i9)
  partial_fixpoint
def crawlwayref10_Mask (x0 : S_api_Addr) (x1 : Int) : Option (S_api_Addr) :=
  crawlwayref10_Right x0 >>= fun t3 => if (!t3) = true then (some ({ f_V := (0 : Int), f_B := (Vector.replicate 16 (0 : Int) : (Vector Int 16)) } : S_api_Addr)) else (crawlwayref10_Width x0 >>= fun t6 => crawlwayref10_Mask.l0 x0 x1 t6 0 ({ ({ f_V := (0 : Int), f_B := (Vector.replicate 16 (0 : Int) : (Vector Int 16)) } : S_api_Addr) with f_V := x0.f_V }) >>= fun q7 => some q7)
theorem crawlwayref10_Mask_ok (x0 : S_api_Addr) (x1 : Int) (r : S_api_Addr) (hF : crawlwayref10_Mask x0 x1 = some r) (w : World) :
    Calls Tryd.prog 18 #[.agg (Cd.cs c_api_Addr x0).toArray, .int .i64 x1] w (fun e w' => e = .returned (.agg (Cd.cs c_api_Addr r).toArray) ∧ Below w.heap.size w w') := by
  unfold crawlwayref10_Mask at hF
  refine calls_enter (l := [.agg (Cd.cs c_api_Addr x0).toArray, .int .i64 x1]) Tryd.func18 rfl rfl rfl ?_
  refine at_start ?_
  refine at_weak [(0, _), (1, _)] ⟨rfl, rfl, trivial⟩ ?_
  refine at_seq ?_
  refine at_region ?_
  refine at_box (cs := Cd.cs c_api_Addr x0) rfl rfl rfl ?_
  intro b1
  refine at_alloc (cs := Cd.cs c_api_Addr ({ f_V := (0 : Int), f_B := (Vector.replicate 16 (0 : Int) : (Vector Int 16)) } : S_api_Addr)) Tryd.zeroValue24 rfl rfl ?_
  intro b2
  refine at_nil ?_
  refine at_weak [(1, _), (2, _), (4, _)] ⟨rfl, rfl, rfl, trivial⟩ ?_
  refine at_then_normal ?_
  refine at_seq ?_
  refine at_seq ?_
  refine at_region ?_
  refine at_val rfl rfl rfl (r_load_aggc (c := c_api_Addr) (z := x0) Tryd.isAgg24 Tryd.sizeOf24 rfl (lens_cell (.s .z) (Lens.whole _ _))) ?_
  obtain ⟨t3, ht3, hF⟩ := of_bindM hF
  refine at_callB Tryd.func26 rfl (by kernel_rfl) rfl rfl (fun w hw => crawlwayref10_Right_ok _ _ ht3 w) ?_
  refine at_val rfl rfl rfl (r_not rfl) ?_
  refine at_nil ?_
  refine at_weak [(1, _), (2, _), (4, _), (12, _)] ⟨rfl, rfl, rfl, rfl, trivial⟩ ?_
  refine at_then_normal ?_
  rcases of_ite hF with ⟨h4, hF⟩ | ⟨h4, hF⟩
  · refine at_cond_true rfl h4 ?_
    refine at_seq ?_
    refine at_region ?_
    refine at_val rfl rfl rfl (r_build_struct (zs := Cd.cs c_api_Addr ({ f_V := (0 : Int), f_B := (Vector.replicate 16 (0 : Int) : (Vector Int 16)) } : S_api_Addr)) (cs := Cd.cs c_api_Addr ({ f_V := (0 : Int), f_B := (Vector.replicate 16 (0 : Int) : (Vector Int 16)) } : S_api_Addr)) Tryd.underlying24 Tryd.zeroValue24 rfl (places_api_Addr_24) rfl rfl) ?_
    refine at_store (c := c_api_Addr) (z := ({ f_V := (0 : Int), f_B := (Vector.replicate 16 (0 : Int) : (Vector Int 16)) } : S_api_Addr)) .z (Lens.whole _ _) Tryd.sizeOf24 rfl rfl rfl ?_
    refine at_nil ?_
    refine at_drop (H := _) (.s .z) ?_
    refine at_weak [(4, _)] ⟨rfl, trivial⟩ ?_
    refine at_then_normal ?_
    refine at_ret ?_
    refine at_then_ret ?_
    have K := of_some hF
    subst K
    exact at_res1 rfl (res_cell (c := c_api_Addr) (y := ({ f_V := (0 : Int), f_B := (Vector.replicate 16 (0 : Int) : (Vector Int 16)) } : S_api_Addr)) rfl .z (Lens.whole _ _) Tryd.isAgg24 Tryd.sizeOf24 (.inl rfl)) (fun w1 hw => ⟨rfl, hw.below⟩)
  · refine at_cond_false rfl h4 ?_
    refine at_skip ?_
    refine at_then_normal ?_
    refine at_seq ?_
    refine at_region ?_
    refine at_val rfl rfl rfl (r_fieldAddr (fo := 0) Tryd.underlying24 rfl rfl (fun w => ⟨_, Tryd.sizeOf3 w⟩) rfl) ?_
    refine at_val rfl rfl rfl (r_load_cell Tryd.isAgg3 rfl (lens_cell0 (c := (cInt .i64)) (y := x0.f_V) (.s .z) (Lens.comp (Lens.whole _ _) (fun z => { x0 with f_V := z }) (c_api_Addr_f_V x0)) rfl)) ?_
    refine at_val rfl rfl rfl (r_build_struct (zs := Cd.cs c_api_Addr ({ f_V := (0 : Int), f_B := (Vector.replicate 16 (0 : Int) : (Vector Int 16)) } : S_api_Addr)) (cs := Cd.cs c_api_Addr ({ ({ f_V := (0 : Int), f_B := (Vector.replicate 16 (0 : Int) : (Vector Int 16)) } : S_api_Addr) with f_V := x0.f_V })) Tryd.underlying24 Tryd.zeroValue24 rfl (places_api_Addr_24) rfl (fill_step (c := (cInt .i64)) (z := x0.f_V) rfl (c_api_Addr_f_V ({ f_V := (0 : Int), f_B := (Vector.replicate 16 (0 : Int) : (Vector Int 16)) } : S_api_Addr)) rfl rfl)) ?_
    refine at_alloc (cs := Cd.cs c_api_Addr ({ f_V := (0 : Int), f_B := (Vector.replicate 16 (0 : Int) : (Vector Int 16)) } : S_api_Addr)) Tryd.zeroValue24 rfl rfl ?_
    intro b5
    refine at_store (c := c_api_Addr) (z := { ({ f_V := (0 : Int), f_B := (Vector.replicate 16 (0 : Int) : (Vector Int 16)) } : S_api_Addr) with f_V := x0.f_V }) .z (Lens.whole _ _) Tryd.sizeOf24 rfl rfl rfl ?_
    refine at_nil ?_
    refine at_weak [(1, _), (2, _), (4, _), (5, _)] ⟨rfl, rfl, rfl, rfl, trivial⟩ ?_
    refine at_then_normal ?_
    refine at_seq ?_
    refine at_region ?_
    refine at_val rfl rfl rfl (r_load_aggc (c := c_api_Addr) (z := x0) Tryd.isAgg24 Tryd.sizeOf24 rfl (lens_cell (.s (.s .z)) (Lens.whole _ _))) ?_
    obtain ⟨t6, ht6, hF⟩ := of_bindM hF
    refine at_callB Tryd.func29 rfl (by kernel_rfl) rfl rfl (fun w hw => crawlwayref10_Width_ok _ _ ht6 w) ?_
    refine at_val rfl rfl rfl (r_assign rfl) ?_
    refine at_nil ?_
    refine at_weak [(1, _), (2, _), (4, _), (5, _), (6, _)] ⟨rfl, rfl, rfl, rfl, rfl, trivial⟩ ?_
    refine at_then_normal ?_
    refine at_seq ?_
    refine at_seq ?_
    refine at_region ?_
    refine at_val rfl rfl rfl (r_assign rfl) ?_
    refine at_nil ?_
    refine at_weak [(1, _), (2, _), (4, _), (5, _), (6, _), (7, _)] ⟨rfl, rfl, rfl, rfl, rfl, rfl, trivial⟩ ?_
    refine at_then_normal ?_
    refine at_block ?_
    obtain ⟨q7, hq7, hF⟩ := of_bindM hF
    refine at_weak [(1, _), (2, _), (4, _), (5, _), (6, _), (7, _)] ⟨rfl, rfl, rfl, rfl, rfl, rfl, trivial⟩ ?_
    refine at_loop_n (B := 0) (A := fun Y => At 54 [(4, .pointer (some ⟨b2, 0, none⟩)), (5, .pointer (some ⟨b5, 0, none⟩))] (Wd w [cellsE b5 (Cd.cs c_api_Addr q7) 24, cellsE b2 (Cd.cs c_api_Addr ({ f_V := (0 : Int), f_B := (Vector.replicate 16 (0 : Int) : (Vector Int 16)) } : S_api_Addr)) 24]) Y) ?_ ?_
    · intro K
      refine crawlwayref10_Mask.l0.partial_correctness x0 x1 t6 (motive := fun i8 i9 x => KN (fun Y => At 54 [(4, .pointer (some ⟨b2, 0, none⟩)), (5, .pointer (some ⟨b5, 0, none⟩))] (Wd w [cellsE b5 (Cd.cs c_api_Addr x) 24, cellsE b2 (Cd.cs c_api_Addr ({ f_V := (0 : Int), f_B := (Vector.replicate 16 (0 : Int) : (Vector Int 16)) } : S_api_Addr)) 24]) Y) _ 0 → Round (fun Y => At 54 [(1, .int .i64 x1), (2, .pointer (some ⟨b1, 0, none⟩)), (4, .pointer (some ⟨b2, 0, none⟩)), (5, .pointer (some ⟨b5, 0, none⟩)), (6, .int .i64 t6), (7, .int .i64 i8)] (Wd w [cellsE b5 (Cd.cs c_api_Addr i9) 24, cellsE b2 (Cd.cs c_api_Addr ({ f_V := (0 : Int), f_B := (Vector.replicate 16 (0 : Int) : (Vector Int 16)) } : S_api_Addr)) 24, cellsE b1 (Cd.cs c_api_Addr x0) 24]) Y) _ _ _) ?_ _ _ _ hq7 K
      · clear K hF
        intro g ih i8 i9 x hF K
        refine at_round ?_
        refine at_seq ?_
        refine at_seq ?_
        refine at_region ?_
        refine at_val rfl rfl rfl (r_move rfl) ?_
        refine at_val rfl rfl rfl (r_move rfl) ?_
        refine at_val rfl rfl rfl (r_ilss rfl rfl) ?_
        refine at_val rfl rfl rfl (r_move rfl) ?_
        rcases of_ite hF with ⟨h10, hF⟩ | ⟨h10, hF⟩
        · refine at_fix (g := 22) rfl h10 ?_
          refine at_guard_yes rfl rfl rfl ?_
          refine at_val rfl rfl rfl (r_move rfl) ?_
          refine at_guard_yes rfl rfl rfl ?_
          refine at_val rfl rfl rfl (r_move rfl) ?_
          refine at_guard_yes rfl rfl rfl ?_
          refine at_val rfl rfl rfl (r_ilss rfl rfl) ?_
          refine at_val rfl rfl rfl (r_pick rfl rfl rfl) ?_
          refine at_nil ?_
          refine at_weak [(1, _), (2, _), (4, _), (5, _), (6, _), (7, _), (26, _)] ⟨rfl, rfl, rfl, rfl, rfl, rfl, rfl, trivial⟩ ?_
          refine at_then_normal ?_
          rcases of_ite hF with ⟨h11, hF⟩ | ⟨h11, hF⟩
          · refine at_cond_true rfl h11 ?_
            refine at_skip ?_
            refine at_then_normal ?_
            refine at_seq ?_
            refine at_block ?_
            refine at_seq ?_
            refine at_region ?_
            refine at_val rfl rfl rfl (r_load_aggc (c := c_api_Addr) (z := x0) Tryd.isAgg24 Tryd.sizeOf24 rfl (lens_cell (.s (.s .z)) (Lens.whole _ _))) ?_
            refine at_val rfl rfl rfl (r_move rfl) ?_
            obtain ⟨t12, ht12, hF⟩ := of_bindM hF
            refine at_callB Tryd.func64 rfl (by kernel_rfl) rfl rfl (fun w hw => crawlwayref10_digit_ok _ _ _ ht12 w) ?_
            refine at_val rfl rfl rfl (r_ieql rfl rfl) ?_
            refine at_nil ?_
            refine at_weak [(1, _), (2, _), (4, _), (5, _), (6, _), (7, _), (32, _)] ⟨rfl, rfl, rfl, rfl, rfl, rfl, rfl, trivial⟩ ?_
            refine at_then_normal ?_
            rcases of_ite hF with ⟨h13, hF⟩ | ⟨h13, hF⟩
            · refine at_cond_true rfl h13 ?_
              refine at_seq ?_
              refine at_region ?_
              refine at_val rfl rfl rfl (r_assign rfl) ?_
              refine at_nil ?_
              refine at_weak [(1, _), (2, _), (4, _), (5, _), (6, _), (7, _), (8, _)] ⟨rfl, rfl, rfl, rfl, rfl, rfl, rfl, trivial⟩ ?_
              refine at_then_normal ?_
              refine at_seq ?_
              refine at_seq ?_
              refine at_region ?_
              refine at_val rfl rfl rfl (r_assign rfl) ?_
              refine at_nil ?_
              refine at_weak [(1, _), (2, _), (4, _), (5, _), (6, _), (7, _), (8, _), (9, _)] ⟨rfl, rfl, rfl, rfl, rfl, rfl, rfl, rfl, trivial⟩ ?_
              refine at_then_normal ?_
              refine at_block ?_
              obtain ⟨q14, hq14, hF⟩ := of_bindM hF
              refine at_weak [(1, _), (2, _), (4, _), (5, _), (6, _), (7, _), (8, _), (9, _)] ⟨rfl, rfl, rfl, rfl, rfl, rfl, rfl, rfl, trivial⟩ ?_
              refine at_loop_n (B := 2) (A := fun Y => At 54 [(1, .int .i64 x1), (2, .pointer (some ⟨b1, 0, none⟩)), (4, .pointer (some ⟨b2, 0, none⟩)), (5, .pointer (some ⟨b5, 0, none⟩)), (6, .int .i64 t6), (7, .int .i64 i8), (8, .int .i64 q14)] (Wd w [cellsE b5 (Cd.cs c_api_Addr i9) 24, cellsE b2 (Cd.cs c_api_Addr ({ f_V := (0 : Int), f_B := (Vector.replicate 16 (0 : Int) : (Vector Int 16)) } : S_api_Addr)) 24, cellsE b1 (Cd.cs c_api_Addr x0) 24]) Y) ?_ ?_
              · intro K
                refine crawlwayref10_Mask.l1.partial_correctness i8 (motive := fun i15 i16 x => KN (fun Y => At 54 [(1, .int .i64 x1), (2, .pointer (some ⟨b1, 0, none⟩)), (4, .pointer (some ⟨b2, 0, none⟩)), (5, .pointer (some ⟨b5, 0, none⟩)), (6, .int .i64 t6), (7, .int .i64 i8), (8, .int .i64 x)] (Wd w [cellsE b5 (Cd.cs c_api_Addr i9) 24, cellsE b2 (Cd.cs c_api_Addr ({ f_V := (0 : Int), f_B := (Vector.replicate 16 (0 : Int) : (Vector Int 16)) } : S_api_Addr)) 24, cellsE b1 (Cd.cs c_api_Addr x0) 24]) Y) _ 2 → Round (fun Y => At 54 [(1, .int .i64 x1), (2, .pointer (some ⟨b1, 0, none⟩)), (4, .pointer (some ⟨b2, 0, none⟩)), (5, .pointer (some ⟨b5, 0, none⟩)), (6, .int .i64 t6), (7, .int .i64 i8), (8, .int .i64 i15), (9, .int .i64 i16)] (Wd w [cellsE b5 (Cd.cs c_api_Addr i9) 24, cellsE b2 (Cd.cs c_api_Addr ({ f_V := (0 : Int), f_B := (Vector.replicate 16 (0 : Int) : (Vector Int 16)) } : S_api_Addr)) 24, cellsE b1 (Cd.cs c_api_Addr x0) 24]) Y) _ _ _) ?_ _ _ _ hq14 K
                · clear K hF
                  intro g ih i15 i16 x hF K
                  refine at_round ?_
                  refine at_seq ?_
                  refine at_seq ?_
                  refine at_region ?_
                  refine at_val rfl rfl rfl (r_move rfl) ?_
                  refine at_val rfl rfl rfl (r_move rfl) ?_
                  refine at_val rfl rfl rfl (r_irem rfl rfl (by decide)) ?_
                  refine at_val rfl rfl rfl (r_ilss rfl rfl) ?_
                  refine at_nil ?_
                  refine at_weak [(1, _), (2, _), (4, _), (5, _), (6, _), (7, _), (8, _), (9, _), (36, _)] ⟨rfl, rfl, rfl, rfl, rfl, rfl, rfl, rfl, rfl, trivial⟩ ?_
                  refine at_then_normal ?_
                  rcases of_ite hF with ⟨h17, hF⟩ | ⟨h17, hF⟩
                  · refine at_cond_true rfl h17 ?_
                    refine at_skip ?_
                    refine at_then_normal ?_
                    refine at_seq ?_
                    refine at_block ?_
                    refine at_region ?_
                    refine at_val rfl rfl rfl (r_move rfl) ?_
                    refine at_val rfl rfl rfl (r_iquo rfl rfl (by decide)) ?_
                    refine at_val rfl rfl rfl (r_assign rfl) ?_
                    refine at_nil ?_
                    refine at_weak [(1, _), (2, _), (4, _), (5, _), (6, _), (7, _), (8, _), (9, _)] ⟨rfl, rfl, rfl, rfl, rfl, rfl, rfl, rfl, trivial⟩ ?_
                    refine at_blk_normal (at_then_normal ?_)
                    refine at_region ?_
                    refine at_val rfl rfl rfl (r_move rfl) ?_
                    refine at_val rfl rfl rfl (r_iadd rfl rfl) ?_
                    refine at_val rfl rfl rfl (r_assign rfl) ?_
                    refine at_nil ?_
                    refine at_weak [(1, _), (2, _), (4, _), (5, _), (6, _), (7, _), (8, _), (9, _)] ⟨rfl, rfl, rfl, rfl, rfl, rfl, rfl, rfl, trivial⟩ ?_
                    refine at_then_normal ?_
                    exact at_weak_k (ih _ _ _ hF K) ⟨rfl, rfl, rfl, rfl, rfl, rfl, rfl, rfl, trivial⟩
                  · refine at_cond_false rfl h17 ?_
                    refine at_exit ?_
                    refine at_then_exit (at_then_exit ?_)
                    obtain rfl := of_some hF
                    exact at_weak_k K ⟨rfl, rfl, rfl, rfl, rfl, rfl, rfl, trivial⟩
              · skip
                skip
                refine at_blk_same ?_
                refine at_then_normal ?_
                refine at_region ?_
                refine at_val rfl rfl rfl (r_move rfl) ?_
                refine at_val rfl rfl rfl (r_iquo rfl rfl (by decide)) ?_
                refine at_val rfl rfl rfl (r_move rfl) ?_
                refine at_val rfl rfl rfl (r_iquo rfl rfl (by decide)) ?_
                refine at_val rfl rfl rfl (r_fieldAddr (fo := 1) Tryd.underlying24 rfl rfl (fun w => ⟨_, Tryd.sizeOf22 w⟩) rfl) ?_
                obtain ⟨h18, hF⟩ := of_guard hF
                refine at_val rfl rfl rfl (r_idxArr Tryd.underlying22 Tryd.sizeOf5 rfl rfl h18) ?_
                refine at_val rfl rfl rfl (r_load_cell Tryd.isAgg5 rfl (lens_cell0 (c := (cInt .u8)) (y := vget i9.f_B (wr .i64 (Int.tdiv i8 8))) .z (Lens.comp (Lens.comp (Lens.whole _ _) (fun z => { i9 with f_B := z }) (c_api_Addr_f_B i9)) (fun z => vset i9.f_B (wr .i64 (Int.tdiv i8 8)) z) (Lens.vec (cInt .u8) (by decide) i9.f_B (wr .i64 (Int.tdiv i8 8)) h18)) rfl)) ?_
                refine at_val rfl rfl rfl (r_move rfl) ?_
                refine at_val rfl rfl rfl (r_conv Tryd.underlying3 Tryd.underlying5 rfl) ?_
                refine at_val rfl rfl rfl (r_iadd rfl rfl) ?_
                refine at_val rfl rfl rfl (r_fieldAddr (fo := 1) Tryd.underlying24 rfl rfl (fun w => ⟨_, Tryd.sizeOf22 w⟩) rfl) ?_
                obtain ⟨h19, hF⟩ := of_guard hF
                refine at_val rfl rfl rfl (r_idxArr Tryd.underlying22 Tryd.sizeOf5 rfl rfl h19) ?_
                refine at_store (c := (cInt .u8)) (z := wr .u8 ((vget i9.f_B (wr .i64 (Int.tdiv i8 8))) + (wr .u8 q14))) .z (Lens.comp (Lens.comp (Lens.whole _ _) (fun z => { i9 with f_B := z }) (c_api_Addr_f_B i9)) (fun z => vset i9.f_B (wr .i64 (Int.tdiv i8 8)) z) (Lens.vec (cInt .u8) (by decide) i9.f_B (wr .i64 (Int.tdiv i8 8)) h19)) Tryd.sizeOf5 rfl rfl rfl ?_
                refine at_nil ?_
                refine at_weak [(1, _), (2, _), (4, _), (5, _), (6, _), (7, _)] ⟨rfl, rfl, rfl, rfl, rfl, rfl, trivial⟩ ?_
                refine at_blk_normal (at_then_normal ?_)
                refine at_region ?_
                refine at_val rfl rfl rfl (r_move rfl) ?_
                refine at_val rfl rfl rfl (r_iadd rfl rfl) ?_
                refine at_val rfl rfl rfl (r_assign rfl) ?_
                refine at_nil ?_
                refine at_weak [(1, _), (2, _), (4, _), (5, _), (6, _), (7, _)] ⟨rfl, rfl, rfl, rfl, rfl, rfl, trivial⟩ ?_
                refine at_then_normal ?_
                exact at_weak_k (ih _ _ _ hF K) ⟨rfl, rfl, rfl, rfl, rfl, rfl, trivial⟩
            · refine at_cond_false rfl h13 ?_
              refine at_skip ?_
              refine at_blk_normal (at_then_normal ?_)
              refine at_region ?_
              refine at_val rfl rfl rfl (r_move rfl) ?_
              refine at_val rfl rfl rfl (r_iadd rfl rfl) ?_
              refine at_val rfl rfl rfl (r_assign rfl) ?_
              refine at_nil ?_
              refine at_weak [(1, _), (2, _), (4, _), (5, _), (6, _), (7, _)] ⟨rfl, rfl, rfl, rfl, rfl, rfl, trivial⟩ ?_
              refine at_then_normal ?_
              exact at_weak_k (ih _ _ _ hF K) ⟨rfl, rfl, rfl, rfl, rfl, rfl, trivial⟩
          · refine at_cond_false rfl h11 ?_
            refine at_exit ?_
            refine at_then_exit (at_then_exit ?_)
            refine at_drop (H := _) (.s (.s .z)) ?_
            obtain rfl := of_some hF
            exact at_weak_k K ⟨rfl, rfl, trivial⟩
        · refine at_fix (g := 22) rfl h10 ?_
          refine at_guard_no rfl rfl rfl rfl rfl ?_
          refine at_guard_no rfl rfl rfl rfl rfl ?_
          refine at_guard_no rfl rfl rfl rfl rfl ?_
          refine at_val rfl rfl rfl (r_pick rfl rfl rfl) ?_
          refine at_nil ?_
          refine at_weak [(1, _), (2, _), (4, _), (5, _), (6, _), (7, _), (26, _)] ⟨rfl, rfl, rfl, rfl, rfl, rfl, rfl, trivial⟩ ?_
          refine at_then_normal ?_
          refine at_cond_false rfl rfl ?_
          refine at_exit ?_
          refine at_then_exit (at_then_exit ?_)
          refine at_drop (H := _) (.s (.s .z)) ?_
          obtain rfl := of_some hF
          exact at_weak_k K ⟨rfl, rfl, trivial⟩
    · skip
      skip
      refine at_blk_same ?_
      refine at_then_normal ?_
      refine at_seq ?_
      refine at_region ?_
      refine at_val rfl rfl rfl (r_load_aggc (c := c_api_Addr) (z := q7) Tryd.isAgg24 Tryd.sizeOf24 rfl (lens_cell .z (Lens.whole _ _))) ?_
      refine at_store (c := c_api_Addr) (z := q7) (.s .z) (Lens.whole _ _) Tryd.sizeOf24 rfl rfl rfl ?_
      refine at_nil ?_
      refine at_drop (H := _) .z ?_
      refine at_weak [(4, _)] ⟨rfl, trivial⟩ ?_
      refine at_then_normal ?_
      refine at_ret ?_
      have K := of_some hF
      subst K
      exact at_res1 rfl (res_cell (c := c_api_Addr) (y := q7) rfl .z (Lens.whole _ _) Tryd.isAgg24 Tryd.sizeOf24 (.inl rfl)) (fun w1 hw => ⟨rfl, hw.below⟩)

def endian_Ones.l1 (x0 : List Int) (i3 : Int) (i10 : Int) (i11 : Int) : Option (Ctl (Int) (Int)) :=
  if (decide (i11 ≥ 0)) = true then (if (0 : Int) ≤ wr .u64 i11 then if (iand .u8 (ishr .u8 (lget x0 i3) (wr .u64 i11)) 1 == 0) = true then (some (.ret i10)) else (endian_Ones.l1 x0 i3 (wr .i64 (i10 + 1)) (wr .i64 (i11 - 1))) else none) else (some (.nx i10))
  partial_fixpoint
def endian_Ones.l0 (x0 : List Int) (i2 : Int) (i3 : Int) : Option (Ctl (Int) (Int)) :=
  if (decide (i3 < (x0.length : Int))) = true then (if (0 : Int) ≤ i3 ∧ i3 < (x0.length : Int) then endian_Ones.l1 x0 i3 i2 7 >>= fun q9 => match q9 with | .ret r' => some (.ret r') | .nx sq9 => (endian_Ones.l0 x0 sq9 (wr .i64 (i3 + 1))) else none) else (some (.nx i2))
  partial_fixpoint
def endian_Ones (x0 : List Int) : Option (Int) :=
  endian_Ones.l0 x0 0 0 >>= fun q1 => match q1 with | .ret r' => some r' | .nx sq1 => (some sq1)
theorem endian_Ones_ok (x0 : List Int) (p0_ : Option Addr) (c0_ : Nat) (r : Int) (hF : endian_Ones x0 = some r) (w : World) (hr0 : Row (cInt .u8) w p0_ c0_ x0) :
    Calls Tryd.prog 65 #[.slice p0_ x0.length c0_] w (fun e w' => e = .returned (.int .i64 r) ∧ w' = w) := by
  unfold endian_Ones at hF
  refine calls_enter (l := [.slice p0_ x0.length c0_]) Tryd.func65 rfl rfl rfl ?_
  refine at_weak [(0, _)] ⟨rfl, trivial⟩ ?_
  refine at_seq ?_
  refine at_region ?_
  refine at_val rfl rfl rfl (r_assign rfl) ?_
  refine at_nil ?_
  refine at_weak [(0, _)] ⟨rfl, trivial⟩ ?_
  refine at_then_normal ?_
  refine at_seq ?_
  refine at_region ?_
  refine at_val rfl rfl rfl (r_assign rfl) ?_
  refine at_nil ?_
  refine at_weak [(0, _), (3, _)] ⟨rfl, rfl, trivial⟩ ?_
  refine at_then_normal ?_
  refine at_seq ?_
  refine at_seq ?_
  refine at_region ?_
  refine at_val rfl rfl rfl (r_move rfl) ?_
  refine at_val rfl rfl rfl (r_len_sl Tryd.underlying33 rfl) ?_
  refine at_val rfl rfl rfl (r_move rfl) ?_
  refine at_nil ?_
  refine at_weak [(3, _), (7, _), (8, _), (9, _)] ⟨rfl, rfl, rfl, rfl, trivial⟩ ?_
  refine at_then_normal ?_
  refine at_block ?_
  obtain ⟨q1, hq1, hF⟩ := of_bindM hF
  refine at_weak [(3, _), (7, _), (8, _), (9, _)] ⟨rfl, rfl, rfl, rfl, trivial⟩ ?_
  refine at_loop_r (B := 0) (r := r) (q := q1) (A := fun sq1 Y => At 28 [(3, .int .i64 sq1)] (fun w' => w' = w) Y) ?_ ?_
  · intro K
    refine endian_Ones.l0.partial_correctness x0 (motive := fun i2 i3 x => KR (fun sq1 Y => At 28 [(3, .int .i64 sq1)] (fun w' => w' = w) Y) _ 0 r x → Round (fun Y => At 28 [(3, .int .i64 i2), (7, .slice p0_ x0.length c0_), (8, .int .i64 (x0.length : Int)), (9, .int .i64 i3)] (fun w' => w' = w) Y) _ _ _) ?_ _ _ _ hq1 K
    · clear K hF
      intro g ih i2 i3 x hF K
      refine at_round ?_
      refine at_seq ?_
      refine at_region ?_
      refine at_val rfl rfl rfl (r_ilss rfl rfl) ?_
      refine at_nil ?_
      refine at_weak [(3, _), (7, _), (8, _), (9, _), (10, _)] ⟨rfl, rfl, rfl, rfl, rfl, trivial⟩ ?_
      refine at_then_normal ?_
      refine at_seq ?_
      rcases of_ite hF with ⟨h4, hF⟩ | ⟨h4, hF⟩
      · refine at_cond_true rfl h4 ?_
        refine at_skip ?_
        refine at_then_normal ?_
        refine at_seq ?_
        refine at_block ?_
        refine at_seq ?_
        refine at_region ?_
        obtain ⟨h5, hF⟩ := of_guard hF
        obtain ⟨b7, o8, hp6⟩ := row_ptr hr0 h5
        refine at_val rfl rfl rfl (r_idx Tryd.underlying33 Tryd.sizeOf5 rfl rfl h5 hp6) ?_
        refine at_val rfl rfl rfl (r_load_cell Tryd.isAgg5 rfl (row_cell0 (fun w1 (h : w1 = w) => by subst h; exact Below.refl _ _) hr0 h5 hp6 rfl)) ?_
        refine at_val rfl rfl rfl (r_assign rfl) ?_
        refine at_nil ?_
        refine at_weak [(3, _), (5, _), (7, _), (8, _), (9, _)] ⟨rfl, rfl, rfl, rfl, rfl, trivial⟩ ?_
        refine at_then_normal ?_
        refine at_seq ?_
        refine at_region ?_
        refine at_val rfl rfl rfl (r_assign rfl) ?_
        refine at_nil ?_
        refine at_weak [(3, _), (5, _), (6, _), (7, _), (8, _), (9, _)] ⟨rfl, rfl, rfl, rfl, rfl, rfl, trivial⟩ ?_
        refine at_then_normal ?_
        refine at_block ?_
        obtain ⟨q9, hq9, hF⟩ := of_bindM hF
        refine at_weak [(3, _), (5, _), (6, _), (7, _), (8, _), (9, _)] ⟨rfl, rfl, rfl, rfl, rfl, rfl, trivial⟩ ?_
        refine at_loop_r (B := 2) (r := r) (q := q9) (A := fun sq9 Y => At 28 [(3, .int .i64 sq9), (7, .slice p0_ x0.length c0_), (8, .int .i64 (x0.length : Int)), (9, .int .i64 i3)] (fun w' => w' = w) Y) ?_ ?_
        · intro K
          refine endian_Ones.l1.partial_correctness x0 i3 (motive := fun i10 i11 x => KR (fun sq9 Y => At 28 [(3, .int .i64 sq9), (7, .slice p0_ x0.length c0_), (8, .int .i64 (x0.length : Int)), (9, .int .i64 i3)] (fun w' => w' = w) Y) _ 2 r x → Round (fun Y => At 28 [(3, .int .i64 i10), (5, .int .u8 (lget x0 i3)), (6, .int .i64 i11), (7, .slice p0_ x0.length c0_), (8, .int .i64 (x0.length : Int)), (9, .int .i64 i3)] (fun w' => w' = w) Y) _ _ _) ?_ _ _ _ hq9 K
          · clear K hF
            intro g ih i10 i11 x hF K
            refine at_round ?_
            refine at_seq ?_
            refine at_seq ?_
            refine at_region ?_
            refine at_val rfl rfl rfl (r_move rfl) ?_
            refine at_val rfl rfl rfl (r_igeq rfl rfl) ?_
            refine at_nil ?_
            refine at_weak [(3, _), (5, _), (6, _), (7, _), (8, _), (9, _), (14, _)] ⟨rfl, rfl, rfl, rfl, rfl, rfl, rfl, trivial⟩ ?_
            refine at_then_normal ?_
            rcases of_ite hF with ⟨h12, hF⟩ | ⟨h12, hF⟩
            · refine at_cond_true rfl h12 ?_
              refine at_skip ?_
              refine at_then_normal ?_
              refine at_seq ?_
              refine at_block ?_
              refine at_seq ?_
              refine at_seq ?_
              refine at_region ?_
              refine at_val rfl rfl rfl (r_move rfl) ?_
              refine at_val rfl rfl rfl (r_move rfl) ?_
              refine at_val rfl rfl rfl (r_conv Tryd.underlying3 Tryd.underlying69 rfl) ?_
              obtain ⟨h13, hF⟩ := of_guard hF
              refine at_val rfl rfl rfl (r_ishr rfl rfl h13) ?_
              refine at_val rfl rfl rfl (r_iand rfl rfl) ?_
              refine at_val rfl rfl rfl (r_ieql rfl rfl) ?_
              refine at_nil ?_
              refine at_weak [(3, _), (5, _), (6, _), (7, _), (8, _), (9, _), (22, _)] ⟨rfl, rfl, rfl, rfl, rfl, rfl, rfl, trivial⟩ ?_
              refine at_then_normal ?_
              rcases of_ite hF with ⟨h14, hF⟩ | ⟨h14, hF⟩
              · refine at_cond_true rfl h14 ?_
                refine at_seq ?_
                refine at_region ?_
                refine at_val rfl rfl rfl (r_move rfl) ?_
                refine at_val rfl rfl rfl (r_assign rfl) ?_
                refine at_nil ?_
                refine at_weak [(2, _)] ⟨rfl, trivial⟩ ?_
                refine at_then_normal ?_
                refine at_ret ?_
                refine at_then_ret (at_blk_ret (at_then_ret (at_then_ret (at_blk_ret (at_blk_ret (at_then_ret (at_then_ret (at_blk_ret (at_then_ret ?_)))))))))
                obtain rfl := of_some hF
                subst K
                exact at_return1 rfl rfl (fun w1 hw => ⟨rfl, hw⟩)
              · refine at_cond_false rfl h14 ?_
                refine at_skip ?_
                refine at_then_normal ?_
                refine at_region ?_
                refine at_val rfl rfl rfl (r_move rfl) ?_
                refine at_val rfl rfl rfl (r_iadd rfl rfl) ?_
                refine at_val rfl rfl rfl (r_assign rfl) ?_
                refine at_nil ?_
                refine at_weak [(3, _), (5, _), (6, _), (7, _), (8, _), (9, _)] ⟨rfl, rfl, rfl, rfl, rfl, rfl, trivial⟩ ?_
                refine at_blk_normal (at_then_normal ?_)
                refine at_region ?_
                refine at_val rfl rfl rfl (r_move rfl) ?_
                refine at_val rfl rfl rfl (r_isub rfl rfl) ?_
                refine at_val rfl rfl rfl (r_assign rfl) ?_
                refine at_nil ?_
                refine at_weak [(3, _), (5, _), (6, _), (7, _), (8, _), (9, _)] ⟨rfl, rfl, rfl, rfl, rfl, rfl, trivial⟩ ?_
                refine at_then_normal ?_
                exact at_weak_k (ih _ _ _ hF K) ⟨rfl, rfl, rfl, rfl, rfl, rfl, trivial⟩
            · refine at_cond_false rfl h12 ?_
              refine at_exit ?_
              refine at_then_exit (at_then_exit ?_)
              obtain rfl := of_some hF
              exact at_weak_k K ⟨rfl, rfl, rfl, rfl, trivial⟩
        · cases q9 with
          | ret r' => obtain rfl := of_some hF; exact K
          | nx sq9 =>
            skip
            refine at_blk_same ?_
            refine at_blk_normal (at_then_normal ?_)
            refine at_region ?_
            refine at_val rfl rfl rfl (r_iadd rfl rfl) ?_
            refine at_val rfl rfl rfl (r_move rfl) ?_
            refine at_nil ?_
            refine at_weak [(3, _), (7, _), (8, _), (9, _)] ⟨rfl, rfl, rfl, rfl, trivial⟩ ?_
            refine at_then_normal ?_
            exact at_weak_k (ih _ _ _ hF K) ⟨rfl, rfl, rfl, rfl, trivial⟩
      · refine at_cond_false rfl h4 ?_
        refine at_exit ?_
        refine at_then_exit (at_then_exit ?_)
        obtain rfl := of_some hF
        exact at_weak_k K ⟨rfl, trivial⟩
  · cases q1 with
    | ret r' => exact of_some hF
    | nx sq1 =>
      skip
      refine at_blk_same ?_
      refine at_then_normal ?_
      refine at_seq ?_
      refine at_region ?_
      refine at_val rfl rfl rfl (r_move rfl) ?_
      refine at_val rfl rfl rfl (r_assign rfl) ?_
      refine at_nil ?_
      refine at_weak [(2, _)] ⟨rfl, trivial⟩ ?_
      refine at_then_normal ?_
      refine at_ret ?_
      have K := of_some hF
      subst K
      exact at_return1 rfl rfl (fun w1 hw => ⟨rfl, hw⟩)

def addr_Common.l0 (x0 : S_api_Addr) (x1 : S_api_Addr) (i10 : Int) (i11 : (Vector Int 16)) : Option ((Vector Int 16)) :=
  if (decide (i10 < 16)) = true then (if (0 : Int) ≤ i10 ∧ i10 < 16 then if (0 : Int) ≤ i10 ∧ i10 < 16 then if (0 : Int) ≤ i10 ∧ i10 < 16 then addr_Common.l0 x0 x1 (wr .i64 (i10 + 1)) (vset i11 i10 (ixor .u8 (IntKind.max .u8) (ixor .u8 (vget x0.f_B i10) (vget x1.f_B i10)))) else none else none else none) else (some i11)
  partial_fixpoint
def addr_Common (x0 : S_api_Addr) (x1 : S_api_Addr) : Option (Int) :=
  addr_Right x0 >>= fun t3 => if (!t3) = true then (some (-1)) else (addr_Right x1 >>= fun t5 => if (!t5) = true then (some (-1)) else (if (x0.f_V != x1.f_V) = true then (some (-1)) else (addr_Common.l0 x0 x1 0 (Vector.replicate 16 (0 : Int) : (Vector Int 16)) >>= fun q9 => addr_Width x0 >>= fun t16 => if (0 : Int) ≤ 0 ∧ 0 ≤ wr .i64 (Int.tdiv t16 8) ∧ wr .i64 (Int.tdiv t16 8) ≤ (16 : Int) then endian_Ones (lsub (Vector.toList q9) 0 (wr .i64 (Int.tdiv t16 8))) >>= fun t18 => some t18 else none)))
set_option maxRecDepth 10000 in
theorem addr_Common_ok (x0 : S_api_Addr) (x1 : S_api_Addr) (r : Int) (hF : addr_Common x0 x1 = some r) (w : World) :
    Calls Tryd.prog 24 #[.agg (Cd.cs c_api_Addr x0).toArray, .agg (Cd.cs c_api_Addr x1).toArray] w (fun e w' => e = .returned (.int .i64 r) ∧ Below w.heap.size w w') := by
  unfold addr_Common at hF
  refine calls_enter (l := [.agg (Cd.cs c_api_Addr x0).toArray, .agg (Cd.cs c_api_Addr x1).toArray]) Tryd.func24 rfl rfl rfl ?_
  refine at_start ?_
  refine at_weak [(0, _), (1, _)] ⟨rfl, rfl, trivial⟩ ?_
  refine at_seq ?_
  refine at_region ?_
  refine at_box (cs := Cd.cs c_api_Addr x0) rfl rfl rfl ?_
  intro b1
  refine at_box (cs := Cd.cs c_api_Addr x1) rfl rfl rfl ?_
  intro b2
  refine at_val rfl rfl rfl (r_assign rfl) ?_
  refine at_nil ?_
  refine at_weak [(2, _), (3, _)] ⟨rfl, rfl, trivial⟩ ?_
  refine at_then_normal ?_
  refine at_seq ?_
  refine at_seq ?_
  refine at_region ?_
  refine at_val rfl rfl rfl (r_load_aggc (c := c_api_Addr) (z := x0) Tryd.isAgg24 Tryd.sizeOf24 rfl (lens_cell (.s .z) (Lens.whole _ _))) ?_
  obtain ⟨t3, ht3, hF⟩ := of_bindM hF
  refine at_callB Tryd.func36 rfl (by kernel_rfl) rfl rfl (fun w hw => addr_Right_ok _ _ ht3 w) ?_
  refine at_val rfl rfl rfl (r_not rfl) ?_
  refine at_val rfl rfl rfl (r_move rfl) ?_
  rcases of_ite hF with ⟨h4, hF⟩ | ⟨h4, hF⟩
  · refine at_fix (g := 10) rfl h4 ?_
    refine at_guard_no rfl rfl rfl rfl rfl ?_
    refine at_guard_no rfl rfl rfl rfl rfl ?_
    refine at_guard_no rfl rfl rfl rfl rfl ?_
    refine at_val rfl rfl rfl (r_pick rfl rfl rfl) ?_
    refine at_val rfl rfl rfl (r_move rfl) ?_
    refine at_guard_no rfl rfl rfl rfl rfl ?_
    refine at_guard_no rfl rfl rfl rfl rfl ?_
    refine at_guard_no rfl rfl rfl rfl rfl ?_
    refine at_guard_no rfl rfl rfl rfl rfl ?_
    refine at_guard_no rfl rfl rfl rfl rfl ?_
    refine at_val rfl rfl rfl (r_pick rfl rfl rfl) ?_
    refine at_nil ?_
    refine at_weak [(2, _), (3, _), (21, _)] ⟨rfl, rfl, rfl, trivial⟩ ?_
    refine at_then_normal ?_
    refine at_cond_true rfl rfl ?_
    refine at_seq ?_
    refine at_region ?_
    refine at_val rfl rfl rfl (r_assign rfl) ?_
    refine at_nil ?_
    refine at_drop (H := _) .z ?_
    refine at_drop (H := _) .z ?_
    refine at_weak [(4, _)] ⟨rfl, trivial⟩ ?_
    refine at_then_normal ?_
    refine at_ret ?_
    refine at_then_ret ?_
    have K := of_some hF
    subst K
    exact at_return1 rfl rfl (fun w1 hw => ⟨rfl, hw.below⟩)
  · refine at_fix (g := 10) rfl h4 ?_
    refine at_guard_yes rfl rfl rfl ?_
    refine at_val rfl rfl rfl (r_load_aggc (c := c_api_Addr) (z := x1) Tryd.isAgg24 Tryd.sizeOf24 rfl (lens_cell .z (Lens.whole _ _))) ?_
    refine at_guard_yes rfl rfl rfl ?_
    obtain ⟨t5, ht5, hF⟩ := of_bindM hF
    refine at_callB Tryd.func36 rfl (by kernel_rfl) rfl rfl (fun w hw => addr_Right_ok _ _ ht5 w) ?_
    refine at_guard_yes rfl rfl rfl ?_
    refine at_val rfl rfl rfl (r_not rfl) ?_
    refine at_val rfl rfl rfl (r_pick rfl rfl rfl) ?_
    refine at_val rfl rfl rfl (r_move rfl) ?_
    rcases of_ite hF with ⟨h6, hF⟩ | ⟨h6, hF⟩
    · refine at_fix (g := 15) rfl h6 ?_
      refine at_guard_no rfl rfl rfl rfl rfl ?_
      refine at_guard_no rfl rfl rfl rfl rfl ?_
      refine at_guard_no rfl rfl rfl rfl rfl ?_
      refine at_guard_no rfl rfl rfl rfl rfl ?_
      refine at_guard_no rfl rfl rfl rfl rfl ?_
      refine at_val rfl rfl rfl (r_pick rfl rfl rfl) ?_
      refine at_nil ?_
      refine at_weak [(2, _), (3, _), (21, _)] ⟨rfl, rfl, rfl, trivial⟩ ?_
      refine at_then_normal ?_
      refine at_cond_true rfl rfl ?_
      refine at_seq ?_
      refine at_region ?_
      refine at_val rfl rfl rfl (r_assign rfl) ?_
      refine at_nil ?_
      refine at_drop (H := _) .z ?_
      refine at_drop (H := _) .z ?_
      refine at_weak [(4, _)] ⟨rfl, trivial⟩ ?_
      refine at_then_normal ?_
      refine at_ret ?_
      refine at_then_ret ?_
      have K := of_some hF
      subst K
      exact at_return1 rfl rfl (fun w1 hw => ⟨rfl, hw.below⟩)
    · refine at_fix (g := 15) rfl h6 ?_
      refine at_guard_yes rfl rfl rfl ?_
      refine at_val rfl rfl rfl (r_fieldAddr (fo := 0) Tryd.underlying24 rfl rfl (fun w => ⟨_, Tryd.sizeOf3 w⟩) rfl) ?_
      refine at_guard_yes rfl rfl rfl ?_
      refine at_val rfl rfl rfl (r_load_cell Tryd.isAgg3 rfl (lens_cell0 (c := (cInt .i64)) (y := x0.f_V) (.s .z) (Lens.comp (Lens.whole _ _) (fun z => { x0 with f_V := z }) (c_api_Addr_f_V x0)) rfl)) ?_
      refine at_guard_yes rfl rfl rfl ?_
      refine at_val rfl rfl rfl (r_fieldAddr (fo := 0) Tryd.underlying24 rfl rfl (fun w => ⟨_, Tryd.sizeOf3 w⟩) rfl) ?_
      refine at_guard_yes rfl rfl rfl ?_
      refine at_val rfl rfl rfl (r_load_cell Tryd.isAgg3 rfl (lens_cell0 (c := (cInt .i64)) (y := x1.f_V) .z (Lens.comp (Lens.whole _ _) (fun z => { x1 with f_V := z }) (c_api_Addr_f_V x1)) rfl)) ?_
      refine at_guard_yes rfl rfl rfl ?_
      refine at_val rfl rfl rfl (r_ineq rfl rfl) ?_
      refine at_val rfl rfl rfl (r_pick rfl rfl rfl) ?_
      refine at_nil ?_
      refine at_weak [(2, _), (3, _), (21, _)] ⟨rfl, rfl, rfl, trivial⟩ ?_
      refine at_then_normal ?_
      rcases of_ite hF with ⟨h7, hF⟩ | ⟨h7, hF⟩
      · refine at_cond_true rfl h7 ?_
        refine at_seq ?_
        refine at_region ?_
        refine at_val rfl rfl rfl (r_assign rfl) ?_
        refine at_nil ?_
        refine at_drop (H := _) .z ?_
        refine at_drop (H := _) .z ?_
        refine at_weak [(4, _)] ⟨rfl, trivial⟩ ?_
        refine at_then_normal ?_
        refine at_ret ?_
        refine at_then_ret ?_
        have K := of_some hF
        subst K
        exact at_return1 rfl rfl (fun w1 hw => ⟨rfl, hw.below⟩)
      · refine at_cond_false rfl h7 ?_
        refine at_skip ?_
        refine at_then_normal ?_
        refine at_seq ?_
        refine at_region ?_
        refine at_alloc (cs := Cd.cs (cVec (cInt .u8) 16 (by decide)) (Vector.replicate 16 (0 : Int) : (Vector Int 16))) Tryd.zeroValue22 rfl rfl ?_
        intro b8
        refine at_nil ?_
        refine at_weak [(2, _), (3, _), (5, _)] ⟨rfl, rfl, rfl, trivial⟩ ?_
        refine at_then_normal ?_
        refine at_seq ?_
        refine at_seq ?_
        refine at_region ?_
        refine at_val rfl rfl rfl (r_move rfl) ?_
        refine at_nil ?_
        refine at_weak [(2, _), (3, _), (5, _), (22, _)] ⟨rfl, rfl, rfl, rfl, trivial⟩ ?_
        refine at_then_normal ?_
        refine at_block ?_
        obtain ⟨q9, hq9, hF⟩ := of_bindM hF
        refine at_weak [(2, _), (3, _), (5, _), (22, _)] ⟨rfl, rfl, rfl, rfl, trivial⟩ ?_
        refine at_loop_n (B := 0) (A := fun Y => At 43 [(2, .pointer (some ⟨b1, 0, none⟩)), (5, .pointer (some ⟨b8, 0, none⟩))] (Wd w [cellsE b8 (Cd.cs (cVec (cInt .u8) 16 (by decide)) q9) 22, cellsE b1 (Cd.cs c_api_Addr x0) 24]) Y) ?_ ?_
        · intro K
          refine addr_Common.l0.partial_correctness x0 x1 (motive := fun i10 i11 x => KN (fun Y => At 43 [(2, .pointer (some ⟨b1, 0, none⟩)), (5, .pointer (some ⟨b8, 0, none⟩))] (Wd w [cellsE b8 (Cd.cs (cVec (cInt .u8) 16 (by decide)) x) 22, cellsE b1 (Cd.cs c_api_Addr x0) 24]) Y) _ 0 → Round (fun Y => At 43 [(2, .pointer (some ⟨b1, 0, none⟩)), (3, .pointer (some ⟨b2, 0, none⟩)), (5, .pointer (some ⟨b8, 0, none⟩)), (22, .int .i64 i10)] (Wd w [cellsE b8 (Cd.cs (cVec (cInt .u8) 16 (by decide)) i11) 22, cellsE b2 (Cd.cs c_api_Addr x1) 24, cellsE b1 (Cd.cs c_api_Addr x0) 24]) Y) _ _ _) ?_ _ _ _ hq9 K
          · clear K hF
            intro g ih i10 i11 x hF K
            refine at_round ?_
            refine at_seq ?_
            refine at_region ?_
            refine at_val rfl rfl rfl (r_ilss rfl rfl) ?_
            refine at_nil ?_
            refine at_weak [(2, _), (3, _), (5, _), (22, _), (23, _)] ⟨rfl, rfl, rfl, rfl, rfl, trivial⟩ ?_
            refine at_then_normal ?_
            refine at_seq ?_
            rcases of_ite hF with ⟨h12, hF⟩ | ⟨h12, hF⟩
            · refine at_cond_true rfl h12 ?_
              refine at_skip ?_
              refine at_then_normal ?_
              refine at_seq ?_
              refine at_block ?_
              refine at_seq ?_
              refine at_region ?_
              refine at_val rfl rfl rfl (r_move rfl) ?_
              refine at_val rfl rfl rfl (r_assign rfl) ?_
              refine at_nil ?_
              refine at_weak [(2, _), (3, _), (5, _), (6, _), (22, _)] ⟨rfl, rfl, rfl, rfl, rfl, trivial⟩ ?_
              refine at_then_normal ?_
              refine at_draw_tail 12 (by kernel_rfl) (by kernel_rfl) (fun _ h => h.drew) ?_
              simp only [List.take_succ_cons, List.take_zero, List.drop_succ_cons, List.drop_zero]
              refine ats_val rfl rfl rfl (r_move rfl) ?_
              refine ats_val rfl rfl rfl (r_move rfl) ?_
              refine ats_val rfl rfl rfl (r_fieldAddr (fo := 1) Tryd.underlying24 rfl rfl (fun w => ⟨_, Tryd.sizeOf22 w⟩) rfl) ?_
              obtain ⟨h13, hF⟩ := of_guard hF
              refine ats_val rfl rfl rfl (r_idxArr Tryd.underlying22 Tryd.sizeOf5 rfl rfl h13) ?_
              refine ats_val rfl rfl rfl (r_load_cell Tryd.isAgg5 rfl (lens_cell0 (c := (cInt .u8)) (y := vget x0.f_B i10) (.s (.s .z)) (Lens.comp (Lens.comp (Lens.whole _ _) (fun z => { x0 with f_B := z }) (c_api_Addr_f_B x0)) (fun z => vset x0.f_B i10 z) (Lens.vec (cInt .u8) (by decide) x0.f_B i10 h13)) rfl)) ?_
              refine ats_val rfl rfl rfl (r_move rfl) ?_
              refine ats_val rfl rfl rfl (r_fieldAddr (fo := 1) Tryd.underlying24 rfl rfl (fun w => ⟨_, Tryd.sizeOf22 w⟩) rfl) ?_
              obtain ⟨h14, hF⟩ := of_guard hF
              refine ats_val rfl rfl rfl (r_idxArr Tryd.underlying22 Tryd.sizeOf5 rfl rfl h14) ?_
              refine ats_val rfl rfl rfl (r_load_cell Tryd.isAgg5 rfl (lens_cell0 (c := (cInt .u8)) (y := vget x1.f_B i10) (.s .z) (Lens.comp (Lens.comp (Lens.whole _ _) (fun z => { x1 with f_B := z }) (c_api_Addr_f_B x1)) (fun z => vset x1.f_B i10 z) (Lens.vec (cInt .u8) (by decide) x1.f_B i10 h14)) rfl)) ?_
              refine ats_val rfl rfl rfl (r_ixor rfl rfl) ?_
              refine ats_val rfl rfl rfl (r_compl rfl rfl) ?_
              obtain ⟨h15, hF⟩ := of_guard hF
              refine ats_val rfl rfl rfl (r_idxArr Tryd.underlying22 Tryd.sizeOf5 rfl rfl h15) ?_
              refine ats_nil ?_
              refine at_store (c := (cInt .u8)) (z := ixor .u8 (IntKind.max .u8) (ixor .u8 (vget x0.f_B i10) (vget x1.f_B i10))) .z (Lens.comp (Lens.whole _ _) (fun z => vset i11 i10 z) (Lens.vec (cInt .u8) (by decide) i11 i10 h15)) Tryd.sizeOf5 rfl rfl rfl ?_
              refine at_nil ?_
              refine at_weak [(2, _), (3, _), (5, _), (22, _)] ⟨rfl, rfl, rfl, rfl, trivial⟩ ?_
              refine at_blk_normal (at_then_normal ?_)
              refine at_region ?_
              refine at_val rfl rfl rfl (r_iadd rfl rfl) ?_
              refine at_val rfl rfl rfl (r_move rfl) ?_
              refine at_nil ?_
              refine at_weak [(2, _), (3, _), (5, _), (22, _)] ⟨rfl, rfl, rfl, rfl, trivial⟩ ?_
              refine at_then_normal ?_
              exact at_weak_k (ih _ _ _ hF K) ⟨rfl, rfl, rfl, rfl, trivial⟩
            · refine at_cond_false rfl h12 ?_
              refine at_exit ?_
              refine at_then_exit (at_then_exit ?_)
              refine at_drop (H := _) (.s .z) ?_
              obtain rfl := of_some hF
              exact at_weak_k K ⟨rfl, rfl, trivial⟩
        · skip
          skip
          refine at_blk_same ?_
          refine at_then_normal ?_
          refine at_seq ?_
          refine at_region ?_
          refine at_val rfl rfl rfl (r_load_aggc (c := c_api_Addr) (z := x0) Tryd.isAgg24 Tryd.sizeOf24 rfl (lens_cell (.s .z) (Lens.whole _ _))) ?_
          obtain ⟨t16, ht16, hF⟩ := of_bindM hF
          refine at_callB Tryd.func40 rfl (by kernel_rfl) rfl rfl (fun w hw => addr_Width_ok _ _ ht16 w) ?_
          refine at_val rfl rfl rfl (r_iquo rfl rfl (by decide)) ?_
          obtain ⟨h17, hF⟩ := of_guard hF
          refine at_val rfl rfl rfl (r_view (c := (cInt .u8)) (v := q9) (l := 0) (h := wr .i64 (Int.tdiv t16 8)) Tryd.underlying22 Tryd.sizeOf5 rfl rfl ⟨_, rfl⟩ h17) ?_
          obtain ⟨t18, ht18, hF⟩ := of_bindM hF
          refine at_callB Tryd.func65 rfl (by kernel_rfl) rfl rfl (fun w hw => callB_of_call0 (endian_Ones_ok _ _ _ _ ht18 w (Row.sub (lens_row .z (Lens.whole _ _) hw) (vbnd h17)))) ?_
          refine at_val rfl rfl rfl (r_assign rfl) ?_
          refine at_nil ?_
          refine at_drop (H := _) .z ?_
          refine at_drop (H := _) .z ?_
          refine at_weak [(4, _)] ⟨rfl, trivial⟩ ?_
          refine at_then_normal ?_
          refine at_ret ?_
          have K := of_some hF
          subst K
          exact at_return1 rfl rfl (fun w1 hw => ⟨rfl, hw.below⟩)

def crawlwayref10_Common.l0 (x0 : S_api_Addr) (x1 : S_api_Addr) (t8 : Int) (i10 : Int) : Option (Int) :=
  if (decide (i10 < t8)) = true then (crawlwayref10_digit x0 i10 >>= fun t12 => crawlwayref10_digit x1 i10 >>= fun t13 => if (t12 == t13) = true then (crawlwayref10_Common.l0 x0 x1 t8 (wr .i64 (i10 + 1))) else (some i10)) else (some i10)
  partial_fixpoint
def crawlwayref10_Common (x0 : S_api_Addr) (x1 : S_api_Addr) : Option (Int) :=
  crawlwayref10_Right x0 >>= fun t3 => if (!t3) = true then (some (-1)) else (crawlwayref10_Right x1 >>= fun t5 => if (!t5) = true then (some (-1)) else (if (x0.f_V != x1.f_V) = true then (some (-1)) else (crawlwayref10_Width x0 >>= fun t8 => crawlwayref10_Common.l0 x0 x1 t8 0 >>= fun q9 => some q9)))
theorem crawlwayref10_Common_ok (x0 : S_api_Addr) (x1 : S_api_Addr) (r : Int) (hF : crawlwayref10_Common x0 x1 = some r) (w : World) :
    Calls Tryd.prog 25 #[.agg (Cd.cs c_api_Addr x0).toArray, .agg (Cd.cs c_api_Addr x1).toArray] w (fun e w' => e = .returned (.int .i64 r) ∧ Below w.heap.size w w') := by
  unfold crawlwayref10_Common at hF
  refine calls_enter (l := [.agg (Cd.cs c_api_Addr x0).toArray, .agg (Cd.cs c_api_Addr x1).toArray]) Tryd.func25 rfl rfl rfl ?_
  refine at_start ?_
  refine at_weak [(0, _), (1, _)] ⟨rfl, rfl, trivial⟩ ?_
  refine at_seq ?_
  refine at_region ?_
  refine at_box (cs := Cd.cs c_api_Addr x0) rfl rfl rfl ?_
  intro b1
  refine at_box (cs := Cd.cs c_api_Addr x1) rfl rfl rfl ?_
  intro b2
  refine at_val rfl rfl rfl (r_assign rfl) ?_
  refine at_nil ?_
  refine at_weak [(2, _), (3, _)] ⟨rfl, rfl, trivial⟩ ?_
  refine at_then_normal ?_
  refine at_seq ?_
  refine at_seq ?_
  refine at_region ?_
  refine at_val rfl rfl rfl (r_load_aggc (c := c_api_Addr) (z := x0) Tryd.isAgg24 Tryd.sizeOf24 rfl (lens_cell (.s .z) (Lens.whole _ _))) ?_
  obtain ⟨t3, ht3, hF⟩ := of_bindM hF
  refine at_callB Tryd.func26 rfl (by kernel_rfl) rfl rfl (fun w hw => crawlwayref10_Right_ok _ _ ht3 w) ?_
  refine at_val rfl rfl rfl (r_not rfl) ?_
  refine at_val rfl rfl rfl (r_move rfl) ?_
  rcases of_ite hF with ⟨h4, hF⟩ | ⟨h4, hF⟩
  · refine at_fix (g := 10) rfl h4 ?_
    refine at_guard_no rfl rfl rfl rfl rfl ?_
    refine at_guard_no rfl rfl rfl rfl rfl ?_
    refine at_guard_no rfl rfl rfl rfl rfl ?_
    refine at_val rfl rfl rfl (r_pick rfl rfl rfl) ?_
    refine at_val rfl rfl rfl (r_move rfl) ?_
    refine at_guard_no rfl rfl rfl rfl rfl ?_
    refine at_guard_no rfl rfl rfl rfl rfl ?_
    refine at_guard_no rfl rfl rfl rfl rfl ?_
    refine at_guard_no rfl rfl rfl rfl rfl ?_
    refine at_guard_no rfl rfl rfl rfl rfl ?_
    refine at_val rfl rfl rfl (r_pick rfl rfl rfl) ?_
    refine at_nil ?_
    refine at_weak [(2, _), (3, _), (21, _)] ⟨rfl, rfl, rfl, trivial⟩ ?_
    refine at_then_normal ?_
    refine at_cond_true rfl rfl ?_
    refine at_seq ?_
    refine at_region ?_
    refine at_val rfl rfl rfl (r_assign rfl) ?_
    refine at_nil ?_
    refine at_drop (H := _) .z ?_
    refine at_drop (H := _) .z ?_
    refine at_weak [(4, _)] ⟨rfl, trivial⟩ ?_
    refine at_then_normal ?_
    refine at_ret ?_
    refine at_then_ret ?_
    have K := of_some hF
    subst K
    exact at_return1 rfl rfl (fun w1 hw => ⟨rfl, hw.below⟩)
  · refine at_fix (g := 10) rfl h4 ?_
    refine at_guard_yes rfl rfl rfl ?_
    refine at_val rfl rfl rfl (r_load_aggc (c := c_api_Addr) (z := x1) Tryd.isAgg24 Tryd.sizeOf24 rfl (lens_cell .z (Lens.whole _ _))) ?_
    refine at_guard_yes rfl rfl rfl ?_
    obtain ⟨t5, ht5, hF⟩ := of_bindM hF
    refine at_callB Tryd.func26 rfl (by kernel_rfl) rfl rfl (fun w hw => crawlwayref10_Right_ok _ _ ht5 w) ?_
    refine at_guard_yes rfl rfl rfl ?_
    refine at_val rfl rfl rfl (r_not rfl) ?_
    refine at_val rfl rfl rfl (r_pick rfl rfl rfl) ?_
    refine at_val rfl rfl rfl (r_move rfl) ?_
    rcases of_ite hF with ⟨h6, hF⟩ | ⟨h6, hF⟩
    · refine at_fix (g := 15) rfl h6 ?_
      refine at_guard_no rfl rfl rfl rfl rfl ?_
      refine at_guard_no rfl rfl rfl rfl rfl ?_
      refine at_guard_no rfl rfl rfl rfl rfl ?_
      refine at_guard_no rfl rfl rfl rfl rfl ?_
      refine at_guard_no rfl rfl rfl rfl rfl ?_
      refine at_val rfl rfl rfl (r_pick rfl rfl rfl) ?_
      refine at_nil ?_
      refine at_weak [(2, _), (3, _), (21, _)] ⟨rfl, rfl, rfl, trivial⟩ ?_
      refine at_then_normal ?_
      refine at_cond_true rfl rfl ?_
      refine at_seq ?_
      refine at_region ?_
      refine at_val rfl rfl rfl (r_assign rfl) ?_
      refine at_nil ?_
      refine at_drop (H := _) .z ?_
      refine at_drop (H := _) .z ?_
      refine at_weak [(4, _)] ⟨rfl, trivial⟩ ?_
      refine at_then_normal ?_
      refine at_ret ?_
      refine at_then_ret ?_
      have K := of_some hF
      subst K
      exact at_return1 rfl rfl (fun w1 hw => ⟨rfl, hw.below⟩)
    · refine at_fix (g := 15) rfl h6 ?_
      refine at_guard_yes rfl rfl rfl ?_
      refine at_val rfl rfl rfl (r_fieldAddr (fo := 0) Tryd.underlying24 rfl rfl (fun w => ⟨_, Tryd.sizeOf3 w⟩) rfl) ?_
      refine at_guard_yes rfl rfl rfl ?_
      refine at_val rfl rfl rfl (r_load_cell Tryd.isAgg3 rfl (lens_cell0 (c := (cInt .i64)) (y := x0.f_V) (.s .z) (Lens.comp (Lens.whole _ _) (fun z => { x0 with f_V := z }) (c_api_Addr_f_V x0)) rfl)) ?_
      refine at_guard_yes rfl rfl rfl ?_
      refine at_val rfl rfl rfl (r_fieldAddr (fo := 0) Tryd.underlying24 rfl rfl (fun w => ⟨_, Tryd.sizeOf3 w⟩) rfl) ?_
      refine at_guard_yes rfl rfl rfl ?_
      refine at_val rfl rfl rfl (r_load_cell Tryd.isAgg3 rfl (lens_cell0 (c := (cInt .i64)) (y := x1.f_V) .z (Lens.comp (Lens.whole _ _) (fun z => { x1 with f_V := z }) (c_api_Addr_f_V x1)) rfl)) ?_
      refine at_guard_yes rfl rfl rfl ?_
      refine at_val rfl rfl rfl (r_ineq rfl rfl) ?_
      refine at_val rfl rfl rfl (r_pick rfl rfl rfl) ?_
      refine at_nil ?_
      refine at_weak [(2, _), (3, _), (21, _)] ⟨rfl, rfl, rfl, trivial⟩ ?_
      refine at_then_normal ?_
      rcases of_ite hF with ⟨h7, hF⟩ | ⟨h7, hF⟩
      · refine at_cond_true rfl h7 ?_
        refine at_seq ?_
        refine at_region ?_
        refine at_val rfl rfl rfl (r_assign rfl) ?_
        refine at_nil ?_
        refine at_drop (H := _) .z ?_
        refine at_drop (H := _) .z ?_
        refine at_weak [(4, _)] ⟨rfl, trivial⟩ ?_
        refine at_then_normal ?_
        refine at_ret ?_
        refine at_then_ret ?_
        have K := of_some hF
        subst K
        exact at_return1 rfl rfl (fun w1 hw => ⟨rfl, hw.below⟩)
      · refine at_cond_false rfl h7 ?_
        refine at_skip ?_
        refine at_then_normal ?_
        refine at_seq ?_
        refine at_region ?_
        refine at_val rfl rfl rfl (r_assign rfl) ?_
        refine at_nil ?_
        refine at_weak [(2, _), (3, _), (5, _)] ⟨rfl, rfl, rfl, trivial⟩ ?_
        refine at_then_normal ?_
        refine at_seq ?_
        refine at_region ?_
        refine at_val rfl rfl rfl (r_load_aggc (c := c_api_Addr) (z := x0) Tryd.isAgg24 Tryd.sizeOf24 rfl (lens_cell (.s .z) (Lens.whole _ _))) ?_
        obtain ⟨t8, ht8, hF⟩ := of_bindM hF
        refine at_callB Tryd.func29 rfl (by kernel_rfl) rfl rfl (fun w hw => crawlwayref10_Width_ok _ _ ht8 w) ?_
        refine at_val rfl rfl rfl (r_assign rfl) ?_
        refine at_nil ?_
        refine at_weak [(2, _), (3, _), (5, _), (6, _)] ⟨rfl, rfl, rfl, rfl, trivial⟩ ?_
        refine at_then_normal ?_
        refine at_seq ?_
        refine at_block ?_
        obtain ⟨q9, hq9, hF⟩ := of_bindM hF
        refine at_weak [(2, _), (3, _), (5, _), (6, _)] ⟨rfl, rfl, rfl, rfl, trivial⟩ ?_
        refine at_loop_n (B := 0) (A := fun Y => At 39 [(5, .int .i64 q9)] (Wd w []) Y) ?_ ?_
        · intro K
          refine crawlwayref10_Common.l0.partial_correctness x0 x1 t8 (motive := fun i10 x => KN (fun Y => At 39 [(5, .int .i64 x)] (Wd w []) Y) _ 0 → Round (fun Y => At 39 [(2, .pointer (some ⟨b1, 0, none⟩)), (3, .pointer (some ⟨b2, 0, none⟩)), (5, .int .i64 i10), (6, .int .i64 t8)] (Wd w [cellsE b2 (Cd.cs c_api_Addr x1) 24, cellsE b1 (Cd.cs c_api_Addr x0) 24]) Y) _ _ _) ?_ _ _ hq9 K
          · clear K hF
            intro g ih i10 x hF K
            refine at_round ?_
            refine at_seq ?_
            refine at_seq ?_
            refine at_draw (by kernel_rfl) (by kernel_rfl) (fun _ h => h.drew) ?_
            refine atq_val rfl rfl rfl (r_move rfl) ?_
            refine atq_val rfl rfl rfl (r_move rfl) ?_
            refine atq_val rfl rfl rfl (r_ilss rfl rfl) ?_
            refine atq_val rfl rfl rfl (r_move rfl) ?_
            rcases of_ite hF with ⟨h11, hF⟩ | ⟨h11, hF⟩
            · refine atq_fix (g := 27) rfl h11 ?_
              refine atq_guard_yes rfl rfl rfl ?_
              refine atq_val rfl rfl rfl (r_load_aggc (c := c_api_Addr) (z := x0) Tryd.isAgg24 Tryd.sizeOf24 rfl (lens_cell (.s .z) (Lens.whole _ _))) ?_
              refine atq_guard_yes rfl rfl rfl ?_
              refine atq_val rfl rfl rfl (r_move rfl) ?_
              refine atq_guard_yes rfl rfl rfl ?_
              obtain ⟨t12, ht12, hF⟩ := of_bindM hF
              refine atq_call Tryd.func64 rfl (by kernel_rfl) rfl rfl (fun w hw => (crawlwayref10_digit_ok _ _ _ ht12 w).mono fun _ _ h => ⟨h.1, hw.call h.2⟩) ?_
              refine atq_guard_yes rfl rfl rfl ?_
              refine atq_val rfl rfl rfl (r_load_aggc (c := c_api_Addr) (z := x1) Tryd.isAgg24 Tryd.sizeOf24 rfl (lens_cell .z (Lens.whole _ _))) ?_
              refine atq_guard_yes rfl rfl rfl ?_
              refine atq_val rfl rfl rfl (r_move rfl) ?_
              refine atq_guard_yes rfl rfl rfl ?_
              obtain ⟨t13, ht13, hF⟩ := of_bindM hF
              refine atq_call Tryd.func64 rfl (by kernel_rfl) rfl rfl (fun w hw => (crawlwayref10_digit_ok _ _ _ ht13 w).mono fun _ _ h => ⟨h.1, hw.call h.2⟩) ?_
              refine atq_guard_yes rfl rfl rfl ?_
              refine atq_val rfl rfl rfl (r_ieql rfl rfl) ?_
              refine atq_val rfl rfl rfl (r_pick rfl rfl rfl) ?_
              refine atq_nil ?_
              refine at_weak [(2, _), (3, _), (5, _), (6, _), (35, _)] ⟨rfl, rfl, rfl, rfl, rfl, trivial⟩ ?_
              refine at_then_normal ?_
              rcases of_ite hF with ⟨h14, hF⟩ | ⟨h14, hF⟩
              · refine at_cond_true rfl h14 ?_
                refine at_skip ?_
                refine at_then_normal ?_
                refine at_block ?_
                refine at_region ?_
                refine at_val rfl rfl rfl (r_move rfl) ?_
                refine at_val rfl rfl rfl (r_iadd rfl rfl) ?_
                refine at_val rfl rfl rfl (r_assign rfl) ?_
                refine at_nil ?_
                refine at_weak [(2, _), (3, _), (5, _), (6, _)] ⟨rfl, rfl, rfl, rfl, trivial⟩ ?_
                refine at_blk_normal (at_then_normal ?_)
                exact at_weak_k (ih _ _ hF K) ⟨rfl, rfl, rfl, rfl, trivial⟩
              · refine at_cond_false rfl h14 ?_
                refine at_exit ?_
                refine at_then_exit (at_then_exit ?_)
                refine at_drop (H := _) .z ?_
                refine at_drop (H := _) .z ?_
                obtain rfl := of_some hF
                exact at_weak_k K ⟨rfl, trivial⟩
            · refine atq_fix (g := 27) rfl h11 ?_
              refine atq_guard_no rfl rfl rfl rfl rfl ?_
              refine atq_guard_no rfl rfl rfl rfl rfl ?_
              refine atq_guard_no rfl rfl rfl rfl rfl ?_
              refine atq_guard_no rfl rfl rfl rfl rfl ?_
              refine atq_guard_no rfl rfl rfl rfl rfl ?_
              refine atq_guard_no rfl rfl rfl rfl rfl ?_
              refine atq_guard_no rfl rfl rfl rfl rfl ?_
              refine atq_val rfl rfl rfl (r_pick rfl rfl rfl) ?_
              refine atq_nil ?_
              refine at_weak [(2, _), (3, _), (5, _), (6, _), (35, _)] ⟨rfl, rfl, rfl, rfl, rfl, trivial⟩ ?_
              refine at_then_normal ?_
              refine at_cond_false rfl rfl ?_
              refine at_exit ?_
              refine at_then_exit (at_then_exit ?_)
              refine at_drop (H := _) .z ?_
              refine at_drop (H := _) .z ?_
              obtain rfl := of_some hF
              exact at_weak_k K ⟨rfl, trivial⟩
        · skip
          skip
          refine at_blk_same ?_
          refine at_then_normal ?_
          refine at_seq ?_
          refine at_region ?_
          refine at_val rfl rfl rfl (r_move rfl) ?_
          refine at_val rfl rfl rfl (r_assign rfl) ?_
          refine at_nil ?_
          refine at_weak [(4, _)] ⟨rfl, trivial⟩ ?_
          refine at_then_normal ?_
          refine at_ret ?_
          have K := of_some hF
          subst K
          exact at_return1 rfl rfl (fun w1 hw => ⟨rfl, hw.below⟩)

def bytes_Compare (x0 : List Int) (x1 : List Int) : Option (Int) :=
  some (Lib.compareBytes (unb x0) (unb x1))
theorem bytes_Compare_ok (x0 : List Int) (p0_ : Option Addr) (c0_ : Nat) (x1 : List Int) (p1_ : Option Addr) (c1_ : Nat) (r : Int) (hF : bytes_Compare x0 x1 = some r) (w : World) (hr0 : Row (cInt .u8) w p0_ c0_ x0) (hr1 : Row (cInt .u8) w p1_ c1_ x1) :
    Calls Tryd.prog 66 #[.slice p0_ x0.length c0_, .slice p1_ x1.length c1_] w (fun e w' => e = .returned (.int .i64 r) ∧ w' = w) := by
  unfold bytes_Compare at hF
  refine calls_enter (l := [.slice p0_ x0.length c0_, .slice p1_ x1.length c1_]) Tryd.func66 rfl rfl rfl ?_
  refine at_weak [(0, _), (1, _)] ⟨rfl, rfl, trivial⟩ ?_
  refine at_seq ?_
  refine at_region ?_
  refine at_val rfl rfl rfl (r_assign rfl) ?_
  refine at_nil ?_
  refine at_weak [(0, _), (1, _)] ⟨rfl, rfl, trivial⟩ ?_
  refine at_then_normal ?_
  refine at_seq ?_
  refine at_region ?_
  refine at_val rfl rfl rfl (r_move rfl) ?_
  refine at_val rfl rfl rfl (r_move rfl) ?_
  refine at_val rfl rfl rfl (r_cmp (xs := x0) (ys := x1) Tryd.func88 rfl rfl (by kernel_rfl) (by kernel_rfl) rfl rfl (fun w1 hw => (hr0.below (by subst hw; exact Below.refl _ _))) (fun w1 hw => (hr1.below (by subst hw; exact Below.refl _ _)))) ?_
  refine at_val rfl rfl rfl (r_assign rfl) ?_
  refine at_nil ?_
  refine at_weak [(4, _)] ⟨rfl, trivial⟩ ?_
  refine at_then_normal ?_
  refine at_ret ?_
  have K := of_some hF
  subst K
  exact at_return1 rfl rfl (fun w1 hw => ⟨rfl, hw⟩)

def addr_Less (x0 : S_api_Addr) (x1 : S_api_Addr) : Option (Bool) :=
  if (x0.f_V != x1.f_V) = true then (some (decide (x0.f_V < x1.f_V))) else (bytes_Compare (Vector.toList x0.f_B) (Vector.toList x1.f_B) >>= fun t4 => some (decide (t4 < 0)))
theorem addr_Less_ok (x0 : S_api_Addr) (x1 : S_api_Addr) (r : Bool) (hF : addr_Less x0 x1 = some r) (w : World) :
    Calls Tryd.prog 27 #[.agg (Cd.cs c_api_Addr x0).toArray, .agg (Cd.cs c_api_Addr x1).toArray] w (fun e w' => e = .returned (.bool r) ∧ Below w.heap.size w w') := by
  unfold addr_Less at hF
  refine calls_enter (l := [.agg (Cd.cs c_api_Addr x0).toArray, .agg (Cd.cs c_api_Addr x1).toArray]) Tryd.func27 rfl rfl rfl ?_
  refine at_start ?_
  refine at_weak [(0, _), (1, _)] ⟨rfl, rfl, trivial⟩ ?_
  refine at_seq ?_
  refine at_region ?_
  refine at_box (cs := Cd.cs c_api_Addr x0) rfl rfl rfl ?_
  intro b1
  refine at_box (cs := Cd.cs c_api_Addr x1) rfl rfl rfl ?_
  intro b2
  refine at_val rfl rfl rfl (r_assign rfl) ?_
  refine at_nil ?_
  refine at_weak [(2, _), (3, _)] ⟨rfl, rfl, trivial⟩ ?_
  refine at_then_normal ?_
  refine at_seq ?_
  refine at_seq ?_
  refine at_region ?_
  refine at_val rfl rfl rfl (r_fieldAddr (fo := 0) Tryd.underlying24 rfl rfl (fun w => ⟨_, Tryd.sizeOf3 w⟩) rfl) ?_
  refine at_val rfl rfl rfl (r_load_cell Tryd.isAgg3 rfl (lens_cell0 (c := (cInt .i64)) (y := x0.f_V) (.s .z) (Lens.comp (Lens.whole _ _) (fun z => { x0 with f_V := z }) (c_api_Addr_f_V x0)) rfl)) ?_
  refine at_val rfl rfl rfl (r_fieldAddr (fo := 0) Tryd.underlying24 rfl rfl (fun w => ⟨_, Tryd.sizeOf3 w⟩) rfl) ?_
  refine at_val rfl rfl rfl (r_load_cell Tryd.isAgg3 rfl (lens_cell0 (c := (cInt .i64)) (y := x1.f_V) .z (Lens.comp (Lens.whole _ _) (fun z => { x1 with f_V := z }) (c_api_Addr_f_V x1)) rfl)) ?_
  refine at_val rfl rfl rfl (r_ineq rfl rfl) ?_
  refine at_nil ?_
  refine at_weak [(2, _), (3, _), (9, _)] ⟨rfl, rfl, rfl, trivial⟩ ?_
  refine at_then_normal ?_
  rcases of_ite hF with ⟨h3, hF⟩ | ⟨h3, hF⟩
  · refine at_cond_true rfl h3 ?_
    refine at_seq ?_
    refine at_region ?_
    refine at_val rfl rfl rfl (r_fieldAddr (fo := 0) Tryd.underlying24 rfl rfl (fun w => ⟨_, Tryd.sizeOf3 w⟩) rfl) ?_
    refine at_val rfl rfl rfl (r_load_cell Tryd.isAgg3 rfl (lens_cell0 (c := (cInt .i64)) (y := x0.f_V) (.s .z) (Lens.comp (Lens.whole _ _) (fun z => { x0 with f_V := z }) (c_api_Addr_f_V x0)) rfl)) ?_
    refine at_val rfl rfl rfl (r_fieldAddr (fo := 0) Tryd.underlying24 rfl rfl (fun w => ⟨_, Tryd.sizeOf3 w⟩) rfl) ?_
    refine at_val rfl rfl rfl (r_load_cell Tryd.isAgg3 rfl (lens_cell0 (c := (cInt .i64)) (y := x1.f_V) .z (Lens.comp (Lens.whole _ _) (fun z => { x1 with f_V := z }) (c_api_Addr_f_V x1)) rfl)) ?_
    refine at_val rfl rfl rfl (r_ilss rfl rfl) ?_
    refine at_val rfl rfl rfl (r_assign rfl) ?_
    refine at_nil ?_
    refine at_drop (H := _) .z ?_
    refine at_drop (H := _) .z ?_
    refine at_weak [(4, _)] ⟨rfl, trivial⟩ ?_
    refine at_then_normal ?_
    refine at_ret ?_
    refine at_then_ret ?_
    have K := of_some hF
    subst K
    exact at_return1 rfl rfl (fun w1 hw => ⟨rfl, hw.below⟩)
  · refine at_cond_false rfl h3 ?_
    refine at_skip ?_
    refine at_then_normal ?_
    refine at_seq ?_
    refine at_draw (by kernel_rfl) (by kernel_rfl) (fun _ h => h.drew) ?_
    refine atq_val rfl rfl rfl (r_fieldAddr (fo := 1) Tryd.underlying24 rfl rfl (fun w => ⟨_, Tryd.sizeOf22 w⟩) rfl) ?_
    refine atq_val rfl rfl rfl (r_view_all (c := (cInt .u8)) x0.f_B (by decide) Tryd.underlying22 Tryd.sizeOf5 rfl) ?_
    refine atq_val rfl rfl rfl (r_fieldAddr (fo := 1) Tryd.underlying24 rfl rfl (fun w => ⟨_, Tryd.sizeOf22 w⟩) rfl) ?_
    refine atq_val rfl rfl rfl (r_view_all (c := (cInt .u8)) x1.f_B (by decide) Tryd.underlying22 Tryd.sizeOf5 rfl) ?_
    obtain ⟨t4, ht4, hF⟩ := of_bindM hF
    refine atq_call Tryd.func66 rfl (by kernel_rfl) rfl rfl (fun w hw => (bytes_Compare_ok _ _ _ _ _ _ _ ht4 w (lens_row (.s .z) (Lens.comp (Lens.whole _ _) (fun z => { x0 with f_B := z }) (c_api_Addr_f_B x0)) hw) (lens_row .z (Lens.comp (Lens.whole _ _) (fun z => { x1 with f_B := z }) (c_api_Addr_f_B x1)) hw)).mono fun _ _ h => ⟨h.1, h.2 ▸ hw⟩) ?_
    refine atq_val rfl rfl rfl (r_ilss rfl rfl) ?_
    refine atq_val rfl rfl rfl (r_assign rfl) ?_
    refine atq_nil ?_
    refine at_drop (H := _) .z ?_
    refine at_drop (H := _) .z ?_
    refine at_weak [(4, _)] ⟨rfl, trivial⟩ ?_
    refine at_then_normal ?_
    refine at_ret ?_
    have K := of_some hF
    subst K
    exact at_return1 rfl rfl (fun w1 hw => ⟨rfl, hw.below⟩)

def crawlwayref10_Less.l0 (x0 : S_api_Addr) (x1 : S_api_Addr) (i5 : Int) : Option (Ctl (Bool) (Unit)) :=
  if (decide (i5 < 16)) = true then (if (0 : Int) ≤ i5 ∧ i5 < 16 then if (0 : Int) ≤ i5 ∧ i5 < 16 then if (vget x0.f_B i5 != vget x1.f_B i5) = true then (if (0 : Int) ≤ i5 ∧ i5 < 16 then if (0 : Int) ≤ i5 ∧ i5 < 16 then some (.ret (decide (vget x0.f_B i5 < vget x1.f_B i5))) else none else none) else (crawlwayref10_Less.l0 x0 x1 (wr .i64 (i5 + 1))) else none else none) else (some (.nx ()))
  partial_fixpoint
def crawlwayref10_Less (x0 : S_api_Addr) (x1 : S_api_Addr) : Option (Bool) :=
  if (x0.f_V != x1.f_V) = true then (some (decide (x0.f_V < x1.f_V))) else (crawlwayref10_Less.l0 x0 x1 0 >>= fun q4 => match q4 with | .ret r' => some r' | .nx sq4 => (some false))
theorem crawlwayref10_Less_ok (x0 : S_api_Addr) (x1 : S_api_Addr) (r : Bool) (hF : crawlwayref10_Less x0 x1 = some r) (w : World) :
    Calls Tryd.prog 28 #[.agg (Cd.cs c_api_Addr x0).toArray, .agg (Cd.cs c_api_Addr x1).toArray] w (fun e w' => e = .returned (.bool r) ∧ Below w.heap.size w w') := by
  unfold crawlwayref10_Less at hF
  refine calls_enter (l := [.agg (Cd.cs c_api_Addr x0).toArray, .agg (Cd.cs c_api_Addr x1).toArray]) Tryd.func28 rfl rfl rfl ?_
  refine at_start ?_
  refine at_weak [(0, _), (1, _)] ⟨rfl, rfl, trivial⟩ ?_
  refine at_seq ?_
  refine at_region ?_
  refine at_box (cs := Cd.cs c_api_Addr x0) rfl rfl rfl ?_
  intro b1
  refine at_box (cs := Cd.cs c_api_Addr x1) rfl rfl rfl ?_
  intro b2
  refine at_val rfl rfl rfl (r_assign rfl) ?_
  refine at_nil ?_
  refine at_weak [(2, _), (3, _)] ⟨rfl, rfl, trivial⟩ ?_
  refine at_then_normal ?_
  refine at_seq ?_
  refine at_seq ?_
  refine at_region ?_
  refine at_val rfl rfl rfl (r_fieldAddr (fo := 0) Tryd.underlying24 rfl rfl (fun w => ⟨_, Tryd.sizeOf3 w⟩) rfl) ?_
  refine at_val rfl rfl rfl (r_load_cell Tryd.isAgg3 rfl (lens_cell0 (c := (cInt .i64)) (y := x0.f_V) (.s .z) (Lens.comp (Lens.whole _ _) (fun z => { x0 with f_V := z }) (c_api_Addr_f_V x0)) rfl)) ?_
  refine at_val rfl rfl rfl (r_fieldAddr (fo := 0) Tryd.underlying24 rfl rfl (fun w => ⟨_, Tryd.sizeOf3 w⟩) rfl) ?_
  refine at_val rfl rfl rfl (r_load_cell Tryd.isAgg3 rfl (lens_cell0 (c := (cInt .i64)) (y := x1.f_V) .z (Lens.comp (Lens.whole _ _) (fun z => { x1 with f_V := z }) (c_api_Addr_f_V x1)) rfl)) ?_
  refine at_val rfl rfl rfl (r_ineq rfl rfl) ?_
  refine at_nil ?_
  refine at_weak [(2, _), (3, _), (10, _)] ⟨rfl, rfl, rfl, trivial⟩ ?_
  refine at_then_normal ?_
  rcases of_ite hF with ⟨h3, hF⟩ | ⟨h3, hF⟩
  · refine at_cond_true rfl h3 ?_
    refine at_seq ?_
    refine at_region ?_
    refine at_val rfl rfl rfl (r_fieldAddr (fo := 0) Tryd.underlying24 rfl rfl (fun w => ⟨_, Tryd.sizeOf3 w⟩) rfl) ?_
    refine at_val rfl rfl rfl (r_load_cell Tryd.isAgg3 rfl (lens_cell0 (c := (cInt .i64)) (y := x0.f_V) (.s .z) (Lens.comp (Lens.whole _ _) (fun z => { x0 with f_V := z }) (c_api_Addr_f_V x0)) rfl)) ?_
    refine at_val rfl rfl rfl (r_fieldAddr (fo := 0) Tryd.underlying24 rfl rfl (fun w => ⟨_, Tryd.sizeOf3 w⟩) rfl) ?_
    refine at_val rfl rfl rfl (r_load_cell Tryd.isAgg3 rfl (lens_cell0 (c := (cInt .i64)) (y := x1.f_V) .z (Lens.comp (Lens.whole _ _) (fun z => { x1 with f_V := z }) (c_api_Addr_f_V x1)) rfl)) ?_
    refine at_val rfl rfl rfl (r_ilss rfl rfl) ?_
    refine at_val rfl rfl rfl (r_assign rfl) ?_
    refine at_nil ?_
    refine at_drop (H := _) .z ?_
    refine at_drop (H := _) .z ?_
    refine at_weak [(4, _)] ⟨rfl, trivial⟩ ?_
    refine at_then_normal ?_
    refine at_ret ?_
    refine at_then_ret ?_
    have K := of_some hF
    subst K
    exact at_return1 rfl rfl (fun w1 hw => ⟨rfl, hw.below⟩)
  · refine at_cond_false rfl h3 ?_
    refine at_skip ?_
    refine at_then_normal ?_
    refine at_seq ?_
    refine at_seq ?_
    refine at_region ?_
    refine at_val rfl rfl rfl (r_assign rfl) ?_
    refine at_nil ?_
    refine at_weak [(2, _), (3, _), (5, _)] ⟨rfl, rfl, rfl, trivial⟩ ?_
    refine at_then_normal ?_
    refine at_block ?_
    obtain ⟨q4, hq4, hF⟩ := of_bindM hF
    refine at_weak [(2, _), (3, _), (5, _)] ⟨rfl, rfl, rfl, trivial⟩ ?_
    refine at_loop_r (B := 0) (r := r) (q := q4) (A := fun (_ : Unit) Y => At 38 [] (Wd w []) Y) ?_ ?_
    · intro K
      refine crawlwayref10_Less.l0.partial_correctness x0 x1 (motive := fun i5 x => KR (fun (_ : Unit) Y => At 38 [] (Wd w []) Y) _ 0 r x → Round (fun Y => At 38 [(2, .pointer (some ⟨b1, 0, none⟩)), (3, .pointer (some ⟨b2, 0, none⟩)), (5, .int .i64 i5)] (Wd w [cellsE b2 (Cd.cs c_api_Addr x1) 24, cellsE b1 (Cd.cs c_api_Addr x0) 24]) Y) _ _ _) ?_ _ _ hq4 K
      · clear K hF
        intro g ih i5 x hF K
        refine at_round ?_
        refine at_seq ?_
        refine at_seq ?_
        refine at_region ?_
        refine at_val rfl rfl rfl (r_move rfl) ?_
        refine at_val rfl rfl rfl (r_ilss rfl rfl) ?_
        refine at_nil ?_
        refine at_weak [(2, _), (3, _), (5, _), (17, _)] ⟨rfl, rfl, rfl, rfl, trivial⟩ ?_
        refine at_then_normal ?_
        rcases of_ite hF with ⟨h6, hF⟩ | ⟨h6, hF⟩
        · refine at_cond_true rfl h6 ?_
          refine at_skip ?_
          refine at_then_normal ?_
          refine at_seq ?_
          refine at_block ?_
          refine at_seq ?_
          refine at_draw (by kernel_rfl) (by kernel_rfl) (fun _ h => h.drew) ?_
          refine atq_val rfl rfl rfl (r_move rfl) ?_
          refine atq_val rfl rfl rfl (r_fieldAddr (fo := 1) Tryd.underlying24 rfl rfl (fun w => ⟨_, Tryd.sizeOf22 w⟩) rfl) ?_
          obtain ⟨h7, hF⟩ := of_guard hF
          refine atq_val rfl rfl rfl (r_idxArr Tryd.underlying22 Tryd.sizeOf5 rfl rfl h7) ?_
          refine atq_val rfl rfl rfl (r_load_cell Tryd.isAgg5 rfl (lens_cell0 (c := (cInt .u8)) (y := vget x0.f_B i5) (.s .z) (Lens.comp (Lens.comp (Lens.whole _ _) (fun z => { x0 with f_B := z }) (c_api_Addr_f_B x0)) (fun z => vset x0.f_B i5 z) (Lens.vec (cInt .u8) (by decide) x0.f_B i5 h7)) rfl)) ?_
          refine atq_val rfl rfl rfl (r_move rfl) ?_
          refine atq_val rfl rfl rfl (r_fieldAddr (fo := 1) Tryd.underlying24 rfl rfl (fun w => ⟨_, Tryd.sizeOf22 w⟩) rfl) ?_
          obtain ⟨h8, hF⟩ := of_guard hF
          refine atq_val rfl rfl rfl (r_idxArr Tryd.underlying22 Tryd.sizeOf5 rfl rfl h8) ?_
          refine atq_val rfl rfl rfl (r_load_cell Tryd.isAgg5 rfl (lens_cell0 (c := (cInt .u8)) (y := vget x1.f_B i5) .z (Lens.comp (Lens.comp (Lens.whole _ _) (fun z => { x1 with f_B := z }) (c_api_Addr_f_B x1)) (fun z => vset x1.f_B i5 z) (Lens.vec (cInt .u8) (by decide) x1.f_B i5 h8)) rfl)) ?_
          refine atq_val rfl rfl rfl (r_ineq rfl rfl) ?_
          refine atq_nil ?_
          refine at_weak [(2, _), (3, _), (5, _), (28, _)] ⟨rfl, rfl, rfl, rfl, trivial⟩ ?_
          refine at_then_normal ?_
          rcases of_ite hF with ⟨h9, hF⟩ | ⟨h9, hF⟩
          · refine at_cond_true rfl h9 ?_
            refine at_seq ?_
            refine at_draw (by kernel_rfl) (by kernel_rfl) (fun _ h => h.drew) ?_
            refine atq_val rfl rfl rfl (r_move rfl) ?_
            refine atq_val rfl rfl rfl (r_fieldAddr (fo := 1) Tryd.underlying24 rfl rfl (fun w => ⟨_, Tryd.sizeOf22 w⟩) rfl) ?_
            obtain ⟨h10, hF⟩ := of_guard hF
            refine atq_val rfl rfl rfl (r_idxArr Tryd.underlying22 Tryd.sizeOf5 rfl rfl h10) ?_
            refine atq_val rfl rfl rfl (r_load_cell Tryd.isAgg5 rfl (lens_cell0 (c := (cInt .u8)) (y := vget x0.f_B i5) (.s .z) (Lens.comp (Lens.comp (Lens.whole _ _) (fun z => { x0 with f_B := z }) (c_api_Addr_f_B x0)) (fun z => vset x0.f_B i5 z) (Lens.vec (cInt .u8) (by decide) x0.f_B i5 h10)) rfl)) ?_
            refine atq_val rfl rfl rfl (r_move rfl) ?_
            refine atq_val rfl rfl rfl (r_fieldAddr (fo := 1) Tryd.underlying24 rfl rfl (fun w => ⟨_, Tryd.sizeOf22 w⟩) rfl) ?_
            obtain ⟨h11, hF⟩ := of_guard hF
            refine atq_val rfl rfl rfl (r_idxArr Tryd.underlying22 Tryd.sizeOf5 rfl rfl h11) ?_
            refine atq_val rfl rfl rfl (r_load_cell Tryd.isAgg5 rfl (lens_cell0 (c := (cInt .u8)) (y := vget x1.f_B i5) .z (Lens.comp (Lens.comp (Lens.whole _ _) (fun z => { x1 with f_B := z }) (c_api_Addr_f_B x1)) (fun z => vset x1.f_B i5 z) (Lens.vec (cInt .u8) (by decide) x1.f_B i5 h11)) rfl)) ?_
            refine atq_val rfl rfl rfl (r_ilss rfl rfl) ?_
            refine atq_val rfl rfl rfl (r_assign rfl) ?_
            refine atq_nil ?_
            refine at_drop (H := _) .z ?_
            refine at_drop (H := _) .z ?_
            refine at_weak [(4, _)] ⟨rfl, trivial⟩ ?_
            refine at_then_normal ?_
            refine at_ret ?_
            refine at_blk_ret (at_then_ret (at_then_ret (at_blk_ret (at_then_ret ?_))))
            obtain rfl := of_some hF
            subst K
            exact at_return1 rfl rfl (fun w1 hw => ⟨rfl, hw.below⟩)
          · refine at_cond_false rfl h9 ?_
            refine at_skip ?_
            refine at_blk_normal (at_then_normal ?_)
            refine at_region ?_
            refine at_val rfl rfl rfl (r_move rfl) ?_
            refine at_val rfl rfl rfl (r_iadd rfl rfl) ?_
            refine at_val rfl rfl rfl (r_assign rfl) ?_
            refine at_nil ?_
            refine at_weak [(2, _), (3, _), (5, _)] ⟨rfl, rfl, rfl, trivial⟩ ?_
            refine at_then_normal ?_
            exact at_weak_k (ih _ _ hF K) ⟨rfl, rfl, rfl, trivial⟩
        · refine at_cond_false rfl h6 ?_
          refine at_exit ?_
          refine at_then_exit (at_then_exit ?_)
          refine at_drop (H := _) .z ?_
          refine at_drop (H := _) .z ?_
          obtain rfl := of_some hF
          exact at_weak_k K trivial
    · cases q4 with
      | ret r' => exact of_some hF
      | nx sq4 =>
        skip
        refine at_blk_same ?_
        refine at_then_normal ?_
        refine at_seq ?_
        refine at_region ?_
        refine at_val rfl rfl rfl (r_assign rfl) ?_
        refine at_nil ?_
        refine at_weak [(4, _)] ⟨rfl, trivial⟩ ?_
        refine at_then_normal ?_
        refine at_ret ?_
        have K := of_some hF
        subst K
        exact at_return1 rfl rfl (fun w1 hw => ⟨rfl, hw.below⟩)

def addr_Unspecified (x0 : S_api_Addr) : Option (Bool) :=
  addr_Right x0 >>= fun t2 => if t2 = true then (some (decide (x0.f_B = (Vector.replicate 16 (0 : Int) : (Vector Int 16))))) else (some false)
theorem addr_Unspecified_ok (x0 : S_api_Addr) (r : Bool) (hF : addr_Unspecified x0 = some r) (w : World) :
    Calls Tryd.prog 20 #[.agg (Cd.cs c_api_Addr x0).toArray] w (fun e w' => e = .returned (.bool r) ∧ Below w.heap.size w w') := by
  unfold addr_Unspecified at hF
  refine calls_enter (l := [.agg (Cd.cs c_api_Addr x0).toArray]) Tryd.func20 rfl rfl rfl ?_
  refine at_start ?_
  refine at_weak [(0, _)] ⟨rfl, trivial⟩ ?_
  refine at_seq ?_
  refine at_region ?_
  refine at_box (cs := Cd.cs c_api_Addr x0) rfl rfl rfl ?_
  intro b1
  refine at_val rfl rfl rfl (r_assign rfl) ?_
  refine at_nil ?_
  refine at_weak [(1, _)] ⟨rfl, trivial⟩ ?_
  refine at_then_normal ?_
  refine at_seq ?_
  refine at_region ?_
  refine at_val rfl rfl rfl (r_load_aggc (c := c_api_Addr) (z := x0) Tryd.isAgg24 Tryd.sizeOf24 rfl (lens_cell .z (Lens.whole _ _))) ?_
  obtain ⟨t2, ht2, hF⟩ := of_bindM hF
  refine at_callB Tryd.func36 rfl (by kernel_rfl) rfl rfl (fun w hw => addr_Right_ok _ _ ht2 w) ?_
  refine at_val rfl rfl rfl (r_move rfl) ?_
  rcases of_ite hF with ⟨h3, hF⟩ | ⟨h3, hF⟩
  · refine at_fix (g := 5) rfl h3 ?_
    refine at_guard_yes rfl rfl rfl ?_
    refine at_val rfl rfl rfl (r_fieldAddr (fo := 1) Tryd.underlying24 rfl rfl (fun w => ⟨_, Tryd.sizeOf22 w⟩) rfl) ?_
    refine at_guard_yes rfl rfl rfl ?_
    refine at_val rfl rfl rfl (r_load_aggc (c := (cVec (cInt .u8) 16 (by decide))) (z := x0.f_B) Tryd.isAgg22 Tryd.sizeOf22 rfl (lens_cell .z (Lens.comp (Lens.whole _ _) (fun z => { x0 with f_B := z }) (c_api_Addr_f_B x0)))) ?_
    refine at_guard_yes rfl rfl rfl ?_
    refine at_val rfl rfl rfl (r_build_array (zs := Cd.cs (cVec (cInt .u8) 16 (by decide)) (Vector.replicate 16 (0 : Int) : (Vector Int 16))) (cs := Cd.cs (cVec (cInt .u8) 16 (by decide)) (Vector.replicate 16 (0 : Int) : (Vector Int 16))) Tryd.underlying22 Tryd.zeroValue22 rfl Tryd.sizeOf5 rfl rfl) ?_
    refine at_guard_yes rfl rfl rfl ?_
    refine at_val rfl rfl rfl (r_eqagg (c := (cVec (cInt .u8) 16 (by decide))) (a := x0.f_B) (b := (Vector.replicate 16 (0 : Int) : (Vector Int 16))) (eqs_vec Tryd.underlying22 infoT5 Tryd.sizeOf5 Tryd.isAgg5 (.inr rfl) (eqs_int Tryd.underlying5)) rfl Tryd.eqGuardType22 rfl rfl (.inl rfl) rfl) ?_
    refine at_val rfl rfl rfl (r_pick rfl rfl rfl) ?_
    refine at_val rfl rfl rfl (r_assign rfl) ?_
    refine at_nil ?_
    refine at_drop (H := _) .z ?_
    refine at_weak [(2, _)] ⟨rfl, trivial⟩ ?_
    refine at_then_normal ?_
    refine at_ret ?_
    have K := of_some hF
    subst K
    exact at_return1 rfl rfl (fun w1 hw => ⟨rfl, hw.below⟩)
  · refine at_fix (g := 5) rfl h3 ?_
    refine at_guard_no rfl rfl rfl rfl rfl ?_
    refine at_guard_no rfl rfl rfl rfl rfl ?_
    refine at_guard_no rfl rfl rfl rfl rfl ?_
    refine at_guard_no rfl rfl rfl rfl rfl ?_
    refine at_val rfl rfl rfl (r_pick rfl rfl rfl) ?_
    refine at_val rfl rfl rfl (r_assign rfl) ?_
    refine at_nil ?_
    refine at_drop (H := _) .z ?_
    refine at_weak [(2, _)] ⟨rfl, trivial⟩ ?_
    refine at_then_normal ?_
    refine at_ret ?_
    have K := of_some hF
    subst K
    exact at_return1 rfl rfl (fun w1 hw => ⟨rfl, hw.below⟩)

def crawlwayref10_Unspecified (x0 : S_api_Addr) : Option (Bool) :=
  crawlwayref10_Right x0 >>= fun t2 => if t2 = true then (some (decide (x0.f_B = (Vector.replicate 16 (0 : Int) : (Vector Int 16))))) else (some false)
theorem crawlwayref10_Unspecified_ok (x0 : S_api_Addr) (r : Bool) (hF : crawlwayref10_Unspecified x0 = some r) (w : World) :
    Calls Tryd.prog 21 #[.agg (Cd.cs c_api_Addr x0).toArray] w (fun e w' => e = .returned (.bool r) ∧ Below w.heap.size w w') := by
  unfold crawlwayref10_Unspecified at hF
  refine calls_enter (l := [.agg (Cd.cs c_api_Addr x0).toArray]) Tryd.func21 rfl rfl rfl ?_
  refine at_start ?_
  refine at_weak [(0, _)] ⟨rfl, trivial⟩ ?_
  refine at_seq ?_
  refine at_region ?_
  refine at_box (cs := Cd.cs c_api_Addr x0) rfl rfl rfl ?_
  intro b1
  refine at_val rfl rfl rfl (r_assign rfl) ?_
  refine at_nil ?_
  refine at_weak [(1, _)] ⟨rfl, trivial⟩ ?_
  refine at_then_normal ?_
  refine at_seq ?_
  refine at_region ?_
  refine at_val rfl rfl rfl (r_load_aggc (c := c_api_Addr) (z := x0) Tryd.isAgg24 Tryd.sizeOf24 rfl (lens_cell .z (Lens.whole _ _))) ?_
  obtain ⟨t2, ht2, hF⟩ := of_bindM hF
  refine at_callB Tryd.func26 rfl (by kernel_rfl) rfl rfl (fun w hw => crawlwayref10_Right_ok _ _ ht2 w) ?_
  refine at_val rfl rfl rfl (r_move rfl) ?_
  rcases of_ite hF with ⟨h3, hF⟩ | ⟨h3, hF⟩
  · refine at_fix (g := 5) rfl h3 ?_
    refine at_guard_yes rfl rfl rfl ?_
    refine at_val rfl rfl rfl (r_fieldAddr (fo := 1) Tryd.underlying24 rfl rfl (fun w => ⟨_, Tryd.sizeOf22 w⟩) rfl) ?_
    refine at_guard_yes rfl rfl rfl ?_
    refine at_val rfl rfl rfl (r_load_aggc (c := (cVec (cInt .u8) 16 (by decide))) (z := x0.f_B) Tryd.isAgg22 Tryd.sizeOf22 rfl (lens_cell .z (Lens.comp (Lens.whole _ _) (fun z => { x0 with f_B := z }) (c_api_Addr_f_B x0)))) ?_
    refine at_guard_yes rfl rfl rfl ?_
    refine at_val rfl rfl rfl (r_build_array (zs := Cd.cs (cVec (cInt .u8) 16 (by decide)) (Vector.replicate 16 (0 : Int) : (Vector Int 16))) (cs := Cd.cs (cVec (cInt .u8) 16 (by decide)) (Vector.replicate 16 (0 : Int) : (Vector Int 16))) Tryd.underlying22 Tryd.zeroValue22 rfl Tryd.sizeOf5 rfl rfl) ?_
    refine at_guard_yes rfl rfl rfl ?_
    refine at_val rfl rfl rfl (r_eqagg (c := (cVec (cInt .u8) 16 (by decide))) (a := x0.f_B) (b := (Vector.replicate 16 (0 : Int) : (Vector Int 16))) (eqs_vec Tryd.underlying22 infoT5 Tryd.sizeOf5 Tryd.isAgg5 (.inr rfl) (eqs_int Tryd.underlying5)) rfl Tryd.eqGuardType22 rfl rfl (.inl rfl) rfl) ?_
    refine at_val rfl rfl rfl (r_pick rfl rfl rfl) ?_
    refine at_val rfl rfl rfl (r_assign rfl) ?_
    refine at_nil ?_
    refine at_drop (H := _) .z ?_
    refine at_weak [(2, _)] ⟨rfl, trivial⟩ ?_
    refine at_then_normal ?_
    refine at_ret ?_
    have K := of_some hF
    subst K
    exact at_return1 rfl rfl (fun w1 hw => ⟨rfl, hw.below⟩)
  · refine at_fix (g := 5) rfl h3 ?_
    refine at_guard_no rfl rfl rfl rfl rfl ?_
    refine at_guard_no rfl rfl rfl rfl rfl ?_
    refine at_guard_no rfl rfl rfl rfl rfl ?_
    refine at_guard_no rfl rfl rfl rfl rfl ?_
    refine at_val rfl rfl rfl (r_pick rfl rfl rfl) ?_
    refine at_val rfl rfl rfl (r_assign rfl) ?_
    refine at_nil ?_
    refine at_drop (H := _) .z ?_
    refine at_weak [(2, _)] ⟨rfl, trivial⟩ ?_
    refine at_then_normal ?_
    refine at_ret ?_
    have K := of_some hF
    subst K
    exact at_return1 rfl rfl (fun w1 hw => ⟨rfl, hw.below⟩)

def addr_Multicast (x0 : S_api_Addr) : Option (Bool) :=
  addr_Right x0 >>= fun t2 => if (!t2) = true then (some false) else (if (x0.f_V == 4) = true then (some (ishr .u8 (vget x0.f_B 0) 4 == 14)) else (some (vget x0.f_B 0 == 255)))
theorem addr_Multicast_ok (x0 : S_api_Addr) (r : Bool) (hF : addr_Multicast x0 = some r) (w : World) :
    Calls Tryd.prog 22 #[.agg (Cd.cs c_api_Addr x0).toArray] w (fun e w' => e = .returned (.bool r) ∧ Below w.heap.size w w') := by
  unfold addr_Multicast at hF
  refine calls_enter (l := [.agg (Cd.cs c_api_Addr x0).toArray]) Tryd.func22 rfl rfl rfl ?_
  refine at_start ?_
  refine at_weak [(0, _)] ⟨rfl, trivial⟩ ?_
  refine at_seq ?_
  refine at_region ?_
  refine at_box (cs := Cd.cs c_api_Addr x0) rfl rfl rfl ?_
  intro b1
  refine at_val rfl rfl rfl (r_assign rfl) ?_
  refine at_nil ?_
  refine at_weak [(1, _)] ⟨rfl, trivial⟩ ?_
  refine at_then_normal ?_
  refine at_seq ?_
  refine at_block ?_
  refine at_seq ?_
  refine at_region ?_
  refine at_val rfl rfl rfl (r_load_aggc (c := c_api_Addr) (z := x0) Tryd.isAgg24 Tryd.sizeOf24 rfl (lens_cell .z (Lens.whole _ _))) ?_
  obtain ⟨t2, ht2, hF⟩ := of_bindM hF
  refine at_callB Tryd.func36 rfl (by kernel_rfl) rfl rfl (fun w hw => addr_Right_ok _ _ ht2 w) ?_
  refine at_val rfl rfl rfl (r_not rfl) ?_
  refine at_val rfl rfl rfl (r_assign rfl) ?_
  refine at_nil ?_
  refine at_weak [(1, _), (3, _)] ⟨rfl, rfl, trivial⟩ ?_
  refine at_then_normal ?_
  rcases of_ite hF with ⟨h3, hF⟩ | ⟨h3, hF⟩
  · refine at_cond_true rfl h3 ?_
    refine at_seq ?_
    refine at_region ?_
    refine at_val rfl rfl rfl (r_assign rfl) ?_
    refine at_nil ?_
    refine at_drop (H := _) .z ?_
    refine at_weak [(2, _)] ⟨rfl, trivial⟩ ?_
    refine at_then_normal ?_
    refine at_ret ?_
    refine at_blk_ret (at_then_ret ?_)
    have K := of_some hF
    subst K
    exact at_return1 rfl rfl (fun w1 hw => ⟨rfl, hw.below⟩)
  · refine at_cond_false rfl h3 ?_
    refine at_seq ?_
    refine at_region ?_
    refine at_val rfl rfl rfl (r_fieldAddr (fo := 0) Tryd.underlying24 rfl rfl (fun w => ⟨_, Tryd.sizeOf3 w⟩) rfl) ?_
    refine at_val rfl rfl rfl (r_load_cell Tryd.isAgg3 rfl (lens_cell0 (c := (cInt .i64)) (y := x0.f_V) .z (Lens.comp (Lens.whole _ _) (fun z => { x0 with f_V := z }) (c_api_Addr_f_V x0)) rfl)) ?_
    refine at_val rfl rfl rfl (r_ieql rfl rfl) ?_
    refine at_val rfl rfl rfl (r_assign rfl) ?_
    refine at_nil ?_
    refine at_weak [(1, _), (7, _)] ⟨rfl, rfl, trivial⟩ ?_
    refine at_then_normal ?_
    rcases of_ite hF with ⟨h4, hF⟩ | ⟨h4, hF⟩
    · refine at_cond_true rfl h4 ?_
      refine at_seq ?_
      refine at_region ?_
      refine at_val rfl rfl rfl (r_fieldAddr (fo := 1) Tryd.underlying24 rfl rfl (fun w => ⟨_, Tryd.sizeOf22 w⟩) rfl) ?_
      refine at_val rfl rfl rfl (r_idxArr Tryd.underlying22 Tryd.sizeOf5 rfl rfl (by decide)) ?_
      refine at_val rfl rfl rfl (r_load_cell Tryd.isAgg5 rfl (lens_cell0 (c := (cInt .u8)) (y := vget x0.f_B 0) .z (Lens.comp (Lens.comp (Lens.whole _ _) (fun z => { x0 with f_B := z }) (c_api_Addr_f_B x0)) (fun z => vset x0.f_B 0 z) (Lens.vec (cInt .u8) (by decide) x0.f_B 0 (by decide))) rfl)) ?_
      refine at_val rfl rfl rfl (r_ishr rfl rfl (by decide)) ?_
      refine at_val rfl rfl rfl (r_ieql rfl rfl) ?_
      refine at_val rfl rfl rfl (r_assign rfl) ?_
      refine at_nil ?_
      refine at_drop (H := _) .z ?_
      refine at_weak [(2, _)] ⟨rfl, trivial⟩ ?_
      refine at_then_normal ?_
      refine at_ret ?_
      refine at_blk_ret (at_then_ret ?_)
      have K := of_some hF
      subst K
      exact at_return1 rfl rfl (fun w1 hw => ⟨rfl, hw.below⟩)
    · refine at_cond_false rfl h4 ?_
      refine at_skip ?_
      refine at_blk_normal (at_then_normal ?_)
      refine at_seq ?_
      refine at_region ?_
      refine at_val rfl rfl rfl (r_fieldAddr (fo := 1) Tryd.underlying24 rfl rfl (fun w => ⟨_, Tryd.sizeOf22 w⟩) rfl) ?_
      refine at_val rfl rfl rfl (r_idxArr Tryd.underlying22 Tryd.sizeOf5 rfl rfl (by decide)) ?_
      refine at_val rfl rfl rfl (r_load_cell Tryd.isAgg5 rfl (lens_cell0 (c := (cInt .u8)) (y := vget x0.f_B 0) .z (Lens.comp (Lens.comp (Lens.whole _ _) (fun z => { x0 with f_B := z }) (c_api_Addr_f_B x0)) (fun z => vset x0.f_B 0 z) (Lens.vec (cInt .u8) (by decide) x0.f_B 0 (by decide))) rfl)) ?_
      refine at_val rfl rfl rfl (r_ieql rfl rfl) ?_
      refine at_val rfl rfl rfl (r_assign rfl) ?_
      refine at_nil ?_
      refine at_drop (H := _) .z ?_
      refine at_weak [(2, _)] ⟨rfl, trivial⟩ ?_
      refine at_then_normal ?_
      refine at_ret ?_
      have K := of_some hF
      subst K
      exact at_return1 rfl rfl (fun w1 hw => ⟨rfl, hw.below⟩)

def crawlwayref10_Multicast (x0 : S_api_Addr) : Option (Bool) :=
  if (x0.f_V == 6) = true then (some (vget x0.f_B 0 == 255)) else (crawlwayref10_Right x0 >>= fun t3 => if t3 = true then (if (decide (vget x0.f_B 0 ≥ 224)) = true then (some (decide (vget x0.f_B 0 ≤ 239))) else (some false)) else (some false))
theorem crawlwayref10_Multicast_ok (x0 : S_api_Addr) (r : Bool) (hF : crawlwayref10_Multicast x0 = some r) (w : World) :
    Calls Tryd.prog 23 #[.agg (Cd.cs c_api_Addr x0).toArray] w (fun e w' => e = .returned (.bool r) ∧ Below w.heap.size w w') := by
  unfold crawlwayref10_Multicast at hF
  refine calls_enter (l := [.agg (Cd.cs c_api_Addr x0).toArray]) Tryd.func23 rfl rfl rfl ?_
  refine at_start ?_
  refine at_weak [(0, _)] ⟨rfl, trivial⟩ ?_
  refine at_seq ?_
  refine at_region ?_
  refine at_box (cs := Cd.cs c_api_Addr x0) rfl rfl rfl ?_
  intro b1
  refine at_val rfl rfl rfl (r_assign rfl) ?_
  refine at_nil ?_
  refine at_weak [(1, _)] ⟨rfl, trivial⟩ ?_
  refine at_then_normal ?_
  refine at_seq ?_
  refine at_seq ?_
  refine at_region ?_
  refine at_val rfl rfl rfl (r_fieldAddr (fo := 0) Tryd.underlying24 rfl rfl (fun w => ⟨_, Tryd.sizeOf3 w⟩) rfl) ?_
  refine at_val rfl rfl rfl (r_load_cell Tryd.isAgg3 rfl (lens_cell0 (c := (cInt .i64)) (y := x0.f_V) .z (Lens.comp (Lens.whole _ _) (fun z => { x0 with f_V := z }) (c_api_Addr_f_V x0)) rfl)) ?_
  refine at_val rfl rfl rfl (r_ieql rfl rfl) ?_
  refine at_nil ?_
  refine at_weak [(1, _), (5, _)] ⟨rfl, rfl, trivial⟩ ?_
  refine at_then_normal ?_
  rcases of_ite hF with ⟨h2, hF⟩ | ⟨h2, hF⟩
  · refine at_cond_true rfl h2 ?_
    refine at_seq ?_
    refine at_region ?_
    refine at_val rfl rfl rfl (r_fieldAddr (fo := 1) Tryd.underlying24 rfl rfl (fun w => ⟨_, Tryd.sizeOf22 w⟩) rfl) ?_
    refine at_val rfl rfl rfl (r_idxArr Tryd.underlying22 Tryd.sizeOf5 rfl rfl (by decide)) ?_
    refine at_val rfl rfl rfl (r_load_cell Tryd.isAgg5 rfl (lens_cell0 (c := (cInt .u8)) (y := vget x0.f_B 0) .z (Lens.comp (Lens.comp (Lens.whole _ _) (fun z => { x0 with f_B := z }) (c_api_Addr_f_B x0)) (fun z => vset x0.f_B 0 z) (Lens.vec (cInt .u8) (by decide) x0.f_B 0 (by decide))) rfl)) ?_
    refine at_val rfl rfl rfl (r_ieql rfl rfl) ?_
    refine at_val rfl rfl rfl (r_assign rfl) ?_
    refine at_nil ?_
    refine at_drop (H := _) .z ?_
    refine at_weak [(2, _)] ⟨rfl, trivial⟩ ?_
    refine at_then_normal ?_
    refine at_ret ?_
    refine at_then_ret ?_
    have K := of_some hF
    subst K
    exact at_return1 rfl rfl (fun w1 hw => ⟨rfl, hw.below⟩)
  · refine at_cond_false rfl h2 ?_
    refine at_skip ?_
    refine at_then_normal ?_
    refine at_seq ?_
    refine at_region ?_
    refine at_val rfl rfl rfl (r_load_aggc (c := c_api_Addr) (z := x0) Tryd.isAgg24 Tryd.sizeOf24 rfl (lens_cell .z (Lens.whole _ _))) ?_
    obtain ⟨t3, ht3, hF⟩ := of_bindM hF
    refine at_callB Tryd.func26 rfl (by kernel_rfl) rfl rfl (fun w hw => crawlwayref10_Right_ok _ _ ht3 w) ?_
    refine at_val rfl rfl rfl (r_move rfl) ?_
    rcases of_ite hF with ⟨h4, hF⟩ | ⟨h4, hF⟩
    · refine at_fix (g := 12) rfl h4 ?_
      refine at_guard_yes rfl rfl rfl ?_
      refine at_val rfl rfl rfl (r_fieldAddr (fo := 1) Tryd.underlying24 rfl rfl (fun w => ⟨_, Tryd.sizeOf22 w⟩) rfl) ?_
      refine at_guard_yes rfl rfl rfl ?_
      refine at_val rfl rfl rfl (r_idxArr Tryd.underlying22 Tryd.sizeOf5 rfl rfl (by decide)) ?_
      refine at_guard_yes rfl rfl rfl ?_
      refine at_val rfl rfl rfl (r_load_cell Tryd.isAgg5 rfl (lens_cell0 (c := (cInt .u8)) (y := vget x0.f_B 0) .z (Lens.comp (Lens.comp (Lens.whole _ _) (fun z => { x0 with f_B := z }) (c_api_Addr_f_B x0)) (fun z => vset x0.f_B 0 z) (Lens.vec (cInt .u8) (by decide) x0.f_B 0 (by decide))) rfl)) ?_
      refine at_guard_yes rfl rfl rfl ?_
      refine at_val rfl rfl rfl (r_igeq rfl rfl) ?_
      refine at_val rfl rfl rfl (r_pick rfl rfl rfl) ?_
      refine at_val rfl rfl rfl (r_move rfl) ?_
      rcases of_ite hF with ⟨h5, hF⟩ | ⟨h5, hF⟩
      · refine at_fix (g := 18) rfl h5 ?_
        refine at_guard_yes rfl rfl rfl ?_
        refine at_val rfl rfl rfl (r_fieldAddr (fo := 1) Tryd.underlying24 rfl rfl (fun w => ⟨_, Tryd.sizeOf22 w⟩) rfl) ?_
        refine at_guard_yes rfl rfl rfl ?_
        refine at_val rfl rfl rfl (r_idxArr Tryd.underlying22 Tryd.sizeOf5 rfl rfl (by decide)) ?_
        refine at_guard_yes rfl rfl rfl ?_
        refine at_val rfl rfl rfl (r_load_cell Tryd.isAgg5 rfl (lens_cell0 (c := (cInt .u8)) (y := vget x0.f_B 0) .z (Lens.comp (Lens.comp (Lens.whole _ _) (fun z => { x0 with f_B := z }) (c_api_Addr_f_B x0)) (fun z => vset x0.f_B 0 z) (Lens.vec (cInt .u8) (by decide) x0.f_B 0 (by decide))) rfl)) ?_
        refine at_guard_yes rfl rfl rfl ?_
        refine at_val rfl rfl rfl (r_ileq rfl rfl) ?_
        refine at_val rfl rfl rfl (r_pick rfl rfl rfl) ?_
        refine at_val rfl rfl rfl (r_assign rfl) ?_
        refine at_nil ?_
        refine at_drop (H := _) .z ?_
        refine at_weak [(2, _)] ⟨rfl, trivial⟩ ?_
        refine at_then_normal ?_
        refine at_ret ?_
        have K := of_some hF
        subst K
        exact at_return1 rfl rfl (fun w1 hw => ⟨rfl, hw.below⟩)
      · refine at_fix (g := 18) rfl h5 ?_
        refine at_guard_no rfl rfl rfl rfl rfl ?_
        refine at_guard_no rfl rfl rfl rfl rfl ?_
        refine at_guard_no rfl rfl rfl rfl rfl ?_
        refine at_guard_no rfl rfl rfl rfl rfl ?_
        refine at_val rfl rfl rfl (r_pick rfl rfl rfl) ?_
        refine at_val rfl rfl rfl (r_assign rfl) ?_
        refine at_nil ?_
        refine at_drop (H := _) .z ?_
        refine at_weak [(2, _)] ⟨rfl, trivial⟩ ?_
        refine at_then_normal ?_
        refine at_ret ?_
        have K := of_some hF
        subst K
        exact at_return1 rfl rfl (fun w1 hw => ⟨rfl, hw.below⟩)
    · refine at_fix (g := 12) rfl h4 ?_
      refine at_guard_no rfl rfl rfl rfl rfl ?_
      refine at_guard_no rfl rfl rfl rfl rfl ?_
      refine at_guard_no rfl rfl rfl rfl rfl ?_
      refine at_guard_no rfl rfl rfl rfl rfl ?_
      refine at_val rfl rfl rfl (r_pick rfl rfl rfl) ?_
      refine at_val rfl rfl rfl (r_move rfl) ?_
      refine at_guard_no rfl rfl rfl rfl rfl ?_
      refine at_guard_no rfl rfl rfl rfl rfl ?_
      refine at_guard_no rfl rfl rfl rfl rfl ?_
      refine at_guard_no rfl rfl rfl rfl rfl ?_
      refine at_val rfl rfl rfl (r_pick rfl rfl rfl) ?_
      refine at_val rfl rfl rfl (r_assign rfl) ?_
      refine at_nil ?_
      refine at_drop (H := _) .z ?_
      refine at_weak [(2, _)] ⟨rfl, trivial⟩ ?_
      refine at_then_normal ?_
      refine at_ret ?_
      have K := of_some hF
      subst K
      exact at_return1 rfl rfl (fun w1 hw => ⟨rfl, hw.below⟩)
end Go.Proofs.YtecolkjlpklaaaaDoor
