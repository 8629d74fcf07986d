/- Functions with the same answers as the Go functions that they are named for, and the proofs of it, by a program of this project (gen.py). -/
import Derived.Test.YthccncpephpdjaaT
import Derived.Test.YthccncpephpdjaaShelf
import Derived.Test.YthccncpephpdjaaW
import Derived.Test.YthccncpephpdjaaL
import Derived.Test.YthccncpephpdjaaR
import Derived.Test.YthccncpephpdjaaN
import Derived.Test.YthccncpephpdjaaLit
import Derived.Test.YthccncpephpdjaaInl
import Derived.Test.YthccncpephpdjaaHp
import Derived.Test.YthccncpephpdjaaProg

set_option linter.unusedVariables false
set_option linter.unusedSimpArgs false
namespace Go.Proofs.Ythccncpephpdjaa
open E Go.RowKit

theorem infoU152_is : (Try.prog.info? 52).isSome = true := by kernel_rfl
noncomputable def infoU152_v : TypeInfo := (Try.prog.info? 52).get infoU152_is
theorem infoU152 : Try.prog.info? 52 = some infoU152_v := (Option.some_get _).symm

def addr_Four (x0 : (Vector Int 4)) : Option (S_api_Addr) :=
  some ({ { ({ f_V := (0 : Int), f_B := (Vector.replicate 16 (0 : Int) : (Vector Int 16)) } : S_api_Addr) with f_V := 4 } with f_B := vcopy (({ ({ f_V := (0 : Int), f_B := (Vector.replicate 16 (0 : Int) : (Vector Int 16)) } : S_api_Addr) with f_V := 4 }).f_B) (Int.toNat 0) (List.take (Int.toNat (16 - 0)) (Vector.toList x0)) })
set_option maxHeartbeats 3200000 in
theorem addr_Four_ok (x0 : (Vector Int 4)) (r : S_api_Addr) (hF : addr_Four x0 = some r) (w : World) :
    Calls Try.prog 91 #[.agg (Cd.cs (cVec (cInt .u8) 4 (by decide)) x0).toArray] w (fun e w' => e = .returned (.agg (Cd.cs c_api_Addr r).toArray) ∧ Below w.heap.size w w') := by
  unfold addr_Four at hF
  refine calls_enter (l := [.agg (Cd.cs (cVec (cInt .u8) 4 (by decide)) x0).toArray]) Try.func91 rfl rfl rfl ?_
  refine at_start ?_
  refine at_weak [(0, _)] ⟨rfl, trivial⟩ ?_
  refine at_seq ?_
  refine at_region ?_
  refine at_box (cs := Cd.cs (cVec (cInt .u8) 4 (by decide)) x0) rfl rfl rfl ?_
  intro b1
  refine at_alloc (cs := Cd.cs c_api_Addr ({ f_V := (0 : Int), f_B := (Vector.replicate 16 (0 : Int) : (Vector Int 16)) } : S_api_Addr)) Try.zeroValue32 rfl rfl ?_
  intro b2
  refine at_nil ?_
  refine at_weak [(1, _), (2, _)] ⟨rfl, rfl, trivial⟩ ?_
  refine at_then_normal ?_
  refine at_seq ?_
  refine at_region ?_
  refine at_val rfl rfl rfl (r_build_struct (zs := Cd.cs c_api_Addr ({ f_V := (0 : Int), f_B := (Vector.replicate 16 (0 : Int) : (Vector Int 16)) } : S_api_Addr)) (cs := Cd.cs c_api_Addr ({ ({ f_V := (0 : Int), f_B := (Vector.replicate 16 (0 : Int) : (Vector Int 16)) } : S_api_Addr) with f_V := 4 })) Try.underlying32 Try.zeroValue32 rfl (places_api_Addr_32) rfl (fill_step (c := (cInt .i64)) (z := 4) rfl (c_api_Addr_f_V ({ f_V := (0 : Int), f_B := (Vector.replicate 16 (0 : Int) : (Vector Int 16)) } : S_api_Addr)) rfl rfl)) ?_
  refine at_alloc (cs := Cd.cs c_api_Addr ({ f_V := (0 : Int), f_B := (Vector.replicate 16 (0 : Int) : (Vector Int 16)) } : S_api_Addr)) Try.zeroValue32 rfl rfl ?_
  intro b3
  refine at_store (c := c_api_Addr) (z := { ({ f_V := (0 : Int), f_B := (Vector.replicate 16 (0 : Int) : (Vector Int 16)) } : S_api_Addr) with f_V := 4 }) .z (Lens.whole _ _) Try.sizeOf32 rfl rfl rfl ?_
  refine at_nil ?_
  refine at_weak [(1, _), (2, _), (3, _)] ⟨rfl, rfl, rfl, trivial⟩ ?_
  refine at_then_normal ?_
  refine at_seq ?_
  refine at_weak [(1, _), (2, _), (3, _)] ⟨rfl, rfl, rfl, trivial⟩ ?_
  refine at_inv [.q 5 (fun g4 => .pointer (some ⟨b3, 0 + 1, none⟩)) [] 0 1, .q 6 (fun g4 => .slice (some ⟨b3, 0 + 1, none⟩) (Vector.toList (({ ({ f_V := (0 : Int), f_B := (Vector.replicate 16 (0 : Int) : (Vector Int 16)) } : S_api_Addr) with f_V := 4 }).f_B)).length 16) [0] 0 0, .q 7 (fun g4 => .slice (some ⟨b1, 0, none⟩) (Vector.toList x0).length 4) [] 0 0, .st 0 (some (8, fun g4 => .int .i64 (min (List.length (Vector.toList x0)) (Int.toNat (16 - 0)) : Nat))) [1, 2]] (fun g4 s => match s with | 0 => (Wd w [cellsE b3 (Cd.cs c_api_Addr ({ ({ f_V := (0 : Int), f_B := (Vector.replicate 16 (0 : Int) : (Vector Int 16)) } : S_api_Addr) with f_V := 4 })) 32, cellsE b2 (Cd.cs c_api_Addr ({ f_V := (0 : Int), f_B := (Vector.replicate 16 (0 : Int) : (Vector Int 16)) } : S_api_Addr)) 32, cellsE b1 (Cd.cs (cVec (cInt .u8) 4 (by decide)) x0) 129]) | _ => (Wd w [cellsE b3 (Cd.cs c_api_Addr ({ { ({ f_V := (0 : Int), f_B := (Vector.replicate 16 (0 : Int) : (Vector Int 16)) } : S_api_Addr) with f_V := 4 } with f_B := vcopy (({ ({ f_V := (0 : Int), f_B := (Vector.replicate 16 (0 : Int) : (Vector Int 16)) } : S_api_Addr) with f_V := 4 }).f_B) (Int.toNat 0) (List.take (Int.toNat (16 - 0)) (Vector.toList x0)) })) 32, cellsE b2 (Cd.cs c_api_Addr ({ f_V := (0 : Int), f_B := (Vector.replicate 16 (0 : Int) : (Vector Int 16)) } : S_api_Addr)) 32, cellsE b1 (Cd.cs (cVec (cInt .u8) 4 (by decide)) x0) 129])) 1 (by kernel_rfl) (by kernel_rfl) (by kernel_rfl) (by kernel_rfl) (by kernel_rfl) ⟨fun _ _ _ => rfl, fun _ _ _ => rfl, fun _ _ _ => rfl, fun _ _ _ => rfl, trivial⟩ (by kernel_rfl) (fun _ h => ⟨fun _ => (0, none, 0, none), h.drew⟩) ⟨?_, ?_, ?_, ?_, trivial⟩ ?_
  · intro Lx g4 s K hl hh k
    show At 10 ((1, _) :: (2, _) :: (3, _) :: Lx) _ _
    refine at_val rfl rfl rfl (r_fieldAddr (fo := 1) Try.underlying32 rfl rfl (fun w => ⟨_, Try.sizeOf30 w⟩) rfl) ?_
    exact at_nil k
  · intro Lx g4 s K hl hh k
    show At 10 ((5, _) :: (1, _) :: (2, _) :: (3, _) :: Lx) _ _
    obtain rfl : s = 0 := by omega
    refine at_val rfl rfl rfl (r_view_all (c := (cInt .u8)) (({ ({ f_V := (0 : Int), f_B := (Vector.replicate 16 (0 : Int) : (Vector Int 16)) } : S_api_Addr) with f_V := 4 }).f_B) (by decide) Try.underlying30 Try.sizeOf5 rfl) ?_
    exact at_nil k
  · intro Lx g4 s K hl hh k
    show At 10 ((1, _) :: (2, _) :: (3, _) :: Lx) _ _
    obtain rfl : s = 0 := by omega
    refine at_val rfl rfl rfl (r_slice_vec x0 Try.underlying129 Try.sizeOf5 rfl) ?_
    exact at_nil k
  · intro Lx g4 K k
    show At 10 ((6, _) :: (7, _) :: (1, _) :: (2, _) :: (3, _) :: Lx) _ _
    refine at_copy (lo := 0) (hi := 16) (xs := Vector.toList x0) .z (Lens.comp (Lens.whole _ _) (fun z => { { ({ f_V := (0 : Int), f_B := (Vector.replicate 16 (0 : Int) : (Vector Int 16)) } : S_api_Addr) with f_V := 4 } with f_B := z }) (c_api_Addr_f_B ({ ({ f_V := (0 : Int), f_B := (Vector.replicate 16 (0 : Int) : (Vector Int 16)) } : S_api_Addr) with f_V := 4 }))) rfl (by decide) Try.underlying130 (by kernel_rfl) rfl (rsp_zero (by decide)) (by simp) rfl ⟨_, rfl⟩ (fun w1 hw => (vec_row (hw.ok (Upd.mem (.s (.s .z)))))) rfl ?_
    exact at_nil k
  intro g4
  show At 10 [(5, _), (6, _), (7, _), (8, _), (1, _), (2, _), (3, _)] _ _
  refine at_drop (H := _) (.s (.s .z)) ?_
  refine at_weak [(2, _), (3, _)] ⟨rfl, rfl, trivial⟩ ?_
  refine at_then_normal ?_
  refine at_seq ?_
  refine at_region ?_
  refine at_val rfl rfl rfl (r_load_aggc (c := c_api_Addr) (z := { { ({ f_V := (0 : Int), f_B := (Vector.replicate 16 (0 : Int) : (Vector Int 16)) } : S_api_Addr) with f_V := 4 } with f_B := vcopy (({ ({ f_V := (0 : Int), f_B := (Vector.replicate 16 (0 : Int) : (Vector Int 16)) } : S_api_Addr) with f_V := 4 }).f_B) (Int.toNat 0) (List.take (Int.toNat (16 - 0)) (Vector.toList x0)) }) Try.isAgg32 Try.sizeOf32 rfl (lens_cell .z (Lens.whole _ _))) ?_
  refine at_store (c := c_api_Addr) (z := { { ({ f_V := (0 : Int), f_B := (Vector.replicate 16 (0 : Int) : (Vector Int 16)) } : S_api_Addr) with f_V := 4 } with f_B := vcopy (({ ({ f_V := (0 : Int), f_B := (Vector.replicate 16 (0 : Int) : (Vector Int 16)) } : S_api_Addr) with f_V := 4 }).f_B) (Int.toNat 0) (List.take (Int.toNat (16 - 0)) (Vector.toList x0)) }) (.s .z) (Lens.whole _ _) Try.sizeOf32 rfl rfl rfl ?_
  refine at_nil ?_
  refine at_drop (H := _) .z ?_
  refine at_weak [(2, _)] ⟨rfl, trivial⟩ ?_
  refine at_then_normal ?_
  refine at_ret ?_
  have K := of_some hF
  subst K
  exact at_res1 rfl (res_cell (c := c_api_Addr) (y := { { ({ f_V := (0 : Int), f_B := (Vector.replicate 16 (0 : Int) : (Vector Int 16)) } : S_api_Addr) with f_V := 4 } with f_B := vcopy (({ ({ f_V := (0 : Int), f_B := (Vector.replicate 16 (0 : Int) : (Vector Int 16)) } : S_api_Addr) with f_V := 4 }).f_B) (Int.toNat 0) (List.take (Int.toNat (16 - 0)) (Vector.toList x0)) }) rfl .z (Lens.whole _ _) Try.isAgg32 Try.sizeOf32 (.inl rfl)) (fun w1 hw => ⟨rfl, hw.below⟩)

def addr_Right (x0 : S_api_Addr) : Option (Bool) :=
  if (x0.f_V == 6) = true then (some true) else (if (x0.f_V == 4) = true then (if 4 ≤ (lsub (Vector.toList x0.f_B) 0 4).length then addr_Four (lvec 4 (lsub (Vector.toList x0.f_B) 0 4)) >>= fun t8 => some (decide (x0 = t8)) else none) else (some false))
theorem addr_Right_ok (x0 : S_api_Addr) (r : Bool) (hF : addr_Right x0 = some r) (w : World) :
    Calls Try.prog 69 #[.agg (Cd.cs c_api_Addr x0).toArray] w (fun e w' => e = .returned (.bool r) ∧ Below w.heap.size w w') := by
  unfold addr_Right at hF
  refine calls_enter (l := [.agg (Cd.cs c_api_Addr x0).toArray]) Try.func69 rfl rfl rfl ?_
  refine at_start ?_
  refine at_weak [(0, _)] ⟨rfl, trivial⟩ ?_
  refine at_seq ?_
  refine at_region ?_
  refine at_box (cs := Cd.cs c_api_Addr x0) rfl rfl rfl ?_
  intro b1
  refine at_val rfl rfl rfl (r_assign rfl) ?_
  refine at_nil ?_
  refine at_weak [(1, _)] ⟨rfl, trivial⟩ ?_
  refine at_then_normal ?_
  refine at_seq ?_
  refine at_draw (by kernel_rfl) (by kernel_rfl) (fun _ h => h.drew) ?_
  refine atq_val rfl rfl rfl (r_fieldAddr (fo := 0) Try.underlying32 rfl rfl (fun w => ⟨_, Try.sizeOf3 w⟩) rfl) ?_
  refine atq_val rfl rfl rfl (r_load_cell Try.isAgg3 rfl (lens_cell0 (c := (cInt .i64)) (y := x0.f_V) .z (Lens.comp (Lens.whole _ _) (fun z => { x0 with f_V := z }) (c_api_Addr_f_V x0)) rfl)) ?_
  refine atq_val rfl rfl rfl (r_ieql rfl rfl) ?_
  refine atq_val rfl rfl rfl (r_move rfl) ?_
  rcases of_ite hF with ⟨h2, hF⟩ | ⟨h2, hF⟩
  · refine atq_fix (g := 6) rfl h2 ?_
    refine atq_guard_no rfl rfl rfl rfl rfl ?_
    refine atq_guard_no rfl rfl rfl rfl rfl ?_
    refine atq_guard_no rfl rfl rfl rfl rfl ?_
    refine atq_guard_no rfl rfl rfl rfl rfl ?_
    refine atq_guard_undef rfl rfl rfl rfl ?_
    refine atq_guard_undef rfl rfl rfl rfl ?_
    refine atq_guard_undef rfl rfl rfl rfl ?_
    refine atq_guard_undef rfl rfl rfl rfl ?_
    refine atq_guard_undef rfl rfl rfl rfl ?_
    refine atq_guard_undef rfl rfl rfl rfl ?_
    refine atq_guard_undef rfl rfl rfl rfl ?_
    refine atq_guard_no rfl rfl rfl rfl rfl ?_
    refine atq_val rfl rfl rfl (r_pick rfl rfl rfl) ?_
    refine atq_val rfl rfl rfl (r_assign rfl) ?_
    refine atq_nil ?_
    refine at_drop (H := _) .z ?_
    refine at_weak [(2, _)] ⟨rfl, trivial⟩ ?_
    refine at_then_normal ?_
    refine at_ret ?_
    have K := of_some hF
    subst K
    exact at_return1 rfl rfl (fun w1 hw => ⟨rfl, hw.below⟩)
  · refine atq_fix (g := 6) rfl h2 ?_
    refine atq_guard_yes rfl rfl rfl ?_
    refine atq_val rfl rfl rfl (r_fieldAddr (fo := 0) Try.underlying32 rfl rfl (fun w => ⟨_, Try.sizeOf3 w⟩) rfl) ?_
    refine atq_guard_yes rfl rfl rfl ?_
    refine atq_val rfl rfl rfl (r_load_cell Try.isAgg3 rfl (lens_cell0 (c := (cInt .i64)) (y := x0.f_V) .z (Lens.comp (Lens.whole _ _) (fun z => { x0 with f_V := z }) (c_api_Addr_f_V x0)) rfl)) ?_
    refine atq_guard_yes rfl rfl rfl ?_
    refine atq_val rfl rfl rfl (r_ieql rfl rfl) ?_
    refine atq_guard_yes rfl rfl rfl ?_
    refine atq_val rfl rfl rfl (r_move rfl) ?_
    rcases of_ite hF with ⟨h3, hF⟩ | ⟨h3, hF⟩
    · refine atq_fix (g := 10) rfl h3 ?_
      refine atq_guard_yes rfl rfl rfl ?_
      refine atq_val rfl rfl rfl (r_load_aggc (c := c_api_Addr) (z := x0) Try.isAgg32 Try.sizeOf32 rfl (lens_cell .z (Lens.whole _ _))) ?_
      refine atq_guard_yes rfl rfl rfl ?_
      refine atq_val rfl rfl rfl (r_fieldAddr (fo := 1) Try.underlying32 rfl rfl (fun w => ⟨_, Try.sizeOf30 w⟩) rfl) ?_
      refine atq_guard_yes rfl rfl rfl ?_
      refine atq_val rfl rfl rfl (r_view (c := (cInt .u8)) (v := x0.f_B) (l := 0) (h := 4) Try.underlying30 Try.sizeOf5 rfl rfl ⟨_, rfl⟩ (by decide)) ?_
      refine atq_guard_yes rfl rfl rfl ?_
      obtain ⟨h4, hF⟩ := of_guard hF
      refine atq_val rfl rfl rfl (r_arrptr Try.underlying129 rfl h4) ?_
      refine atq_guard_yes rfl rfl rfl ?_
      obtain ⟨b5, o6, hp7⟩ : ∃ b o, rsp (some ⟨b1, 0 + 1, none⟩) 16 0 (Cd.sz (cInt .u8)) = some ⟨b, o, none⟩ := rsp_plain
      refine atq_val rfl rfl rfl (r_load_aggc (c := (cVec (cInt .u8) 4 (by decide))) (z := lvec 4 (lsub (Vector.toList x0.f_B) 0 4)) Try.isAgg129 Try.sizeOf129 (by rw [← hp7]; rfl) (fun w1 hw => row_lvec (Row.sub (lens_row .z (Lens.comp (Lens.whole _ _) (fun z => { x0 with f_B := z }) (c_api_Addr_f_B x0)) hw) (vbnd (by decide))) h4 hp7)) ?_
      refine atq_guard_yes rfl rfl rfl ?_
      obtain ⟨t8, ht8, hF⟩ := of_bindM hF
      refine atq_call Try.func91 rfl (by kernel_rfl) rfl rfl (fun w hw => (addr_Four_ok _ _ ht8 w).mono fun _ _ h => ⟨h.1, hw.call h.2⟩) ?_
      refine atq_guard_yes rfl rfl rfl ?_
      refine atq_val rfl rfl rfl (r_eqagg (c := c_api_Addr) (a := x0) (b := t8) (eq_api_Addr_32) rfl Try.eqGuardType32 rfl rfl (.inl rfl) rfl) ?_
      refine atq_guard_yes rfl rfl rfl ?_
      refine atq_val rfl rfl rfl (r_pick rfl rfl rfl) ?_
      refine atq_val rfl rfl rfl (r_pick rfl rfl rfl) ?_
      refine atq_val rfl rfl rfl (r_assign rfl) ?_
      refine atq_nil ?_
      refine at_drop (H := _) .z ?_
      refine at_weak [(2, _)] ⟨rfl, trivial⟩ ?_
      refine at_then_normal ?_
      refine at_ret ?_
      have K := of_some hF
      subst K
      exact at_return1 rfl rfl (fun w1 hw => ⟨rfl, hw.below⟩)
    · refine atq_fix (g := 10) rfl h3 ?_
      refine atq_guard_no rfl rfl rfl rfl rfl ?_
      refine atq_guard_no rfl rfl rfl rfl rfl ?_
      refine atq_guard_no rfl rfl rfl rfl rfl ?_
      refine atq_guard_no rfl rfl rfl rfl rfl ?_
      refine atq_guard_no rfl rfl rfl rfl rfl ?_
      refine atq_guard_no rfl rfl rfl rfl rfl ?_
      refine atq_guard_no rfl rfl rfl rfl rfl ?_
      refine atq_guard_yes rfl rfl rfl ?_
      refine atq_val rfl rfl rfl (r_pick rfl rfl rfl) ?_
      refine atq_val rfl rfl rfl (r_pick rfl rfl rfl) ?_
      refine atq_val rfl rfl rfl (r_assign rfl) ?_
      refine atq_nil ?_
      refine at_drop (H := _) .z ?_
      refine at_weak [(2, _)] ⟨rfl, trivial⟩ ?_
      refine at_then_normal ?_
      refine at_ret ?_
      have K := of_some hF
      subst K
      exact at_return1 rfl rfl (fun w1 hw => ⟨rfl, hw.below⟩)

def addr_Width (x0 : S_api_Addr) : Option (Int) :=
  addr_Right x0 >>= fun t2 => if (!t2) = true then (some 0) else (if (x0.f_V == 4) = true then (some 32) else (some 128))
theorem addr_Width_ok (x0 : S_api_Addr) (r : Int) (hF : addr_Width x0 = some r) (w : World) :
    Calls Try.prog 71 #[.agg (Cd.cs c_api_Addr x0).toArray] w (fun e w' => e = .returned (.int .i64 r) ∧ Below w.heap.size w w') := by
  unfold addr_Width at hF
  refine calls_enter (l := [.agg (Cd.cs c_api_Addr x0).toArray]) Try.func71 rfl rfl rfl ?_
  refine at_start ?_
  refine at_weak [(0, _)] ⟨rfl, trivial⟩ ?_
  refine at_seq ?_
  refine at_region ?_
  refine at_box (cs := Cd.cs c_api_Addr x0) rfl rfl rfl ?_
  intro b1
  refine at_val rfl rfl rfl (r_assign rfl) ?_
  refine at_nil ?_
  refine at_weak [(1, _)] ⟨rfl, trivial⟩ ?_
  refine at_then_normal ?_
  refine at_seq ?_
  refine at_block ?_
  refine at_seq ?_
  refine at_region ?_
  refine at_val rfl rfl rfl (r_load_aggc (c := c_api_Addr) (z := x0) Try.isAgg32 Try.sizeOf32 rfl (lens_cell .z (Lens.whole _ _))) ?_
  obtain ⟨t2, ht2, hF⟩ := of_bindM hF
  refine at_callB Try.func69 rfl (by kernel_rfl) rfl rfl (fun w hw => addr_Right_ok _ _ ht2 w) ?_
  refine at_val rfl rfl rfl (r_not rfl) ?_
  refine at_val rfl rfl rfl (r_assign rfl) ?_
  refine at_nil ?_
  refine at_weak [(1, _), (3, _)] ⟨rfl, rfl, trivial⟩ ?_
  refine at_then_normal ?_
  rcases of_ite hF with ⟨h3, hF⟩ | ⟨h3, hF⟩
  · refine at_cond_true rfl h3 ?_
    refine at_seq ?_
    refine at_region ?_
    refine at_val rfl rfl rfl (r_assign rfl) ?_
    refine at_nil ?_
    refine at_drop (H := _) .z ?_
    refine at_weak [(2, _)] ⟨rfl, trivial⟩ ?_
    refine at_then_normal ?_
    refine at_ret ?_
    refine at_blk_ret (at_then_ret ?_)
    have K := of_some hF
    subst K
    exact at_return1 rfl rfl (fun w1 hw => ⟨rfl, hw.below⟩)
  · refine at_cond_false rfl h3 ?_
    refine at_seq ?_
    refine at_region ?_
    refine at_val rfl rfl rfl (r_fieldAddr (fo := 0) Try.underlying32 rfl rfl (fun w => ⟨_, Try.sizeOf3 w⟩) rfl) ?_
    refine at_val rfl rfl rfl (r_load_cell Try.isAgg3 rfl (lens_cell0 (c := (cInt .i64)) (y := x0.f_V) .z (Lens.comp (Lens.whole _ _) (fun z => { x0 with f_V := z }) (c_api_Addr_f_V x0)) rfl)) ?_
    refine at_val rfl rfl rfl (r_ieql rfl rfl) ?_
    refine at_val rfl rfl rfl (r_assign rfl) ?_
    refine at_nil ?_
    refine at_drop (H := _) .z ?_
    refine at_weak [(7, _)] ⟨rfl, trivial⟩ ?_
    refine at_then_normal ?_
    rcases of_ite hF with ⟨h4, hF⟩ | ⟨h4, hF⟩
    · refine at_cond_true rfl h4 ?_
      refine at_seq ?_
      refine at_region ?_
      refine at_val rfl rfl rfl (r_assign rfl) ?_
      refine at_nil ?_
      refine at_weak [(2, _)] ⟨rfl, trivial⟩ ?_
      refine at_then_normal ?_
      refine at_ret ?_
      refine at_blk_ret (at_then_ret ?_)
      have K := of_some hF
      subst K
      exact at_return1 rfl rfl (fun w1 hw => ⟨rfl, hw.below⟩)
    · refine at_cond_false rfl h4 ?_
      refine at_skip ?_
      refine at_blk_normal (at_then_normal ?_)
      refine at_seq ?_
      refine at_region ?_
      refine at_val rfl rfl rfl (r_assign rfl) ?_
      refine at_nil ?_
      refine at_weak [(2, _)] ⟨rfl, trivial⟩ ?_
      refine at_then_normal ?_
      refine at_ret ?_
      have K := of_some hF
      subst K
      exact at_return1 rfl rfl (fun w1 hw => ⟨rfl, hw.below⟩)

def addr_Mask.l0 (x1 : Int) (i6 : Int) (i7 : S_api_Addr) : Option (S_api_Addr) :=
  if (decide (i6 < 16)) = true then (if (decide (x1 < 0)) = true then (if (0 : Int) ≤ i6 ∧ i6 < 16 then if (0 : Int) ≤ wr .u64 (wr .i64 (8 - 0)) then if (0 : Int) ≤ i6 ∧ i6 < 16 then addr_Mask.l0 x1 (wr .i64 (i6 + 1)) ({ i7 with f_B := vset i7.f_B i6 (iand .u8 (vget i7.f_B i6) (ishl .u8 255 (wr .u64 (wr .i64 (8 - 0))))) }) else none else none else none) else (if (0 : Int) ≤ i6 ∧ i6 < 16 then if (0 : Int) ≤ wr .u64 (wr .i64 (8 - (if 8 < (if wr .i64 (x1 - (wr .i64 (8 * i6))) < 0 then 0 else wr .i64 (x1 - (wr .i64 (8 * i6)))) then 8 else (if wr .i64 (x1 - (wr .i64 (8 * i6))) < 0 then 0 else wr .i64 (x1 - (wr .i64 (8 * i6))))))) then if (0 : Int) ≤ i6 ∧ i6 < 16 then addr_Mask.l0 x1 (wr .i64 (i6 + 1)) ({ i7 with f_B := vset i7.f_B i6 (iand .u8 (vget i7.f_B i6) (ishl .u8 255 (wr .u64 (wr .i64 (8 - (if 8 < (if wr .i64 (x1 - (wr .i64 (8 * i6))) < 0 then 0 else wr .i64 (x1 - (wr .i64 (8 * i6)))) then 8 else (if wr .i64 (x1 - (wr .i64 (8 * i6))) < 0 then 0 else wr .i64 (x1 - (wr .i64 (8 * i6)))))))))) }) else none else none else none)) else (some i7)
  partial_fixpoint
def addr_Mask (x0 : S_api_Addr) (x1 : Int) : Option (S_api_Addr) :=
  addr_Right x0 >>= fun t3 => if (!t3) = true then (some ({ f_V := (0 : Int), f_B := (Vector.replicate 16 (0 : Int) : (Vector Int 16)) } : S_api_Addr)) else (addr_Mask.l0 x1 0 x0 >>= fun q5 => some q5)
theorem addr_Mask_ok (x0 : S_api_Addr) (x1 : Int) (r : S_api_Addr) (hF : addr_Mask x0 x1 = some r) (w : World) :
    Calls Try.prog 92 #[.agg (Cd.cs c_api_Addr x0).toArray, .int .i64 x1] w (fun e w' => e = .returned (.agg (Cd.cs c_api_Addr r).toArray) ∧ Below w.heap.size w w') := by
  unfold addr_Mask at hF
  refine calls_enter (l := [.agg (Cd.cs c_api_Addr x0).toArray, .int .i64 x1]) Try.func92 rfl rfl rfl ?_
  refine at_start ?_
  refine at_weak [(0, _), (1, _)] ⟨rfl, rfl, trivial⟩ ?_
  refine at_seq ?_
  refine at_region ?_
  refine at_box (cs := Cd.cs c_api_Addr x0) rfl rfl rfl ?_
  intro b1
  refine at_alloc (cs := Cd.cs c_api_Addr ({ f_V := (0 : Int), f_B := (Vector.replicate 16 (0 : Int) : (Vector Int 16)) } : S_api_Addr)) Try.zeroValue32 rfl rfl ?_
  intro b2
  refine at_nil ?_
  refine at_weak [(1, _), (2, _), (4, _)] ⟨rfl, rfl, rfl, trivial⟩ ?_
  refine at_then_normal ?_
  refine at_seq ?_
  refine at_seq ?_
  refine at_region ?_
  refine at_val rfl rfl rfl (r_load_aggc (c := c_api_Addr) (z := x0) Try.isAgg32 Try.sizeOf32 rfl (lens_cell (.s .z) (Lens.whole _ _))) ?_
  obtain ⟨t3, ht3, hF⟩ := of_bindM hF
  refine at_callB Try.func69 rfl (by kernel_rfl) rfl rfl (fun w hw => addr_Right_ok _ _ ht3 w) ?_
  refine at_val rfl rfl rfl (r_not rfl) ?_
  refine at_nil ?_
  refine at_weak [(1, _), (2, _), (4, _), (9, _)] ⟨rfl, rfl, rfl, rfl, trivial⟩ ?_
  refine at_then_normal ?_
  rcases of_ite hF with ⟨h4, hF⟩ | ⟨h4, hF⟩
  · refine at_cond_true rfl h4 ?_
    refine at_seq ?_
    refine at_region ?_
    refine at_val rfl rfl rfl (r_build_struct (zs := Cd.cs c_api_Addr ({ f_V := (0 : Int), f_B := (Vector.replicate 16 (0 : Int) : (Vector Int 16)) } : S_api_Addr)) (cs := Cd.cs c_api_Addr ({ f_V := (0 : Int), f_B := (Vector.replicate 16 (0 : Int) : (Vector Int 16)) } : S_api_Addr)) Try.underlying32 Try.zeroValue32 rfl (places_api_Addr_32) rfl rfl) ?_
    refine at_store (c := c_api_Addr) (z := ({ f_V := (0 : Int), f_B := (Vector.replicate 16 (0 : Int) : (Vector Int 16)) } : S_api_Addr)) .z (Lens.whole _ _) Try.sizeOf32 rfl rfl rfl ?_
    refine at_nil ?_
    refine at_drop (H := _) (.s .z) ?_
    refine at_weak [(4, _)] ⟨rfl, trivial⟩ ?_
    refine at_then_normal ?_
    refine at_ret ?_
    refine at_then_ret ?_
    have K := of_some hF
    subst K
    exact at_res1 rfl (res_cell (c := c_api_Addr) (y := ({ f_V := (0 : Int), f_B := (Vector.replicate 16 (0 : Int) : (Vector Int 16)) } : S_api_Addr)) rfl .z (Lens.whole _ _) Try.isAgg32 Try.sizeOf32 (.inl rfl)) (fun w1 hw => ⟨rfl, hw.below⟩)
  · refine at_cond_false rfl h4 ?_
    refine at_skip ?_
    refine at_then_normal ?_
    refine at_seq ?_
    refine at_seq ?_
    refine at_region ?_
    refine at_val rfl rfl rfl (r_move rfl) ?_
    refine at_nil ?_
    refine at_weak [(1, _), (2, _), (4, _), (11, _)] ⟨rfl, rfl, rfl, rfl, trivial⟩ ?_
    refine at_then_normal ?_
    refine at_block ?_
    obtain ⟨q5, hq5, hF⟩ := of_bindM hF
    refine at_weak [(1, _), (2, _), (4, _), (11, _)] ⟨rfl, rfl, rfl, rfl, trivial⟩ ?_
    refine at_loop_n (B := 0) (A := fun Y => At 35 [(2, .pointer (some ⟨b1, 0, none⟩)), (4, .pointer (some ⟨b2, 0, none⟩))] (Wd w [cellsE b2 (Cd.cs c_api_Addr ({ f_V := (0 : Int), f_B := (Vector.replicate 16 (0 : Int) : (Vector Int 16)) } : S_api_Addr)) 32, cellsE b1 (Cd.cs c_api_Addr q5) 32]) Y) ?_ ?_
    · intro K
      refine addr_Mask.l0.partial_correctness x1 (motive := fun i6 i7 x => KN (fun Y => At 35 [(2, .pointer (some ⟨b1, 0, none⟩)), (4, .pointer (some ⟨b2, 0, none⟩))] (Wd w [cellsE b2 (Cd.cs c_api_Addr ({ f_V := (0 : Int), f_B := (Vector.replicate 16 (0 : Int) : (Vector Int 16)) } : S_api_Addr)) 32, cellsE b1 (Cd.cs c_api_Addr x) 32]) Y) _ 0 → Round (fun Y => At 35 [(1, .int .i64 x1), (2, .pointer (some ⟨b1, 0, none⟩)), (4, .pointer (some ⟨b2, 0, none⟩)), (11, .int .i64 i6)] (Wd w [cellsE b2 (Cd.cs c_api_Addr ({ f_V := (0 : Int), f_B := (Vector.replicate 16 (0 : Int) : (Vector Int 16)) } : S_api_Addr)) 32, cellsE b1 (Cd.cs c_api_Addr i7) 32]) Y) _ _ _) ?_ _ _ _ hq5 K
      · clear K hF
        intro g ih i6 i7 x hF K
        refine at_round ?_
        refine at_seq ?_
        refine at_region ?_
        refine at_val rfl rfl rfl (r_ilss rfl rfl) ?_
        refine at_nil ?_
        refine at_weak [(1, _), (2, _), (4, _), (11, _), (12, _)] ⟨rfl, rfl, rfl, rfl, rfl, trivial⟩ ?_
        refine at_then_normal ?_
        refine at_seq ?_
        rcases of_ite hF with ⟨h8, hF⟩ | ⟨h8, hF⟩
        · refine at_cond_true rfl h8 ?_
          refine at_skip ?_
          refine at_then_normal ?_
          refine at_seq ?_
          refine at_block ?_
          refine at_seq ?_
          refine at_region ?_
          refine at_val rfl rfl rfl (r_move rfl) ?_
          refine at_val rfl rfl rfl (r_assign rfl) ?_
          refine at_nil ?_
          refine at_weak [(1, _), (2, _), (4, _), (5, _), (11, _)] ⟨rfl, rfl, rfl, rfl, rfl, trivial⟩ ?_
          refine at_then_normal ?_
          refine at_seq ?_
          refine at_region ?_
          refine at_val rfl rfl rfl (r_move rfl) ?_
          refine at_val rfl rfl rfl (r_move rfl) ?_
          refine at_val rfl rfl rfl (r_imul rfl rfl) ?_
          refine at_val rfl rfl rfl (r_isub rfl rfl) ?_
          refine at_val rfl rfl rfl (r_max rfl rfl) ?_
          refine at_val rfl rfl rfl (r_min rfl rfl) ?_
          refine at_val rfl rfl rfl (r_assign rfl) ?_
          refine at_nil ?_
          refine at_weak [(1, _), (2, _), (4, _), (5, _), (6, _), (11, _)] ⟨rfl, rfl, rfl, rfl, rfl, rfl, trivial⟩ ?_
          refine at_then_normal ?_
          refine at_seq ?_
          refine at_seq ?_
          refine at_region ?_
          refine at_val rfl rfl rfl (r_move rfl) ?_
          refine at_val rfl rfl rfl (r_ilss rfl rfl) ?_
          refine at_nil ?_
          refine at_weak [(1, _), (2, _), (4, _), (5, _), (6, _), (11, _), (21, _)] ⟨rfl, rfl, rfl, rfl, rfl, rfl, rfl, trivial⟩ ?_
          refine at_then_normal ?_
          rcases of_ite hF with ⟨h9, hF⟩ | ⟨h9, hF⟩
          · refine at_cond_true rfl h9 ?_
            refine at_region ?_
            refine at_val rfl rfl rfl (r_assign rfl) ?_
            refine at_nil ?_
            refine at_weak [(1, _), (2, _), (4, _), (5, _), (6, _), (11, _)] ⟨rfl, rfl, rfl, rfl, rfl, rfl, trivial⟩ ?_
            refine at_then_normal ?_
            refine at_region ?_
            refine at_val rfl rfl rfl (r_move rfl) ?_
            refine at_val rfl rfl rfl (r_fieldAddr (fo := 1) Try.underlying32 rfl rfl (fun w => ⟨_, Try.sizeOf30 w⟩) rfl) ?_
            obtain ⟨h10, hF⟩ := of_guard hF
            refine at_val rfl rfl rfl (r_idxArr Try.underlying30 Try.sizeOf5 rfl rfl h10) ?_
            refine at_val rfl rfl rfl (r_load_cell Try.isAgg5 rfl (lens_cell0 (c := (cInt .u8)) (y := vget i7.f_B i6) (.s .z) (Lens.comp (Lens.comp (Lens.whole _ _) (fun z => { i7 with f_B := z }) (c_api_Addr_f_B i7)) (fun z => vset i7.f_B i6 z) (Lens.vec (cInt .u8) (by decide) i7.f_B i6 h10)) rfl)) ?_
            refine at_val rfl rfl rfl (r_move rfl) ?_
            refine at_val rfl rfl rfl (r_isub rfl rfl) ?_
            refine at_val rfl rfl rfl (r_conv Try.underlying3 Try.underlying131 rfl) ?_
            obtain ⟨h11, hF⟩ := of_guard hF
            refine at_val rfl rfl rfl (r_ishl rfl rfl h11) ?_
            refine at_val rfl rfl rfl (r_iand rfl rfl) ?_
            refine at_val rfl rfl rfl (r_fieldAddr (fo := 1) Try.underlying32 rfl rfl (fun w => ⟨_, Try.sizeOf30 w⟩) rfl) ?_
            obtain ⟨h12, hF⟩ := of_guard hF
            refine at_val rfl rfl rfl (r_idxArr Try.underlying30 Try.sizeOf5 rfl rfl h12) ?_
            refine at_store (c := (cInt .u8)) (z := iand .u8 (vget i7.f_B i6) (ishl .u8 255 (wr .u64 (wr .i64 (8 - 0))))) (.s .z) (Lens.comp (Lens.comp (Lens.whole _ _) (fun z => { i7 with f_B := z }) (c_api_Addr_f_B i7)) (fun z => vset i7.f_B i6 z) (Lens.vec (cInt .u8) (by decide) i7.f_B i6 h12)) Try.sizeOf5 rfl rfl rfl ?_
            refine at_nil ?_
            refine at_weak [(1, _), (2, _), (4, _), (11, _)] ⟨rfl, rfl, rfl, rfl, trivial⟩ ?_
            refine at_blk_normal (at_then_normal ?_)
            refine at_region ?_
            refine at_val rfl rfl rfl (r_iadd rfl rfl) ?_
            refine at_val rfl rfl rfl (r_move rfl) ?_
            refine at_nil ?_
            refine at_weak [(1, _), (2, _), (4, _), (11, _)] ⟨rfl, rfl, rfl, rfl, trivial⟩ ?_
            refine at_then_normal ?_
            exact at_weak_k (ih _ _ _ hF K) ⟨rfl, rfl, rfl, rfl, trivial⟩
          · refine at_cond_false rfl h9 ?_
            refine at_skip ?_
            refine at_then_normal ?_
            refine at_region ?_
            refine at_val rfl rfl rfl (r_move rfl) ?_
            refine at_val rfl rfl rfl (r_fieldAddr (fo := 1) Try.underlying32 rfl rfl (fun w => ⟨_, Try.sizeOf30 w⟩) rfl) ?_
            obtain ⟨h13, hF⟩ := of_guard hF
            refine at_val rfl rfl rfl (r_idxArr Try.underlying30 Try.sizeOf5 rfl rfl h13) ?_
            refine at_val rfl rfl rfl (r_load_cell Try.isAgg5 rfl (lens_cell0 (c := (cInt .u8)) (y := vget i7.f_B i6) (.s .z) (Lens.comp (Lens.comp (Lens.whole _ _) (fun z => { i7 with f_B := z }) (c_api_Addr_f_B i7)) (fun z => vset i7.f_B i6 z) (Lens.vec (cInt .u8) (by decide) i7.f_B i6 h13)) rfl)) ?_
            refine at_val rfl rfl rfl (r_move rfl) ?_
            refine at_val rfl rfl rfl (r_isub rfl rfl) ?_
            refine at_val rfl rfl rfl (r_conv Try.underlying3 Try.underlying131 rfl) ?_
            obtain ⟨h14, hF⟩ := of_guard hF
            refine at_val rfl rfl rfl (r_ishl rfl rfl h14) ?_
            refine at_val rfl rfl rfl (r_iand rfl rfl) ?_
            refine at_val rfl rfl rfl (r_fieldAddr (fo := 1) Try.underlying32 rfl rfl (fun w => ⟨_, Try.sizeOf30 w⟩) rfl) ?_
            obtain ⟨h15, hF⟩ := of_guard hF
            refine at_val rfl rfl rfl (r_idxArr Try.underlying30 Try.sizeOf5 rfl rfl h15) ?_
            refine at_store (c := (cInt .u8)) (z := iand .u8 (vget i7.f_B i6) (ishl .u8 255 (wr .u64 (wr .i64 (8 - (if 8 < (if wr .i64 (x1 - (wr .i64 (8 * i6))) < 0 then 0 else wr .i64 (x1 - (wr .i64 (8 * i6)))) then 8 else (if wr .i64 (x1 - (wr .i64 (8 * i6))) < 0 then 0 else wr .i64 (x1 - (wr .i64 (8 * i6)))))))))) (.s .z) (Lens.comp (Lens.comp (Lens.whole _ _) (fun z => { i7 with f_B := z }) (c_api_Addr_f_B i7)) (fun z => vset i7.f_B i6 z) (Lens.vec (cInt .u8) (by decide) i7.f_B i6 h15)) Try.sizeOf5 rfl rfl rfl ?_
            refine at_nil ?_
            refine at_weak [(1, _), (2, _), (4, _), (11, _)] ⟨rfl, rfl, rfl, rfl, trivial⟩ ?_
            refine at_blk_normal (at_then_normal ?_)
            refine at_region ?_
            refine at_val rfl rfl rfl (r_iadd rfl rfl) ?_
            refine at_val rfl rfl rfl (r_move rfl) ?_
            refine at_nil ?_
            refine at_weak [(1, _), (2, _), (4, _), (11, _)] ⟨rfl, rfl, rfl, rfl, trivial⟩ ?_
            refine at_then_normal ?_
            exact at_weak_k (ih _ _ _ hF K) ⟨rfl, rfl, rfl, rfl, trivial⟩
        · refine at_cond_false rfl h8 ?_
          refine at_exit ?_
          refine at_then_exit (at_then_exit ?_)
          obtain rfl := of_some hF
          exact at_weak_k K ⟨rfl, rfl, trivial⟩
    · skip
      skip
      refine at_blk_same ?_
      refine at_then_normal ?_
      refine at_seq ?_
      refine at_region ?_
      refine at_val rfl rfl rfl (r_load_aggc (c := c_api_Addr) (z := q5) Try.isAgg32 Try.sizeOf32 rfl (lens_cell (.s .z) (Lens.whole _ _))) ?_
      refine at_store (c := c_api_Addr) (z := q5) .z (Lens.whole _ _) Try.sizeOf32 rfl rfl rfl ?_
      refine at_nil ?_
      refine at_drop (H := _) (.s .z) ?_
      refine at_weak [(4, _)] ⟨rfl, trivial⟩ ?_
      refine at_then_normal ?_
      refine at_ret ?_
      have K := of_some hF
      subst K
      exact at_res1 rfl (res_cell (c := c_api_Addr) (y := q5) rfl .z (Lens.whole _ _) Try.isAgg32 Try.sizeOf32 (.inl rfl)) (fun w1 hw => ⟨rfl, hw.below⟩)

def addr_Bit (x0 : S_api_Addr) (x1 : Int) : Option (Int) :=
  if (decide (x1 < 0)) = true then (some (-1)) else (addr_Width x0 >>= fun t3 => if (decide (x1 ≥ t3)) = true then (some (-1)) else (if (0 : Int) ≤ ishr .i64 x1 3 ∧ ishr .i64 x1 3 < 16 then if (0 : Int) ≤ wr .u64 (wr .i64 (7 - (iand .i64 x1 7))) then some (iand .i64 (wr .i64 (ishr .u8 (vget x0.f_B (ishr .i64 x1 3)) (wr .u64 (wr .i64 (7 - (iand .i64 x1 7)))))) 1) else none else none))
theorem addr_Bit_ok (x0 : S_api_Addr) (x1 : Int) (r : Int) (hF : addr_Bit x0 x1 = some r) (w : World) :
    Calls Try.prog 72 #[.agg (Cd.cs c_api_Addr x0).toArray, .int .i64 x1] w (fun e w' => e = .returned (.int .i64 r) ∧ Below w.heap.size w w') := by
  unfold addr_Bit at hF
  refine calls_enter (l := [.agg (Cd.cs c_api_Addr x0).toArray, .int .i64 x1]) Try.func72 rfl rfl rfl ?_
  refine at_start ?_
  refine at_weak [(0, _), (1, _)] ⟨rfl, rfl, trivial⟩ ?_
  refine at_seq ?_
  refine at_region ?_
  refine at_box (cs := Cd.cs c_api_Addr x0) rfl rfl rfl ?_
  intro b1
  refine at_val rfl rfl rfl (r_assign rfl) ?_
  refine at_nil ?_
  refine at_weak [(1, _), (2, _)] ⟨rfl, rfl, trivial⟩ ?_
  refine at_then_normal ?_
  refine at_seq ?_
  refine at_seq ?_
  refine at_region ?_
  refine at_val rfl rfl rfl (r_move rfl) ?_
  refine at_val rfl rfl rfl (r_ilss rfl rfl) ?_
  refine at_val rfl rfl rfl (r_move rfl) ?_
  rcases of_ite hF with ⟨h2, hF⟩ | ⟨h2, hF⟩
  · refine at_fix (g := 7) rfl h2 ?_
    refine at_guard_no rfl rfl rfl rfl rfl ?_
    refine at_guard_no rfl rfl rfl rfl rfl ?_
    refine at_guard_no rfl rfl rfl rfl rfl ?_
    refine at_guard_no rfl rfl rfl rfl rfl ?_
    refine at_val rfl rfl rfl (r_pick rfl rfl rfl) ?_
    refine at_nil ?_
    refine at_weak [(1, _), (2, _), (12, _)] ⟨rfl, rfl, rfl, trivial⟩ ?_
    refine at_then_normal ?_
    refine at_cond_true rfl rfl ?_
    refine at_seq ?_
    refine at_region ?_
    refine at_val rfl rfl rfl (r_assign rfl) ?_
    refine at_nil ?_
    refine at_drop (H := _) .z ?_
    refine at_weak [(4, _)] ⟨rfl, trivial⟩ ?_
    refine at_then_normal ?_
    refine at_ret ?_
    refine at_then_ret ?_
    have K := of_some hF
    subst K
    exact at_return1 rfl rfl (fun w1 hw => ⟨rfl, hw.below⟩)
  · refine at_fix (g := 7) rfl h2 ?_
    refine at_guard_yes rfl rfl rfl ?_
    refine at_val rfl rfl rfl (r_move rfl) ?_
    refine at_guard_yes rfl rfl rfl ?_
    refine at_val rfl rfl rfl (r_load_aggc (c := c_api_Addr) (z := x0) Try.isAgg32 Try.sizeOf32 rfl (lens_cell .z (Lens.whole _ _))) ?_
    refine at_guard_yes rfl rfl rfl ?_
    obtain ⟨t3, ht3, hF⟩ := of_bindM hF
    refine at_callB Try.func71 rfl (by kernel_rfl) rfl rfl (fun w hw => addr_Width_ok _ _ ht3 w) ?_
    refine at_guard_yes rfl rfl rfl ?_
    refine at_val rfl rfl rfl (r_igeq rfl rfl) ?_
    refine at_val rfl rfl rfl (r_pick rfl rfl rfl) ?_
    refine at_nil ?_
    refine at_weak [(1, _), (2, _), (12, _)] ⟨rfl, rfl, rfl, trivial⟩ ?_
    refine at_then_normal ?_
    rcases of_ite hF with ⟨h4, hF⟩ | ⟨h4, hF⟩
    · refine at_cond_true rfl h4 ?_
      refine at_seq ?_
      refine at_region ?_
      refine at_val rfl rfl rfl (r_assign rfl) ?_
      refine at_nil ?_
      refine at_drop (H := _) .z ?_
      refine at_weak [(4, _)] ⟨rfl, trivial⟩ ?_
      refine at_then_normal ?_
      refine at_ret ?_
      refine at_then_ret ?_
      have K := of_some hF
      subst K
      exact at_return1 rfl rfl (fun w1 hw => ⟨rfl, hw.below⟩)
    · refine at_cond_false rfl h4 ?_
      refine at_skip ?_
      refine at_then_normal ?_
      refine at_seq ?_
      refine at_region ?_
      refine at_val rfl rfl rfl (r_move rfl) ?_
      refine at_val rfl rfl rfl (r_ishr rfl rfl (by decide)) ?_
      refine at_val rfl rfl rfl (r_fieldAddr (fo := 1) Try.underlying32 rfl rfl (fun w => ⟨_, Try.sizeOf30 w⟩) rfl) ?_
      obtain ⟨h5, hF⟩ := of_guard hF
      refine at_val rfl rfl rfl (r_idxArr Try.underlying30 Try.sizeOf5 rfl rfl h5) ?_
      refine at_val rfl rfl rfl (r_load_cell Try.isAgg5 rfl (lens_cell0 (c := (cInt .u8)) (y := vget x0.f_B (ishr .i64 x1 3)) .z (Lens.comp (Lens.comp (Lens.whole _ _) (fun z => { x0 with f_B := z }) (c_api_Addr_f_B x0)) (fun z => vset x0.f_B (ishr .i64 x1 3) z) (Lens.vec (cInt .u8) (by decide) x0.f_B (ishr .i64 x1 3) h5)) rfl)) ?_
      refine at_val rfl rfl rfl (r_move rfl) ?_
      refine at_val rfl rfl rfl (r_iand rfl rfl) ?_
      refine at_val rfl rfl rfl (r_isub rfl rfl) ?_
      refine at_val rfl rfl rfl (r_conv Try.underlying3 Try.underlying131 rfl) ?_
      obtain ⟨h6, hF⟩ := of_guard hF
      refine at_val rfl rfl rfl (r_ishr rfl rfl h6) ?_
      refine at_val rfl rfl rfl (r_conv Try.underlying5 Try.underlying3 rfl) ?_
      refine at_val rfl rfl rfl (r_iand rfl rfl) ?_
      refine at_val rfl rfl rfl (r_assign rfl) ?_
      refine at_nil ?_
      refine at_drop (H := _) .z ?_
      refine at_weak [(4, _)] ⟨rfl, trivial⟩ ?_
      refine at_then_normal ?_
      refine at_ret ?_
      have K := of_some hF
      subst K
      exact at_return1 rfl rfl (fun w1 hw => ⟨rfl, hw.below⟩)

def cidr_Of (x0 : S_api_Addr) (x1 : Int) : Option (S_api_Prefix × Int) :=
  addr_Right x0 >>= fun t3 => if (!t3) = true then (some (({ f_A := ({ f_V := (0 : Int), f_B := (Vector.replicate 16 (0 : Int) : (Vector Int 16)) } : S_api_Addr), f_Bits := (0 : Int) } : S_api_Prefix), 1)) else (if (decide (x1 < 0)) = true then (some (({ f_A := ({ f_V := (0 : Int), f_B := (Vector.replicate 16 (0 : Int) : (Vector Int 16)) } : S_api_Addr), f_Bits := (0 : Int) } : S_api_Prefix), 6)) else (addr_Width x0 >>= fun t6 => if (decide (x1 > t6)) = true then (some (({ f_A := ({ f_V := (0 : Int), f_B := (Vector.replicate 16 (0 : Int) : (Vector Int 16)) } : S_api_Addr), f_Bits := (0 : Int) } : S_api_Prefix), 6)) else (addr_Mask x0 x1 >>= fun t8 => some ({ { ({ f_A := ({ f_V := (0 : Int), f_B := (Vector.replicate 16 (0 : Int) : (Vector Int 16)) } : S_api_Addr), f_Bits := (0 : Int) } : S_api_Prefix) with f_A := t8 } with f_Bits := x1 }, 0))))
theorem cidr_Of_ok (x0 : S_api_Addr) (x1 : Int) (r : S_api_Prefix × Int) (hF : cidr_Of x0 x1 = some r) (w : World) :
    Calls Try.prog 70 #[.agg (Cd.cs c_api_Addr x0).toArray, .int .i64 x1] w (fun e w' => e = .returned (.tuple #[.agg (Cd.cs c_api_Prefix r.1).toArray, .int .i64 r.2]) ∧ Below w.heap.size w w') := by
  unfold cidr_Of at hF
  refine calls_enter (l := [.agg (Cd.cs c_api_Addr x0).toArray, .int .i64 x1]) Try.func70 rfl rfl rfl ?_
  refine at_start ?_
  refine at_weak [(0, _), (1, _)] ⟨rfl, rfl, trivial⟩ ?_
  refine at_seq ?_
  refine at_region ?_
  refine at_box (cs := Cd.cs c_api_Addr x0) rfl rfl rfl ?_
  intro b1
  refine at_alloc (cs := Cd.cs c_api_Prefix ({ f_A := ({ f_V := (0 : Int), f_B := (Vector.replicate 16 (0 : Int) : (Vector Int 16)) } : S_api_Addr), f_Bits := (0 : Int) } : S_api_Prefix)) Try.zeroValue46 rfl rfl ?_
  intro b2
  refine at_val rfl rfl rfl (r_assign rfl) ?_
  refine at_nil ?_
  refine at_weak [(1, _), (2, _), (4, _)] ⟨rfl, rfl, rfl, trivial⟩ ?_
  refine at_then_normal ?_
  refine at_seq ?_
  refine at_block ?_
  refine at_seq ?_
  refine at_region ?_
  refine at_val rfl rfl rfl (r_load_aggc (c := c_api_Addr) (z := x0) Try.isAgg32 Try.sizeOf32 rfl (lens_cell (.s .z) (Lens.whole _ _))) ?_
  obtain ⟨t3, ht3, hF⟩ := of_bindM hF
  refine at_callB Try.func69 rfl (by kernel_rfl) rfl rfl (fun w hw => addr_Right_ok _ _ ht3 w) ?_
  refine at_val rfl rfl rfl (r_not rfl) ?_
  refine at_val rfl rfl rfl (r_assign rfl) ?_
  refine at_nil ?_
  refine at_weak [(1, _), (2, _), (4, _), (6, _)] ⟨rfl, rfl, rfl, rfl, trivial⟩ ?_
  refine at_then_normal ?_
  rcases of_ite hF with ⟨h4, hF⟩ | ⟨h4, hF⟩
  · refine at_cond_true rfl h4 ?_
    refine at_seq ?_
    refine at_region ?_
    refine at_val rfl rfl rfl (r_build_struct (zs := Cd.cs c_api_Prefix ({ f_A := ({ f_V := (0 : Int), f_B := (Vector.replicate 16 (0 : Int) : (Vector Int 16)) } : S_api_Addr), f_Bits := (0 : Int) } : S_api_Prefix)) (cs := Cd.cs c_api_Prefix ({ f_A := ({ f_V := (0 : Int), f_B := (Vector.replicate 16 (0 : Int) : (Vector Int 16)) } : S_api_Addr), f_Bits := (0 : Int) } : S_api_Prefix)) Try.underlying46 Try.zeroValue46 rfl (places_api_Prefix_46) rfl rfl) ?_
    refine at_store (c := c_api_Prefix) (z := ({ f_A := ({ f_V := (0 : Int), f_B := (Vector.replicate 16 (0 : Int) : (Vector Int 16)) } : S_api_Addr), f_Bits := (0 : Int) } : S_api_Prefix)) .z (Lens.whole _ _) Try.sizeOf46 rfl rfl rfl ?_
    refine at_val rfl rfl rfl (r_assign rfl) ?_
    refine at_nil ?_
    refine at_drop (H := _) (.s .z) ?_
    refine at_weak [(4, _), (5, _)] ⟨rfl, rfl, trivial⟩ ?_
    refine at_then_normal ?_
    refine at_ret ?_
    refine at_blk_ret (at_then_ret ?_)
    have K := of_some hF
    subst K
    exact at_res2 rfl (res_cell (c := c_api_Prefix) (y := ({ f_A := ({ f_V := (0 : Int), f_B := (Vector.replicate 16 (0 : Int) : (Vector Int 16)) } : S_api_Addr), f_Bits := (0 : Int) } : S_api_Prefix)) rfl .z (Lens.whole _ _) Try.isAgg46 Try.sizeOf46 (.inl rfl)) (res_tmp rfl) (fun w1 hw => ⟨rfl, hw.below⟩)
  · refine at_cond_false rfl h4 ?_
    refine at_seq ?_
    refine at_region ?_
    refine at_val rfl rfl rfl (r_move rfl) ?_
    refine at_val rfl rfl rfl (r_ilss rfl rfl) ?_
    refine at_val rfl rfl rfl (r_move rfl) ?_
    rcases of_ite hF with ⟨h5, hF⟩ | ⟨h5, hF⟩
    · refine at_fix (g := 14) rfl h5 ?_
      refine at_guard_no rfl rfl rfl rfl rfl ?_
      refine at_guard_no rfl rfl rfl rfl rfl ?_
      refine at_guard_no rfl rfl rfl rfl rfl ?_
      refine at_guard_no rfl rfl rfl rfl rfl ?_
      refine at_val rfl rfl rfl (r_pick rfl rfl rfl) ?_
      refine at_val rfl rfl rfl (r_assign rfl) ?_
      refine at_nil ?_
      refine at_weak [(1, _), (2, _), (4, _), (11, _)] ⟨rfl, rfl, rfl, rfl, trivial⟩ ?_
      refine at_then_normal ?_
      refine at_cond_true rfl rfl ?_
      refine at_seq ?_
      refine at_region ?_
      refine at_val rfl rfl rfl (r_build_struct (zs := Cd.cs c_api_Prefix ({ f_A := ({ f_V := (0 : Int), f_B := (Vector.replicate 16 (0 : Int) : (Vector Int 16)) } : S_api_Addr), f_Bits := (0 : Int) } : S_api_Prefix)) (cs := Cd.cs c_api_Prefix ({ f_A := ({ f_V := (0 : Int), f_B := (Vector.replicate 16 (0 : Int) : (Vector Int 16)) } : S_api_Addr), f_Bits := (0 : Int) } : S_api_Prefix)) Try.underlying46 Try.zeroValue46 rfl (places_api_Prefix_46) rfl rfl) ?_
      refine at_store (c := c_api_Prefix) (z := ({ f_A := ({ f_V := (0 : Int), f_B := (Vector.replicate 16 (0 : Int) : (Vector Int 16)) } : S_api_Addr), f_Bits := (0 : Int) } : S_api_Prefix)) .z (Lens.whole _ _) Try.sizeOf46 rfl rfl rfl ?_
      refine at_val rfl rfl rfl (r_assign rfl) ?_
      refine at_nil ?_
      refine at_drop (H := _) (.s .z) ?_
      refine at_weak [(4, _), (5, _)] ⟨rfl, rfl, trivial⟩ ?_
      refine at_then_normal ?_
      refine at_ret ?_
      refine at_blk_ret (at_then_ret ?_)
      have K := of_some hF
      subst K
      exact at_res2 rfl (res_cell (c := c_api_Prefix) (y := ({ f_A := ({ f_V := (0 : Int), f_B := (Vector.replicate 16 (0 : Int) : (Vector Int 16)) } : S_api_Addr), f_Bits := (0 : Int) } : S_api_Prefix)) rfl .z (Lens.whole _ _) Try.isAgg46 Try.sizeOf46 (.inl rfl)) (res_tmp rfl) (fun w1 hw => ⟨rfl, hw.below⟩)
    · refine at_fix (g := 14) rfl h5 ?_
      refine at_guard_yes rfl rfl rfl ?_
      refine at_val rfl rfl rfl (r_move rfl) ?_
      refine at_guard_yes rfl rfl rfl ?_
      refine at_val rfl rfl rfl (r_load_aggc (c := c_api_Addr) (z := x0) Try.isAgg32 Try.sizeOf32 rfl (lens_cell (.s .z) (Lens.whole _ _))) ?_
      refine at_guard_yes rfl rfl rfl ?_
      obtain ⟨t6, ht6, hF⟩ := of_bindM hF
      refine at_callB Try.func71 rfl (by kernel_rfl) rfl rfl (fun w hw => addr_Width_ok _ _ ht6 w) ?_
      refine at_guard_yes rfl rfl rfl ?_
      refine at_val rfl rfl rfl (r_igtr rfl rfl) ?_
      refine at_val rfl rfl rfl (r_pick rfl rfl rfl) ?_
      refine at_val rfl rfl rfl (r_assign rfl) ?_
      refine at_nil ?_
      refine at_weak [(1, _), (2, _), (4, _), (11, _)] ⟨rfl, rfl, rfl, rfl, trivial⟩ ?_
      refine at_then_normal ?_
      rcases of_ite hF with ⟨h7, hF⟩ | ⟨h7, hF⟩
      · refine at_cond_true rfl h7 ?_
        refine at_seq ?_
        refine at_region ?_
        refine at_val rfl rfl rfl (r_build_struct (zs := Cd.cs c_api_Prefix ({ f_A := ({ f_V := (0 : Int), f_B := (Vector.replicate 16 (0 : Int) : (Vector Int 16)) } : S_api_Addr), f_Bits := (0 : Int) } : S_api_Prefix)) (cs := Cd.cs c_api_Prefix ({ f_A := ({ f_V := (0 : Int), f_B := (Vector.replicate 16 (0 : Int) : (Vector Int 16)) } : S_api_Addr), f_Bits := (0 : Int) } : S_api_Prefix)) Try.underlying46 Try.zeroValue46 rfl (places_api_Prefix_46) rfl rfl) ?_
        refine at_store (c := c_api_Prefix) (z := ({ f_A := ({ f_V := (0 : Int), f_B := (Vector.replicate 16 (0 : Int) : (Vector Int 16)) } : S_api_Addr), f_Bits := (0 : Int) } : S_api_Prefix)) .z (Lens.whole _ _) Try.sizeOf46 rfl rfl rfl ?_
        refine at_val rfl rfl rfl (r_assign rfl) ?_
        refine at_nil ?_
        refine at_drop (H := _) (.s .z) ?_
        refine at_weak [(4, _), (5, _)] ⟨rfl, rfl, trivial⟩ ?_
        refine at_then_normal ?_
        refine at_ret ?_
        refine at_blk_ret (at_then_ret ?_)
        have K := of_some hF
        subst K
        exact at_res2 rfl (res_cell (c := c_api_Prefix) (y := ({ f_A := ({ f_V := (0 : Int), f_B := (Vector.replicate 16 (0 : Int) : (Vector Int 16)) } : S_api_Addr), f_Bits := (0 : Int) } : S_api_Prefix)) rfl .z (Lens.whole _ _) Try.isAgg46 Try.sizeOf46 (.inl rfl)) (res_tmp rfl) (fun w1 hw => ⟨rfl, hw.below⟩)
      · refine at_cond_false rfl h7 ?_
        refine at_skip ?_
        refine at_blk_normal (at_then_normal ?_)
        refine at_seq ?_
        refine at_region ?_
        refine at_val rfl rfl rfl (r_load_aggc (c := c_api_Addr) (z := x0) Try.isAgg32 Try.sizeOf32 rfl (lens_cell (.s .z) (Lens.whole _ _))) ?_
        refine at_val rfl rfl rfl (r_move rfl) ?_
        obtain ⟨t8, ht8, hF⟩ := of_bindM hF
        refine at_callB Try.func92 rfl (by kernel_rfl) rfl rfl (fun w hw => addr_Mask_ok _ _ _ ht8 w) ?_
        refine at_val rfl rfl rfl (r_move rfl) ?_
        refine at_val rfl rfl rfl (r_build_struct (zs := Cd.cs c_api_Prefix ({ f_A := ({ f_V := (0 : Int), f_B := (Vector.replicate 16 (0 : Int) : (Vector Int 16)) } : S_api_Addr), f_Bits := (0 : Int) } : S_api_Prefix)) (cs := Cd.cs c_api_Prefix ({ { ({ f_A := ({ f_V := (0 : Int), f_B := (Vector.replicate 16 (0 : Int) : (Vector Int 16)) } : S_api_Addr), f_Bits := (0 : Int) } : S_api_Prefix) with f_A := t8 } with f_Bits := x1 })) Try.underlying46 Try.zeroValue46 rfl (places_api_Prefix_46) rfl (fill_step (c := c_api_Addr) (z := t8) rfl (c_api_Prefix_f_A ({ f_A := ({ f_V := (0 : Int), f_B := (Vector.replicate 16 (0 : Int) : (Vector Int 16)) } : S_api_Addr), f_Bits := (0 : Int) } : S_api_Prefix)) rfl (fill_step (c := (cInt .i64)) (z := x1) rfl (c_api_Prefix_f_Bits ({ ({ f_A := ({ f_V := (0 : Int), f_B := (Vector.replicate 16 (0 : Int) : (Vector Int 16)) } : S_api_Addr), f_Bits := (0 : Int) } : S_api_Prefix) with f_A := t8 })) rfl rfl))) ?_
        refine at_store (c := c_api_Prefix) (z := { { ({ f_A := ({ f_V := (0 : Int), f_B := (Vector.replicate 16 (0 : Int) : (Vector Int 16)) } : S_api_Addr), f_Bits := (0 : Int) } : S_api_Prefix) with f_A := t8 } with f_Bits := x1 }) .z (Lens.whole _ _) Try.sizeOf46 rfl rfl rfl ?_
        refine at_val rfl rfl rfl (r_assign rfl) ?_
        refine at_nil ?_
        refine at_drop (H := _) (.s .z) ?_
        refine at_weak [(4, _), (5, _)] ⟨rfl, rfl, trivial⟩ ?_
        refine at_then_normal ?_
        refine at_ret ?_
        have K := of_some hF
        subst K
        exact at_res2 rfl (res_cell (c := c_api_Prefix) (y := { { ({ f_A := ({ f_V := (0 : Int), f_B := (Vector.replicate 16 (0 : Int) : (Vector Int 16)) } : S_api_Addr), f_Bits := (0 : Int) } : S_api_Prefix) with f_A := t8 } with f_Bits := x1 }) rfl .z (Lens.whole _ _) Try.isAgg46 Try.sizeOf46 (.inl rfl)) (res_tmp rfl) (fun w1 hw => ⟨rfl, hw.below⟩)

def cidr_Right (x0 : S_api_Prefix) : Option (Bool) :=
  cidr_Of x0.f_A x0.f_Bits >>= fun t2 => if (t2.2 == 0) = true then (some (decide (t2.1 = x0))) else (some false)
theorem cidr_Right_ok (x0 : S_api_Prefix) (r : Bool) (hF : cidr_Right x0 = some r) (w : World) :
    Calls Try.prog 55 #[.agg (Cd.cs c_api_Prefix x0).toArray] w (fun e w' => e = .returned (.bool r) ∧ Below w.heap.size w w') := by
  unfold cidr_Right at hF
  refine calls_enter (l := [.agg (Cd.cs c_api_Prefix x0).toArray]) Try.func55 rfl rfl rfl ?_
  refine at_start ?_
  refine at_weak [(0, _)] ⟨rfl, trivial⟩ ?_
  refine at_seq ?_
  refine at_region ?_
  refine at_box (cs := Cd.cs c_api_Prefix x0) rfl rfl rfl ?_
  intro b1
  refine at_val rfl rfl rfl (r_assign rfl) ?_
  refine at_nil ?_
  refine at_weak [(1, _)] ⟨rfl, trivial⟩ ?_
  refine at_then_normal ?_
  refine at_seq ?_
  refine at_region ?_
  refine at_val rfl rfl rfl (r_fieldAddr (fo := 0) Try.underlying46 rfl rfl (fun w => ⟨_, Try.sizeOf32 w⟩) rfl) ?_
  refine at_val rfl rfl rfl (r_load_aggc (c := c_api_Addr) (z := x0.f_A) Try.isAgg32 Try.sizeOf32 rfl (lens_cell .z (Lens.comp (Lens.whole _ _) (fun z => { x0 with f_A := z }) (c_api_Prefix_f_A x0)))) ?_
  refine at_val rfl rfl rfl (r_fieldAddr (fo := 17) Try.underlying46 rfl rfl (fun w => ⟨_, Try.sizeOf3 w⟩) rfl) ?_
  refine at_val rfl rfl rfl (r_load_cell Try.isAgg3 rfl (lens_cell0 (c := (cInt .i64)) (y := x0.f_Bits) .z (Lens.comp (Lens.whole _ _) (fun z => { x0 with f_Bits := z }) (c_api_Prefix_f_Bits x0)) rfl)) ?_
  obtain ⟨t2, ht2, hF⟩ := of_bindM hF
  refine at_callB Try.func70 rfl (by kernel_rfl) rfl rfl (fun w hw => cidr_Of_ok _ _ _ ht2 w) ?_
  refine at_val rfl rfl rfl (r_move rfl) ?_
  refine at_val rfl rfl rfl (r_extract rfl rfl) ?_
  refine at_val rfl rfl rfl (r_extract rfl rfl) ?_
  refine at_alloc (cs := Cd.cs c_api_Prefix ({ f_A := ({ f_V := (0 : Int), f_B := (Vector.replicate 16 (0 : Int) : (Vector Int 16)) } : S_api_Addr), f_Bits := (0 : Int) } : S_api_Prefix)) Try.zeroValue46 rfl rfl ?_
  intro b3
  refine at_store (c := c_api_Prefix) (z := t2.1) .z (Lens.whole _ _) Try.sizeOf46 rfl rfl rfl ?_
  refine at_val rfl rfl rfl (r_assign rfl) ?_
  refine at_nil ?_
  refine at_weak [(1, _), (3, _), (4, _)] ⟨rfl, rfl, rfl, trivial⟩ ?_
  refine at_then_normal ?_
  refine at_seq ?_
  refine at_region ?_
  refine at_val rfl rfl rfl (r_move rfl) ?_
  refine at_val rfl rfl rfl (r_ieql rfl rfl) ?_
  refine at_val rfl rfl rfl (r_move rfl) ?_
  rcases of_ite hF with ⟨h4, hF⟩ | ⟨h4, hF⟩
  · refine at_fix (g := 15) rfl h4 ?_
    refine at_guard_yes rfl rfl rfl ?_
    refine at_val rfl rfl rfl (r_load_aggc (c := c_api_Prefix) (z := t2.1) Try.isAgg46 Try.sizeOf46 rfl (lens_cell .z (Lens.whole _ _))) ?_
    refine at_guard_yes rfl rfl rfl ?_
    refine at_val rfl rfl rfl (r_load_aggc (c := c_api_Prefix) (z := x0) Try.isAgg46 Try.sizeOf46 rfl (lens_cell (.s .z) (Lens.whole _ _))) ?_
    refine at_guard_yes rfl rfl rfl ?_
    refine at_val rfl rfl rfl (r_eqagg (c := c_api_Prefix) (a := t2.1) (b := x0) (eq_api_Prefix_46) rfl Try.eqGuardType46 rfl rfl (.inl rfl) rfl) ?_
    refine at_val rfl rfl rfl (r_pick rfl rfl rfl) ?_
    refine at_val rfl rfl rfl (r_assign rfl) ?_
    refine at_nil ?_
    refine at_drop (H := _) .z ?_
    refine at_drop (H := _) .z ?_
    refine at_weak [(2, _)] ⟨rfl, trivial⟩ ?_
    refine at_then_normal ?_
    refine at_ret ?_
    have K := of_some hF
    subst K
    exact at_return1 rfl rfl (fun w1 hw => ⟨rfl, hw.below⟩)
  · refine at_fix (g := 15) rfl h4 ?_
    refine at_guard_no rfl rfl rfl rfl rfl ?_
    refine at_guard_no rfl rfl rfl rfl rfl ?_
    refine at_guard_no rfl rfl rfl rfl rfl ?_
    refine at_val rfl rfl rfl (r_pick rfl rfl rfl) ?_
    refine at_val rfl rfl rfl (r_assign rfl) ?_
    refine at_nil ?_
    refine at_drop (H := _) .z ?_
    refine at_drop (H := _) .z ?_
    refine at_weak [(2, _)] ⟨rfl, trivial⟩ ?_
    refine at_then_normal ?_
    refine at_ret ?_
    have K := of_some hF
    subst K
    exact at_return1 rfl rfl (fun w1 hw => ⟨rfl, hw.below⟩)

def crawlwayref10_Right.l0 (x0 : S_api_Addr) (i4 : Int) : Option (Ctl (Bool) (Unit)) :=
  if (decide (i4 < 16)) = true then (if (0 : Int) ≤ i4 ∧ i4 < 16 then if (vget x0.f_B i4 != 0) = true then (some (.ret false)) else (crawlwayref10_Right.l0 x0 (wr .i64 (i4 + 1))) else none) else (some (.nx ()))
  partial_fixpoint
def crawlwayref10_Right (x0 : S_api_Addr) : Option (Bool) :=
  if (x0.f_V == 6) = true then (some true) else (crawlwayref10_Right.l0 x0 4 >>= fun q3 => match q3 with | .ret r' => some r' | .nx sq3 => (some (x0.f_V == 4)))
theorem crawlwayref10_Right_ok (x0 : S_api_Addr) (r : Bool) (hF : crawlwayref10_Right x0 = some r) (w : World) :
    Calls Try.prog 84 #[.agg (Cd.cs c_api_Addr x0).toArray] w (fun e w' => e = .returned (.bool r) ∧ Below w.heap.size w w') := by
  unfold crawlwayref10_Right at hF
  refine calls_enter (l := [.agg (Cd.cs c_api_Addr x0).toArray]) Try.func84 rfl rfl rfl ?_
  refine at_start ?_
  refine at_weak [(0, _)] ⟨rfl, trivial⟩ ?_
  refine at_seq ?_
  refine at_region ?_
  refine at_box (cs := Cd.cs c_api_Addr x0) rfl rfl rfl ?_
  intro b1
  refine at_val rfl rfl rfl (r_assign rfl) ?_
  refine at_nil ?_
  refine at_weak [(1, _)] ⟨rfl, trivial⟩ ?_
  refine at_then_normal ?_
  refine at_seq ?_
  refine at_seq ?_
  refine at_region ?_
  refine at_val rfl rfl rfl (r_fieldAddr (fo := 0) Try.underlying32 rfl rfl (fun w => ⟨_, Try.sizeOf3 w⟩) rfl) ?_
  refine at_val rfl rfl rfl (r_load_cell Try.isAgg3 rfl (lens_cell0 (c := (cInt .i64)) (y := x0.f_V) .z (Lens.comp (Lens.whole _ _) (fun z => { x0 with f_V := z }) (c_api_Addr_f_V x0)) rfl)) ?_
  refine at_val rfl rfl rfl (r_ieql rfl rfl) ?_
  refine at_nil ?_
  refine at_weak [(1, _), (6, _)] ⟨rfl, rfl, trivial⟩ ?_
  refine at_then_normal ?_
  rcases of_ite hF with ⟨h2, hF⟩ | ⟨h2, hF⟩
  · refine at_cond_true rfl h2 ?_
    refine at_seq ?_
    refine at_region ?_
    refine at_val rfl rfl rfl (r_assign rfl) ?_
    refine at_nil ?_
    refine at_drop (H := _) .z ?_
    refine at_weak [(2, _)] ⟨rfl, trivial⟩ ?_
    refine at_then_normal ?_
    refine at_ret ?_
    refine at_then_ret ?_
    have K := of_some hF
    subst K
    exact at_return1 rfl rfl (fun w1 hw => ⟨rfl, hw.below⟩)
  · refine at_cond_false rfl h2 ?_
    refine at_skip ?_
    refine at_then_normal ?_
    refine at_seq ?_
    refine at_seq ?_
    refine at_region ?_
    refine at_val rfl rfl rfl (r_assign rfl) ?_
    refine at_nil ?_
    refine at_weak [(1, _), (3, _)] ⟨rfl, rfl, trivial⟩ ?_
    refine at_then_normal ?_
    refine at_block ?_
    obtain ⟨q3, hq3, hF⟩ := of_bindM hF
    refine at_weak [(1, _), (3, _)] ⟨rfl, rfl, trivial⟩ ?_
    refine at_loop_r (B := 0) (r := r) (q := q3) (A := fun (_ : Unit) Y => At 19 [(1, .pointer (some ⟨b1, 0, none⟩))] (Wd w [cellsE b1 (Cd.cs c_api_Addr x0) 32]) Y) ?_ ?_
    · intro K
      refine crawlwayref10_Right.l0.partial_correctness x0 (motive := fun i4 x => KR (fun (_ : Unit) Y => At 19 [(1, .pointer (some ⟨b1, 0, none⟩))] (Wd w [cellsE b1 (Cd.cs c_api_Addr x0) 32]) Y) _ 0 r x → Round (fun Y => At 19 [(1, .pointer (some ⟨b1, 0, none⟩)), (3, .int .i64 i4)] (Wd w [cellsE b1 (Cd.cs c_api_Addr x0) 32]) Y) _ _ _) ?_ _ _ hq3 K
      · clear K hF
        intro g ih i4 x hF K
        refine at_round ?_
        refine at_seq ?_
        refine at_seq ?_
        refine at_region ?_
        refine at_val rfl rfl rfl (r_move rfl) ?_
        refine at_val rfl rfl rfl (r_ilss rfl rfl) ?_
        refine at_nil ?_
        refine at_weak [(1, _), (3, _), (8, _)] ⟨rfl, rfl, rfl, trivial⟩ ?_
        refine at_then_normal ?_
        rcases of_ite hF with ⟨h5, hF⟩ | ⟨h5, hF⟩
        · refine at_cond_true rfl h5 ?_
          refine at_skip ?_
          refine at_then_normal ?_
          refine at_seq ?_
          refine at_block ?_
          refine at_seq ?_
          refine at_region ?_
          refine at_val rfl rfl rfl (r_move rfl) ?_
          refine at_val rfl rfl rfl (r_fieldAddr (fo := 1) Try.underlying32 rfl rfl (fun w => ⟨_, Try.sizeOf30 w⟩) rfl) ?_
          obtain ⟨h6, hF⟩ := of_guard hF
          refine at_val rfl rfl rfl (r_idxArr Try.underlying30 Try.sizeOf5 rfl rfl h6) ?_
          refine at_val rfl rfl rfl (r_load_cell Try.isAgg5 rfl (lens_cell0 (c := (cInt .u8)) (y := vget x0.f_B i4) .z (Lens.comp (Lens.comp (Lens.whole _ _) (fun z => { x0 with f_B := z }) (c_api_Addr_f_B x0)) (fun z => vset x0.f_B i4 z) (Lens.vec (cInt .u8) (by decide) x0.f_B i4 h6)) rfl)) ?_
          refine at_val rfl rfl rfl (r_ineq rfl rfl) ?_
          refine at_nil ?_
          refine at_weak [(1, _), (3, _), (15, _)] ⟨rfl, rfl, rfl, trivial⟩ ?_
          refine at_then_normal ?_
          rcases of_ite hF with ⟨h7, hF⟩ | ⟨h7, hF⟩
          · refine at_cond_true rfl h7 ?_
            refine at_seq ?_
            refine at_region ?_
            refine at_val rfl rfl rfl (r_assign rfl) ?_
            refine at_nil ?_
            refine at_drop (H := _) .z ?_
            refine at_weak [(2, _)] ⟨rfl, trivial⟩ ?_
            refine at_then_normal ?_
            refine at_ret ?_
            refine at_blk_ret (at_then_ret (at_then_ret (at_blk_ret (at_then_ret ?_))))
            obtain rfl := of_some hF
            subst K
            exact at_return1 rfl rfl (fun w1 hw => ⟨rfl, hw.below⟩)
          · refine at_cond_false rfl h7 ?_
            refine at_skip ?_
            refine at_blk_normal (at_then_normal ?_)
            refine at_region ?_
            refine at_val rfl rfl rfl (r_move rfl) ?_
            refine at_val rfl rfl rfl (r_iadd rfl rfl) ?_
            refine at_val rfl rfl rfl (r_assign rfl) ?_
            refine at_nil ?_
            refine at_weak [(1, _), (3, _)] ⟨rfl, rfl, trivial⟩ ?_
            refine at_then_normal ?_
            exact at_weak_k (ih _ _ hF K) ⟨rfl, rfl, trivial⟩
        · refine at_cond_false rfl h5 ?_
          refine at_exit ?_
          refine at_then_exit (at_then_exit ?_)
          obtain rfl := of_some hF
          exact at_weak_k K ⟨rfl, trivial⟩
    · cases q3 with
      | ret r' => exact of_some hF
      | nx sq3 =>
        skip
        refine at_blk_same ?_
        refine at_then_normal ?_
        refine at_seq ?_
        refine at_region ?_
        refine at_val rfl rfl rfl (r_fieldAddr (fo := 0) Try.underlying32 rfl rfl (fun w => ⟨_, Try.sizeOf3 w⟩) rfl) ?_
        refine at_val rfl rfl rfl (r_load_cell Try.isAgg3 rfl (lens_cell0 (c := (cInt .i64)) (y := x0.f_V) .z (Lens.comp (Lens.whole _ _) (fun z => { x0 with f_V := z }) (c_api_Addr_f_V x0)) rfl)) ?_
        refine at_val rfl rfl rfl (r_ieql rfl rfl) ?_
        refine at_val rfl rfl rfl (r_assign rfl) ?_
        refine at_nil ?_
        refine at_drop (H := _) .z ?_
        refine at_weak [(2, _)] ⟨rfl, trivial⟩ ?_
        refine at_then_normal ?_
        refine at_ret ?_
        have K := of_some hF
        subst K
        exact at_return1 rfl rfl (fun w1 hw => ⟨rfl, hw.below⟩)

def crawlwayref10_Width (x0 : S_api_Addr) : Option (Int) :=
  crawlwayref10_Right x0 >>= fun t2 => if (!t2) = true then (some 0) else (if (x0.f_V == 4) = true then (some 32) else (some 128))
theorem crawlwayref10_Width_ok (x0 : S_api_Addr) (r : Int) (hF : crawlwayref10_Width x0 = some r) (w : World) :
    Calls Try.prog 85 #[.agg (Cd.cs c_api_Addr x0).toArray] w (fun e w' => e = .returned (.int .i64 r) ∧ Below w.heap.size w w') := by
  unfold crawlwayref10_Width at hF
  refine calls_enter (l := [.agg (Cd.cs c_api_Addr x0).toArray]) Try.func85 rfl rfl rfl ?_
  refine at_start ?_
  refine at_weak [(0, _)] ⟨rfl, trivial⟩ ?_
  refine at_seq ?_
  refine at_region ?_
  refine at_box (cs := Cd.cs c_api_Addr x0) rfl rfl rfl ?_
  intro b1
  refine at_val rfl rfl rfl (r_assign rfl) ?_
  refine at_nil ?_
  refine at_weak [(1, _)] ⟨rfl, trivial⟩ ?_
  refine at_then_normal ?_
  refine at_seq ?_
  refine at_seq ?_
  refine at_region ?_
  refine at_val rfl rfl rfl (r_load_aggc (c := c_api_Addr) (z := x0) Try.isAgg32 Try.sizeOf32 rfl (lens_cell .z (Lens.whole _ _))) ?_
  obtain ⟨t2, ht2, hF⟩ := of_bindM hF
  refine at_callB Try.func84 rfl (by kernel_rfl) rfl rfl (fun w hw => crawlwayref10_Right_ok _ _ ht2 w) ?_
  refine at_val rfl rfl rfl (r_not rfl) ?_
  refine at_nil ?_
  refine at_weak [(1, _), (5, _)] ⟨rfl, rfl, trivial⟩ ?_
  refine at_then_normal ?_
  rcases of_ite hF with ⟨h3, hF⟩ | ⟨h3, hF⟩
  · refine at_cond_true rfl h3 ?_
    refine at_seq ?_
    refine at_region ?_
    refine at_val rfl rfl rfl (r_assign rfl) ?_
    refine at_nil ?_
    refine at_drop (H := _) .z ?_
    refine at_weak [(2, _)] ⟨rfl, trivial⟩ ?_
    refine at_then_normal ?_
    refine at_ret ?_
    refine at_then_ret ?_
    have K := of_some hF
    subst K
    exact at_return1 rfl rfl (fun w1 hw => ⟨rfl, hw.below⟩)
  · refine at_cond_false rfl h3 ?_
    refine at_skip ?_
    refine at_then_normal ?_
    refine at_seq ?_
    refine at_seq ?_
    refine at_region ?_
    refine at_val rfl rfl rfl (r_fieldAddr (fo := 0) Try.underlying32 rfl rfl (fun w => ⟨_, Try.sizeOf3 w⟩) rfl) ?_
    refine at_val rfl rfl rfl (r_load_cell Try.isAgg3 rfl (lens_cell0 (c := (cInt .i64)) (y := x0.f_V) .z (Lens.comp (Lens.whole _ _) (fun z => { x0 with f_V := z }) (c_api_Addr_f_V x0)) rfl)) ?_
    refine at_val rfl rfl rfl (r_ieql rfl rfl) ?_
    refine at_nil ?_
    refine at_drop (H := _) .z ?_
    refine at_weak [(8, _)] ⟨rfl, trivial⟩ ?_
    refine at_then_normal ?_
    rcases of_ite hF with ⟨h4, hF⟩ | ⟨h4, hF⟩
    · refine at_cond_true rfl h4 ?_
      refine at_seq ?_
      refine at_region ?_
      refine at_val rfl rfl rfl (r_assign rfl) ?_
      refine at_nil ?_
      refine at_weak [(2, _)] ⟨rfl, trivial⟩ ?_
      refine at_then_normal ?_
      refine at_ret ?_
      refine at_then_ret ?_
      have K := of_some hF
      subst K
      exact at_return1 rfl rfl (fun w1 hw => ⟨rfl, hw.below⟩)
    · refine at_cond_false rfl h4 ?_
      refine at_skip ?_
      refine at_then_normal ?_
      refine at_seq ?_
      refine at_region ?_
      refine at_val rfl rfl rfl (r_assign rfl) ?_
      refine at_nil ?_
      refine at_weak [(2, _)] ⟨rfl, trivial⟩ ?_
      refine at_then_normal ?_
      refine at_ret ?_
      have K := of_some hF
      subst K
      exact at_return1 rfl rfl (fun w1 hw => ⟨rfl, hw.below⟩)

def crawlwayref10_digit.l0 (x1 : Int) (i4 : Int) (i5 : Int) : Option (Int) :=
  if (decide (i5 > Int.tmod x1 8)) = true then (crawlwayref10_digit.l0 x1 (wr .i64 (Int.tdiv i4 2)) (wr .i64 (i5 - 1))) else (some i4)
  partial_fixpoint
def crawlwayref10_digit (x0 : S_api_Addr) (x1 : Int) : Option (Int) :=
  if (0 : Int) ≤ wr .i64 (Int.tdiv x1 8) ∧ wr .i64 (Int.tdiv x1 8) < 16 then crawlwayref10_digit.l0 x1 (wr .i64 (vget x0.f_B (wr .i64 (Int.tdiv x1 8)))) 7 >>= fun q3 => some (Int.tmod q3 2) else none
theorem crawlwayref10_digit_ok (x0 : S_api_Addr) (x1 : Int) (r : Int) (hF : crawlwayref10_digit x0 x1 = some r) (w : World) :
    Calls Try.prog 95 #[.agg (Cd.cs c_api_Addr x0).toArray, .int .i64 x1] w (fun e w' => e = .returned (.int .i64 r) ∧ Below w.heap.size w w') := by
  unfold crawlwayref10_digit at hF
  refine calls_enter (l := [.agg (Cd.cs c_api_Addr x0).toArray, .int .i64 x1]) Try.func95 rfl rfl rfl ?_
  refine at_start ?_
  refine at_weak [(0, _), (1, _)] ⟨rfl, rfl, trivial⟩ ?_
  refine at_seq ?_
  refine at_region ?_
  refine at_box (cs := Cd.cs c_api_Addr x0) rfl rfl rfl ?_
  intro b1
  refine at_val rfl rfl rfl (r_assign rfl) ?_
  refine at_nil ?_
  refine at_weak [(1, _), (2, _)] ⟨rfl, rfl, trivial⟩ ?_
  refine at_then_normal ?_
  refine at_seq ?_
  refine at_region ?_
  refine at_val rfl rfl rfl (r_move rfl) ?_
  refine at_val rfl rfl rfl (r_iquo rfl rfl (by decide)) ?_
  refine at_val rfl rfl rfl (r_fieldAddr (fo := 1) Try.underlying32 rfl rfl (fun w => ⟨_, Try.sizeOf30 w⟩) rfl) ?_
  obtain ⟨h2, hF⟩ := of_guard hF
  refine at_val rfl rfl rfl (r_idxArr Try.underlying30 Try.sizeOf5 rfl rfl h2) ?_
  refine at_val rfl rfl rfl (r_load_cell Try.isAgg5 rfl (lens_cell0 (c := (cInt .u8)) (y := vget x0.f_B (wr .i64 (Int.tdiv x1 8))) .z (Lens.comp (Lens.comp (Lens.whole _ _) (fun z => { x0 with f_B := z }) (c_api_Addr_f_B x0)) (fun z => vset x0.f_B (wr .i64 (Int.tdiv x1 8)) z) (Lens.vec (cInt .u8) (by decide) x0.f_B (wr .i64 (Int.tdiv x1 8)) h2)) rfl)) ?_
  refine at_val rfl rfl rfl (r_conv Try.underlying5 Try.underlying3 rfl) ?_
  refine at_val rfl rfl rfl (r_assign rfl) ?_
  refine at_nil ?_
  refine at_drop (H := _) .z ?_
  refine at_weak [(1, _), (5, _)] ⟨rfl, rfl, trivial⟩ ?_
  refine at_then_normal ?_
  refine at_seq ?_
  refine at_seq ?_
  refine at_region ?_
  refine at_val rfl rfl rfl (r_assign rfl) ?_
  refine at_nil ?_
  refine at_weak [(1, _), (5, _), (6, _)] ⟨rfl, rfl, rfl, trivial⟩ ?_
  refine at_then_normal ?_
  refine at_block ?_
  obtain ⟨q3, hq3, hF⟩ := of_bindM hF
  refine at_weak [(1, _), (5, _), (6, _)] ⟨rfl, rfl, rfl, trivial⟩ ?_
  refine at_loop_n (B := 0) (A := fun Y => At 23 [(5, .int .i64 q3)] (Wd w []) Y) ?_ ?_
  · intro K
    refine crawlwayref10_digit.l0.partial_correctness x1 (motive := fun i4 i5 x => KN (fun Y => At 23 [(5, .int .i64 x)] (Wd w []) Y) _ 0 → Round (fun Y => At 23 [(1, .int .i64 x1), (5, .int .i64 i4), (6, .int .i64 i5)] (Wd w []) Y) _ _ _) ?_ _ _ _ hq3 K
    · clear K hF
      intro g ih i4 i5 x hF K
      refine at_round ?_
      refine at_seq ?_
      refine at_seq ?_
      refine at_region ?_
      refine at_val rfl rfl rfl (r_move rfl) ?_
      refine at_val rfl rfl rfl (r_move rfl) ?_
      refine at_val rfl rfl rfl (r_irem rfl rfl (by decide)) ?_
      refine at_val rfl rfl rfl (r_igtr rfl rfl) ?_
      refine at_nil ?_
      refine at_weak [(1, _), (5, _), (6, _), (16, _)] ⟨rfl, rfl, rfl, rfl, trivial⟩ ?_
      refine at_then_normal ?_
      rcases of_ite hF with ⟨h6, hF⟩ | ⟨h6, hF⟩
      · refine at_cond_true rfl h6 ?_
        refine at_skip ?_
        refine at_then_normal ?_
        refine at_seq ?_
        refine at_block ?_
        refine at_region ?_
        refine at_val rfl rfl rfl (r_move rfl) ?_
        refine at_val rfl rfl rfl (r_iquo rfl rfl (by decide)) ?_
        refine at_val rfl rfl rfl (r_assign rfl) ?_
        refine at_nil ?_
        refine at_weak [(1, _), (5, _), (6, _)] ⟨rfl, rfl, rfl, trivial⟩ ?_
        refine at_blk_normal (at_then_normal ?_)
        refine at_region ?_
        refine at_val rfl rfl rfl (r_move rfl) ?_
        refine at_val rfl rfl rfl (r_isub rfl rfl) ?_
        refine at_val rfl rfl rfl (r_assign rfl) ?_
        refine at_nil ?_
        refine at_weak [(1, _), (5, _), (6, _)] ⟨rfl, rfl, rfl, trivial⟩ ?_
        refine at_then_normal ?_
        exact at_weak_k (ih _ _ _ hF K) ⟨rfl, rfl, rfl, trivial⟩
      · refine at_cond_false rfl h6 ?_
        refine at_exit ?_
        refine at_then_exit (at_then_exit ?_)
        obtain rfl := of_some hF
        exact at_weak_k K ⟨rfl, trivial⟩
  · skip
    skip
    refine at_blk_same ?_
    refine at_then_normal ?_
    refine at_seq ?_
    refine at_region ?_
    refine at_val rfl rfl rfl (r_move rfl) ?_
    refine at_val rfl rfl rfl (r_irem rfl rfl (by decide)) ?_
    refine at_val rfl rfl rfl (r_assign rfl) ?_
    refine at_nil ?_
    refine at_weak [(4, _)] ⟨rfl, trivial⟩ ?_
    refine at_then_normal ?_
    refine at_ret ?_
    have K := of_some hF
    subst K
    exact at_return1 rfl rfl (fun w1 hw => ⟨rfl, hw.below⟩)

def crawlwayref10_Mask.l1 (i8 : Int) (i15 : Int) (i16 : Int) : Option (Int) :=
  if (decide (i16 < Int.tmod i8 8)) = true then (crawlwayref10_Mask.l1 i8 (wr .i64 (Int.tdiv i15 2)) (wr .i64 (i16 + 1))) else (some i15)
  partial_fixpoint
def crawlwayref10_Mask.l0 (x0 : S_api_Addr) (x1 : Int) (t6 : Int) (i8 : Int) (i9 : S_api_Addr) : Option (S_api_Addr) :=
  if (decide (i8 < t6)) = true then (if (decide (i8 < x1)) = true then (crawlwayref10_digit x0 i8 >>= fun t12 => if (t12 == 1) = true then (crawlwayref10_Mask.l1 i8 128 0 >>= fun q14 => if (0 : Int) ≤ wr .i64 (Int.tdiv i8 8) ∧ wr .i64 (Int.tdiv i8 8) < 16 then if (0 : Int) ≤ wr .i64 (Int.tdiv i8 8) ∧ wr .i64 (Int.tdiv i8 8) < 16 then crawlwayref10_Mask.l0 x0 x1 t6 (wr .i64 (i8 + 1)) ({ i9 with f_B := vset i9.f_B (wr .i64 (Int.tdiv i8 8)) (wr .u8 ((vget i9.f_B (wr .i64 (Int.tdiv i8 8))) + (wr .u8 q14))) }) else none else none) else (crawlwayref10_Mask.l0 x0 x1 t6 (wr .i64 (i8 + 1)) i9)) else (some i9)) else (some i9)
  partial_fixpoint
def crawlwayref10_Mask (x0 : S_api_Addr) (x1 : Int) : Option (S_api_Addr) :=
  crawlwayref10_Right x0 >>= fun t3 => if (!t3) = true then (some ({ f_V := (0 : Int), f_B := (Vector.replicate 16 (0 : Int) : (Vector Int 16)) } : S_api_Addr)) else (crawlwayref10_Width x0 >>= fun t6 => crawlwayref10_Mask.l0 x0 x1 t6 0 ({ ({ f_V := (0 : Int), f_B := (Vector.replicate 16 (0 : Int) : (Vector Int 16)) } : S_api_Addr) with f_V := x0.f_V }) >>= fun q7 => some q7)
theorem crawlwayref10_Mask_ok (x0 : S_api_Addr) (x1 : Int) (r : S_api_Addr) (hF : crawlwayref10_Mask x0 x1 = some r) (w : World) :
    Calls Try.prog 86 #[.agg (Cd.cs c_api_Addr x0).toArray, .int .i64 x1] w (fun e w' => e = .returned (.agg (Cd.cs c_api_Addr r).toArray) ∧ Below w.heap.size w w') := by
  unfold crawlwayref10_Mask at hF
  refine calls_enter (l := [.agg (Cd.cs c_api_Addr x0).toArray, .int .i64 x1]) Try.func86 rfl rfl rfl ?_
  refine at_start ?_
  refine at_weak [(0, _), (1, _)] ⟨rfl, rfl, trivial⟩ ?_
  refine at_seq ?_
  refine at_region ?_
  refine at_box (cs := Cd.cs c_api_Addr x0) rfl rfl rfl ?_
  intro b1
  refine at_alloc (cs := Cd.cs c_api_Addr ({ f_V := (0 : Int), f_B := (Vector.replicate 16 (0 : Int) : (Vector Int 16)) } : S_api_Addr)) Try.zeroValue32 rfl rfl ?_
  intro b2
  refine at_nil ?_
  refine at_weak [(1, _), (2, _), (4, _)] ⟨rfl, rfl, rfl, trivial⟩ ?_
  refine at_then_normal ?_
  refine at_seq ?_
  refine at_seq ?_
  refine at_region ?_
  refine at_val rfl rfl rfl (r_load_aggc (c := c_api_Addr) (z := x0) Try.isAgg32 Try.sizeOf32 rfl (lens_cell (.s .z) (Lens.whole _ _))) ?_
  obtain ⟨t3, ht3, hF⟩ := of_bindM hF
  refine at_callB Try.func84 rfl (by kernel_rfl) rfl rfl (fun w hw => crawlwayref10_Right_ok _ _ ht3 w) ?_
  refine at_val rfl rfl rfl (r_not rfl) ?_
  refine at_nil ?_
  refine at_weak [(1, _), (2, _), (4, _), (12, _)] ⟨rfl, rfl, rfl, rfl, trivial⟩ ?_
  refine at_then_normal ?_
  rcases of_ite hF with ⟨h4, hF⟩ | ⟨h4, hF⟩
  · refine at_cond_true rfl h4 ?_
    refine at_seq ?_
    refine at_region ?_
    refine at_val rfl rfl rfl (r_build_struct (zs := Cd.cs c_api_Addr ({ f_V := (0 : Int), f_B := (Vector.replicate 16 (0 : Int) : (Vector Int 16)) } : S_api_Addr)) (cs := Cd.cs c_api_Addr ({ f_V := (0 : Int), f_B := (Vector.replicate 16 (0 : Int) : (Vector Int 16)) } : S_api_Addr)) Try.underlying32 Try.zeroValue32 rfl (places_api_Addr_32) rfl rfl) ?_
    refine at_store (c := c_api_Addr) (z := ({ f_V := (0 : Int), f_B := (Vector.replicate 16 (0 : Int) : (Vector Int 16)) } : S_api_Addr)) .z (Lens.whole _ _) Try.sizeOf32 rfl rfl rfl ?_
    refine at_nil ?_
    refine at_drop (H := _) (.s .z) ?_
    refine at_weak [(4, _)] ⟨rfl, trivial⟩ ?_
    refine at_then_normal ?_
    refine at_ret ?_
    refine at_then_ret ?_
    have K := of_some hF
    subst K
    exact at_res1 rfl (res_cell (c := c_api_Addr) (y := ({ f_V := (0 : Int), f_B := (Vector.replicate 16 (0 : Int) : (Vector Int 16)) } : S_api_Addr)) rfl .z (Lens.whole _ _) Try.isAgg32 Try.sizeOf32 (.inl rfl)) (fun w1 hw => ⟨rfl, hw.below⟩)
  · refine at_cond_false rfl h4 ?_
    refine at_skip ?_
    refine at_then_normal ?_
    refine at_seq ?_
    refine at_region ?_
    refine at_val rfl rfl rfl (r_fieldAddr (fo := 0) Try.underlying32 rfl rfl (fun w => ⟨_, Try.sizeOf3 w⟩) rfl) ?_
    refine at_val rfl rfl rfl (r_load_cell Try.isAgg3 rfl (lens_cell0 (c := (cInt .i64)) (y := x0.f_V) (.s .z) (Lens.comp (Lens.whole _ _) (fun z => { x0 with f_V := z }) (c_api_Addr_f_V x0)) rfl)) ?_
    refine at_val rfl rfl rfl (r_build_struct (zs := Cd.cs c_api_Addr ({ f_V := (0 : Int), f_B := (Vector.replicate 16 (0 : Int) : (Vector Int 16)) } : S_api_Addr)) (cs := Cd.cs c_api_Addr ({ ({ f_V := (0 : Int), f_B := (Vector.replicate 16 (0 : Int) : (Vector Int 16)) } : S_api_Addr) with f_V := x0.f_V })) Try.underlying32 Try.zeroValue32 rfl (places_api_Addr_32) rfl (fill_step (c := (cInt .i64)) (z := x0.f_V) rfl (c_api_Addr_f_V ({ f_V := (0 : Int), f_B := (Vector.replicate 16 (0 : Int) : (Vector Int 16)) } : S_api_Addr)) rfl rfl)) ?_
    refine at_alloc (cs := Cd.cs c_api_Addr ({ f_V := (0 : Int), f_B := (Vector.replicate 16 (0 : Int) : (Vector Int 16)) } : S_api_Addr)) Try.zeroValue32 rfl rfl ?_
    intro b5
    refine at_store (c := c_api_Addr) (z := { ({ f_V := (0 : Int), f_B := (Vector.replicate 16 (0 : Int) : (Vector Int 16)) } : S_api_Addr) with f_V := x0.f_V }) .z (Lens.whole _ _) Try.sizeOf32 rfl rfl rfl ?_
    refine at_nil ?_
    refine at_weak [(1, _), (2, _), (4, _), (5, _)] ⟨rfl, rfl, rfl, rfl, trivial⟩ ?_
    refine at_then_normal ?_
    refine at_seq ?_
    refine at_region ?_
    refine at_val rfl rfl rfl (r_load_aggc (c := c_api_Addr) (z := x0) Try.isAgg32 Try.sizeOf32 rfl (lens_cell (.s (.s .z)) (Lens.whole _ _))) ?_
    obtain ⟨t6, ht6, hF⟩ := of_bindM hF
    refine at_callB Try.func85 rfl (by kernel_rfl) rfl rfl (fun w hw => crawlwayref10_Width_ok _ _ ht6 w) ?_
    refine at_val rfl rfl rfl (r_assign rfl) ?_
    refine at_nil ?_
    refine at_weak [(1, _), (2, _), (4, _), (5, _), (6, _)] ⟨rfl, rfl, rfl, rfl, rfl, trivial⟩ ?_
    refine at_then_normal ?_
    refine at_seq ?_
    refine at_seq ?_
    refine at_region ?_
    refine at_val rfl rfl rfl (r_assign rfl) ?_
    refine at_nil ?_
    refine at_weak [(1, _), (2, _), (4, _), (5, _), (6, _), (7, _)] ⟨rfl, rfl, rfl, rfl, rfl, rfl, trivial⟩ ?_
    refine at_then_normal ?_
    refine at_block ?_
    obtain ⟨q7, hq7, hF⟩ := of_bindM hF
    refine at_weak [(1, _), (2, _), (4, _), (5, _), (6, _), (7, _)] ⟨rfl, rfl, rfl, rfl, rfl, rfl, trivial⟩ ?_
    refine at_loop_n (B := 0) (A := fun Y => At 54 [(4, .pointer (some ⟨b2, 0, none⟩)), (5, .pointer (some ⟨b5, 0, none⟩))] (Wd w [cellsE b5 (Cd.cs c_api_Addr q7) 32, cellsE b2 (Cd.cs c_api_Addr ({ f_V := (0 : Int), f_B := (Vector.replicate 16 (0 : Int) : (Vector Int 16)) } : S_api_Addr)) 32]) Y) ?_ ?_
    · intro K
      refine crawlwayref10_Mask.l0.partial_correctness x0 x1 t6 (motive := fun i8 i9 x => KN (fun Y => At 54 [(4, .pointer (some ⟨b2, 0, none⟩)), (5, .pointer (some ⟨b5, 0, none⟩))] (Wd w [cellsE b5 (Cd.cs c_api_Addr x) 32, cellsE b2 (Cd.cs c_api_Addr ({ f_V := (0 : Int), f_B := (Vector.replicate 16 (0 : Int) : (Vector Int 16)) } : S_api_Addr)) 32]) Y) _ 0 → Round (fun Y => At 54 [(1, .int .i64 x1), (2, .pointer (some ⟨b1, 0, none⟩)), (4, .pointer (some ⟨b2, 0, none⟩)), (5, .pointer (some ⟨b5, 0, none⟩)), (6, .int .i64 t6), (7, .int .i64 i8)] (Wd w [cellsE b5 (Cd.cs c_api_Addr i9) 32, cellsE b2 (Cd.cs c_api_Addr ({ f_V := (0 : Int), f_B := (Vector.replicate 16 (0 : Int) : (Vector Int 16)) } : S_api_Addr)) 32, cellsE b1 (Cd.cs c_api_Addr x0) 32]) Y) _ _ _) ?_ _ _ _ hq7 K
      · clear K hF
        intro g ih i8 i9 x hF K
        refine at_round ?_
        refine at_seq ?_
        refine at_seq ?_
        refine at_region ?_
        refine at_val rfl rfl rfl (r_move rfl) ?_
        refine at_val rfl rfl rfl (r_move rfl) ?_
        refine at_val rfl rfl rfl (r_ilss rfl rfl) ?_
        refine at_val rfl rfl rfl (r_move rfl) ?_
        rcases of_ite hF with ⟨h10, hF⟩ | ⟨h10, hF⟩
        · refine at_fix (g := 22) rfl h10 ?_
          refine at_guard_yes rfl rfl rfl ?_
          refine at_val rfl rfl rfl (r_move rfl) ?_
          refine at_guard_yes rfl rfl rfl ?_
          refine at_val rfl rfl rfl (r_move rfl) ?_
          refine at_guard_yes rfl rfl rfl ?_
          refine at_val rfl rfl rfl (r_ilss rfl rfl) ?_
          refine at_val rfl rfl rfl (r_pick rfl rfl rfl) ?_
          refine at_nil ?_
          refine at_weak [(1, _), (2, _), (4, _), (5, _), (6, _), (7, _), (26, _)] ⟨rfl, rfl, rfl, rfl, rfl, rfl, rfl, trivial⟩ ?_
          refine at_then_normal ?_
          rcases of_ite hF with ⟨h11, hF⟩ | ⟨h11, hF⟩
          · refine at_cond_true rfl h11 ?_
            refine at_skip ?_
            refine at_then_normal ?_
            refine at_seq ?_
            refine at_block ?_
            refine at_seq ?_
            refine at_region ?_
            refine at_val rfl rfl rfl (r_load_aggc (c := c_api_Addr) (z := x0) Try.isAgg32 Try.sizeOf32 rfl (lens_cell (.s (.s .z)) (Lens.whole _ _))) ?_
            refine at_val rfl rfl rfl (r_move rfl) ?_
            obtain ⟨t12, ht12, hF⟩ := of_bindM hF
            refine at_callB Try.func95 rfl (by kernel_rfl) rfl rfl (fun w hw => crawlwayref10_digit_ok _ _ _ ht12 w) ?_
            refine at_val rfl rfl rfl (r_ieql rfl rfl) ?_
            refine at_nil ?_
            refine at_weak [(1, _), (2, _), (4, _), (5, _), (6, _), (7, _), (32, _)] ⟨rfl, rfl, rfl, rfl, rfl, rfl, rfl, trivial⟩ ?_
            refine at_then_normal ?_
            rcases of_ite hF with ⟨h13, hF⟩ | ⟨h13, hF⟩
            · refine at_cond_true rfl h13 ?_
              refine at_seq ?_
              refine at_region ?_
              refine at_val rfl rfl rfl (r_assign rfl) ?_
              refine at_nil ?_
              refine at_weak [(1, _), (2, _), (4, _), (5, _), (6, _), (7, _), (8, _)] ⟨rfl, rfl, rfl, rfl, rfl, rfl, rfl, trivial⟩ ?_
              refine at_then_normal ?_
              refine at_seq ?_
              refine at_seq ?_
              refine at_region ?_
              refine at_val rfl rfl rfl (r_assign rfl) ?_
              refine at_nil ?_
              refine at_weak [(1, _), (2, _), (4, _), (5, _), (6, _), (7, _), (8, _), (9, _)] ⟨rfl, rfl, rfl, rfl, rfl, rfl, rfl, rfl, trivial⟩ ?_
              refine at_then_normal ?_
              refine at_block ?_
              obtain ⟨q14, hq14, hF⟩ := of_bindM hF
              refine at_weak [(1, _), (2, _), (4, _), (5, _), (6, _), (7, _), (8, _), (9, _)] ⟨rfl, rfl, rfl, rfl, rfl, rfl, rfl, rfl, trivial⟩ ?_
              refine at_loop_n (B := 2) (A := fun Y => At 54 [(1, .int .i64 x1), (2, .pointer (some ⟨b1, 0, none⟩)), (4, .pointer (some ⟨b2, 0, none⟩)), (5, .pointer (some ⟨b5, 0, none⟩)), (6, .int .i64 t6), (7, .int .i64 i8), (8, .int .i64 q14)] (Wd w [cellsE b5 (Cd.cs c_api_Addr i9) 32, cellsE b2 (Cd.cs c_api_Addr ({ f_V := (0 : Int), f_B := (Vector.replicate 16 (0 : Int) : (Vector Int 16)) } : S_api_Addr)) 32, cellsE b1 (Cd.cs c_api_Addr x0) 32]) Y) ?_ ?_
              · intro K
                refine crawlwayref10_Mask.l1.partial_correctness i8 (motive := fun i15 i16 x => KN (fun Y => At 54 [(1, .int .i64 x1), (2, .pointer (some ⟨b1, 0, none⟩)), (4, .pointer (some ⟨b2, 0, none⟩)), (5, .pointer (some ⟨b5, 0, none⟩)), (6, .int .i64 t6), (7, .int .i64 i8), (8, .int .i64 x)] (Wd w [cellsE b5 (Cd.cs c_api_Addr i9) 32, cellsE b2 (Cd.cs c_api_Addr ({ f_V := (0 : Int), f_B := (Vector.replicate 16 (0 : Int) : (Vector Int 16)) } : S_api_Addr)) 32, cellsE b1 (Cd.cs c_api_Addr x0) 32]) Y) _ 2 → Round (fun Y => At 54 [(1, .int .i64 x1), (2, .pointer (some ⟨b1, 0, none⟩)), (4, .pointer (some ⟨b2, 0, none⟩)), (5, .pointer (some ⟨b5, 0, none⟩)), (6, .int .i64 t6), (7, .int .i64 i8), (8, .int .i64 i15), (9, .int .i64 i16)] (Wd w [cellsE b5 (Cd.cs c_api_Addr i9) 32, cellsE b2 (Cd.cs c_api_Addr ({ f_V := (0 : Int), f_B := (Vector.replicate 16 (0 : Int) : (Vector Int 16)) } : S_api_Addr)) 32, cellsE b1 (Cd.cs c_api_Addr x0) 32]) Y) _ _ _) ?_ _ _ _ hq14 K
                · clear K hF
                  intro g ih i15 i16 x hF K
                  refine at_round ?_
                  refine at_seq ?_
                  refine at_seq ?_
                  refine at_region ?_
                  refine at_val rfl rfl rfl (r_move rfl) ?_
                  refine at_val rfl rfl rfl (r_move rfl) ?_
                  refine at_val rfl rfl rfl (r_irem rfl rfl (by decide)) ?_
                  refine at_val rfl rfl rfl (r_ilss rfl rfl) ?_
                  refine at_nil ?_
                  refine at_weak [(1, _), (2, _), (4, _), (5, _), (6, _), (7, _), (8, _), (9, _), (36, _)] ⟨rfl, rfl, rfl, rfl, rfl, rfl, rfl, rfl, rfl, trivial⟩ ?_
                  refine at_then_normal ?_
                  rcases of_ite hF with ⟨h17, hF⟩ | ⟨h17, hF⟩
                  · refine at_cond_true rfl h17 ?_
                    refine at_skip ?_
                    refine at_then_normal ?_
                    refine at_seq ?_
                    refine at_block ?_
                    refine at_region ?_
                    refine at_val rfl rfl rfl (r_move rfl) ?_
                    refine at_val rfl rfl rfl (r_iquo rfl rfl (by decide)) ?_
                    refine at_val rfl rfl rfl (r_assign rfl) ?_
                    refine at_nil ?_
                    refine at_weak [(1, _), (2, _), (4, _), (5, _), (6, _), (7, _), (8, _), (9, _)] ⟨rfl, rfl, rfl, rfl, rfl, rfl, rfl, rfl, trivial⟩ ?_
                    refine at_blk_normal (at_then_normal ?_)
                    refine at_region ?_
                    refine at_val rfl rfl rfl (r_move rfl) ?_
                    refine at_val rfl rfl rfl (r_iadd rfl rfl) ?_
                    refine at_val rfl rfl rfl (r_assign rfl) ?_
                    refine at_nil ?_
                    refine at_weak [(1, _), (2, _), (4, _), (5, _), (6, _), (7, _), (8, _), (9, _)] ⟨rfl, rfl, rfl, rfl, rfl, rfl, rfl, rfl, trivial⟩ ?_
                    refine at_then_normal ?_
                    exact at_weak_k (ih _ _ _ hF K) ⟨rfl, rfl, rfl, rfl, rfl, rfl, rfl, rfl, trivial⟩
                  · refine at_cond_false rfl h17 ?_
                    refine at_exit ?_
                    refine at_then_exit (at_then_exit ?_)
                    obtain rfl := of_some hF
                    exact at_weak_k K ⟨rfl, rfl, rfl, rfl, rfl, rfl, rfl, trivial⟩
              · skip
                skip
                refine at_blk_same ?_
                refine at_then_normal ?_
                refine at_region ?_
                refine at_val rfl rfl rfl (r_move rfl) ?_
                refine at_val rfl rfl rfl (r_iquo rfl rfl (by decide)) ?_
                refine at_val rfl rfl rfl (r_move rfl) ?_
                refine at_val rfl rfl rfl (r_iquo rfl rfl (by decide)) ?_
                refine at_val rfl rfl rfl (r_fieldAddr (fo := 1) Try.underlying32 rfl rfl (fun w => ⟨_, Try.sizeOf30 w⟩) rfl) ?_
                obtain ⟨h18, hF⟩ := of_guard hF
                refine at_val rfl rfl rfl (r_idxArr Try.underlying30 Try.sizeOf5 rfl rfl h18) ?_
                refine at_val rfl rfl rfl (r_load_cell Try.isAgg5 rfl (lens_cell0 (c := (cInt .u8)) (y := vget i9.f_B (wr .i64 (Int.tdiv i8 8))) .z (Lens.comp (Lens.comp (Lens.whole _ _) (fun z => { i9 with f_B := z }) (c_api_Addr_f_B i9)) (fun z => vset i9.f_B (wr .i64 (Int.tdiv i8 8)) z) (Lens.vec (cInt .u8) (by decide) i9.f_B (wr .i64 (Int.tdiv i8 8)) h18)) rfl)) ?_
                refine at_val rfl rfl rfl (r_move rfl) ?_
                refine at_val rfl rfl rfl (r_conv Try.underlying3 Try.underlying5 rfl) ?_
                refine at_val rfl rfl rfl (r_iadd rfl rfl) ?_
                refine at_val rfl rfl rfl (r_fieldAddr (fo := 1) Try.underlying32 rfl rfl (fun w => ⟨_, Try.sizeOf30 w⟩) rfl) ?_
                obtain ⟨h19, hF⟩ := of_guard hF
                refine at_val rfl rfl rfl (r_idxArr Try.underlying30 Try.sizeOf5 rfl rfl h19) ?_
                refine at_store (c := (cInt .u8)) (z := wr .u8 ((vget i9.f_B (wr .i64 (Int.tdiv i8 8))) + (wr .u8 q14))) .z (Lens.comp (Lens.comp (Lens.whole _ _) (fun z => { i9 with f_B := z }) (c_api_Addr_f_B i9)) (fun z => vset i9.f_B (wr .i64 (Int.tdiv i8 8)) z) (Lens.vec (cInt .u8) (by decide) i9.f_B (wr .i64 (Int.tdiv i8 8)) h19)) Try.sizeOf5 rfl rfl rfl ?_
                refine at_nil ?_
                refine at_weak [(1, _), (2, _), (4, _), (5, _), (6, _), (7, _)] ⟨rfl, rfl, rfl, rfl, rfl, rfl, trivial⟩ ?_
                refine at_blk_normal (at_then_normal ?_)
                refine at_region ?_
                refine at_val rfl rfl rfl (r_move rfl) ?_
                refine at_val rfl rfl rfl (r_iadd rfl rfl) ?_
                refine at_val rfl rfl rfl (r_assign rfl) ?_
                refine at_nil ?_
                refine at_weak [(1, _), (2, _), (4, _), (5, _), (6, _), (7, _)] ⟨rfl, rfl, rfl, rfl, rfl, rfl, trivial⟩ ?_
                refine at_then_normal ?_
                exact at_weak_k (ih _ _ _ hF K) ⟨rfl, rfl, rfl, rfl, rfl, rfl, trivial⟩
            · refine at_cond_false rfl h13 ?_
              refine at_skip ?_
              refine at_blk_normal (at_then_normal ?_)
              refine at_region ?_
              refine at_val rfl rfl rfl (r_move rfl) ?_
              refine at_val rfl rfl rfl (r_iadd rfl rfl) ?_
              refine at_val rfl rfl rfl (r_assign rfl) ?_
              refine at_nil ?_
              refine at_weak [(1, _), (2, _), (4, _), (5, _), (6, _), (7, _)] ⟨rfl, rfl, rfl, rfl, rfl, rfl, trivial⟩ ?_
              refine at_then_normal ?_
              exact at_weak_k (ih _ _ _ hF K) ⟨rfl, rfl, rfl, rfl, rfl, rfl, trivial⟩
          · refine at_cond_false rfl h11 ?_
            refine at_exit ?_
            refine at_then_exit (at_then_exit ?_)
            refine at_drop (H := _) (.s (.s .z)) ?_
            obtain rfl := of_some hF
            exact at_weak_k K ⟨rfl, rfl, trivial⟩
        · refine at_fix (g := 22) rfl h10 ?_
          refine at_guard_no rfl rfl rfl rfl rfl ?_
          refine at_guard_no rfl rfl rfl rfl rfl ?_
          refine at_guard_no rfl rfl rfl rfl rfl ?_
          refine at_val rfl rfl rfl (r_pick rfl rfl rfl) ?_
          refine at_nil ?_
          refine at_weak [(1, _), (2, _), (4, _), (5, _), (6, _), (7, _), (26, _)] ⟨rfl, rfl, rfl, rfl, rfl, rfl, rfl, trivial⟩ ?_
          refine at_then_normal ?_
          refine at_cond_false rfl rfl ?_
          refine at_exit ?_
          refine at_then_exit (at_then_exit ?_)
          refine at_drop (H := _) (.s (.s .z)) ?_
          obtain rfl := of_some hF
          exact at_weak_k K ⟨rfl, rfl, trivial⟩
    · skip
      skip
      refine at_blk_same ?_
      refine at_then_normal ?_
      refine at_seq ?_
      refine at_region ?_
      refine at_val rfl rfl rfl (r_load_aggc (c := c_api_Addr) (z := q7) Try.isAgg32 Try.sizeOf32 rfl (lens_cell .z (Lens.whole _ _))) ?_
      refine at_store (c := c_api_Addr) (z := q7) (.s .z) (Lens.whole _ _) Try.sizeOf32 rfl rfl rfl ?_
      refine at_nil ?_
      refine at_drop (H := _) .z ?_
      refine at_weak [(4, _)] ⟨rfl, trivial⟩ ?_
      refine at_then_normal ?_
      refine at_ret ?_
      have K := of_some hF
      subst K
      exact at_res1 rfl (res_cell (c := c_api_Addr) (y := q7) rfl .z (Lens.whole _ _) Try.isAgg32 Try.sizeOf32 (.inl rfl)) (fun w1 hw => ⟨rfl, hw.below⟩)

def crawlwayref10_Less.l0 (x0 : S_api_Addr) (x1 : S_api_Addr) (i5 : Int) : Option (Ctl (Bool) (Unit)) :=
  if (decide (i5 < 16)) = true then (if (0 : Int) ≤ i5 ∧ i5 < 16 then if (0 : Int) ≤ i5 ∧ i5 < 16 then if (vget x0.f_B i5 != vget x1.f_B i5) = true then (if (0 : Int) ≤ i5 ∧ i5 < 16 then if (0 : Int) ≤ i5 ∧ i5 < 16 then some (.ret (decide (vget x0.f_B i5 < vget x1.f_B i5))) else none else none) else (crawlwayref10_Less.l0 x0 x1 (wr .i64 (i5 + 1))) else none else none) else (some (.nx ()))
  partial_fixpoint
def crawlwayref10_Less (x0 : S_api_Addr) (x1 : S_api_Addr) : Option (Bool) :=
  if (x0.f_V != x1.f_V) = true then (some (decide (x0.f_V < x1.f_V))) else (crawlwayref10_Less.l0 x0 x1 0 >>= fun q4 => match q4 with | .ret r' => some r' | .nx sq4 => (some false))
theorem crawlwayref10_Less_ok (x0 : S_api_Addr) (x1 : S_api_Addr) (r : Bool) (hF : crawlwayref10_Less x0 x1 = some r) (w : World) :
    Calls Try.prog 96 #[.agg (Cd.cs c_api_Addr x0).toArray, .agg (Cd.cs c_api_Addr x1).toArray] w (fun e w' => e = .returned (.bool r) ∧ Below w.heap.size w w') := by
  unfold crawlwayref10_Less at hF
  refine calls_enter (l := [.agg (Cd.cs c_api_Addr x0).toArray, .agg (Cd.cs c_api_Addr x1).toArray]) Try.func96 rfl rfl rfl ?_
  refine at_start ?_
  refine at_weak [(0, _), (1, _)] ⟨rfl, rfl, trivial⟩ ?_
  refine at_seq ?_
  refine at_region ?_
  refine at_box (cs := Cd.cs c_api_Addr x0) rfl rfl rfl ?_
  intro b1
  refine at_box (cs := Cd.cs c_api_Addr x1) rfl rfl rfl ?_
  intro b2
  refine at_val rfl rfl rfl (r_assign rfl) ?_
  refine at_nil ?_
  refine at_weak [(2, _), (3, _)] ⟨rfl, rfl, trivial⟩ ?_
  refine at_then_normal ?_
  refine at_seq ?_
  refine at_seq ?_
  refine at_region ?_
  refine at_val rfl rfl rfl (r_fieldAddr (fo := 0) Try.underlying32 rfl rfl (fun w => ⟨_, Try.sizeOf3 w⟩) rfl) ?_
  refine at_val rfl rfl rfl (r_load_cell Try.isAgg3 rfl (lens_cell0 (c := (cInt .i64)) (y := x0.f_V) (.s .z) (Lens.comp (Lens.whole _ _) (fun z => { x0 with f_V := z }) (c_api_Addr_f_V x0)) rfl)) ?_
  refine at_val rfl rfl rfl (r_fieldAddr (fo := 0) Try.underlying32 rfl rfl (fun w => ⟨_, Try.sizeOf3 w⟩) rfl) ?_
  refine at_val rfl rfl rfl (r_load_cell Try.isAgg3 rfl (lens_cell0 (c := (cInt .i64)) (y := x1.f_V) .z (Lens.comp (Lens.whole _ _) (fun z => { x1 with f_V := z }) (c_api_Addr_f_V x1)) rfl)) ?_
  refine at_val rfl rfl rfl (r_ineq rfl rfl) ?_
  refine at_nil ?_
  refine at_weak [(2, _), (3, _), (10, _)] ⟨rfl, rfl, rfl, trivial⟩ ?_
  refine at_then_normal ?_
  rcases of_ite hF with ⟨h3, hF⟩ | ⟨h3, hF⟩
  · refine at_cond_true rfl h3 ?_
    refine at_seq ?_
    refine at_region ?_
    refine at_val rfl rfl rfl (r_fieldAddr (fo := 0) Try.underlying32 rfl rfl (fun w => ⟨_, Try.sizeOf3 w⟩) rfl) ?_
    refine at_val rfl rfl rfl (r_load_cell Try.isAgg3 rfl (lens_cell0 (c := (cInt .i64)) (y := x0.f_V) (.s .z) (Lens.comp (Lens.whole _ _) (fun z => { x0 with f_V := z }) (c_api_Addr_f_V x0)) rfl)) ?_
    refine at_val rfl rfl rfl (r_fieldAddr (fo := 0) Try.underlying32 rfl rfl (fun w => ⟨_, Try.sizeOf3 w⟩) rfl) ?_
    refine at_val rfl rfl rfl (r_load_cell Try.isAgg3 rfl (lens_cell0 (c := (cInt .i64)) (y := x1.f_V) .z (Lens.comp (Lens.whole _ _) (fun z => { x1 with f_V := z }) (c_api_Addr_f_V x1)) rfl)) ?_
    refine at_val rfl rfl rfl (r_ilss rfl rfl) ?_
    refine at_val rfl rfl rfl (r_assign rfl) ?_
    refine at_nil ?_
    refine at_drop (H := _) .z ?_
    refine at_drop (H := _) .z ?_
    refine at_weak [(4, _)] ⟨rfl, trivial⟩ ?_
    refine at_then_normal ?_
    refine at_ret ?_
    refine at_then_ret ?_
    have K := of_some hF
    subst K
    exact at_return1 rfl rfl (fun w1 hw => ⟨rfl, hw.below⟩)
  · refine at_cond_false rfl h3 ?_
    refine at_skip ?_
    refine at_then_normal ?_
    refine at_seq ?_
    refine at_seq ?_
    refine at_region ?_
    refine at_val rfl rfl rfl (r_assign rfl) ?_
    refine at_nil ?_
    refine at_weak [(2, _), (3, _), (5, _)] ⟨rfl, rfl, rfl, trivial⟩ ?_
    refine at_then_normal ?_
    refine at_block ?_
    obtain ⟨q4, hq4, hF⟩ := of_bindM hF
    refine at_weak [(2, _), (3, _), (5, _)] ⟨rfl, rfl, rfl, trivial⟩ ?_
    refine at_loop_r (B := 0) (r := r) (q := q4) (A := fun (_ : Unit) Y => At 38 [] (Wd w []) Y) ?_ ?_
    · intro K
      refine crawlwayref10_Less.l0.partial_correctness x0 x1 (motive := fun i5 x => KR (fun (_ : Unit) Y => At 38 [] (Wd w []) Y) _ 0 r x → Round (fun Y => At 38 [(2, .pointer (some ⟨b1, 0, none⟩)), (3, .pointer (some ⟨b2, 0, none⟩)), (5, .int .i64 i5)] (Wd w [cellsE b2 (Cd.cs c_api_Addr x1) 32, cellsE b1 (Cd.cs c_api_Addr x0) 32]) Y) _ _ _) ?_ _ _ hq4 K
      · clear K hF
        intro g ih i5 x hF K
        refine at_round ?_
        refine at_seq ?_
        refine at_seq ?_
        refine at_region ?_
        refine at_val rfl rfl rfl (r_move rfl) ?_
        refine at_val rfl rfl rfl (r_ilss rfl rfl) ?_
        refine at_nil ?_
        refine at_weak [(2, _), (3, _), (5, _), (17, _)] ⟨rfl, rfl, rfl, rfl, trivial⟩ ?_
        refine at_then_normal ?_
        rcases of_ite hF with ⟨h6, hF⟩ | ⟨h6, hF⟩
        · refine at_cond_true rfl h6 ?_
          refine at_skip ?_
          refine at_then_normal ?_
          refine at_seq ?_
          refine at_block ?_
          refine at_seq ?_
          refine at_draw (by kernel_rfl) (by kernel_rfl) (fun _ h => h.drew) ?_
          refine atq_val rfl rfl rfl (r_move rfl) ?_
          refine atq_val rfl rfl rfl (r_fieldAddr (fo := 1) Try.underlying32 rfl rfl (fun w => ⟨_, Try.sizeOf30 w⟩) rfl) ?_
          obtain ⟨h7, hF⟩ := of_guard hF
          refine atq_val rfl rfl rfl (r_idxArr Try.underlying30 Try.sizeOf5 rfl rfl h7) ?_
          refine atq_val rfl rfl rfl (r_load_cell Try.isAgg5 rfl (lens_cell0 (c := (cInt .u8)) (y := vget x0.f_B i5) (.s .z) (Lens.comp (Lens.comp (Lens.whole _ _) (fun z => { x0 with f_B := z }) (c_api_Addr_f_B x0)) (fun z => vset x0.f_B i5 z) (Lens.vec (cInt .u8) (by decide) x0.f_B i5 h7)) rfl)) ?_
          refine atq_val rfl rfl rfl (r_move rfl) ?_
          refine atq_val rfl rfl rfl (r_fieldAddr (fo := 1) Try.underlying32 rfl rfl (fun w => ⟨_, Try.sizeOf30 w⟩) rfl) ?_
          obtain ⟨h8, hF⟩ := of_guard hF
          refine atq_val rfl rfl rfl (r_idxArr Try.underlying30 Try.sizeOf5 rfl rfl h8) ?_
          refine atq_val rfl rfl rfl (r_load_cell Try.isAgg5 rfl (lens_cell0 (c := (cInt .u8)) (y := vget x1.f_B i5) .z (Lens.comp (Lens.comp (Lens.whole _ _) (fun z => { x1 with f_B := z }) (c_api_Addr_f_B x1)) (fun z => vset x1.f_B i5 z) (Lens.vec (cInt .u8) (by decide) x1.f_B i5 h8)) rfl)) ?_
          refine atq_val rfl rfl rfl (r_ineq rfl rfl) ?_
          refine atq_nil ?_
          refine at_weak [(2, _), (3, _), (5, _), (28, _)] ⟨rfl, rfl, rfl, rfl, trivial⟩ ?_
          refine at_then_normal ?_
          rcases of_ite hF with ⟨h9, hF⟩ | ⟨h9, hF⟩
          · refine at_cond_true rfl h9 ?_
            refine at_seq ?_
            refine at_draw (by kernel_rfl) (by kernel_rfl) (fun _ h => h.drew) ?_
            refine atq_val rfl rfl rfl (r_move rfl) ?_
            refine atq_val rfl rfl rfl (r_fieldAddr (fo := 1) Try.underlying32 rfl rfl (fun w => ⟨_, Try.sizeOf30 w⟩) rfl) ?_
            obtain ⟨h10, hF⟩ := of_guard hF
            refine atq_val rfl rfl rfl (r_idxArr Try.underlying30 Try.sizeOf5 rfl rfl h10) ?_
            refine atq_val rfl rfl rfl (r_load_cell Try.isAgg5 rfl (lens_cell0 (c := (cInt .u8)) (y := vget x0.f_B i5) (.s .z) (Lens.comp (Lens.comp (Lens.whole _ _) (fun z => { x0 with f_B := z }) (c_api_Addr_f_B x0)) (fun z => vset x0.f_B i5 z) (Lens.vec (cInt .u8) (by decide) x0.f_B i5 h10)) rfl)) ?_
            refine atq_val rfl rfl rfl (r_move rfl) ?_
            refine atq_val rfl rfl rfl (r_fieldAddr (fo := 1) Try.underlying32 rfl rfl (fun w => ⟨_, Try.sizeOf30 w⟩) rfl) ?_
            obtain ⟨h11, hF⟩ := of_guard hF
            refine atq_val rfl rfl rfl (r_idxArr Try.underlying30 Try.sizeOf5 rfl rfl h11) ?_
            refine atq_val rfl rfl rfl (r_load_cell Try.isAgg5 rfl (lens_cell0 (c := (cInt .u8)) (y := vget x1.f_B i5) .z (Lens.comp (Lens.comp (Lens.whole _ _) (fun z => { x1 with f_B := z }) (c_api_Addr_f_B x1)) (fun z => vset x1.f_B i5 z) (Lens.vec (cInt .u8) (by decide) x1.f_B i5 h11)) rfl)) ?_
            refine atq_val rfl rfl rfl (r_ilss rfl rfl) ?_
            refine atq_val rfl rfl rfl (r_assign rfl) ?_
            refine atq_nil ?_
            refine at_drop (H := _) .z ?_
            refine at_drop (H := _) .z ?_
            refine at_weak [(4, _)] ⟨rfl, trivial⟩ ?_
            refine at_then_normal ?_
            refine at_ret ?_
            refine at_blk_ret (at_then_ret (at_then_ret (at_blk_ret (at_then_ret ?_))))
            obtain rfl := of_some hF
            subst K
            exact at_return1 rfl rfl (fun w1 hw => ⟨rfl, hw.below⟩)
          · refine at_cond_false rfl h9 ?_
            refine at_skip ?_
            refine at_blk_normal (at_then_normal ?_)
            refine at_region ?_
            refine at_val rfl rfl rfl (r_move rfl) ?_
            refine at_val rfl rfl rfl (r_iadd rfl rfl) ?_
            refine at_val rfl rfl rfl (r_assign rfl) ?_
            refine at_nil ?_
            refine at_weak [(2, _), (3, _), (5, _)] ⟨rfl, rfl, rfl, trivial⟩ ?_
            refine at_then_normal ?_
            exact at_weak_k (ih _ _ hF K) ⟨rfl, rfl, rfl, trivial⟩
        · refine at_cond_false rfl h6 ?_
          refine at_exit ?_
          refine at_then_exit (at_then_exit ?_)
          refine at_drop (H := _) .z ?_
          refine at_drop (H := _) .z ?_
          obtain rfl := of_some hF
          exact at_weak_k K trivial
    · cases q4 with
      | ret r' => exact of_some hF
      | nx sq4 =>
        skip
        refine at_blk_same ?_
        refine at_then_normal ?_
        refine at_seq ?_
        refine at_region ?_
        refine at_val rfl rfl rfl (r_assign rfl) ?_
        refine at_nil ?_
        refine at_weak [(4, _)] ⟨rfl, trivial⟩ ?_
        refine at_then_normal ?_
        refine at_ret ?_
        have K := of_some hF
        subst K
        exact at_return1 rfl rfl (fun w1 hw => ⟨rfl, hw.below⟩)

def crawlwayref10_Common.l0 (x0 : S_api_Addr) (x1 : S_api_Addr) (t8 : Int) (i10 : Int) : Option (Int) :=
  if (decide (i10 < t8)) = true then (crawlwayref10_digit x0 i10 >>= fun t12 => crawlwayref10_digit x1 i10 >>= fun t13 => if (t12 == t13) = true then (crawlwayref10_Common.l0 x0 x1 t8 (wr .i64 (i10 + 1))) else (some i10)) else (some i10)
  partial_fixpoint
def crawlwayref10_Common (x0 : S_api_Addr) (x1 : S_api_Addr) : Option (Int) :=
  crawlwayref10_Right x0 >>= fun t3 => if (!t3) = true then (some (-1)) else (crawlwayref10_Right x1 >>= fun t5 => if (!t5) = true then (some (-1)) else (if (x0.f_V != x1.f_V) = true then (some (-1)) else (crawlwayref10_Width x0 >>= fun t8 => crawlwayref10_Common.l0 x0 x1 t8 0 >>= fun q9 => some q9)))
theorem crawlwayref10_Common_ok (x0 : S_api_Addr) (x1 : S_api_Addr) (r : Int) (hF : crawlwayref10_Common x0 x1 = some r) (w : World) :
    Calls Try.prog 93 #[.agg (Cd.cs c_api_Addr x0).toArray, .agg (Cd.cs c_api_Addr x1).toArray] w (fun e w' => e = .returned (.int .i64 r) ∧ Below w.heap.size w w') := by
  unfold crawlwayref10_Common at hF
  refine calls_enter (l := [.agg (Cd.cs c_api_Addr x0).toArray, .agg (Cd.cs c_api_Addr x1).toArray]) Try.func93 rfl rfl rfl ?_
  refine at_start ?_
  refine at_weak [(0, _), (1, _)] ⟨rfl, rfl, trivial⟩ ?_
  refine at_seq ?_
  refine at_region ?_
  refine at_box (cs := Cd.cs c_api_Addr x0) rfl rfl rfl ?_
  intro b1
  refine at_box (cs := Cd.cs c_api_Addr x1) rfl rfl rfl ?_
  intro b2
  refine at_val rfl rfl rfl (r_assign rfl) ?_
  refine at_nil ?_
  refine at_weak [(2, _), (3, _)] ⟨rfl, rfl, trivial⟩ ?_
  refine at_then_normal ?_
  refine at_seq ?_
  refine at_seq ?_
  refine at_region ?_
  refine at_val rfl rfl rfl (r_load_aggc (c := c_api_Addr) (z := x0) Try.isAgg32 Try.sizeOf32 rfl (lens_cell (.s .z) (Lens.whole _ _))) ?_
  obtain ⟨t3, ht3, hF⟩ := of_bindM hF
  refine at_callB Try.func84 rfl (by kernel_rfl) rfl rfl (fun w hw => crawlwayref10_Right_ok _ _ ht3 w) ?_
  refine at_val rfl rfl rfl (r_not rfl) ?_
  refine at_val rfl rfl rfl (r_move rfl) ?_
  rcases of_ite hF with ⟨h4, hF⟩ | ⟨h4, hF⟩
  · refine at_fix (g := 10) rfl h4 ?_
    refine at_guard_no rfl rfl rfl rfl rfl ?_
    refine at_guard_no rfl rfl rfl rfl rfl ?_
    refine at_guard_no rfl rfl rfl rfl rfl ?_
    refine at_val rfl rfl rfl (r_pick rfl rfl rfl) ?_
    refine at_val rfl rfl rfl (r_move rfl) ?_
    refine at_guard_no rfl rfl rfl rfl rfl ?_
    refine at_guard_no rfl rfl rfl rfl rfl ?_
    refine at_guard_no rfl rfl rfl rfl rfl ?_
    refine at_guard_no rfl rfl rfl rfl rfl ?_
    refine at_guard_no rfl rfl rfl rfl rfl ?_
    refine at_val rfl rfl rfl (r_pick rfl rfl rfl) ?_
    refine at_nil ?_
    refine at_weak [(2, _), (3, _), (21, _)] ⟨rfl, rfl, rfl, trivial⟩ ?_
    refine at_then_normal ?_
    refine at_cond_true rfl rfl ?_
    refine at_seq ?_
    refine at_region ?_
    refine at_val rfl rfl rfl (r_assign rfl) ?_
    refine at_nil ?_
    refine at_drop (H := _) .z ?_
    refine at_drop (H := _) .z ?_
    refine at_weak [(4, _)] ⟨rfl, trivial⟩ ?_
    refine at_then_normal ?_
    refine at_ret ?_
    refine at_then_ret ?_
    have K := of_some hF
    subst K
    exact at_return1 rfl rfl (fun w1 hw => ⟨rfl, hw.below⟩)
  · refine at_fix (g := 10) rfl h4 ?_
    refine at_guard_yes rfl rfl rfl ?_
    refine at_val rfl rfl rfl (r_load_aggc (c := c_api_Addr) (z := x1) Try.isAgg32 Try.sizeOf32 rfl (lens_cell .z (Lens.whole _ _))) ?_
    refine at_guard_yes rfl rfl rfl ?_
    obtain ⟨t5, ht5, hF⟩ := of_bindM hF
    refine at_callB Try.func84 rfl (by kernel_rfl) rfl rfl (fun w hw => crawlwayref10_Right_ok _ _ ht5 w) ?_
    refine at_guard_yes rfl rfl rfl ?_
    refine at_val rfl rfl rfl (r_not rfl) ?_
    refine at_val rfl rfl rfl (r_pick rfl rfl rfl) ?_
    refine at_val rfl rfl rfl (r_move rfl) ?_
    rcases of_ite hF with ⟨h6, hF⟩ | ⟨h6, hF⟩
    · refine at_fix (g := 15) rfl h6 ?_
      refine at_guard_no rfl rfl rfl rfl rfl ?_
      refine at_guard_no rfl rfl rfl rfl rfl ?_
      refine at_guard_no rfl rfl rfl rfl rfl ?_
      refine at_guard_no rfl rfl rfl rfl rfl ?_
      refine at_guard_no rfl rfl rfl rfl rfl ?_
      refine at_val rfl rfl rfl (r_pick rfl rfl rfl) ?_
      refine at_nil ?_
      refine at_weak [(2, _), (3, _), (21, _)] ⟨rfl, rfl, rfl, trivial⟩ ?_
      refine at_then_normal ?_
      refine at_cond_true rfl rfl ?_
      refine at_seq ?_
      refine at_region ?_
      refine at_val rfl rfl rfl (r_assign rfl) ?_
      refine at_nil ?_
      refine at_drop (H := _) .z ?_
      refine at_drop (H := _) .z ?_
      refine at_weak [(4, _)] ⟨rfl, trivial⟩ ?_
      refine at_then_normal ?_
      refine at_ret ?_
      refine at_then_ret ?_
      have K := of_some hF
      subst K
      exact at_return1 rfl rfl (fun w1 hw => ⟨rfl, hw.below⟩)
    · refine at_fix (g := 15) rfl h6 ?_
      refine at_guard_yes rfl rfl rfl ?_
      refine at_val rfl rfl rfl (r_fieldAddr (fo := 0) Try.underlying32 rfl rfl (fun w => ⟨_, Try.sizeOf3 w⟩) rfl) ?_
      refine at_guard_yes rfl rfl rfl ?_
      refine at_val rfl rfl rfl (r_load_cell Try.isAgg3 rfl (lens_cell0 (c := (cInt .i64)) (y := x0.f_V) (.s .z) (Lens.comp (Lens.whole _ _) (fun z => { x0 with f_V := z }) (c_api_Addr_f_V x0)) rfl)) ?_
      refine at_guard_yes rfl rfl rfl ?_
      refine at_val rfl rfl rfl (r_fieldAddr (fo := 0) Try.underlying32 rfl rfl (fun w => ⟨_, Try.sizeOf3 w⟩) rfl) ?_
      refine at_guard_yes rfl rfl rfl ?_
      refine at_val rfl rfl rfl (r_load_cell Try.isAgg3 rfl (lens_cell0 (c := (cInt .i64)) (y := x1.f_V) .z (Lens.comp (Lens.whole _ _) (fun z => { x1 with f_V := z }) (c_api_Addr_f_V x1)) rfl)) ?_
      refine at_guard_yes rfl rfl rfl ?_
      refine at_val rfl rfl rfl (r_ineq rfl rfl) ?_
      refine at_val rfl rfl rfl (r_pick rfl rfl rfl) ?_
      refine at_nil ?_
      refine at_weak [(2, _), (3, _), (21, _)] ⟨rfl, rfl, rfl, trivial⟩ ?_
      refine at_then_normal ?_
      rcases of_ite hF with ⟨h7, hF⟩ | ⟨h7, hF⟩
      · refine at_cond_true rfl h7 ?_
        refine at_seq ?_
        refine at_region ?_
        refine at_val rfl rfl rfl (r_assign rfl) ?_
        refine at_nil ?_
        refine at_drop (H := _) .z ?_
        refine at_drop (H := _) .z ?_
        refine at_weak [(4, _)] ⟨rfl, trivial⟩ ?_
        refine at_then_normal ?_
        refine at_ret ?_
        refine at_then_ret ?_
        have K := of_some hF
        subst K
        exact at_return1 rfl rfl (fun w1 hw => ⟨rfl, hw.below⟩)
      · refine at_cond_false rfl h7 ?_
        refine at_skip ?_
        refine at_then_normal ?_
        refine at_seq ?_
        refine at_region ?_
        refine at_val rfl rfl rfl (r_assign rfl) ?_
        refine at_nil ?_
        refine at_weak [(2, _), (3, _), (5, _)] ⟨rfl, rfl, rfl, trivial⟩ ?_
        refine at_then_normal ?_
        refine at_seq ?_
        refine at_region ?_
        refine at_val rfl rfl rfl (r_load_aggc (c := c_api_Addr) (z := x0) Try.isAgg32 Try.sizeOf32 rfl (lens_cell (.s .z) (Lens.whole _ _))) ?_
        obtain ⟨t8, ht8, hF⟩ := of_bindM hF
        refine at_callB Try.func85 rfl (by kernel_rfl) rfl rfl (fun w hw => crawlwayref10_Width_ok _ _ ht8 w) ?_
        refine at_val rfl rfl rfl (r_assign rfl) ?_
        refine at_nil ?_
        refine at_weak [(2, _), (3, _), (5, _), (6, _)] ⟨rfl, rfl, rfl, rfl, trivial⟩ ?_
        refine at_then_normal ?_
        refine at_seq ?_
        refine at_block ?_
        obtain ⟨q9, hq9, hF⟩ := of_bindM hF
        refine at_weak [(2, _), (3, _), (5, _), (6, _)] ⟨rfl, rfl, rfl, rfl, trivial⟩ ?_
        refine at_loop_n (B := 0) (A := fun Y => At 39 [(5, .int .i64 q9)] (Wd w []) Y) ?_ ?_
        · intro K
          refine crawlwayref10_Common.l0.partial_correctness x0 x1 t8 (motive := fun i10 x => KN (fun Y => At 39 [(5, .int .i64 x)] (Wd w []) Y) _ 0 → Round (fun Y => At 39 [(2, .pointer (some ⟨b1, 0, none⟩)), (3, .pointer (some ⟨b2, 0, none⟩)), (5, .int .i64 i10), (6, .int .i64 t8)] (Wd w [cellsE b2 (Cd.cs c_api_Addr x1) 32, cellsE b1 (Cd.cs c_api_Addr x0) 32]) Y) _ _ _) ?_ _ _ hq9 K
          · clear K hF
            intro g ih i10 x hF K
            refine at_round ?_
            refine at_seq ?_
            refine at_seq ?_
            refine at_draw (by kernel_rfl) (by kernel_rfl) (fun _ h => h.drew) ?_
            refine atq_val rfl rfl rfl (r_move rfl) ?_
            refine atq_val rfl rfl rfl (r_move rfl) ?_
            refine atq_val rfl rfl rfl (r_ilss rfl rfl) ?_
            refine atq_val rfl rfl rfl (r_move rfl) ?_
            rcases of_ite hF with ⟨h11, hF⟩ | ⟨h11, hF⟩
            · refine atq_fix (g := 27) rfl h11 ?_
              refine atq_guard_yes rfl rfl rfl ?_
              refine atq_val rfl rfl rfl (r_load_aggc (c := c_api_Addr) (z := x0) Try.isAgg32 Try.sizeOf32 rfl (lens_cell (.s .z) (Lens.whole _ _))) ?_
              refine atq_guard_yes rfl rfl rfl ?_
              refine atq_val rfl rfl rfl (r_move rfl) ?_
              refine atq_guard_yes rfl rfl rfl ?_
              obtain ⟨t12, ht12, hF⟩ := of_bindM hF
              refine atq_call Try.func95 rfl (by kernel_rfl) rfl rfl (fun w hw => (crawlwayref10_digit_ok _ _ _ ht12 w).mono fun _ _ h => ⟨h.1, hw.call h.2⟩) ?_
              refine atq_guard_yes rfl rfl rfl ?_
              refine atq_val rfl rfl rfl (r_load_aggc (c := c_api_Addr) (z := x1) Try.isAgg32 Try.sizeOf32 rfl (lens_cell .z (Lens.whole _ _))) ?_
              refine atq_guard_yes rfl rfl rfl ?_
              refine atq_val rfl rfl rfl (r_move rfl) ?_
              refine atq_guard_yes rfl rfl rfl ?_
              obtain ⟨t13, ht13, hF⟩ := of_bindM hF
              refine atq_call Try.func95 rfl (by kernel_rfl) rfl rfl (fun w hw => (crawlwayref10_digit_ok _ _ _ ht13 w).mono fun _ _ h => ⟨h.1, hw.call h.2⟩) ?_
              refine atq_guard_yes rfl rfl rfl ?_
              refine atq_val rfl rfl rfl (r_ieql rfl rfl) ?_
              refine atq_val rfl rfl rfl (r_pick rfl rfl rfl) ?_
              refine atq_nil ?_
              refine at_weak [(2, _), (3, _), (5, _), (6, _), (35, _)] ⟨rfl, rfl, rfl, rfl, rfl, trivial⟩ ?_
              refine at_then_normal ?_
              rcases of_ite hF with ⟨h14, hF⟩ | ⟨h14, hF⟩
              · refine at_cond_true rfl h14 ?_
                refine at_skip ?_
                refine at_then_normal ?_
                refine at_block ?_
                refine at_region ?_
                refine at_val rfl rfl rfl (r_move rfl) ?_
                refine at_val rfl rfl rfl (r_iadd rfl rfl) ?_
                refine at_val rfl rfl rfl (r_assign rfl) ?_
                refine at_nil ?_
                refine at_weak [(2, _), (3, _), (5, _), (6, _)] ⟨rfl, rfl, rfl, rfl, trivial⟩ ?_
                refine at_blk_normal (at_then_normal ?_)
                exact at_weak_k (ih _ _ hF K) ⟨rfl, rfl, rfl, rfl, trivial⟩
              · refine at_cond_false rfl h14 ?_
                refine at_exit ?_
                refine at_then_exit (at_then_exit ?_)
                refine at_drop (H := _) .z ?_
                refine at_drop (H := _) .z ?_
                obtain rfl := of_some hF
                exact at_weak_k K ⟨rfl, trivial⟩
            · refine atq_fix (g := 27) rfl h11 ?_
              refine atq_guard_no rfl rfl rfl rfl rfl ?_
              refine atq_guard_no rfl rfl rfl rfl rfl ?_
              refine atq_guard_no rfl rfl rfl rfl rfl ?_
              refine atq_guard_no rfl rfl rfl rfl rfl ?_
              refine atq_guard_no rfl rfl rfl rfl rfl ?_
              refine atq_guard_no rfl rfl rfl rfl rfl ?_
              refine atq_guard_no rfl rfl rfl rfl rfl ?_
              refine atq_val rfl rfl rfl (r_pick rfl rfl rfl) ?_
              refine atq_nil ?_
              refine at_weak [(2, _), (3, _), (5, _), (6, _), (35, _)] ⟨rfl, rfl, rfl, rfl, rfl, trivial⟩ ?_
              refine at_then_normal ?_
              refine at_cond_false rfl rfl ?_
              refine at_exit ?_
              refine at_then_exit (at_then_exit ?_)
              refine at_drop (H := _) .z ?_
              refine at_drop (H := _) .z ?_
              obtain rfl := of_some hF
              exact at_weak_k K ⟨rfl, trivial⟩
        · skip
          skip
          refine at_blk_same ?_
          refine at_then_normal ?_
          refine at_seq ?_
          refine at_region ?_
          refine at_val rfl rfl rfl (r_move rfl) ?_
          refine at_val rfl rfl rfl (r_assign rfl) ?_
          refine at_nil ?_
          refine at_weak [(4, _)] ⟨rfl, trivial⟩ ?_
          refine at_then_normal ?_
          refine at_ret ?_
          have K := of_some hF
          subst K
          exact at_return1 rfl rfl (fun w1 hw => ⟨rfl, hw.below⟩)

def crawlwayref11_Right (x0 : S_api_Prefix) : Option (Bool) :=
  crawlwayref10_Right x0.f_A >>= fun t2 => if (!t2) = true then (some false) else (if (decide (x0.f_Bits < 0)) = true then (some false) else (crawlwayref10_Width x0.f_A >>= fun t5 => if (decide (x0.f_Bits > t5)) = true then (some false) else (crawlwayref10_Mask x0.f_A x0.f_Bits >>= fun t7 => some (decide (x0.f_A = t7)))))
theorem crawlwayref11_Right_ok (x0 : S_api_Prefix) (r : Bool) (hF : crawlwayref11_Right x0 = some r) (w : World) :
    Calls Try.prog 57 #[.agg (Cd.cs c_api_Prefix x0).toArray] w (fun e w' => e = .returned (.bool r) ∧ Below w.heap.size w w') := by
  unfold crawlwayref11_Right at hF
  refine calls_enter (l := [.agg (Cd.cs c_api_Prefix x0).toArray]) Try.func57 rfl rfl rfl ?_
  refine at_start ?_
  refine at_weak [(0, _)] ⟨rfl, trivial⟩ ?_
  refine at_seq ?_
  refine at_region ?_
  refine at_box (cs := Cd.cs c_api_Prefix x0) rfl rfl rfl ?_
  intro b1
  refine at_val rfl rfl rfl (r_assign rfl) ?_
  refine at_nil ?_
  refine at_weak [(1, _)] ⟨rfl, trivial⟩ ?_
  refine at_then_normal ?_
  refine at_seq ?_
  refine at_seq ?_
  refine at_draw (by kernel_rfl) (by kernel_rfl) (fun _ h => h.drew) ?_
  refine atq_val rfl rfl rfl (r_fieldAddr (fo := 0) Try.underlying46 rfl rfl (fun w => ⟨_, Try.sizeOf32 w⟩) rfl) ?_
  refine atq_val rfl rfl rfl (r_load_aggc (c := c_api_Addr) (z := x0.f_A) Try.isAgg32 Try.sizeOf32 rfl (lens_cell .z (Lens.comp (Lens.whole _ _) (fun z => { x0 with f_A := z }) (c_api_Prefix_f_A x0)))) ?_
  obtain ⟨t2, ht2, hF⟩ := of_bindM hF
  refine atq_call Try.func84 rfl (by kernel_rfl) rfl rfl (fun w hw => (crawlwayref10_Right_ok _ _ ht2 w).mono fun _ _ h => ⟨h.1, hw.call h.2⟩) ?_
  refine atq_val rfl rfl rfl (r_not rfl) ?_
  refine atq_val rfl rfl rfl (r_move rfl) ?_
  rcases of_ite hF with ⟨h3, hF⟩ | ⟨h3, hF⟩
  · refine atq_fix (g := 7) rfl h3 ?_
    refine atq_guard_no rfl rfl rfl rfl rfl ?_
    refine atq_guard_no rfl rfl rfl rfl rfl ?_
    refine atq_guard_no rfl rfl rfl rfl rfl ?_
    refine atq_val rfl rfl rfl (r_pick rfl rfl rfl) ?_
    refine atq_val rfl rfl rfl (r_move rfl) ?_
    refine atq_guard_no rfl rfl rfl rfl rfl ?_
    refine atq_guard_no rfl rfl rfl rfl rfl ?_
    refine atq_guard_no rfl rfl rfl rfl rfl ?_
    refine atq_guard_no rfl rfl rfl rfl rfl ?_
    refine atq_guard_no rfl rfl rfl rfl rfl ?_
    refine atq_guard_no rfl rfl rfl rfl rfl ?_
    refine atq_val rfl rfl rfl (r_pick rfl rfl rfl) ?_
    refine atq_nil ?_
    refine at_weak [(1, _), (19, _)] ⟨rfl, rfl, trivial⟩ ?_
    refine at_then_normal ?_
    refine at_cond_true rfl rfl ?_
    refine at_seq ?_
    refine at_region ?_
    refine at_val rfl rfl rfl (r_assign rfl) ?_
    refine at_nil ?_
    refine at_drop (H := _) .z ?_
    refine at_weak [(2, _)] ⟨rfl, trivial⟩ ?_
    refine at_then_normal ?_
    refine at_ret ?_
    refine at_then_ret ?_
    have K := of_some hF
    subst K
    exact at_return1 rfl rfl (fun w1 hw => ⟨rfl, hw.below⟩)
  · refine atq_fix (g := 7) rfl h3 ?_
    refine atq_guard_yes rfl rfl rfl ?_
    refine atq_val rfl rfl rfl (r_fieldAddr (fo := 17) Try.underlying46 rfl rfl (fun w => ⟨_, Try.sizeOf3 w⟩) rfl) ?_
    refine atq_guard_yes rfl rfl rfl ?_
    refine atq_val rfl rfl rfl (r_load_cell Try.isAgg3 rfl (lens_cell0 (c := (cInt .i64)) (y := x0.f_Bits) .z (Lens.comp (Lens.whole _ _) (fun z => { x0 with f_Bits := z }) (c_api_Prefix_f_Bits x0)) rfl)) ?_
    refine atq_guard_yes rfl rfl rfl ?_
    refine atq_val rfl rfl rfl (r_ilss rfl rfl) ?_
    refine atq_val rfl rfl rfl (r_pick rfl rfl rfl) ?_
    refine atq_val rfl rfl rfl (r_move rfl) ?_
    rcases of_ite hF with ⟨h4, hF⟩ | ⟨h4, hF⟩
    · refine atq_fix (g := 12) rfl h4 ?_
      refine atq_guard_no rfl rfl rfl rfl rfl ?_
      refine atq_guard_no rfl rfl rfl rfl rfl ?_
      refine atq_guard_no rfl rfl rfl rfl rfl ?_
      refine atq_guard_no rfl rfl rfl rfl rfl ?_
      refine atq_guard_no rfl rfl rfl rfl rfl ?_
      refine atq_guard_no rfl rfl rfl rfl rfl ?_
      refine atq_val rfl rfl rfl (r_pick rfl rfl rfl) ?_
      refine atq_nil ?_
      refine at_weak [(1, _), (19, _)] ⟨rfl, rfl, trivial⟩ ?_
      refine at_then_normal ?_
      refine at_cond_true rfl rfl ?_
      refine at_seq ?_
      refine at_region ?_
      refine at_val rfl rfl rfl (r_assign rfl) ?_
      refine at_nil ?_
      refine at_drop (H := _) .z ?_
      refine at_weak [(2, _)] ⟨rfl, trivial⟩ ?_
      refine at_then_normal ?_
      refine at_ret ?_
      refine at_then_ret ?_
      have K := of_some hF
      subst K
      exact at_return1 rfl rfl (fun w1 hw => ⟨rfl, hw.below⟩)
    · refine atq_fix (g := 12) rfl h4 ?_
      refine atq_guard_yes rfl rfl rfl ?_
      refine atq_val rfl rfl rfl (r_fieldAddr (fo := 17) Try.underlying46 rfl rfl (fun w => ⟨_, Try.sizeOf3 w⟩) rfl) ?_
      refine atq_guard_yes rfl rfl rfl ?_
      refine atq_val rfl rfl rfl (r_load_cell Try.isAgg3 rfl (lens_cell0 (c := (cInt .i64)) (y := x0.f_Bits) .z (Lens.comp (Lens.whole _ _) (fun z => { x0 with f_Bits := z }) (c_api_Prefix_f_Bits x0)) rfl)) ?_
      refine atq_guard_yes rfl rfl rfl ?_
      refine atq_val rfl rfl rfl (r_fieldAddr (fo := 0) Try.underlying46 rfl rfl (fun w => ⟨_, Try.sizeOf32 w⟩) rfl) ?_
      refine atq_guard_yes rfl rfl rfl ?_
      refine atq_val rfl rfl rfl (r_load_aggc (c := c_api_Addr) (z := x0.f_A) Try.isAgg32 Try.sizeOf32 rfl (lens_cell .z (Lens.comp (Lens.whole _ _) (fun z => { x0 with f_A := z }) (c_api_Prefix_f_A x0)))) ?_
      refine atq_guard_yes rfl rfl rfl ?_
      obtain ⟨t5, ht5, hF⟩ := of_bindM hF
      refine atq_call Try.func85 rfl (by kernel_rfl) rfl rfl (fun w hw => (crawlwayref10_Width_ok _ _ ht5 w).mono fun _ _ h => ⟨h.1, hw.call h.2⟩) ?_
      refine atq_guard_yes rfl rfl rfl ?_
      refine atq_val rfl rfl rfl (r_igtr rfl rfl) ?_
      refine atq_val rfl rfl rfl (r_pick rfl rfl rfl) ?_
      refine atq_nil ?_
      refine at_weak [(1, _), (19, _)] ⟨rfl, rfl, trivial⟩ ?_
      refine at_then_normal ?_
      rcases of_ite hF with ⟨h6, hF⟩ | ⟨h6, hF⟩
      · refine at_cond_true rfl h6 ?_
        refine at_seq ?_
        refine at_region ?_
        refine at_val rfl rfl rfl (r_assign rfl) ?_
        refine at_nil ?_
        refine at_drop (H := _) .z ?_
        refine at_weak [(2, _)] ⟨rfl, trivial⟩ ?_
        refine at_then_normal ?_
        refine at_ret ?_
        refine at_then_ret ?_
        have K := of_some hF
        subst K
        exact at_return1 rfl rfl (fun w1 hw => ⟨rfl, hw.below⟩)
      · refine at_cond_false rfl h6 ?_
        refine at_skip ?_
        refine at_then_normal ?_
        refine at_seq ?_
        refine at_draw (by kernel_rfl) (by kernel_rfl) (fun _ h => h.drew) ?_
        refine atq_val rfl rfl rfl (r_fieldAddr (fo := 0) Try.underlying46 rfl rfl (fun w => ⟨_, Try.sizeOf32 w⟩) rfl) ?_
        refine atq_val rfl rfl rfl (r_load_aggc (c := c_api_Addr) (z := x0.f_A) Try.isAgg32 Try.sizeOf32 rfl (lens_cell .z (Lens.comp (Lens.whole _ _) (fun z => { x0 with f_A := z }) (c_api_Prefix_f_A x0)))) ?_
        refine atq_val rfl rfl rfl (r_fieldAddr (fo := 0) Try.underlying46 rfl rfl (fun w => ⟨_, Try.sizeOf32 w⟩) rfl) ?_
        refine atq_val rfl rfl rfl (r_load_aggc (c := c_api_Addr) (z := x0.f_A) Try.isAgg32 Try.sizeOf32 rfl (lens_cell .z (Lens.comp (Lens.whole _ _) (fun z => { x0 with f_A := z }) (c_api_Prefix_f_A x0)))) ?_
        refine atq_val rfl rfl rfl (r_fieldAddr (fo := 17) Try.underlying46 rfl rfl (fun w => ⟨_, Try.sizeOf3 w⟩) rfl) ?_
        refine atq_val rfl rfl rfl (r_load_cell Try.isAgg3 rfl (lens_cell0 (c := (cInt .i64)) (y := x0.f_Bits) .z (Lens.comp (Lens.whole _ _) (fun z => { x0 with f_Bits := z }) (c_api_Prefix_f_Bits x0)) rfl)) ?_
        obtain ⟨t7, ht7, hF⟩ := of_bindM hF
        refine atq_call Try.func86 rfl (by kernel_rfl) rfl rfl (fun w hw => (crawlwayref10_Mask_ok _ _ _ ht7 w).mono fun _ _ h => ⟨h.1, hw.call h.2⟩) ?_
        refine atq_val rfl rfl rfl (r_eqagg (c := c_api_Addr) (a := x0.f_A) (b := t7) (eq_api_Addr_32) rfl Try.eqGuardType32 rfl rfl (.inl rfl) rfl) ?_
        refine atq_val rfl rfl rfl (r_assign rfl) ?_
        refine atq_nil ?_
        refine at_drop (H := _) .z ?_
        refine at_weak [(2, _)] ⟨rfl, trivial⟩ ?_
        refine at_then_normal ?_
        refine at_ret ?_
        have K := of_some hF
        subst K
        exact at_return1 rfl rfl (fun w1 hw => ⟨rfl, hw.below⟩)

def crawlwayref11_Has (x0 : S_api_Prefix) (x1 : S_api_Addr) : Option (Bool) :=
  crawlwayref11_Right x0 >>= fun t3 => if t3 = true then (crawlwayref10_Common x0.f_A x1 >>= fun t5 => some (decide (t5 ≥ x0.f_Bits))) else (some false)
theorem crawlwayref11_Has_ok (x0 : S_api_Prefix) (x1 : S_api_Addr) (r : Bool) (hF : crawlwayref11_Has x0 x1 = some r) (w : World) :
    Calls Try.prog 73 #[.agg (Cd.cs c_api_Prefix x0).toArray, .agg (Cd.cs c_api_Addr x1).toArray] w (fun e w' => e = .returned (.bool r) ∧ Below w.heap.size w w') := by
  unfold crawlwayref11_Has at hF
  refine calls_enter (l := [.agg (Cd.cs c_api_Prefix x0).toArray, .agg (Cd.cs c_api_Addr x1).toArray]) Try.func73 rfl rfl rfl ?_
  refine at_start ?_
  refine at_weak [(0, _), (1, _)] ⟨rfl, rfl, trivial⟩ ?_
  refine at_seq ?_
  refine at_region ?_
  refine at_box (cs := Cd.cs c_api_Prefix x0) rfl rfl rfl ?_
  intro b1
  refine at_box (cs := Cd.cs c_api_Addr x1) rfl rfl rfl ?_
  intro b2
  refine at_val rfl rfl rfl (r_assign rfl) ?_
  refine at_nil ?_
  refine at_weak [(2, _), (3, _)] ⟨rfl, rfl, trivial⟩ ?_
  refine at_then_normal ?_
  refine at_seq ?_
  refine at_draw (by kernel_rfl) (by kernel_rfl) (fun _ h => h.drew) ?_
  refine atq_val rfl rfl rfl (r_load_aggc (c := c_api_Prefix) (z := x0) Try.isAgg46 Try.sizeOf46 rfl (lens_cell (.s .z) (Lens.whole _ _))) ?_
  obtain ⟨t3, ht3, hF⟩ := of_bindM hF
  refine atq_call Try.func57 rfl (by kernel_rfl) rfl rfl (fun w hw => (crawlwayref11_Right_ok _ _ ht3 w).mono fun _ _ h => ⟨h.1, hw.call h.2⟩) ?_
  refine atq_val rfl rfl rfl (r_move rfl) ?_
  rcases of_ite hF with ⟨h4, hF⟩ | ⟨h4, hF⟩
  · refine atq_fix (g := 7) rfl h4 ?_
    refine atq_guard_yes rfl rfl rfl ?_
    refine atq_val rfl rfl rfl (r_fieldAddr (fo := 0) Try.underlying46 rfl rfl (fun w => ⟨_, Try.sizeOf32 w⟩) rfl) ?_
    refine atq_guard_yes rfl rfl rfl ?_
    refine atq_val rfl rfl rfl (r_load_aggc (c := c_api_Addr) (z := x0.f_A) Try.isAgg32 Try.sizeOf32 rfl (lens_cell (.s .z) (Lens.comp (Lens.whole _ _) (fun z => { x0 with f_A := z }) (c_api_Prefix_f_A x0)))) ?_
    refine atq_guard_yes rfl rfl rfl ?_
    refine atq_val rfl rfl rfl (r_load_aggc (c := c_api_Addr) (z := x1) Try.isAgg32 Try.sizeOf32 rfl (lens_cell .z (Lens.whole _ _))) ?_
    refine atq_guard_yes rfl rfl rfl ?_
    obtain ⟨t5, ht5, hF⟩ := of_bindM hF
    refine atq_call Try.func93 rfl (by kernel_rfl) rfl rfl (fun w hw => (crawlwayref10_Common_ok _ _ _ ht5 w).mono fun _ _ h => ⟨h.1, hw.call h.2⟩) ?_
    refine atq_guard_yes rfl rfl rfl ?_
    refine atq_val rfl rfl rfl (r_fieldAddr (fo := 17) Try.underlying46 rfl rfl (fun w => ⟨_, Try.sizeOf3 w⟩) rfl) ?_
    refine atq_guard_yes rfl rfl rfl ?_
    refine atq_val rfl rfl rfl (r_load_cell Try.isAgg3 rfl (lens_cell0 (c := (cInt .i64)) (y := x0.f_Bits) (.s .z) (Lens.comp (Lens.whole _ _) (fun z => { x0 with f_Bits := z }) (c_api_Prefix_f_Bits x0)) rfl)) ?_
    refine atq_guard_yes rfl rfl rfl ?_
    refine atq_val rfl rfl rfl (r_igeq rfl rfl) ?_
    refine atq_val rfl rfl rfl (r_pick rfl rfl rfl) ?_
    refine atq_val rfl rfl rfl (r_assign rfl) ?_
    refine atq_nil ?_
    refine at_drop (H := _) .z ?_
    refine at_drop (H := _) .z ?_
    refine at_weak [(4, _)] ⟨rfl, trivial⟩ ?_
    refine at_then_normal ?_
    refine at_ret ?_
    have K := of_some hF
    subst K
    exact at_return1 rfl rfl (fun w1 hw => ⟨rfl, hw.below⟩)
  · refine atq_fix (g := 7) rfl h4 ?_
    refine atq_guard_no rfl rfl rfl rfl rfl ?_
    refine atq_guard_no rfl rfl rfl rfl rfl ?_
    refine atq_guard_no rfl rfl rfl rfl rfl ?_
    refine atq_guard_no rfl rfl rfl rfl rfl ?_
    refine atq_guard_no rfl rfl rfl rfl rfl ?_
    refine atq_guard_no rfl rfl rfl rfl rfl ?_
    refine atq_guard_no rfl rfl rfl rfl rfl ?_
    refine atq_val rfl rfl rfl (r_pick rfl rfl rfl) ?_
    refine atq_val rfl rfl rfl (r_assign rfl) ?_
    refine atq_nil ?_
    refine at_drop (H := _) .z ?_
    refine at_drop (H := _) .z ?_
    refine at_weak [(4, _)] ⟨rfl, trivial⟩ ?_
    refine at_then_normal ?_
    refine at_ret ?_
    have K := of_some hF
    subst K
    exact at_return1 rfl rfl (fun w1 hw => ⟨rfl, hw.below⟩)

def crawlwayref11_Less (x0 : S_api_Prefix) (x1 : S_api_Prefix) : Option (Bool) :=
  if (!decide (x0.f_A = x1.f_A)) = true then (crawlwayref10_Less x0.f_A x1.f_A >>= fun t4 => some t4) else (some (decide (x0.f_Bits < x1.f_Bits)))
theorem crawlwayref11_Less_ok (x0 : S_api_Prefix) (x1 : S_api_Prefix) (r : Bool) (hF : crawlwayref11_Less x0 x1 = some r) (w : World) :
    Calls Try.prog 90 #[.agg (Cd.cs c_api_Prefix x0).toArray, .agg (Cd.cs c_api_Prefix x1).toArray] w (fun e w' => e = .returned (.bool r) ∧ Below w.heap.size w w') := by
  unfold crawlwayref11_Less at hF
  refine calls_enter (l := [.agg (Cd.cs c_api_Prefix x0).toArray, .agg (Cd.cs c_api_Prefix x1).toArray]) Try.func90 rfl rfl rfl ?_
  refine at_start ?_
  refine at_weak [(0, _), (1, _)] ⟨rfl, rfl, trivial⟩ ?_
  refine at_seq ?_
  refine at_region ?_
  refine at_box (cs := Cd.cs c_api_Prefix x0) rfl rfl rfl ?_
  intro b1
  refine at_box (cs := Cd.cs c_api_Prefix x1) rfl rfl rfl ?_
  intro b2
  refine at_val rfl rfl rfl (r_assign rfl) ?_
  refine at_nil ?_
  refine at_weak [(2, _), (3, _)] ⟨rfl, rfl, trivial⟩ ?_
  refine at_then_normal ?_
  refine at_seq ?_
  refine at_seq ?_
  refine at_region ?_
  refine at_val rfl rfl rfl (r_fieldAddr (fo := 0) Try.underlying46 rfl rfl (fun w => ⟨_, Try.sizeOf32 w⟩) rfl) ?_
  refine at_val rfl rfl rfl (r_load_aggc (c := c_api_Addr) (z := x0.f_A) Try.isAgg32 Try.sizeOf32 rfl (lens_cell (.s .z) (Lens.comp (Lens.whole _ _) (fun z => { x0 with f_A := z }) (c_api_Prefix_f_A x0)))) ?_
  refine at_val rfl rfl rfl (r_fieldAddr (fo := 0) Try.underlying46 rfl rfl (fun w => ⟨_, Try.sizeOf32 w⟩) rfl) ?_
  refine at_val rfl rfl rfl (r_load_aggc (c := c_api_Addr) (z := x1.f_A) Try.isAgg32 Try.sizeOf32 rfl (lens_cell .z (Lens.comp (Lens.whole _ _) (fun z => { x1 with f_A := z }) (c_api_Prefix_f_A x1)))) ?_
  refine at_val rfl rfl rfl (r_eqagg (c := c_api_Addr) (a := x0.f_A) (b := x1.f_A) (eq_api_Addr_32) rfl Try.eqGuardType32 rfl rfl (.inr rfl) rfl) ?_
  refine at_nil ?_
  refine at_weak [(2, _), (3, _), (9, _)] ⟨rfl, rfl, rfl, trivial⟩ ?_
  refine at_then_normal ?_
  rcases of_ite hF with ⟨h3, hF⟩ | ⟨h3, hF⟩
  · refine at_cond_true rfl h3 ?_
    refine at_seq ?_
    refine at_region ?_
    refine at_val rfl rfl rfl (r_fieldAddr (fo := 0) Try.underlying46 rfl rfl (fun w => ⟨_, Try.sizeOf32 w⟩) rfl) ?_
    refine at_val rfl rfl rfl (r_load_aggc (c := c_api_Addr) (z := x0.f_A) Try.isAgg32 Try.sizeOf32 rfl (lens_cell (.s .z) (Lens.comp (Lens.whole _ _) (fun z => { x0 with f_A := z }) (c_api_Prefix_f_A x0)))) ?_
    refine at_val rfl rfl rfl (r_fieldAddr (fo := 0) Try.underlying46 rfl rfl (fun w => ⟨_, Try.sizeOf32 w⟩) rfl) ?_
    refine at_val rfl rfl rfl (r_load_aggc (c := c_api_Addr) (z := x1.f_A) Try.isAgg32 Try.sizeOf32 rfl (lens_cell .z (Lens.comp (Lens.whole _ _) (fun z => { x1 with f_A := z }) (c_api_Prefix_f_A x1)))) ?_
    obtain ⟨t4, ht4, hF⟩ := of_bindM hF
    refine at_callB Try.func96 rfl (by kernel_rfl) rfl rfl (fun w hw => crawlwayref10_Less_ok _ _ _ ht4 w) ?_
    refine at_val rfl rfl rfl (r_assign rfl) ?_
    refine at_nil ?_
    refine at_drop (H := _) .z ?_
    refine at_drop (H := _) .z ?_
    refine at_weak [(4, _)] ⟨rfl, trivial⟩ ?_
    refine at_then_normal ?_
    refine at_ret ?_
    refine at_then_ret ?_
    have K := of_some hF
    subst K
    exact at_return1 rfl rfl (fun w1 hw => ⟨rfl, hw.below⟩)
  · refine at_cond_false rfl h3 ?_
    refine at_skip ?_
    refine at_then_normal ?_
    refine at_seq ?_
    refine at_region ?_
    refine at_val rfl rfl rfl (r_fieldAddr (fo := 17) Try.underlying46 rfl rfl (fun w => ⟨_, Try.sizeOf3 w⟩) rfl) ?_
    refine at_val rfl rfl rfl (r_load_cell Try.isAgg3 rfl (lens_cell0 (c := (cInt .i64)) (y := x0.f_Bits) (.s .z) (Lens.comp (Lens.whole _ _) (fun z => { x0 with f_Bits := z }) (c_api_Prefix_f_Bits x0)) rfl)) ?_
    refine at_val rfl rfl rfl (r_fieldAddr (fo := 17) Try.underlying46 rfl rfl (fun w => ⟨_, Try.sizeOf3 w⟩) rfl) ?_
    refine at_val rfl rfl rfl (r_load_cell Try.isAgg3 rfl (lens_cell0 (c := (cInt .i64)) (y := x1.f_Bits) .z (Lens.comp (Lens.whole _ _) (fun z => { x1 with f_Bits := z }) (c_api_Prefix_f_Bits x1)) rfl)) ?_
    refine at_val rfl rfl rfl (r_ilss rfl rfl) ?_
    refine at_val rfl rfl rfl (r_assign rfl) ?_
    refine at_nil ?_
    refine at_drop (H := _) .z ?_
    refine at_drop (H := _) .z ?_
    refine at_weak [(4, _)] ⟨rfl, trivial⟩ ?_
    refine at_then_normal ?_
    refine at_ret ?_
    have K := of_some hF
    subst K
    exact at_return1 rfl rfl (fun w1 hw => ⟨rfl, hw.below⟩)

def crawlwayref25_Place.l0 (x0 : List S_api_Entry) (x1 : S_api_Prefix) (i3 : Int) : Option (Ctl (Int) (Unit)) :=
  if (decide (i3 < (x0.length : Int))) = true then (if (0 : Int) ≤ i3 ∧ i3 < (x0.length : Int) then if (decide ((lget x0 i3).f_P = x1)) = true then (some (.ret i3)) else (crawlwayref25_Place.l0 x0 x1 (wr .i64 (i3 + 1))) else none) else (some (.nx ()))
  partial_fixpoint
def crawlwayref25_Place (x0 : List S_api_Entry) (x1 : S_api_Prefix) : Option (Int) :=
  crawlwayref25_Place.l0 x0 x1 0 >>= fun q2 => match q2 with | .ret r' => some r' | .nx sq2 => (some (-1))
theorem crawlwayref25_Place_ok (x0 : List S_api_Entry) (p0_ : Option Addr) (c0_ : Nat) (x1 : S_api_Prefix) (r : Int) (hF : crawlwayref25_Place x0 x1 = some r) (w : World) (hr0 : Row c_api_Entry w p0_ c0_ x0) :
    Calls Try.prog 32 #[.slice p0_ x0.length c0_, .agg (Cd.cs c_api_Prefix x1).toArray] w (fun e w' => e = .returned (.int .i64 r) ∧ Below w.heap.size w w') := by
  unfold crawlwayref25_Place at hF
  refine calls_enter (l := [.slice p0_ x0.length c0_, .agg (Cd.cs c_api_Prefix x1).toArray]) Try.func32 rfl rfl rfl ?_
  refine at_start ?_
  refine at_weak [(0, _), (1, _)] ⟨rfl, rfl, trivial⟩ ?_
  refine at_seq ?_
  refine at_region ?_
  refine at_box (cs := Cd.cs c_api_Prefix x1) rfl rfl rfl ?_
  intro b1
  refine at_val rfl rfl rfl (r_assign rfl) ?_
  refine at_nil ?_
  refine at_weak [(0, _), (3, _)] ⟨rfl, rfl, trivial⟩ ?_
  refine at_then_normal ?_
  refine at_seq ?_
  refine at_seq ?_
  refine at_region ?_
  refine at_val rfl rfl rfl (r_assign rfl) ?_
  refine at_nil ?_
  refine at_weak [(0, _), (3, _), (5, _)] ⟨rfl, rfl, rfl, trivial⟩ ?_
  refine at_then_normal ?_
  refine at_block ?_
  obtain ⟨q2, hq2, hF⟩ := of_bindM hF
  refine at_weak [(0, _), (3, _), (5, _)] ⟨rfl, rfl, rfl, trivial⟩ ?_
  refine at_loop_r (B := 0) (r := r) (q := q2) (A := fun (_ : Unit) Y => At 20 [] (Wd w []) Y) ?_ ?_
  · intro K
    refine crawlwayref25_Place.l0.partial_correctness x0 x1 (motive := fun i3 x => KR (fun (_ : Unit) Y => At 20 [] (Wd w []) Y) _ 0 r x → Round (fun Y => At 20 [(0, .slice p0_ x0.length c0_), (3, .pointer (some ⟨b1, 0, none⟩)), (5, .int .i64 i3)] (Wd w [cellsE b1 (Cd.cs c_api_Prefix x1) 46]) Y) _ _ _) ?_ _ _ hq2 K
    · clear K hF
      intro g ih i3 x hF K
      refine at_round ?_
      refine at_seq ?_
      refine at_seq ?_
      refine at_region ?_
      refine at_val rfl rfl rfl (r_move rfl) ?_
      refine at_val rfl rfl rfl (r_move rfl) ?_
      refine at_val rfl rfl rfl (r_len_sl Try.underlying44 rfl) ?_
      refine at_val rfl rfl rfl (r_ilss rfl rfl) ?_
      refine at_nil ?_
      refine at_weak [(0, _), (3, _), (5, _), (9, _)] ⟨rfl, rfl, rfl, rfl, trivial⟩ ?_
      refine at_then_normal ?_
      rcases of_ite hF with ⟨h4, hF⟩ | ⟨h4, hF⟩
      · refine at_cond_true rfl h4 ?_
        refine at_skip ?_
        refine at_then_normal ?_
        refine at_seq ?_
        refine at_block ?_
        refine at_seq ?_
        refine at_draw (by kernel_rfl) (by kernel_rfl) (fun _ h => h.drew) ?_
        refine atq_val rfl rfl rfl (r_move rfl) ?_
        refine atq_val rfl rfl rfl (r_move rfl) ?_
        obtain ⟨h5, hF⟩ := of_guard hF
        obtain ⟨b7, o8, hp6⟩ := row_ptr hr0 h5
        refine atq_val rfl rfl rfl (r_idx Try.underlying44 Try.sizeOf52 rfl rfl h5 hp6) ?_
        refine atq_val rfl rfl rfl (r_fieldAddr (fo := 0) Try.underlying52 rfl rfl (fun w => ⟨_, Try.sizeOf46 w⟩) rfl) ?_
        refine atq_val rfl rfl rfl (r_load_aggc (c := c_api_Prefix) (z := (lget x0 i3).f_P) Try.isAgg46 Try.sizeOf46 rfl (row_lens (y := (lget x0 i3).f_P) (fun _ h => h.below) hr0 h5 hp6 (Lens.comp (Lens.whole _ _) (fun z => { (lget x0 i3) with f_P := z }) (c_api_Entry_f_P (lget x0 i3))))) ?_
        refine atq_val rfl rfl rfl (r_load_aggc (c := c_api_Prefix) (z := x1) Try.isAgg46 Try.sizeOf46 rfl (lens_cell .z (Lens.whole _ _))) ?_
        refine atq_val rfl rfl rfl (r_eqagg (c := c_api_Prefix) (a := (lget x0 i3).f_P) (b := x1) (eq_api_Prefix_46) rfl Try.eqGuardType46 rfl rfl (.inl rfl) rfl) ?_
        refine atq_nil ?_
        refine at_weak [(0, _), (3, _), (5, _), (18, _)] ⟨rfl, rfl, rfl, rfl, trivial⟩ ?_
        refine at_then_normal ?_
        rcases of_ite hF with ⟨h9, hF⟩ | ⟨h9, hF⟩
        · refine at_cond_true rfl h9 ?_
          refine at_seq ?_
          refine at_region ?_
          refine at_val rfl rfl rfl (r_move rfl) ?_
          refine at_val rfl rfl rfl (r_assign rfl) ?_
          refine at_nil ?_
          refine at_drop (H := _) .z ?_
          refine at_weak [(4, _)] ⟨rfl, trivial⟩ ?_
          refine at_then_normal ?_
          refine at_ret ?_
          refine at_blk_ret (at_then_ret (at_then_ret (at_blk_ret (at_then_ret ?_))))
          obtain rfl := of_some hF
          subst K
          exact at_return1 rfl rfl (fun w1 hw => ⟨rfl, hw.below⟩)
        · refine at_cond_false rfl h9 ?_
          refine at_skip ?_
          refine at_blk_normal (at_then_normal ?_)
          refine at_region ?_
          refine at_val rfl rfl rfl (r_move rfl) ?_
          refine at_val rfl rfl rfl (r_iadd rfl rfl) ?_
          refine at_val rfl rfl rfl (r_assign rfl) ?_
          refine at_nil ?_
          refine at_weak [(0, _), (3, _), (5, _)] ⟨rfl, rfl, rfl, trivial⟩ ?_
          refine at_then_normal ?_
          exact at_weak_k (ih _ _ hF K) ⟨rfl, rfl, rfl, trivial⟩
      · refine at_cond_false rfl h4 ?_
        refine at_exit ?_
        refine at_then_exit (at_then_exit ?_)
        refine at_drop (H := _) .z ?_
        obtain rfl := of_some hF
        exact at_weak_k K trivial
  · cases q2 with
    | ret r' => exact of_some hF
    | nx sq2 =>
      skip
      refine at_blk_same ?_
      refine at_then_normal ?_
      refine at_seq ?_
      refine at_region ?_
      refine at_val rfl rfl rfl (r_assign rfl) ?_
      refine at_nil ?_
      refine at_weak [(4, _)] ⟨rfl, trivial⟩ ?_
      refine at_then_normal ?_
      refine at_ret ?_
      have K := of_some hF
      subst K
      exact at_return1 rfl rfl (fun w1 hw => ⟨rfl, hw.below⟩)

def crawlwayref25_Drop.l0 (x0 : List S_api_Entry) (x1 : S_api_Prefix) (i6 : List S_api_Entry) (i7 : Int) : Option (List S_api_Entry) :=
  if (decide (i7 < (x0.length : Int))) = true then (if (0 : Int) ≤ i7 ∧ i7 < (x0.length : Int) then if (!decide ((lget x0 i7).f_P = x1)) = true then (if (0 : Int) ≤ i7 ∧ i7 < (x0.length : Int) then if (i6.length + 1) * 40 ≤ 140737488355328 then crawlwayref25_Drop.l0 x0 x1 (i6 ++ [lget x0 i7]) (wr .i64 (i7 + 1)) else none else none) else (crawlwayref25_Drop.l0 x0 x1 i6 (wr .i64 (i7 + 1))) else none) else (some i6)
  partial_fixpoint
def crawlwayref25_Drop (x0 : List S_api_Entry) (x1 : S_api_Prefix) : Option (List S_api_Entry) :=
  crawlwayref25_Drop.l0 x0 x1 ([] : List S_api_Entry) 0 >>= fun q5 => some q5
theorem crawlwayref25_Drop_ok (x0 : List S_api_Entry) (p0_ : Option Addr) (c0_ : Nat) (x1 : S_api_Prefix) (r : List S_api_Entry) (hF : crawlwayref25_Drop x0 x1 = some r) (w : World) (hr0 : Row c_api_Entry w p0_ c0_ x0) :
    Calls Try.prog 68 #[.slice p0_ x0.length c0_, .agg (Cd.cs c_api_Prefix x1).toArray] w (fun e w' => ∃ p cap, e = .returned (.slice p r.length cap) ∧ Own c_api_Entry 52 w.heap.size w' p cap r ∧ Below w.heap.size w w') := by
  unfold crawlwayref25_Drop at hF
  refine calls_enter (l := [.slice p0_ x0.length c0_, .agg (Cd.cs c_api_Prefix x1).toArray]) Try.func68 rfl rfl rfl ?_
  refine at_start ?_
  refine at_weak [(0, _), (1, _)] ⟨rfl, rfl, trivial⟩ ?_
  refine at_seq ?_
  refine at_region ?_
  refine at_box (cs := Cd.cs c_api_Prefix x1) rfl rfl rfl ?_
  intro b1
  refine at_val rfl rfl rfl (r_assign rfl) ?_
  refine at_nil ?_
  refine at_weak [(0, _), (3, _)] ⟨rfl, rfl, trivial⟩ ?_
  refine at_then_normal ?_
  refine at_seq ?_
  refine at_region ?_
  refine at_val rfl rfl rfl (r_assign rfl) ?_
  refine at_nil ?_
  refine at_weak [(0, _), (3, _), (5, _)] ⟨rfl, rfl, rfl, trivial⟩ ?_
  refine at_then_normal ?_
  refine at_seq ?_
  refine at_seq ?_
  refine at_region ?_
  refine at_val rfl rfl rfl (r_assign rfl) ?_
  refine at_nil ?_
  refine at_weak [(0, _), (3, _), (5, _), (6, _)] ⟨rfl, rfl, rfl, rfl, trivial⟩ ?_
  refine at_then_normal ?_
  refine at_block ?_
  refine at_own_nil c_api_Entry 52 ?_
  refine at_weak [(0, _), (3, _), (5, .slice (nn 2) ([] : List S_api_Entry).length 0), (6, _)] ⟨rfl, rfl, rfl, rfl, trivial⟩ ?_
  obtain ⟨q5, hq5, hF⟩ := of_bindM hF
  refine at_weak [(0, _), (3, _), (5, _), (6, _)] ⟨rfl, rfl, rfl, rfl, trivial⟩ ?_
  refine at_loop_n (B := 0) (A := fun Y => ∀ (p10 : Option Addr) (c11 : Nat), At 28 [(5, .slice p10 q5.length c11)] (Wd w [rowE c_api_Entry 52 p10 c11 q5]) Y) ?_ ?_
  · intro K
    refine crawlwayref25_Drop.l0.partial_correctness x0 x1 (motive := fun i6 i7 x => KN (fun Y => ∀ (p10 : Option Addr) (c11 : Nat), At 28 [(5, .slice p10 x.length c11)] (Wd w [rowE c_api_Entry 52 p10 c11 x]) Y) _ 0 → Round (fun Y => ∀ (p8 : Option Addr) (c9 : Nat), At 28 [(0, .slice p0_ x0.length c0_), (3, .pointer (some ⟨b1, 0, none⟩)), (5, .slice p8 i6.length c9), (6, .int .i64 i7)] (Wd w [rowE c_api_Entry 52 p8 c9 i6, cellsE b1 (Cd.cs c_api_Prefix x1) 46]) Y) _ _ _) ?_ _ _ _ hq5 K (nn 2) 0
    · clear K hF
      intro g ih i6 i7 x hF K p8 c9
      refine at_round ?_
      refine at_seq ?_
      refine at_seq ?_
      refine at_region ?_
      refine at_val rfl rfl rfl (r_move rfl) ?_
      refine at_val rfl rfl rfl (r_move rfl) ?_
      refine at_val rfl rfl rfl (r_len_sl Try.underlying44 rfl) ?_
      refine at_val rfl rfl rfl (r_ilss rfl rfl) ?_
      refine at_nil ?_
      refine at_weak [(0, _), (3, _), (5, _), (6, _), (10, _)] ⟨rfl, rfl, rfl, rfl, rfl, trivial⟩ ?_
      refine at_then_normal ?_
      rcases of_ite hF with ⟨h12, hF⟩ | ⟨h12, hF⟩
      · refine at_cond_true rfl h12 ?_
        refine at_skip ?_
        refine at_then_normal ?_
        refine at_seq ?_
        refine at_block ?_
        refine at_seq ?_
        refine at_draw (by kernel_rfl) (by kernel_rfl) (fun _ h => h.drew) ?_
        refine atq_val rfl rfl rfl (r_move rfl) ?_
        refine atq_val rfl rfl rfl (r_move rfl) ?_
        obtain ⟨h13, hF⟩ := of_guard hF
        obtain ⟨b15, o16, hp14⟩ := row_ptr hr0 h13
        refine atq_val rfl rfl rfl (r_idx Try.underlying44 Try.sizeOf52 rfl rfl h13 hp14) ?_
        refine atq_val rfl rfl rfl (r_fieldAddr (fo := 0) Try.underlying52 rfl rfl (fun w => ⟨_, Try.sizeOf46 w⟩) rfl) ?_
        refine atq_val rfl rfl rfl (r_load_aggc (c := c_api_Prefix) (z := (lget x0 i7).f_P) Try.isAgg46 Try.sizeOf46 rfl (row_lens (y := (lget x0 i7).f_P) (fun _ h => h.below) hr0 h13 hp14 (Lens.comp (Lens.whole _ _) (fun z => { (lget x0 i7) with f_P := z }) (c_api_Entry_f_P (lget x0 i7))))) ?_
        refine atq_val rfl rfl rfl (r_load_aggc (c := c_api_Prefix) (z := x1) Try.isAgg46 Try.sizeOf46 rfl (lens_cell (.s .z) (Lens.whole _ _))) ?_
        refine atq_val rfl rfl rfl (r_eqagg (c := c_api_Prefix) (a := (lget x0 i7).f_P) (b := x1) (eq_api_Prefix_46) rfl Try.eqGuardType46 rfl rfl (.inr rfl) rfl) ?_
        refine atq_nil ?_
        refine at_weak [(0, _), (3, _), (5, _), (6, _), (19, _)] ⟨rfl, rfl, rfl, rfl, rfl, trivial⟩ ?_
        refine at_then_normal ?_
        rcases of_ite hF with ⟨h17, hF⟩ | ⟨h17, hF⟩
        · refine at_cond_true rfl h17 ?_
          refine at_region ?_
          refine at_val rfl rfl rfl (r_move rfl) ?_
          refine at_val rfl rfl rfl (r_move rfl) ?_
          refine at_val rfl rfl rfl (r_move rfl) ?_
          obtain ⟨h18, hF⟩ := of_guard hF
          obtain ⟨b20, o21, hp19⟩ := row_ptr hr0 h18
          refine at_val rfl rfl rfl (r_idx Try.underlying44 Try.sizeOf52 rfl rfl h18 hp19) ?_
          refine at_val rfl rfl rfl (r_load_aggc (c := c_api_Entry) (z := lget x0 i7) Try.isAgg52 Try.sizeOf52 rfl (row_cell (fun _ h => h.below) hr0 h18 hp19)) ?_
          refine at_litL (c := c_api_Entry) ([({ f_P := ({ f_A := ({ f_V := (0 : Int), f_B := (Vector.replicate 16 (0 : Int) : (Vector Int 16)) } : S_api_Addr), f_Bits := (0 : Int) } : S_api_Prefix), f_Owner := (0 : Int) } : S_api_Entry)] : List S_api_Entry) ([lget x0 i7] : List S_api_Entry) Try.underlying44 Try.sizeOf52 Try.zeroValue52 rfl rfl rfl (by kernel_rfl) (fill_step (c := c_api_Entry) (z := lget x0 i7) rfl (Lens.all c_api_Entry ([({ f_P := ({ f_A := ({ f_V := (0 : Int), f_B := (Vector.replicate 16 (0 : Int) : (Vector Int 16)) } : S_api_Addr), f_Bits := (0 : Int) } : S_api_Prefix), f_Owner := (0 : Int) } : S_api_Entry)] : List S_api_Entry) 0 (by decide)) rfl rfl) rfl ?_
          intro b22
          obtain ⟨h23, hF⟩ := of_guard hF
          refine at_append (z := .agg (Cd.cs c_api_Entry ({ f_P := ({ f_A := ({ f_V := (0 : Int), f_B := (Vector.replicate 16 (0 : Int) : (Vector Int 16)) } : S_api_Addr), f_Bits := (0 : Int) } : S_api_Prefix), f_Owner := (0 : Int) } : S_api_Entry)).toArray) (c := c_api_Entry) (ys := ([lget x0 i7] : List S_api_Entry)) (.s .z) Try.underlying44 infoU152 (by kernel_rfl) (by kernel_rfl) rfl rfl rfl rfl (fun _ hw => cells_src (hw.ok (Upd.mem .z))) (by kernel_rfl) h23 (app_small h23) rfl ?_
          intro p24 c25
          refine at_val rfl rfl rfl (r_assign rfl) ?_
          refine at_nil ?_
          refine at_drop (H := _) .z ?_
          refine at_weak [(0, _), (3, _), (5, _), (6, _)] ⟨rfl, rfl, rfl, rfl, trivial⟩ ?_
          refine at_blk_normal (at_then_normal ?_)
          refine at_region ?_
          refine at_val rfl rfl rfl (r_move rfl) ?_
          refine at_val rfl rfl rfl (r_iadd rfl rfl) ?_
          refine at_val rfl rfl rfl (r_assign rfl) ?_
          refine at_nil ?_
          refine at_weak [(0, _), (3, _), (5, _), (6, _)] ⟨rfl, rfl, rfl, rfl, trivial⟩ ?_
          refine at_then_normal ?_
          exact at_weak_k (ih _ _ _ hF K p24 c25) ⟨rfl, rfl, rfl, rfl, trivial⟩
        · refine at_cond_false rfl h17 ?_
          refine at_skip ?_
          refine at_blk_normal (at_then_normal ?_)
          refine at_region ?_
          refine at_val rfl rfl rfl (r_move rfl) ?_
          refine at_val rfl rfl rfl (r_iadd rfl rfl) ?_
          refine at_val rfl rfl rfl (r_assign rfl) ?_
          refine at_nil ?_
          refine at_weak [(0, _), (3, _), (5, _), (6, _)] ⟨rfl, rfl, rfl, rfl, trivial⟩ ?_
          refine at_then_normal ?_
          exact at_weak_k (ih _ _ _ hF K p8 c9) ⟨rfl, rfl, rfl, rfl, trivial⟩
      · refine at_cond_false rfl h12 ?_
        refine at_exit ?_
        refine at_then_exit (at_then_exit ?_)
        refine at_drop (H := _) (.s .z) ?_
        obtain rfl := of_some hF
        exact at_weak_k (K p8 c9) ⟨rfl, trivial⟩
  · skip
    intro p10 c11
    refine at_blk_same ?_
    refine at_then_normal ?_
    refine at_seq ?_
    refine at_region ?_
    refine at_val rfl rfl rfl (r_move rfl) ?_
    refine at_val rfl rfl rfl (r_assign rfl) ?_
    refine at_nil ?_
    refine at_weak [(4, _)] ⟨rfl, trivial⟩ ?_
    refine at_then_normal ?_
    refine at_ret ?_
    have K := of_some hF
    subst K
    exact at_return1 rfl rfl (fun w1 hw => ⟨p10, c11, rfl, hw.own .z, hw.below⟩)

def crawlwayref25_Put.l0 (x0 : List S_api_Entry) (x1 : S_api_Entry) (i6 : List S_api_Entry) (i7 : Bool) (i8 : Int) : Option (List S_api_Entry × Bool) :=
  if (decide (i8 < (x0.length : Int))) = true then (if (0 : Int) ≤ i8 ∧ i8 < (x0.length : Int) then if (decide ((lget x0 i8).f_P = x1.f_P)) = true then (crawlwayref25_Put.l0 x0 x1 i6 i7 (wr .i64 (i8 + 1))) else (if (!i7) = true then (if (0 : Int) ≤ i8 ∧ i8 < (x0.length : Int) then crawlwayref11_Less x1.f_P ((lget x0 i8).f_P) >>= fun t24 => if t24 = true then (if (i6.length + 1) * 40 ≤ 140737488355328 then if (0 : Int) ≤ i8 ∧ i8 < (x0.length : Int) then if ((i6 ++ [x1]).length + 1) * 40 ≤ 140737488355328 then crawlwayref25_Put.l0 x0 x1 ((i6 ++ [x1]) ++ [lget x0 i8]) true (wr .i64 (i8 + 1)) else none else none else none) else (if (0 : Int) ≤ i8 ∧ i8 < (x0.length : Int) then if (i6.length + 1) * 40 ≤ 140737488355328 then crawlwayref25_Put.l0 x0 x1 (i6 ++ [lget x0 i8]) i7 (wr .i64 (i8 + 1)) else none else none) else none) else (if (0 : Int) ≤ i8 ∧ i8 < (x0.length : Int) then if (i6.length + 1) * 40 ≤ 140737488355328 then crawlwayref25_Put.l0 x0 x1 (i6 ++ [lget x0 i8]) i7 (wr .i64 (i8 + 1)) else none else none)) else none) else (some (i6, i7))
  partial_fixpoint
def crawlwayref25_Put (x0 : List S_api_Entry) (x1 : S_api_Entry) : Option (List S_api_Entry) :=
  crawlwayref25_Put.l0 x0 x1 ([] : List S_api_Entry) false 0 >>= fun q5 => if (!q5.2) = true then (if (q5.1.length + 1) * 40 ≤ 140737488355328 then some (q5.1 ++ [x1]) else none) else (some q5.1)
theorem crawlwayref25_Put_ok (x0 : List S_api_Entry) (p0_ : Option Addr) (c0_ : Nat) (x1 : S_api_Entry) (r : List S_api_Entry) (hF : crawlwayref25_Put x0 x1 = some r) (w : World) (hr0 : Row c_api_Entry w p0_ c0_ x0) :
    Calls Try.prog 67 #[.slice p0_ x0.length c0_, .agg (Cd.cs c_api_Entry x1).toArray] w (fun e w' => ∃ p cap, e = .returned (.slice p r.length cap) ∧ Own c_api_Entry 52 w.heap.size w' p cap r ∧ Below w.heap.size w w') := by
  unfold crawlwayref25_Put at hF
  refine calls_enter (l := [.slice p0_ x0.length c0_, .agg (Cd.cs c_api_Entry x1).toArray]) Try.func67 rfl rfl rfl ?_
  refine at_start ?_
  refine at_weak [(0, _), (1, _)] ⟨rfl, rfl, trivial⟩ ?_
  refine at_seq ?_
  refine at_region ?_
  refine at_box (cs := Cd.cs c_api_Entry x1) rfl rfl rfl ?_
  intro b1
  refine at_val rfl rfl rfl (r_assign rfl) ?_
  refine at_nil ?_
  refine at_weak [(0, _), (3, _)] ⟨rfl, rfl, trivial⟩ ?_
  refine at_then_normal ?_
  refine at_seq ?_
  refine at_region ?_
  refine at_val rfl rfl rfl (r_assign rfl) ?_
  refine at_nil ?_
  refine at_weak [(0, _), (3, _), (5, _)] ⟨rfl, rfl, rfl, trivial⟩ ?_
  refine at_then_normal ?_
  refine at_seq ?_
  refine at_region ?_
  refine at_val rfl rfl rfl (r_assign rfl) ?_
  refine at_nil ?_
  refine at_weak [(0, _), (3, _), (5, _), (6, _)] ⟨rfl, rfl, rfl, rfl, trivial⟩ ?_
  refine at_then_normal ?_
  refine at_seq ?_
  refine at_seq ?_
  refine at_region ?_
  refine at_val rfl rfl rfl (r_assign rfl) ?_
  refine at_nil ?_
  refine at_weak [(0, _), (3, _), (5, _), (6, _), (7, _)] ⟨rfl, rfl, rfl, rfl, rfl, trivial⟩ ?_
  refine at_then_normal ?_
  refine at_block ?_
  refine at_own_nil c_api_Entry 52 ?_
  refine at_weak [(0, _), (3, _), (5, .slice (nn 2) ([] : List S_api_Entry).length 0), (6, _), (7, _)] ⟨rfl, rfl, rfl, rfl, rfl, trivial⟩ ?_
  obtain ⟨q5, hq5, hF⟩ := of_bindM hF
  refine at_weak [(0, _), (3, _), (5, _), (6, _), (7, _)] ⟨rfl, rfl, rfl, rfl, rfl, trivial⟩ ?_
  refine at_loop_n (B := 0) (A := fun Y => ∀ (p11 : Option Addr) (c12 : Nat), At 52 [(3, .pointer (some ⟨b1, 0, none⟩)), (5, .slice p11 q5.1.length c12), (6, .bool q5.2)] (Wd w [rowE c_api_Entry 52 p11 c12 q5.1, cellsE b1 (Cd.cs c_api_Entry x1) 52]) Y) ?_ ?_
  · intro K
    refine crawlwayref25_Put.l0.partial_correctness x0 x1 (motive := fun i6 i7 i8 x => KN (fun Y => ∀ (p11 : Option Addr) (c12 : Nat), At 52 [(3, .pointer (some ⟨b1, 0, none⟩)), (5, .slice p11 x.1.length c12), (6, .bool x.2)] (Wd w [rowE c_api_Entry 52 p11 c12 x.1, cellsE b1 (Cd.cs c_api_Entry x1) 52]) Y) _ 0 → Round (fun Y => ∀ (p9 : Option Addr) (c10 : Nat), At 52 [(0, .slice p0_ x0.length c0_), (3, .pointer (some ⟨b1, 0, none⟩)), (5, .slice p9 i6.length c10), (6, .bool i7), (7, .int .i64 i8)] (Wd w [rowE c_api_Entry 52 p9 c10 i6, cellsE b1 (Cd.cs c_api_Entry x1) 52]) Y) _ _ _) ?_ _ _ _ _ hq5 K (nn 2) 0
    · clear K hF
      intro g ih i6 i7 i8 x hF K p9 c10
      refine at_round ?_
      refine at_seq ?_
      refine at_seq ?_
      refine at_region ?_
      refine at_val rfl rfl rfl (r_move rfl) ?_
      refine at_val rfl rfl rfl (r_move rfl) ?_
      refine at_val rfl rfl rfl (r_len_sl Try.underlying44 rfl) ?_
      refine at_val rfl rfl rfl (r_ilss rfl rfl) ?_
      refine at_nil ?_
      refine at_weak [(0, _), (3, _), (5, _), (6, _), (7, _), (11, _)] ⟨rfl, rfl, rfl, rfl, rfl, rfl, trivial⟩ ?_
      refine at_then_normal ?_
      rcases of_ite hF with ⟨h13, hF⟩ | ⟨h13, hF⟩
      · refine at_cond_true rfl h13 ?_
        refine at_skip ?_
        refine at_then_normal ?_
        refine at_seq ?_
        refine at_block ?_
        refine at_seq ?_
        refine at_seq ?_
        refine at_draw (by kernel_rfl) (by kernel_rfl) (fun _ h => h.drew) ?_
        refine atq_val rfl rfl rfl (r_move rfl) ?_
        refine atq_val rfl rfl rfl (r_move rfl) ?_
        obtain ⟨h14, hF⟩ := of_guard hF
        obtain ⟨b16, o17, hp15⟩ := row_ptr hr0 h14
        refine atq_val rfl rfl rfl (r_idx Try.underlying44 Try.sizeOf52 rfl rfl h14 hp15) ?_
        refine atq_val rfl rfl rfl (r_fieldAddr (fo := 0) Try.underlying52 rfl rfl (fun w => ⟨_, Try.sizeOf46 w⟩) rfl) ?_
        refine atq_val rfl rfl rfl (r_load_aggc (c := c_api_Prefix) (z := (lget x0 i8).f_P) Try.isAgg46 Try.sizeOf46 rfl (row_lens (y := (lget x0 i8).f_P) (fun _ h => h.below) hr0 h14 hp15 (Lens.comp (Lens.whole _ _) (fun z => { (lget x0 i8) with f_P := z }) (c_api_Entry_f_P (lget x0 i8))))) ?_
        refine atq_val rfl rfl rfl (r_fieldAddr (fo := 0) Try.underlying52 rfl rfl (fun w => ⟨_, Try.sizeOf46 w⟩) rfl) ?_
        refine atq_val rfl rfl rfl (r_load_aggc (c := c_api_Prefix) (z := x1.f_P) Try.isAgg46 Try.sizeOf46 rfl (lens_cell (.s .z) (Lens.comp (Lens.whole _ _) (fun z => { x1 with f_P := z }) (c_api_Entry_f_P x1)))) ?_
        refine atq_val rfl rfl rfl (r_eqagg (c := c_api_Prefix) (a := (lget x0 i8).f_P) (b := x1.f_P) (eq_api_Prefix_46) rfl Try.eqGuardType46 rfl rfl (.inl rfl) rfl) ?_
        refine atq_nil ?_
        refine at_weak [(0, _), (3, _), (5, _), (6, _), (7, _), (21, _)] ⟨rfl, rfl, rfl, rfl, rfl, rfl, trivial⟩ ?_
        refine at_then_normal ?_
        rcases of_ite hF with ⟨h18, hF⟩ | ⟨h18, hF⟩
        · refine at_cond_true rfl h18 ?_
          refine at_exit ?_
          refine at_then_exit (at_blk_same (at_then_normal ?_))
          refine at_region ?_
          refine at_val rfl rfl rfl (r_move rfl) ?_
          refine at_val rfl rfl rfl (r_iadd rfl rfl) ?_
          refine at_val rfl rfl rfl (r_assign rfl) ?_
          refine at_nil ?_
          refine at_weak [(0, _), (3, _), (5, _), (6, _), (7, _)] ⟨rfl, rfl, rfl, rfl, rfl, trivial⟩ ?_
          refine at_then_normal ?_
          exact at_weak_k (ih _ _ _ _ hF K p9 c10) ⟨rfl, rfl, rfl, rfl, rfl, trivial⟩
        · refine at_cond_false rfl h18 ?_
          refine at_skip ?_
          refine at_then_normal ?_
          refine at_seq ?_
          refine at_seq ?_
          refine at_draw (by kernel_rfl) (by kernel_rfl) (fun _ h => h.drew) ?_
          refine atq_val rfl rfl rfl (r_move rfl) ?_
          refine atq_val rfl rfl rfl (r_not rfl) ?_
          refine atq_val rfl rfl rfl (r_move rfl) ?_
          rcases of_ite hF with ⟨h19, hF⟩ | ⟨h19, hF⟩
          · refine atq_fix (g := 24) rfl h19 ?_
            refine atq_guard_yes rfl rfl rfl ?_
            refine atq_val rfl rfl rfl (r_fieldAddr (fo := 0) Try.underlying52 rfl rfl (fun w => ⟨_, Try.sizeOf46 w⟩) rfl) ?_
            refine atq_guard_yes rfl rfl rfl ?_
            refine atq_val rfl rfl rfl (r_load_aggc (c := c_api_Prefix) (z := x1.f_P) Try.isAgg46 Try.sizeOf46 rfl (lens_cell (.s .z) (Lens.comp (Lens.whole _ _) (fun z => { x1 with f_P := z }) (c_api_Entry_f_P x1)))) ?_
            refine atq_guard_yes rfl rfl rfl ?_
            refine atq_val rfl rfl rfl (r_move rfl) ?_
            refine atq_guard_yes rfl rfl rfl ?_
            refine atq_val rfl rfl rfl (r_move rfl) ?_
            refine atq_guard_yes rfl rfl rfl ?_
            obtain ⟨h20, hF⟩ := of_guard hF
            obtain ⟨b22, o23, hp21⟩ := row_ptr hr0 h20
            refine atq_val rfl rfl rfl (r_idx Try.underlying44 Try.sizeOf52 rfl rfl h20 hp21) ?_
            refine atq_guard_yes rfl rfl rfl ?_
            refine atq_val rfl rfl rfl (r_fieldAddr (fo := 0) Try.underlying52 rfl rfl (fun w => ⟨_, Try.sizeOf46 w⟩) rfl) ?_
            refine atq_guard_yes rfl rfl rfl ?_
            refine atq_val rfl rfl rfl (r_load_aggc (c := c_api_Prefix) (z := (lget x0 i8).f_P) Try.isAgg46 Try.sizeOf46 rfl (row_lens (y := (lget x0 i8).f_P) (fun _ h => h.below) hr0 h20 hp21 (Lens.comp (Lens.whole _ _) (fun z => { (lget x0 i8) with f_P := z }) (c_api_Entry_f_P (lget x0 i8))))) ?_
            refine atq_guard_yes rfl rfl rfl ?_
            obtain ⟨t24, ht24, hF⟩ := of_bindM hF
            refine atq_call Try.func90 rfl (by kernel_rfl) rfl rfl (fun w hw => (crawlwayref11_Less_ok _ _ _ ht24 w).mono fun _ _ h => ⟨h.1, hw.call h.2⟩) ?_
            refine atq_val rfl rfl rfl (r_pick rfl rfl rfl) ?_
            refine atq_nil ?_
            refine at_weak [(0, _), (3, _), (5, _), (6, _), (7, _), (33, _)] ⟨rfl, rfl, rfl, rfl, rfl, rfl, trivial⟩ ?_
            refine at_then_normal ?_
            rcases of_ite hF with ⟨h25, hF⟩ | ⟨h25, hF⟩
            · refine at_cond_true rfl h25 ?_
              refine at_seq ?_
              refine at_region ?_
              refine at_val rfl rfl rfl (r_move rfl) ?_
              refine at_val rfl rfl rfl (r_load_aggc (c := c_api_Entry) (z := x1) Try.isAgg52 Try.sizeOf52 rfl (lens_cell (.s .z) (Lens.whole _ _))) ?_
              refine at_litL (c := c_api_Entry) ([({ f_P := ({ f_A := ({ f_V := (0 : Int), f_B := (Vector.replicate 16 (0 : Int) : (Vector Int 16)) } : S_api_Addr), f_Bits := (0 : Int) } : S_api_Prefix), f_Owner := (0 : Int) } : S_api_Entry)] : List S_api_Entry) ([x1] : List S_api_Entry) Try.underlying44 Try.sizeOf52 Try.zeroValue52 rfl rfl rfl (by kernel_rfl) (fill_step (c := c_api_Entry) (z := x1) rfl (Lens.all c_api_Entry ([({ f_P := ({ f_A := ({ f_V := (0 : Int), f_B := (Vector.replicate 16 (0 : Int) : (Vector Int 16)) } : S_api_Addr), f_Bits := (0 : Int) } : S_api_Prefix), f_Owner := (0 : Int) } : S_api_Entry)] : List S_api_Entry) 0 (by decide)) rfl rfl) rfl ?_
              intro b26
              obtain ⟨h27, hF⟩ := of_guard hF
              refine at_append (z := .agg (Cd.cs c_api_Entry ({ f_P := ({ f_A := ({ f_V := (0 : Int), f_B := (Vector.replicate 16 (0 : Int) : (Vector Int 16)) } : S_api_Addr), f_Bits := (0 : Int) } : S_api_Prefix), f_Owner := (0 : Int) } : S_api_Entry)).toArray) (c := c_api_Entry) (ys := ([x1] : List S_api_Entry)) (.s .z) Try.underlying44 infoU152 (by kernel_rfl) (by kernel_rfl) rfl rfl rfl rfl (fun _ hw => cells_src (hw.ok (Upd.mem .z))) (by kernel_rfl) h27 (app_small h27) rfl ?_
              intro p28 c29
              refine at_val rfl rfl rfl (r_assign rfl) ?_
              refine at_nil ?_
              refine at_drop (H := _) .z ?_
              refine at_weak [(0, _), (3, _), (5, _), (7, _)] ⟨rfl, rfl, rfl, rfl, trivial⟩ ?_
              refine at_then_normal ?_
              refine at_region ?_
              refine at_val rfl rfl rfl (r_assign rfl) ?_
              refine at_nil ?_
              refine at_weak [(0, _), (3, _), (5, _), (6, _), (7, _)] ⟨rfl, rfl, rfl, rfl, rfl, trivial⟩ ?_
              refine at_then_normal ?_
              refine at_region ?_
              refine at_val rfl rfl rfl (r_move rfl) ?_
              refine at_val rfl rfl rfl (r_move rfl) ?_
              refine at_val rfl rfl rfl (r_move rfl) ?_
              obtain ⟨h30, hF⟩ := of_guard hF
              obtain ⟨b32, o33, hp31⟩ := row_ptr hr0 h30
              refine at_val rfl rfl rfl (r_idx Try.underlying44 Try.sizeOf52 rfl rfl h30 hp31) ?_
              refine at_val rfl rfl rfl (r_load_aggc (c := c_api_Entry) (z := lget x0 i8) Try.isAgg52 Try.sizeOf52 rfl (row_cell (fun _ h => h.below) hr0 h30 hp31)) ?_
              refine at_litL (c := c_api_Entry) ([({ f_P := ({ f_A := ({ f_V := (0 : Int), f_B := (Vector.replicate 16 (0 : Int) : (Vector Int 16)) } : S_api_Addr), f_Bits := (0 : Int) } : S_api_Prefix), f_Owner := (0 : Int) } : S_api_Entry)] : List S_api_Entry) ([lget x0 i8] : List S_api_Entry) Try.underlying44 Try.sizeOf52 Try.zeroValue52 rfl rfl rfl (by kernel_rfl) (fill_step (c := c_api_Entry) (z := lget x0 i8) rfl (Lens.all c_api_Entry ([({ f_P := ({ f_A := ({ f_V := (0 : Int), f_B := (Vector.replicate 16 (0 : Int) : (Vector Int 16)) } : S_api_Addr), f_Bits := (0 : Int) } : S_api_Prefix), f_Owner := (0 : Int) } : S_api_Entry)] : List S_api_Entry) 0 (by decide)) rfl rfl) rfl ?_
              intro b34
              obtain ⟨h35, hF⟩ := of_guard hF
              refine at_append (z := .agg (Cd.cs c_api_Entry ({ f_P := ({ f_A := ({ f_V := (0 : Int), f_B := (Vector.replicate 16 (0 : Int) : (Vector Int 16)) } : S_api_Addr), f_Bits := (0 : Int) } : S_api_Prefix), f_Owner := (0 : Int) } : S_api_Entry)).toArray) (c := c_api_Entry) (ys := ([lget x0 i8] : List S_api_Entry)) (.s .z) Try.underlying44 infoU152 (by kernel_rfl) (by kernel_rfl) rfl rfl rfl rfl (fun _ hw => cells_src (hw.ok (Upd.mem .z))) (by kernel_rfl) h35 (app_small h35) rfl ?_
              intro p36 c37
              refine at_val rfl rfl rfl (r_assign rfl) ?_
              refine at_nil ?_
              refine at_drop (H := _) .z ?_
              refine at_weak [(0, _), (3, _), (5, _), (6, _), (7, _)] ⟨rfl, rfl, rfl, rfl, rfl, trivial⟩ ?_
              refine at_blk_normal (at_then_normal ?_)
              refine at_region ?_
              refine at_val rfl rfl rfl (r_move rfl) ?_
              refine at_val rfl rfl rfl (r_iadd rfl rfl) ?_
              refine at_val rfl rfl rfl (r_assign rfl) ?_
              refine at_nil ?_
              refine at_weak [(0, _), (3, _), (5, _), (6, _), (7, _)] ⟨rfl, rfl, rfl, rfl, rfl, trivial⟩ ?_
              refine at_then_normal ?_
              exact at_weak_k (ih _ _ _ _ hF K p36 c37) ⟨rfl, rfl, rfl, rfl, rfl, trivial⟩
            · refine at_cond_false rfl h25 ?_
              refine at_skip ?_
              refine at_then_normal ?_
              refine at_region ?_
              refine at_val rfl rfl rfl (r_move rfl) ?_
              refine at_val rfl rfl rfl (r_move rfl) ?_
              refine at_val rfl rfl rfl (r_move rfl) ?_
              obtain ⟨h38, hF⟩ := of_guard hF
              obtain ⟨b40, o41, hp39⟩ := row_ptr hr0 h38
              refine at_val rfl rfl rfl (r_idx Try.underlying44 Try.sizeOf52 rfl rfl h38 hp39) ?_
              refine at_val rfl rfl rfl (r_load_aggc (c := c_api_Entry) (z := lget x0 i8) Try.isAgg52 Try.sizeOf52 rfl (row_cell (fun _ h => h.below) hr0 h38 hp39)) ?_
              refine at_litL (c := c_api_Entry) ([({ f_P := ({ f_A := ({ f_V := (0 : Int), f_B := (Vector.replicate 16 (0 : Int) : (Vector Int 16)) } : S_api_Addr), f_Bits := (0 : Int) } : S_api_Prefix), f_Owner := (0 : Int) } : S_api_Entry)] : List S_api_Entry) ([lget x0 i8] : List S_api_Entry) Try.underlying44 Try.sizeOf52 Try.zeroValue52 rfl rfl rfl (by kernel_rfl) (fill_step (c := c_api_Entry) (z := lget x0 i8) rfl (Lens.all c_api_Entry ([({ f_P := ({ f_A := ({ f_V := (0 : Int), f_B := (Vector.replicate 16 (0 : Int) : (Vector Int 16)) } : S_api_Addr), f_Bits := (0 : Int) } : S_api_Prefix), f_Owner := (0 : Int) } : S_api_Entry)] : List S_api_Entry) 0 (by decide)) rfl rfl) rfl ?_
              intro b42
              obtain ⟨h43, hF⟩ := of_guard hF
              refine at_append (z := .agg (Cd.cs c_api_Entry ({ f_P := ({ f_A := ({ f_V := (0 : Int), f_B := (Vector.replicate 16 (0 : Int) : (Vector Int 16)) } : S_api_Addr), f_Bits := (0 : Int) } : S_api_Prefix), f_Owner := (0 : Int) } : S_api_Entry)).toArray) (c := c_api_Entry) (ys := ([lget x0 i8] : List S_api_Entry)) (.s .z) Try.underlying44 infoU152 (by kernel_rfl) (by kernel_rfl) rfl rfl rfl rfl (fun _ hw => cells_src (hw.ok (Upd.mem .z))) (by kernel_rfl) h43 (app_small h43) rfl ?_
              intro p44 c45
              refine at_val rfl rfl rfl (r_assign rfl) ?_
              refine at_nil ?_
              refine at_drop (H := _) .z ?_
              refine at_weak [(0, _), (3, _), (5, _), (6, _), (7, _)] ⟨rfl, rfl, rfl, rfl, rfl, trivial⟩ ?_
              refine at_blk_normal (at_then_normal ?_)
              refine at_region ?_
              refine at_val rfl rfl rfl (r_move rfl) ?_
              refine at_val rfl rfl rfl (r_iadd rfl rfl) ?_
              refine at_val rfl rfl rfl (r_assign rfl) ?_
              refine at_nil ?_
              refine at_weak [(0, _), (3, _), (5, _), (6, _), (7, _)] ⟨rfl, rfl, rfl, rfl, rfl, trivial⟩ ?_
              refine at_then_normal ?_
              exact at_weak_k (ih _ _ _ _ hF K p44 c45) ⟨rfl, rfl, rfl, rfl, rfl, trivial⟩
          · refine atq_fix (g := 24) rfl h19 ?_
            refine atq_guard_no rfl rfl rfl rfl rfl ?_
            refine atq_guard_no rfl rfl rfl rfl rfl ?_
            refine atq_guard_no rfl rfl rfl rfl rfl ?_
            refine atq_guard_no rfl rfl rfl rfl rfl ?_
            refine atq_guard_no rfl rfl rfl rfl rfl ?_
            refine atq_guard_no rfl rfl rfl rfl rfl ?_
            refine atq_guard_no rfl rfl rfl rfl rfl ?_
            refine atq_guard_no rfl rfl rfl rfl rfl ?_
            refine atq_val rfl rfl rfl (r_pick rfl rfl rfl) ?_
            refine atq_nil ?_
            refine at_weak [(0, _), (3, _), (5, _), (6, _), (7, _), (33, _)] ⟨rfl, rfl, rfl, rfl, rfl, rfl, trivial⟩ ?_
            refine at_then_normal ?_
            refine at_cond_false rfl rfl ?_
            refine at_skip ?_
            refine at_then_normal ?_
            refine at_region ?_
            refine at_val rfl rfl rfl (r_move rfl) ?_
            refine at_val rfl rfl rfl (r_move rfl) ?_
            refine at_val rfl rfl rfl (r_move rfl) ?_
            obtain ⟨h46, hF⟩ := of_guard hF
            obtain ⟨b48, o49, hp47⟩ := row_ptr hr0 h46
            refine at_val rfl rfl rfl (r_idx Try.underlying44 Try.sizeOf52 rfl rfl h46 hp47) ?_
            refine at_val rfl rfl rfl (r_load_aggc (c := c_api_Entry) (z := lget x0 i8) Try.isAgg52 Try.sizeOf52 rfl (row_cell (fun _ h => h.below) hr0 h46 hp47)) ?_
            refine at_litL (c := c_api_Entry) ([({ f_P := ({ f_A := ({ f_V := (0 : Int), f_B := (Vector.replicate 16 (0 : Int) : (Vector Int 16)) } : S_api_Addr), f_Bits := (0 : Int) } : S_api_Prefix), f_Owner := (0 : Int) } : S_api_Entry)] : List S_api_Entry) ([lget x0 i8] : List S_api_Entry) Try.underlying44 Try.sizeOf52 Try.zeroValue52 rfl rfl rfl (by kernel_rfl) (fill_step (c := c_api_Entry) (z := lget x0 i8) rfl (Lens.all c_api_Entry ([({ f_P := ({ f_A := ({ f_V := (0 : Int), f_B := (Vector.replicate 16 (0 : Int) : (Vector Int 16)) } : S_api_Addr), f_Bits := (0 : Int) } : S_api_Prefix), f_Owner := (0 : Int) } : S_api_Entry)] : List S_api_Entry) 0 (by decide)) rfl rfl) rfl ?_
            intro b50
            obtain ⟨h51, hF⟩ := of_guard hF
            refine at_append (z := .agg (Cd.cs c_api_Entry ({ f_P := ({ f_A := ({ f_V := (0 : Int), f_B := (Vector.replicate 16 (0 : Int) : (Vector Int 16)) } : S_api_Addr), f_Bits := (0 : Int) } : S_api_Prefix), f_Owner := (0 : Int) } : S_api_Entry)).toArray) (c := c_api_Entry) (ys := ([lget x0 i8] : List S_api_Entry)) (.s .z) Try.underlying44 infoU152 (by kernel_rfl) (by kernel_rfl) rfl rfl rfl rfl (fun _ hw => cells_src (hw.ok (Upd.mem .z))) (by kernel_rfl) h51 (app_small h51) rfl ?_
            intro p52 c53
            refine at_val rfl rfl rfl (r_assign rfl) ?_
            refine at_nil ?_
            refine at_drop (H := _) .z ?_
            refine at_weak [(0, _), (3, _), (5, _), (6, _), (7, _)] ⟨rfl, rfl, rfl, rfl, rfl, trivial⟩ ?_
            refine at_blk_normal (at_then_normal ?_)
            refine at_region ?_
            refine at_val rfl rfl rfl (r_move rfl) ?_
            refine at_val rfl rfl rfl (r_iadd rfl rfl) ?_
            refine at_val rfl rfl rfl (r_assign rfl) ?_
            refine at_nil ?_
            refine at_weak [(0, _), (3, _), (5, _), (6, _), (7, _)] ⟨rfl, rfl, rfl, rfl, rfl, trivial⟩ ?_
            refine at_then_normal ?_
            exact at_weak_k (ih _ _ _ _ hF K p52 c53) ⟨rfl, rfl, rfl, rfl, rfl, trivial⟩
      · refine at_cond_false rfl h13 ?_
        refine at_exit ?_
        refine at_then_exit (at_then_exit ?_)
        obtain rfl := of_some hF
        exact at_weak_k (K p9 c10) ⟨rfl, rfl, rfl, trivial⟩
  · skip
    intro p11 c12
    refine at_blk_same ?_
    refine at_then_normal ?_
    refine at_seq ?_
    refine at_seq ?_
    refine at_region ?_
    refine at_val rfl rfl rfl (r_move rfl) ?_
    refine at_val rfl rfl rfl (r_not rfl) ?_
    refine at_nil ?_
    refine at_weak [(3, _), (5, _), (46, _)] ⟨rfl, rfl, rfl, trivial⟩ ?_
    refine at_then_normal ?_
    rcases of_ite hF with ⟨h54, hF⟩ | ⟨h54, hF⟩
    · refine at_cond_true rfl h54 ?_
      refine at_region ?_
      refine at_val rfl rfl rfl (r_move rfl) ?_
      refine at_val rfl rfl rfl (r_load_aggc (c := c_api_Entry) (z := x1) Try.isAgg52 Try.sizeOf52 rfl (lens_cell (.s .z) (Lens.whole _ _))) ?_
      refine at_litL (c := c_api_Entry) ([({ f_P := ({ f_A := ({ f_V := (0 : Int), f_B := (Vector.replicate 16 (0 : Int) : (Vector Int 16)) } : S_api_Addr), f_Bits := (0 : Int) } : S_api_Prefix), f_Owner := (0 : Int) } : S_api_Entry)] : List S_api_Entry) ([x1] : List S_api_Entry) Try.underlying44 Try.sizeOf52 Try.zeroValue52 rfl rfl rfl (by kernel_rfl) (fill_step (c := c_api_Entry) (z := x1) rfl (Lens.all c_api_Entry ([({ f_P := ({ f_A := ({ f_V := (0 : Int), f_B := (Vector.replicate 16 (0 : Int) : (Vector Int 16)) } : S_api_Addr), f_Bits := (0 : Int) } : S_api_Prefix), f_Owner := (0 : Int) } : S_api_Entry)] : List S_api_Entry) 0 (by decide)) rfl rfl) rfl ?_
      intro b55
      obtain ⟨h56, hF⟩ := of_guard hF
      refine at_append (z := .agg (Cd.cs c_api_Entry ({ f_P := ({ f_A := ({ f_V := (0 : Int), f_B := (Vector.replicate 16 (0 : Int) : (Vector Int 16)) } : S_api_Addr), f_Bits := (0 : Int) } : S_api_Prefix), f_Owner := (0 : Int) } : S_api_Entry)).toArray) (c := c_api_Entry) (ys := ([x1] : List S_api_Entry)) (.s .z) Try.underlying44 infoU152 (by kernel_rfl) (by kernel_rfl) rfl rfl rfl rfl (fun _ hw => cells_src (hw.ok (Upd.mem .z))) (by kernel_rfl) h56 (app_small h56) rfl ?_
      intro p57 c58
      refine at_val rfl rfl rfl (r_assign rfl) ?_
      refine at_nil ?_
      refine at_drop (H := _) .z ?_
      refine at_drop (H := _) (.s .z) ?_
      refine at_weak [(5, _)] ⟨rfl, trivial⟩ ?_
      refine at_then_normal ?_
      refine at_seq ?_
      refine at_region ?_
      refine at_val rfl rfl rfl (r_move rfl) ?_
      refine at_val rfl rfl rfl (r_assign rfl) ?_
      refine at_nil ?_
      refine at_weak [(4, _)] ⟨rfl, trivial⟩ ?_
      refine at_then_normal ?_
      refine at_ret ?_
      have K := of_some hF
      subst K
      exact at_return1 rfl rfl (fun w1 hw => ⟨p57, c58, rfl, hw.own .z, hw.below⟩)
    · refine at_cond_false rfl h54 ?_
      refine at_skip ?_
      refine at_then_normal ?_
      refine at_seq ?_
      refine at_region ?_
      refine at_val rfl rfl rfl (r_move rfl) ?_
      refine at_val rfl rfl rfl (r_assign rfl) ?_
      refine at_nil ?_
      refine at_drop (H := _) (.s .z) ?_
      refine at_weak [(4, _)] ⟨rfl, trivial⟩ ?_
      refine at_then_normal ?_
      refine at_ret ?_
      have K := of_some hF
      subst K
      exact at_return1 rfl rfl (fun w1 hw => ⟨p11, c12, rfl, hw.own .z, hw.below⟩)

def crawlwayref25_Find.l0 (x0 : List S_api_Entry) (x1 : S_api_Addr) (i5 : Bool) (i6 : Int) (i7 : S_api_Entry) : Option (Bool × S_api_Entry) :=
  if (decide (i6 < (x0.length : Int))) = true then (if (0 : Int) ≤ i6 ∧ i6 < (x0.length : Int) then crawlwayref11_Has ((lget x0 i6).f_P) x1 >>= fun t13 => if t13 = true then (if (!i5) = true then (if (0 : Int) ≤ i6 ∧ i6 < (x0.length : Int) then crawlwayref25_Find.l0 x0 x1 true (wr .i64 (i6 + 1)) (lget x0 i6) else none) else (if (0 : Int) ≤ i6 ∧ i6 < (x0.length : Int) then if (decide (((lget x0 i6).f_P).f_Bits > i7.f_P.f_Bits)) = true then (if (0 : Int) ≤ i6 ∧ i6 < (x0.length : Int) then crawlwayref25_Find.l0 x0 x1 true (wr .i64 (i6 + 1)) (lget x0 i6) else none) else (crawlwayref25_Find.l0 x0 x1 i5 (wr .i64 (i6 + 1)) i7) else none)) else (crawlwayref25_Find.l0 x0 x1 i5 (wr .i64 (i6 + 1)) i7) else none) else (some (i5, i7))
  partial_fixpoint
def crawlwayref25_Find (x0 : List S_api_Entry) (x1 : S_api_Addr) : Option (S_api_Entry × Bool) :=
  crawlwayref25_Find.l0 x0 x1 false 0 ({ f_P := ({ f_A := ({ f_V := (0 : Int), f_B := (Vector.replicate 16 (0 : Int) : (Vector Int 16)) } : S_api_Addr), f_Bits := (0 : Int) } : S_api_Prefix), f_Owner := (0 : Int) } : S_api_Entry) >>= fun q4 => some (q4.2, q4.1)
theorem crawlwayref25_Find_ok (x0 : List S_api_Entry) (p0_ : Option Addr) (c0_ : Nat) (x1 : S_api_Addr) (r : S_api_Entry × Bool) (hF : crawlwayref25_Find x0 x1 = some r) (w : World) (hr0 : Row c_api_Entry w p0_ c0_ x0) :
    Calls Try.prog 27 #[.slice p0_ x0.length c0_, .agg (Cd.cs c_api_Addr x1).toArray] w (fun e w' => e = .returned (.tuple #[.agg (Cd.cs c_api_Entry r.1).toArray, .bool r.2]) ∧ Below w.heap.size w w') := by
  unfold crawlwayref25_Find at hF
  refine calls_enter (l := [.slice p0_ x0.length c0_, .agg (Cd.cs c_api_Addr x1).toArray]) Try.func27 rfl rfl rfl ?_
  refine at_start ?_
  refine at_weak [(0, _), (1, _)] ⟨rfl, rfl, trivial⟩ ?_
  refine at_seq ?_
  refine at_region ?_
  refine at_box (cs := Cd.cs c_api_Addr x1) rfl rfl rfl ?_
  intro b1
  refine at_alloc (cs := Cd.cs c_api_Entry ({ f_P := ({ f_A := ({ f_V := (0 : Int), f_B := (Vector.replicate 16 (0 : Int) : (Vector Int 16)) } : S_api_Addr), f_Bits := (0 : Int) } : S_api_Prefix), f_Owner := (0 : Int) } : S_api_Entry)) Try.zeroValue52 rfl rfl ?_
  intro b2
  refine at_val rfl rfl rfl (r_assign rfl) ?_
  refine at_nil ?_
  refine at_weak [(0, _), (3, _), (4, _)] ⟨rfl, rfl, rfl, trivial⟩ ?_
  refine at_then_normal ?_
  refine at_seq ?_
  refine at_region ?_
  refine at_alloc (cs := Cd.cs c_api_Entry ({ f_P := ({ f_A := ({ f_V := (0 : Int), f_B := (Vector.replicate 16 (0 : Int) : (Vector Int 16)) } : S_api_Addr), f_Bits := (0 : Int) } : S_api_Prefix), f_Owner := (0 : Int) } : S_api_Entry)) Try.zeroValue52 rfl rfl ?_
  intro b3
  refine at_nil ?_
  refine at_weak [(0, _), (3, _), (4, _), (6, _)] ⟨rfl, rfl, rfl, rfl, trivial⟩ ?_
  refine at_then_normal ?_
  refine at_seq ?_
  refine at_region ?_
  refine at_val rfl rfl rfl (r_assign rfl) ?_
  refine at_nil ?_
  refine at_weak [(0, _), (3, _), (4, _), (6, _), (7, _)] ⟨rfl, rfl, rfl, rfl, rfl, trivial⟩ ?_
  refine at_then_normal ?_
  refine at_seq ?_
  refine at_seq ?_
  refine at_region ?_
  refine at_val rfl rfl rfl (r_assign rfl) ?_
  refine at_nil ?_
  refine at_weak [(0, _), (3, _), (4, _), (6, _), (7, _), (8, _)] ⟨rfl, rfl, rfl, rfl, rfl, rfl, trivial⟩ ?_
  refine at_then_normal ?_
  refine at_block ?_
  obtain ⟨q4, hq4, hF⟩ := of_bindM hF
  refine at_weak [(0, _), (3, _), (4, _), (6, _), (7, _), (8, _)] ⟨rfl, rfl, rfl, rfl, rfl, rfl, trivial⟩ ?_
  refine at_loop_n (B := 0) (A := fun Y => At 44 [(4, .pointer (some ⟨b2, 0, none⟩)), (6, .pointer (some ⟨b3, 0, none⟩)), (7, .bool q4.1)] (Wd w [cellsE b3 (Cd.cs c_api_Entry q4.2) 52, cellsE b2 (Cd.cs c_api_Entry ({ f_P := ({ f_A := ({ f_V := (0 : Int), f_B := (Vector.replicate 16 (0 : Int) : (Vector Int 16)) } : S_api_Addr), f_Bits := (0 : Int) } : S_api_Prefix), f_Owner := (0 : Int) } : S_api_Entry)) 52]) Y) ?_ ?_
  · intro K
    refine crawlwayref25_Find.l0.partial_correctness x0 x1 (motive := fun i5 i6 i7 x => KN (fun Y => At 44 [(4, .pointer (some ⟨b2, 0, none⟩)), (6, .pointer (some ⟨b3, 0, none⟩)), (7, .bool x.1)] (Wd w [cellsE b3 (Cd.cs c_api_Entry x.2) 52, cellsE b2 (Cd.cs c_api_Entry ({ f_P := ({ f_A := ({ f_V := (0 : Int), f_B := (Vector.replicate 16 (0 : Int) : (Vector Int 16)) } : S_api_Addr), f_Bits := (0 : Int) } : S_api_Prefix), f_Owner := (0 : Int) } : S_api_Entry)) 52]) Y) _ 0 → Round (fun Y => At 44 [(0, .slice p0_ x0.length c0_), (3, .pointer (some ⟨b1, 0, none⟩)), (4, .pointer (some ⟨b2, 0, none⟩)), (6, .pointer (some ⟨b3, 0, none⟩)), (7, .bool i5), (8, .int .i64 i6)] (Wd w [cellsE b3 (Cd.cs c_api_Entry i7) 52, cellsE b2 (Cd.cs c_api_Entry ({ f_P := ({ f_A := ({ f_V := (0 : Int), f_B := (Vector.replicate 16 (0 : Int) : (Vector Int 16)) } : S_api_Addr), f_Bits := (0 : Int) } : S_api_Prefix), f_Owner := (0 : Int) } : S_api_Entry)) 52, cellsE b1 (Cd.cs c_api_Addr x1) 32]) Y) _ _ _) ?_ _ _ _ _ hq4 K
    · clear K hF
      intro g ih i5 i6 i7 x hF K
      refine at_round ?_
      refine at_seq ?_
      refine at_seq ?_
      refine at_region ?_
      refine at_val rfl rfl rfl (r_move rfl) ?_
      refine at_val rfl rfl rfl (r_move rfl) ?_
      refine at_val rfl rfl rfl (r_len_sl Try.underlying44 rfl) ?_
      refine at_val rfl rfl rfl (r_ilss rfl rfl) ?_
      refine at_nil ?_
      refine at_weak [(0, _), (3, _), (4, _), (6, _), (7, _), (8, _), (12, _)] ⟨rfl, rfl, rfl, rfl, rfl, rfl, rfl, trivial⟩ ?_
      refine at_then_normal ?_
      rcases of_ite hF with ⟨h8, hF⟩ | ⟨h8, hF⟩
      · refine at_cond_true rfl h8 ?_
        refine at_skip ?_
        refine at_then_normal ?_
        refine at_seq ?_
        refine at_block ?_
        refine at_seq ?_
        refine at_draw (by kernel_rfl) (by kernel_rfl) (fun _ h => h.drew) ?_
        refine atq_val rfl rfl rfl (r_move rfl) ?_
        refine atq_val rfl rfl rfl (r_move rfl) ?_
        obtain ⟨h9, hF⟩ := of_guard hF
        obtain ⟨b11, o12, hp10⟩ := row_ptr hr0 h9
        refine atq_val rfl rfl rfl (r_idx Try.underlying44 Try.sizeOf52 rfl rfl h9 hp10) ?_
        refine atq_val rfl rfl rfl (r_fieldAddr (fo := 0) Try.underlying52 rfl rfl (fun w => ⟨_, Try.sizeOf46 w⟩) rfl) ?_
        refine atq_val rfl rfl rfl (r_load_aggc (c := c_api_Prefix) (z := (lget x0 i6).f_P) Try.isAgg46 Try.sizeOf46 rfl (row_lens (y := (lget x0 i6).f_P) (fun _ h => h.below) hr0 h9 hp10 (Lens.comp (Lens.whole _ _) (fun z => { (lget x0 i6) with f_P := z }) (c_api_Entry_f_P (lget x0 i6))))) ?_
        refine atq_val rfl rfl rfl (r_load_aggc (c := c_api_Addr) (z := x1) Try.isAgg32 Try.sizeOf32 rfl (lens_cell (.s (.s .z)) (Lens.whole _ _))) ?_
        obtain ⟨t13, ht13, hF⟩ := of_bindM hF
        refine atq_call Try.func73 rfl (by kernel_rfl) rfl rfl (fun w hw => (crawlwayref11_Has_ok _ _ _ ht13 w).mono fun _ _ h => ⟨h.1, hw.call h.2⟩) ?_
        refine atq_val rfl rfl rfl (r_move rfl) ?_
        rcases of_ite hF with ⟨h14, hF⟩ | ⟨h14, hF⟩
        · refine atq_fix (g := 22) rfl h14 ?_
          refine atq_guard_yes rfl rfl rfl ?_
          refine atq_val rfl rfl rfl (r_move rfl) ?_
          refine atq_guard_yes rfl rfl rfl ?_
          refine atq_val rfl rfl rfl (r_not rfl) ?_
          refine atq_guard_yes rfl rfl rfl ?_
          refine atq_val rfl rfl rfl (r_move rfl) ?_
          rcases of_ite hF with ⟨h15, hF⟩ | ⟨h15, hF⟩
          · refine atq_fix (g := 25) rfl h15 ?_
            refine atq_guard_no rfl rfl rfl rfl rfl ?_
            refine atq_guard_no rfl rfl rfl rfl rfl ?_
            refine atq_guard_no rfl rfl rfl rfl rfl ?_
            refine atq_guard_no rfl rfl rfl rfl rfl ?_
            refine atq_guard_no rfl rfl rfl rfl rfl ?_
            refine atq_guard_no rfl rfl rfl rfl rfl ?_
            refine atq_guard_no rfl rfl rfl rfl rfl ?_
            refine atq_guard_no rfl rfl rfl rfl rfl ?_
            refine atq_guard_no rfl rfl rfl rfl rfl ?_
            refine atq_guard_no rfl rfl rfl rfl rfl ?_
            refine atq_guard_yes rfl rfl rfl ?_
            refine atq_val rfl rfl rfl (r_pick rfl rfl rfl) ?_
            refine atq_val rfl rfl rfl (r_pick rfl rfl rfl) ?_
            refine atq_nil ?_
            refine at_weak [(0, _), (3, _), (4, _), (6, _), (7, _), (8, _), (37, _)] ⟨rfl, rfl, rfl, rfl, rfl, rfl, rfl, trivial⟩ ?_
            refine at_then_normal ?_
            refine at_cond_true rfl rfl ?_
            refine at_seq ?_
            refine at_region ?_
            refine at_val rfl rfl rfl (r_move rfl) ?_
            refine at_val rfl rfl rfl (r_move rfl) ?_
            obtain ⟨h16, hF⟩ := of_guard hF
            obtain ⟨b18, o19, hp17⟩ := row_ptr hr0 h16
            refine at_val rfl rfl rfl (r_idx Try.underlying44 Try.sizeOf52 rfl rfl h16 hp17) ?_
            refine at_val rfl rfl rfl (r_load_aggc (c := c_api_Entry) (z := lget x0 i6) Try.isAgg52 Try.sizeOf52 rfl (row_cell (fun _ h => h.below) hr0 h16 hp17)) ?_
            refine at_store (c := c_api_Entry) (z := lget x0 i6) .z (Lens.whole _ _) Try.sizeOf52 rfl rfl rfl ?_
            refine at_nil ?_
            refine at_weak [(0, _), (3, _), (4, _), (6, _), (8, _)] ⟨rfl, rfl, rfl, rfl, rfl, trivial⟩ ?_
            refine at_then_normal ?_
            refine at_region ?_
            refine at_val rfl rfl rfl (r_assign rfl) ?_
            refine at_nil ?_
            refine at_weak [(0, _), (3, _), (4, _), (6, _), (7, _), (8, _)] ⟨rfl, rfl, rfl, rfl, rfl, rfl, trivial⟩ ?_
            refine at_blk_normal (at_then_normal ?_)
            refine at_region ?_
            refine at_val rfl rfl rfl (r_move rfl) ?_
            refine at_val rfl rfl rfl (r_iadd rfl rfl) ?_
            refine at_val rfl rfl rfl (r_assign rfl) ?_
            refine at_nil ?_
            refine at_weak [(0, _), (3, _), (4, _), (6, _), (7, _), (8, _)] ⟨rfl, rfl, rfl, rfl, rfl, rfl, trivial⟩ ?_
            refine at_then_normal ?_
            exact at_weak_k (ih _ _ _ _ hF K) ⟨rfl, rfl, rfl, rfl, rfl, rfl, trivial⟩
          · refine atq_fix (g := 25) rfl h15 ?_
            refine atq_guard_yes rfl rfl rfl ?_
            refine atq_val rfl rfl rfl (r_move rfl) ?_
            refine atq_guard_yes rfl rfl rfl ?_
            refine atq_val rfl rfl rfl (r_move rfl) ?_
            refine atq_guard_yes rfl rfl rfl ?_
            obtain ⟨h20, hF⟩ := of_guard hF
            obtain ⟨b22, o23, hp21⟩ := row_ptr hr0 h20
            refine atq_val rfl rfl rfl (r_idx Try.underlying44 Try.sizeOf52 rfl rfl h20 hp21) ?_
            refine atq_guard_yes rfl rfl rfl ?_
            refine atq_val rfl rfl rfl (r_fieldAddr (fo := 0) Try.underlying52 rfl rfl (fun w => ⟨_, Try.sizeOf46 w⟩) rfl) ?_
            refine atq_guard_yes rfl rfl rfl ?_
            refine atq_val rfl rfl rfl (r_fieldAddr (fo := 17) Try.underlying46 rfl rfl (fun w => ⟨_, Try.sizeOf3 w⟩) rfl) ?_
            refine atq_guard_yes rfl rfl rfl ?_
            refine atq_val rfl rfl rfl (r_load_cell Try.isAgg3 rfl (row_lens0 (y := ((lget x0 i6).f_P).f_Bits) (fun _ h => h.below) hr0 h20 hp21 (Lens.comp (Lens.comp (Lens.whole _ _) (fun z => { (lget x0 i6) with f_P := z }) (c_api_Entry_f_P (lget x0 i6))) (fun z => { (lget x0 i6).f_P with f_Bits := z }) (c_api_Prefix_f_Bits ((lget x0 i6).f_P))) rfl)) ?_
            refine atq_guard_yes rfl rfl rfl ?_
            refine atq_val rfl rfl rfl (r_fieldAddr (fo := 0) Try.underlying52 rfl rfl (fun w => ⟨_, Try.sizeOf46 w⟩) rfl) ?_
            refine atq_guard_yes rfl rfl rfl ?_
            refine atq_val rfl rfl rfl (r_fieldAddr (fo := 17) Try.underlying46 rfl rfl (fun w => ⟨_, Try.sizeOf3 w⟩) rfl) ?_
            refine atq_guard_yes rfl rfl rfl ?_
            refine atq_val rfl rfl rfl (r_load_cell Try.isAgg3 rfl (lens_cell0 (c := (cInt .i64)) (y := i7.f_P.f_Bits) .z (Lens.comp (Lens.comp (Lens.whole _ _) (fun z => { i7 with f_P := z }) (c_api_Entry_f_P i7)) (fun z => { i7.f_P with f_Bits := z }) (c_api_Prefix_f_Bits i7.f_P)) rfl)) ?_
            refine atq_guard_yes rfl rfl rfl ?_
            refine atq_val rfl rfl rfl (r_igtr rfl rfl) ?_
            refine atq_guard_yes rfl rfl rfl ?_
            refine atq_val rfl rfl rfl (r_pick rfl rfl rfl) ?_
            refine atq_val rfl rfl rfl (r_pick rfl rfl rfl) ?_
            refine atq_nil ?_
            refine at_weak [(0, _), (3, _), (4, _), (6, _), (7, _), (8, _), (37, _)] ⟨rfl, rfl, rfl, rfl, rfl, rfl, rfl, trivial⟩ ?_
            refine at_then_normal ?_
            rcases of_ite hF with ⟨h24, hF⟩ | ⟨h24, hF⟩
            · refine at_cond_true rfl h24 ?_
              refine at_seq ?_
              refine at_region ?_
              refine at_val rfl rfl rfl (r_move rfl) ?_
              refine at_val rfl rfl rfl (r_move rfl) ?_
              obtain ⟨h25, hF⟩ := of_guard hF
              obtain ⟨b27, o28, hp26⟩ := row_ptr hr0 h25
              refine at_val rfl rfl rfl (r_idx Try.underlying44 Try.sizeOf52 rfl rfl h25 hp26) ?_
              refine at_val rfl rfl rfl (r_load_aggc (c := c_api_Entry) (z := lget x0 i6) Try.isAgg52 Try.sizeOf52 rfl (row_cell (fun _ h => h.below) hr0 h25 hp26)) ?_
              refine at_store (c := c_api_Entry) (z := lget x0 i6) .z (Lens.whole _ _) Try.sizeOf52 rfl rfl rfl ?_
              refine at_nil ?_
              refine at_weak [(0, _), (3, _), (4, _), (6, _), (8, _)] ⟨rfl, rfl, rfl, rfl, rfl, trivial⟩ ?_
              refine at_then_normal ?_
              refine at_region ?_
              refine at_val rfl rfl rfl (r_assign rfl) ?_
              refine at_nil ?_
              refine at_weak [(0, _), (3, _), (4, _), (6, _), (7, _), (8, _)] ⟨rfl, rfl, rfl, rfl, rfl, rfl, trivial⟩ ?_
              refine at_blk_normal (at_then_normal ?_)
              refine at_region ?_
              refine at_val rfl rfl rfl (r_move rfl) ?_
              refine at_val rfl rfl rfl (r_iadd rfl rfl) ?_
              refine at_val rfl rfl rfl (r_assign rfl) ?_
              refine at_nil ?_
              refine at_weak [(0, _), (3, _), (4, _), (6, _), (7, _), (8, _)] ⟨rfl, rfl, rfl, rfl, rfl, rfl, trivial⟩ ?_
              refine at_then_normal ?_
              exact at_weak_k (ih _ _ _ _ hF K) ⟨rfl, rfl, rfl, rfl, rfl, rfl, trivial⟩
            · refine at_cond_false rfl h24 ?_
              refine at_skip ?_
              refine at_blk_normal (at_then_normal ?_)
              refine at_region ?_
              refine at_val rfl rfl rfl (r_move rfl) ?_
              refine at_val rfl rfl rfl (r_iadd rfl rfl) ?_
              refine at_val rfl rfl rfl (r_assign rfl) ?_
              refine at_nil ?_
              refine at_weak [(0, _), (3, _), (4, _), (6, _), (7, _), (8, _)] ⟨rfl, rfl, rfl, rfl, rfl, rfl, trivial⟩ ?_
              refine at_then_normal ?_
              exact at_weak_k (ih _ _ _ _ hF K) ⟨rfl, rfl, rfl, rfl, rfl, rfl, trivial⟩
        · refine atq_fix (g := 22) rfl h14 ?_
          refine atq_guard_no rfl rfl rfl rfl rfl ?_
          refine atq_guard_no rfl rfl rfl rfl rfl ?_
          refine atq_guard_no rfl rfl rfl rfl rfl ?_
          refine atq_guard_undef rfl rfl rfl rfl ?_
          refine atq_guard_undef rfl rfl rfl rfl ?_
          refine atq_guard_undef rfl rfl rfl rfl ?_
          refine atq_guard_undef rfl rfl rfl rfl ?_
          refine atq_guard_undef rfl rfl rfl rfl ?_
          refine atq_guard_undef rfl rfl rfl rfl ?_
          refine atq_guard_undef rfl rfl rfl rfl ?_
          refine atq_guard_undef rfl rfl rfl rfl ?_
          refine atq_guard_undef rfl rfl rfl rfl ?_
          refine atq_guard_undef rfl rfl rfl rfl ?_
          refine atq_guard_no rfl rfl rfl rfl rfl ?_
          refine atq_val rfl rfl rfl (r_pick rfl rfl rfl) ?_
          refine atq_nil ?_
          refine at_weak [(0, _), (3, _), (4, _), (6, _), (7, _), (8, _), (37, _)] ⟨rfl, rfl, rfl, rfl, rfl, rfl, rfl, trivial⟩ ?_
          refine at_then_normal ?_
          refine at_cond_false rfl rfl ?_
          refine at_skip ?_
          refine at_blk_normal (at_then_normal ?_)
          refine at_region ?_
          refine at_val rfl rfl rfl (r_move rfl) ?_
          refine at_val rfl rfl rfl (r_iadd rfl rfl) ?_
          refine at_val rfl rfl rfl (r_assign rfl) ?_
          refine at_nil ?_
          refine at_weak [(0, _), (3, _), (4, _), (6, _), (7, _), (8, _)] ⟨rfl, rfl, rfl, rfl, rfl, rfl, trivial⟩ ?_
          refine at_then_normal ?_
          exact at_weak_k (ih _ _ _ _ hF K) ⟨rfl, rfl, rfl, rfl, rfl, rfl, trivial⟩
      · refine at_cond_false rfl h8 ?_
        refine at_exit ?_
        refine at_then_exit (at_then_exit ?_)
        refine at_drop (H := _) (.s (.s .z)) ?_
        obtain rfl := of_some hF
        exact at_weak_k K ⟨rfl, rfl, rfl, trivial⟩
  · skip
    skip
    refine at_blk_same ?_
    refine at_then_normal ?_
    refine at_seq ?_
    refine at_region ?_
    refine at_val rfl rfl rfl (r_load_aggc (c := c_api_Entry) (z := q4.2) Try.isAgg52 Try.sizeOf52 rfl (lens_cell .z (Lens.whole _ _))) ?_
    refine at_val rfl rfl rfl (r_move rfl) ?_
    refine at_store (c := c_api_Entry) (z := q4.2) (.s .z) (Lens.whole _ _) Try.sizeOf52 rfl rfl rfl ?_
    refine at_val rfl rfl rfl (r_assign rfl) ?_
    refine at_nil ?_
    refine at_drop (H := _) .z ?_
    refine at_weak [(4, _), (5, _)] ⟨rfl, rfl, trivial⟩ ?_
    refine at_then_normal ?_
    refine at_ret ?_
    have K := of_some hF
    subst K
    exact at_res2 rfl (res_cell (c := c_api_Entry) (y := q4.2) rfl .z (Lens.whole _ _) Try.isAgg52 Try.sizeOf52 (.inl rfl)) (res_tmp rfl) (fun w1 hw => ⟨rfl, hw.below⟩)

def crawlwayref25_Same.l0 (x0 : List S_api_Entry) (x1 : List S_api_Entry) (i3 : Int) : Option (Ctl (Bool) (Unit)) :=
  if (decide (i3 < (x0.length : Int))) = true then (if (0 : Int) ≤ i3 ∧ i3 < (x0.length : Int) then if (0 : Int) ≤ i3 ∧ i3 < (x1.length : Int) then if (!decide (lget x0 i3 = lget x1 i3)) = true then (some (.ret false)) else (crawlwayref25_Same.l0 x0 x1 (wr .i64 (i3 + 1))) else none else none) else (some (.nx ()))
  partial_fixpoint
def crawlwayref25_Same (x0 : List S_api_Entry) (x1 : List S_api_Entry) : Option (Bool) :=
  if ((x0.length : Int) != (x1.length : Int)) = true then (some false) else (crawlwayref25_Same.l0 x0 x1 0 >>= fun q2 => match q2 with | .ret r' => some r' | .nx sq2 => (some true))
theorem crawlwayref25_Same_ok (x0 : List S_api_Entry) (p0_ : Option Addr) (c0_ : Nat) (x1 : List S_api_Entry) (p1_ : Option Addr) (c1_ : Nat) (r : Bool) (hF : crawlwayref25_Same x0 x1 = some r) (w : World) (hr0 : Row c_api_Entry w p0_ c0_ x0) (hr1 : Row c_api_Entry w p1_ c1_ x1) :
    Calls Try.prog 29 #[.slice p0_ x0.length c0_, .slice p1_ x1.length c1_] w (fun e w' => e = .returned (.bool r) ∧ Below w.heap.size w w') := by
  unfold crawlwayref25_Same at hF
  refine calls_enter (l := [.slice p0_ x0.length c0_, .slice p1_ x1.length c1_]) Try.func29 rfl rfl rfl ?_
  refine at_start ?_
  refine at_weak [(0, _), (1, _)] ⟨rfl, rfl, trivial⟩ ?_
  refine at_seq ?_
  refine at_region ?_
  refine at_val rfl rfl rfl (r_assign rfl) ?_
  refine at_nil ?_
  refine at_weak [(0, _), (1, _)] ⟨rfl, rfl, trivial⟩ ?_
  refine at_then_normal ?_
  refine at_seq ?_
  refine at_seq ?_
  refine at_region ?_
  refine at_val rfl rfl rfl (r_move rfl) ?_
  refine at_val rfl rfl rfl (r_len_sl Try.underlying44 rfl) ?_
  refine at_val rfl rfl rfl (r_move rfl) ?_
  refine at_val rfl rfl rfl (r_len_sl Try.underlying44 rfl) ?_
  refine at_val rfl rfl rfl (r_ineq rfl rfl) ?_
  refine at_nil ?_
  refine at_weak [(0, _), (1, _), (10, _)] ⟨rfl, rfl, rfl, trivial⟩ ?_
  refine at_then_normal ?_
  rcases of_ite hF with ⟨h1, hF⟩ | ⟨h1, hF⟩
  · refine at_cond_true rfl h1 ?_
    refine at_seq ?_
    refine at_region ?_
    refine at_val rfl rfl rfl (r_assign rfl) ?_
    refine at_nil ?_
    refine at_weak [(4, _)] ⟨rfl, trivial⟩ ?_
    refine at_then_normal ?_
    refine at_ret ?_
    refine at_then_ret ?_
    have K := of_some hF
    subst K
    exact at_return1 rfl rfl (fun w1 hw => ⟨rfl, hw.below⟩)
  · refine at_cond_false rfl h1 ?_
    refine at_skip ?_
    refine at_then_normal ?_
    refine at_seq ?_
    refine at_seq ?_
    refine at_region ?_
    refine at_val rfl rfl rfl (r_assign rfl) ?_
    refine at_nil ?_
    refine at_weak [(0, _), (1, _), (5, _)] ⟨rfl, rfl, rfl, trivial⟩ ?_
    refine at_then_normal ?_
    refine at_block ?_
    obtain ⟨q2, hq2, hF⟩ := of_bindM hF
    refine at_weak [(0, _), (1, _), (5, _)] ⟨rfl, rfl, rfl, trivial⟩ ?_
    refine at_loop_r (B := 0) (r := r) (q := q2) (A := fun (_ : Unit) Y => At 26 [] (Wd w []) Y) ?_ ?_
    · intro K
      refine crawlwayref25_Same.l0.partial_correctness x0 x1 (motive := fun i3 x => KR (fun (_ : Unit) Y => At 26 [] (Wd w []) Y) _ 0 r x → Round (fun Y => At 26 [(0, .slice p0_ x0.length c0_), (1, .slice p1_ x1.length c1_), (5, .int .i64 i3)] (Wd w []) Y) _ _ _) ?_ _ _ hq2 K
      · clear K hF
        intro g ih i3 x hF K
        refine at_round ?_
        refine at_seq ?_
        refine at_seq ?_
        refine at_region ?_
        refine at_val rfl rfl rfl (r_move rfl) ?_
        refine at_val rfl rfl rfl (r_move rfl) ?_
        refine at_val rfl rfl rfl (r_len_sl Try.underlying44 rfl) ?_
        refine at_val rfl rfl rfl (r_ilss rfl rfl) ?_
        refine at_nil ?_
        refine at_weak [(0, _), (1, _), (5, _), (14, _)] ⟨rfl, rfl, rfl, rfl, trivial⟩ ?_
        refine at_then_normal ?_
        rcases of_ite hF with ⟨h4, hF⟩ | ⟨h4, hF⟩
        · refine at_cond_true rfl h4 ?_
          refine at_skip ?_
          refine at_then_normal ?_
          refine at_seq ?_
          refine at_block ?_
          refine at_seq ?_
          refine at_draw (by kernel_rfl) (by kernel_rfl) (fun _ h => h.drew) ?_
          refine atq_val rfl rfl rfl (r_move rfl) ?_
          refine atq_val rfl rfl rfl (r_move rfl) ?_
          obtain ⟨h5, hF⟩ := of_guard hF
          obtain ⟨b7, o8, hp6⟩ := row_ptr hr0 h5
          refine atq_val rfl rfl rfl (r_idx Try.underlying44 Try.sizeOf52 rfl rfl h5 hp6) ?_
          refine atq_val rfl rfl rfl (r_load_aggc (c := c_api_Entry) (z := lget x0 i3) Try.isAgg52 Try.sizeOf52 rfl (row_cell (fun _ h => h.below) hr0 h5 hp6)) ?_
          refine atq_val rfl rfl rfl (r_move rfl) ?_
          refine atq_val rfl rfl rfl (r_move rfl) ?_
          obtain ⟨h9, hF⟩ := of_guard hF
          obtain ⟨b11, o12, hp10⟩ := row_ptr hr1 h9
          refine atq_val rfl rfl rfl (r_idx Try.underlying44 Try.sizeOf52 rfl rfl h9 hp10) ?_
          refine atq_val rfl rfl rfl (r_load_aggc (c := c_api_Entry) (z := lget x1 i3) Try.isAgg52 Try.sizeOf52 rfl (row_cell (fun _ h => h.below) hr1 h9 hp10)) ?_
          refine atq_val rfl rfl rfl (r_eqagg (c := c_api_Entry) (a := lget x0 i3) (b := lget x1 i3) (eq_api_Entry_52) rfl Try.eqGuardType52 rfl rfl (.inr rfl) rfl) ?_
          refine atq_nil ?_
          refine at_weak [(0, _), (1, _), (5, _), (25, _)] ⟨rfl, rfl, rfl, rfl, trivial⟩ ?_
          refine at_then_normal ?_
          rcases of_ite hF with ⟨h13, hF⟩ | ⟨h13, hF⟩
          · refine at_cond_true rfl h13 ?_
            refine at_seq ?_
            refine at_region ?_
            refine at_val rfl rfl rfl (r_assign rfl) ?_
            refine at_nil ?_
            refine at_weak [(4, _)] ⟨rfl, trivial⟩ ?_
            refine at_then_normal ?_
            refine at_ret ?_
            refine at_blk_ret (at_then_ret (at_then_ret (at_blk_ret (at_then_ret ?_))))
            obtain rfl := of_some hF
            subst K
            exact at_return1 rfl rfl (fun w1 hw => ⟨rfl, hw.below⟩)
          · refine at_cond_false rfl h13 ?_
            refine at_skip ?_
            refine at_blk_normal (at_then_normal ?_)
            refine at_region ?_
            refine at_val rfl rfl rfl (r_move rfl) ?_
            refine at_val rfl rfl rfl (r_iadd rfl rfl) ?_
            refine at_val rfl rfl rfl (r_assign rfl) ?_
            refine at_nil ?_
            refine at_weak [(0, _), (1, _), (5, _)] ⟨rfl, rfl, rfl, trivial⟩ ?_
            refine at_then_normal ?_
            exact at_weak_k (ih _ _ hF K) ⟨rfl, rfl, rfl, trivial⟩
        · refine at_cond_false rfl h4 ?_
          refine at_exit ?_
          refine at_then_exit (at_then_exit ?_)
          obtain rfl := of_some hF
          exact at_weak_k K trivial
    · cases q2 with
      | ret r' => exact of_some hF
      | nx sq2 =>
        skip
        refine at_blk_same ?_
        refine at_then_normal ?_
        refine at_seq ?_
        refine at_region ?_
        refine at_val rfl rfl rfl (r_assign rfl) ?_
        refine at_nil ?_
        refine at_weak [(4, _)] ⟨rfl, trivial⟩ ?_
        refine at_then_normal ?_
        refine at_ret ?_
        have K := of_some hF
        subst K
        exact at_return1 rfl rfl (fun w1 hw => ⟨rfl, hw.below⟩)

def crawlwayref25_Right (x0 : Int) (x1 : S_api_Prefix) : Option (Bool) :=
  crawlwayref11_Right x1 >>= fun t2 => if t2 = true then (some (x1.f_A.f_V == x0)) else (some false)
theorem crawlwayref25_Right_ok (x0 : Int) (x1 : S_api_Prefix) (r : Bool) (hF : crawlwayref25_Right x0 x1 = some r) (w : World) :
    Calls Try.prog 66 #[.int .i64 x0, .agg (Cd.cs c_api_Prefix x1).toArray] w (fun e w' => e = .returned (.bool r) ∧ Below w.heap.size w w') := by
  unfold crawlwayref25_Right at hF
  refine calls_enter (l := [.int .i64 x0, .agg (Cd.cs c_api_Prefix x1).toArray]) Try.func66 rfl rfl rfl ?_
  refine at_start ?_
  refine at_weak [(0, _), (1, _)] ⟨rfl, rfl, trivial⟩ ?_
  refine at_seq ?_
  refine at_region ?_
  refine at_box (cs := Cd.cs c_api_Prefix x1) rfl rfl rfl ?_
  intro b1
  refine at_val rfl rfl rfl (r_assign rfl) ?_
  refine at_nil ?_
  refine at_weak [(0, _), (3, _)] ⟨rfl, rfl, trivial⟩ ?_
  refine at_then_normal ?_
  refine at_seq ?_
  refine at_region ?_
  refine at_val rfl rfl rfl (r_load_aggc (c := c_api_Prefix) (z := x1) Try.isAgg46 Try.sizeOf46 rfl (lens_cell .z (Lens.whole _ _))) ?_
  obtain ⟨t2, ht2, hF⟩ := of_bindM hF
  refine at_callB Try.func57 rfl (by kernel_rfl) rfl rfl (fun w hw => crawlwayref11_Right_ok _ _ ht2 w) ?_
  refine at_val rfl rfl rfl (r_move rfl) ?_
  rcases of_ite hF with ⟨h3, hF⟩ | ⟨h3, hF⟩
  · refine at_fix (g := 7) rfl h3 ?_
    refine at_guard_yes rfl rfl rfl ?_
    refine at_val rfl rfl rfl (r_fieldAddr (fo := 0) Try.underlying46 rfl rfl (fun w => ⟨_, Try.sizeOf32 w⟩) rfl) ?_
    refine at_guard_yes rfl rfl rfl ?_
    refine at_val rfl rfl rfl (r_fieldAddr (fo := 0) Try.underlying32 rfl rfl (fun w => ⟨_, Try.sizeOf3 w⟩) rfl) ?_
    refine at_guard_yes rfl rfl rfl ?_
    refine at_val rfl rfl rfl (r_load_cell Try.isAgg3 rfl (lens_cell0 (c := (cInt .i64)) (y := x1.f_A.f_V) .z (Lens.comp (Lens.comp (Lens.whole _ _) (fun z => { x1 with f_A := z }) (c_api_Prefix_f_A x1)) (fun z => { x1.f_A with f_V := z }) (c_api_Addr_f_V x1.f_A)) rfl)) ?_
    refine at_guard_yes rfl rfl rfl ?_
    refine at_val rfl rfl rfl (r_move rfl) ?_
    refine at_guard_yes rfl rfl rfl ?_
    refine at_val rfl rfl rfl (r_ieql rfl rfl) ?_
    refine at_val rfl rfl rfl (r_pick rfl rfl rfl) ?_
    refine at_val rfl rfl rfl (r_assign rfl) ?_
    refine at_nil ?_
    refine at_drop (H := _) .z ?_
    refine at_weak [(4, _)] ⟨rfl, trivial⟩ ?_
    refine at_then_normal ?_
    refine at_ret ?_
    have K := of_some hF
    subst K
    exact at_return1 rfl rfl (fun w1 hw => ⟨rfl, hw.below⟩)
  · refine at_fix (g := 7) rfl h3 ?_
    refine at_guard_no rfl rfl rfl rfl rfl ?_
    refine at_guard_no rfl rfl rfl rfl rfl ?_
    refine at_guard_no rfl rfl rfl rfl rfl ?_
    refine at_guard_no rfl rfl rfl rfl rfl ?_
    refine at_guard_no rfl rfl rfl rfl rfl ?_
    refine at_val rfl rfl rfl (r_pick rfl rfl rfl) ?_
    refine at_val rfl rfl rfl (r_assign rfl) ?_
    refine at_nil ?_
    refine at_drop (H := _) .z ?_
    refine at_weak [(4, _)] ⟨rfl, trivial⟩ ?_
    refine at_then_normal ?_
    refine at_ret ?_
    have K := of_some hF
    subst K
    exact at_return1 rfl rfl (fun w1 hw => ⟨rfl, hw.below⟩)
end Go.Proofs.Ythccncpephpdjaa
