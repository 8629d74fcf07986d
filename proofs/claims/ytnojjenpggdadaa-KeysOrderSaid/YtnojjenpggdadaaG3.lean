/- Functions with the same answers as the Go functions that they are named for, and the proofs of it, by a program of this project (gen.py). -/
import Derived.Test.YtnojjenpggdadaaT
import Derived.Test.YtnojjenpggdadaaShelf
import Derived.Test.YtnojjenpggdadaaProg
import Derived.Test.YtnojjenpggdadaaG1
import Derived.Test.YtnojjenpggdadaaG2
set_option linter.unusedVariables false
set_option linter.unusedSimpArgs false
namespace Go.Proofs.Ytnojjenpggdadaa
open E Go.RowKit


def keys_Clamp (x0 : (Vector Int 32)) : Option ((Vector Int 32)) :=
  some (vset (vset x0 0 (iand .u8 (vget x0 0) 248)) 31 (ior .u8 (iand .u8 (vget (vset x0 0 (iand .u8 (vget x0 0) 248)) 31) 127) 64))
theorem keys_Clamp_ok (x0 : (Vector Int 32)) (r : (Vector Int 32)) (hF : keys_Clamp x0 = some r) (w : World) :
    Calls Try.prog 24 #[.agg (Cd.cs (cVec (cInt .u8) 32 (by decide)) x0).toArray] w (fun e w' => e = .returned (.agg (Cd.cs (cVec (cInt .u8) 32 (by decide)) r).toArray) ∧ Below w.heap.size w w') := by
  unfold keys_Clamp at hF
  refine calls_enter (l := [.agg (Cd.cs (cVec (cInt .u8) 32 (by decide)) x0).toArray]) Try.func24 rfl rfl rfl ?_
  refine at_start ?_
  refine at_weak [(0, _)] ⟨rfl, trivial⟩ ?_
  refine at_seq ?_
  refine at_region ?_
  refine at_box (cs := Cd.cs (cVec (cInt .u8) 32 (by decide)) x0) rfl rfl rfl ?_
  intro b1
  refine at_alloc (cs := Cd.cs (cVec (cInt .u8) 32 (by decide)) (Vector.replicate 32 (0 : Int) : (Vector Int 32))) Try.zeroValue41 rfl rfl ?_
  intro b2
  refine at_nil ?_
  refine at_weak [(1, _), (2, _)] ⟨rfl, rfl, trivial⟩ ?_
  refine at_then_normal ?_
  refine at_seq ?_
  refine at_region ?_
  refine at_val rfl rfl rfl (r_idxArr Try.underlying41 Try.sizeOf5 rfl rfl (by decide)) ?_
  refine at_val rfl rfl rfl (r_load_cell Try.isAgg5 rfl (lens_cell0 (c := (cInt .u8)) (y := vget x0 0) (.s .z) (Lens.comp (Lens.whole _ _) (fun z => vset x0 0 z) (Lens.vec (cInt .u8) (by decide) x0 0 (by decide))) rfl)) ?_
  refine at_val rfl rfl rfl (r_iand rfl rfl) ?_
  refine at_val rfl rfl rfl (r_idxArr Try.underlying41 Try.sizeOf5 rfl rfl (by decide)) ?_
  refine at_store (c := (cInt .u8)) (z := iand .u8 (vget x0 0) 248) (.s .z) (Lens.comp (Lens.whole _ _) (fun z => vset x0 0 z) (Lens.vec (cInt .u8) (by decide) x0 0 (by decide))) Try.sizeOf5 rfl rfl rfl ?_
  refine at_nil ?_
  refine at_weak [(1, _), (2, _)] ⟨rfl, rfl, trivial⟩ ?_
  refine at_then_normal ?_
  refine at_seq ?_
  refine at_region ?_
  refine at_val rfl rfl rfl (r_idxArr Try.underlying41 Try.sizeOf5 rfl rfl (by decide)) ?_
  refine at_val rfl rfl rfl (r_load_cell Try.isAgg5 rfl (lens_cell0 (c := (cInt .u8)) (y := vget (vset x0 0 (iand .u8 (vget x0 0) 248)) 31) (.s .z) (Lens.comp (Lens.whole _ _) (fun z => vset (vset x0 0 (iand .u8 (vget x0 0) 248)) 31 z) (Lens.vec (cInt .u8) (by decide) (vset x0 0 (iand .u8 (vget x0 0) 248)) 31 (by decide))) rfl)) ?_
  refine at_val rfl rfl rfl (r_iand rfl rfl) ?_
  refine at_val rfl rfl rfl (r_ior rfl rfl) ?_
  refine at_val rfl rfl rfl (r_idxArr Try.underlying41 Try.sizeOf5 rfl rfl (by decide)) ?_
  refine at_store (c := (cInt .u8)) (z := ior .u8 (iand .u8 (vget (vset x0 0 (iand .u8 (vget x0 0) 248)) 31) 127) 64) (.s .z) (Lens.comp (Lens.whole _ _) (fun z => vset (vset x0 0 (iand .u8 (vget x0 0) 248)) 31 z) (Lens.vec (cInt .u8) (by decide) (vset x0 0 (iand .u8 (vget x0 0) 248)) 31 (by decide))) Try.sizeOf5 rfl rfl rfl ?_
  refine at_nil ?_
  refine at_weak [(1, _), (2, _)] ⟨rfl, rfl, trivial⟩ ?_
  refine at_then_normal ?_
  refine at_seq ?_
  refine at_region ?_
  refine at_val rfl rfl rfl (r_load_aggc (c := (cVec (cInt .u8) 32 (by decide))) (z := vset (vset x0 0 (iand .u8 (vget x0 0) 248)) 31 (ior .u8 (iand .u8 (vget (vset x0 0 (iand .u8 (vget x0 0) 248)) 31) 127) 64)) Try.isAgg41 Try.sizeOf41 rfl (lens_cell (.s .z) (Lens.whole _ _))) ?_
  refine at_store (c := (cVec (cInt .u8) 32 (by decide))) (z := vset (vset x0 0 (iand .u8 (vget x0 0) 248)) 31 (ior .u8 (iand .u8 (vget (vset x0 0 (iand .u8 (vget x0 0) 248)) 31) 127) 64)) .z (Lens.whole _ _) Try.sizeOf41 rfl rfl rfl ?_
  refine at_nil ?_
  refine at_drop (H := _) (.s .z) ?_
  refine at_weak [(2, _)] ⟨rfl, trivial⟩ ?_
  refine at_then_normal ?_
  refine at_ret ?_
  have K := of_some hF
  subst K
  exact at_res1 rfl (res_cell (c := (cVec (cInt .u8) 32 (by decide))) (y := vset (vset x0 0 (iand .u8 (vget x0 0) 248)) 31 (ior .u8 (iand .u8 (vget (vset x0 0 (iand .u8 (vget x0 0) 248)) 31) 127) 64)) rfl .z (Lens.whole _ _) Try.isAgg41 Try.sizeOf41 (.inl rfl)) (fun w1 hw => ⟨rfl, hw.below⟩)

def bytes_Compare (x0 : List Int) (x1 : List Int) : Option (Int) :=
  some (Lib.compareBytes (unb x0) (unb x1))
theorem bytes_Compare_ok (x0 : List Int) (p0_ : Option Addr) (c0_ : Nat) (x1 : List Int) (p1_ : Option Addr) (c1_ : Nat) (r : Int) (hF : bytes_Compare x0 x1 = some r) (w : World) (hr0 : Row (cInt .u8) w p0_ c0_ x0) (hr1 : Row (cInt .u8) w p1_ c1_ x1) :
    Calls Try.prog 44 #[.slice p0_ x0.length c0_, .slice p1_ x1.length c1_] w (fun e w' => e = .returned (.int .i64 r) ∧ w' = w) := by
  unfold bytes_Compare at hF
  refine calls_enter (l := [.slice p0_ x0.length c0_, .slice p1_ x1.length c1_]) Try.func44 rfl rfl rfl ?_
  refine at_weak [(0, _), (1, _)] ⟨rfl, rfl, trivial⟩ ?_
  refine at_seq ?_
  refine at_region ?_
  refine at_val rfl rfl rfl (r_assign rfl) ?_
  refine at_nil ?_
  refine at_weak [(0, _), (1, _)] ⟨rfl, rfl, trivial⟩ ?_
  refine at_then_normal ?_
  refine at_seq ?_
  refine at_region ?_
  refine at_val rfl rfl rfl (r_move rfl) ?_
  refine at_val rfl rfl rfl (r_move rfl) ?_
  refine at_val rfl rfl rfl (r_cmp (xs := x0) (ys := x1) Try.func55 rfl rfl (by kernel_rfl) (by kernel_rfl) rfl rfl (fun w1 hw => (hr0.below (by subst hw; exact Below.refl _ _))) (fun w1 hw => (hr1.below (by subst hw; exact Below.refl _ _)))) ?_
  refine at_val rfl rfl rfl (r_assign rfl) ?_
  refine at_nil ?_
  refine at_weak [(4, _)] ⟨rfl, trivial⟩ ?_
  refine at_then_normal ?_
  refine at_ret ?_
  have K := of_some hF
  subst K
  exact at_return1 rfl rfl (fun w1 hw => ⟨rfl, hw⟩)

def keys_Less (x0 : (Vector Int 32)) (x1 : (Vector Int 32)) : Option (Bool) :=
  bytes_Compare (Vector.toList x0) (Vector.toList x1) >>= fun t3 => some (decide (t3 < 0))
theorem keys_Less_ok (x0 : (Vector Int 32)) (x1 : (Vector Int 32)) (r : Bool) (hF : keys_Less x0 x1 = some r) (w : World) :
    Calls Try.prog 25 #[.agg (Cd.cs (cVec (cInt .u8) 32 (by decide)) x0).toArray, .agg (Cd.cs (cVec (cInt .u8) 32 (by decide)) x1).toArray] w (fun e w' => e = .returned (.bool r) ∧ Below w.heap.size w w') := by
  unfold keys_Less at hF
  refine calls_enter (l := [.agg (Cd.cs (cVec (cInt .u8) 32 (by decide)) x0).toArray, .agg (Cd.cs (cVec (cInt .u8) 32 (by decide)) x1).toArray]) Try.func25 rfl rfl rfl ?_
  refine at_start ?_
  refine at_weak [(0, _), (1, _)] ⟨rfl, rfl, trivial⟩ ?_
  refine at_seq ?_
  refine at_region ?_
  refine at_box (cs := Cd.cs (cVec (cInt .u8) 32 (by decide)) x0) rfl rfl rfl ?_
  intro b1
  refine at_box (cs := Cd.cs (cVec (cInt .u8) 32 (by decide)) x1) rfl rfl rfl ?_
  intro b2
  refine at_val rfl rfl rfl (r_assign rfl) ?_
  refine at_nil ?_
  refine at_weak [(2, _), (3, _)] ⟨rfl, rfl, trivial⟩ ?_
  refine at_then_normal ?_
  refine at_seq ?_
  refine at_draw (by kernel_rfl) (by kernel_rfl) (fun _ h => h.drew) ?_
  refine atq_val rfl rfl rfl (r_slice_vec x0 Try.underlying41 Try.sizeOf5 rfl) ?_
  refine atq_val rfl rfl rfl (r_slice_vec x1 Try.underlying41 Try.sizeOf5 rfl) ?_
  obtain ⟨t3, ht3, hF⟩ := of_bindM hF
  refine atq_call Try.func44 rfl (by kernel_rfl) rfl rfl (fun w hw => (bytes_Compare_ok _ _ _ _ _ _ _ ht3 w (vec_row (hw.ok (Upd.mem (.s .z)))) (vec_row (hw.ok (Upd.mem .z)))).mono fun _ _ h => ⟨h.1, h.2 ▸ hw⟩) ?_
  refine atq_val rfl rfl rfl (r_ilss rfl rfl) ?_
  refine atq_val rfl rfl rfl (r_assign rfl) ?_
  refine atq_nil ?_
  refine at_drop (H := _) .z ?_
  refine at_drop (H := _) .z ?_
  refine at_weak [(4, _)] ⟨rfl, trivial⟩ ?_
  refine at_then_normal ?_
  refine at_ret ?_
  have K := of_some hF
  subst K
  exact at_return1 rfl rfl (fun w1 hw => ⟨rfl, hw.below⟩)

def crawlwayref07_Less.l0 (x0 : (Vector Int 32)) (x1 : (Vector Int 32)) (i4 : Int) : Option (Ctl (Bool) (Unit)) :=
  if (decide (i4 < 32)) = true then (if (0 : Int) ≤ i4 ∧ i4 < 32 then if (0 : Int) ≤ i4 ∧ i4 < 32 then if (vget x0 i4 != vget x1 i4) = true then (if (0 : Int) ≤ i4 ∧ i4 < 32 then if (0 : Int) ≤ i4 ∧ i4 < 32 then some (.ret (decide (vget x0 i4 < vget x1 i4))) else none else none) else (crawlwayref07_Less.l0 x0 x1 (wr .i64 (i4 + 1))) else none else none) else (some (.nx ()))
  partial_fixpoint
def crawlwayref07_Less (x0 : (Vector Int 32)) (x1 : (Vector Int 32)) : Option (Bool) :=
  crawlwayref07_Less.l0 x0 x1 0 >>= fun q3 => match q3 with | .ret r' => some r' | .nx sq3 => (some false)
theorem crawlwayref07_Less_ok (x0 : (Vector Int 32)) (x1 : (Vector Int 32)) (r : Bool) (hF : crawlwayref07_Less x0 x1 = some r) (w : World) :
    Calls Try.prog 26 #[.agg (Cd.cs (cVec (cInt .u8) 32 (by decide)) x0).toArray, .agg (Cd.cs (cVec (cInt .u8) 32 (by decide)) x1).toArray] w (fun e w' => e = .returned (.bool r) ∧ Below w.heap.size w w') := by
  unfold crawlwayref07_Less at hF
  refine calls_enter (l := [.agg (Cd.cs (cVec (cInt .u8) 32 (by decide)) x0).toArray, .agg (Cd.cs (cVec (cInt .u8) 32 (by decide)) x1).toArray]) Try.func26 rfl rfl rfl ?_
  refine at_start ?_
  refine at_weak [(0, _), (1, _)] ⟨rfl, rfl, trivial⟩ ?_
  refine at_seq ?_
  refine at_region ?_
  refine at_box (cs := Cd.cs (cVec (cInt .u8) 32 (by decide)) x0) rfl rfl rfl ?_
  intro b1
  refine at_box (cs := Cd.cs (cVec (cInt .u8) 32 (by decide)) x1) rfl rfl rfl ?_
  intro b2
  refine at_val rfl rfl rfl (r_assign rfl) ?_
  refine at_nil ?_
  refine at_weak [(2, _), (3, _)] ⟨rfl, rfl, trivial⟩ ?_
  refine at_then_normal ?_
  refine at_seq ?_
  refine at_seq ?_
  refine at_region ?_
  refine at_val rfl rfl rfl (r_assign rfl) ?_
  refine at_nil ?_
  refine at_weak [(2, _), (3, _), (5, _)] ⟨rfl, rfl, rfl, trivial⟩ ?_
  refine at_then_normal ?_
  refine at_block ?_
  obtain ⟨q3, hq3, hF⟩ := of_bindM hF
  refine at_weak [(2, _), (3, _), (5, _)] ⟨rfl, rfl, rfl, trivial⟩ ?_
  refine at_loop_r (B := 0) (r := r) (q := q3) (A := fun (_ : Unit) Y => At 24 [] (Wd w []) Y) ?_ ?_
  · intro K
    refine crawlwayref07_Less.l0.partial_correctness x0 x1 (motive := fun i4 x => KR (fun (_ : Unit) Y => At 24 [] (Wd w []) Y) _ 0 r x → Round (fun Y => At 24 [(2, .pointer (some ⟨b1, 0, none⟩)), (3, .pointer (some ⟨b2, 0, none⟩)), (5, .int .i64 i4)] (Wd w [cellsE b2 (Cd.cs (cVec (cInt .u8) 32 (by decide)) x1) 41, cellsE b1 (Cd.cs (cVec (cInt .u8) 32 (by decide)) x0) 41]) Y) _ _ _) ?_ _ _ hq3 K
    · clear K hF
      intro g ih i4 x hF K
      refine at_round ?_
      refine at_seq ?_
      refine at_seq ?_
      refine at_region ?_
      refine at_val rfl rfl rfl (r_move rfl) ?_
      refine at_val rfl rfl rfl (r_ilss rfl rfl) ?_
      refine at_nil ?_
      refine at_weak [(2, _), (3, _), (5, _), (7, _)] ⟨rfl, rfl, rfl, rfl, trivial⟩ ?_
      refine at_then_normal ?_
      rcases of_ite hF with ⟨h5, hF⟩ | ⟨h5, hF⟩
      · refine at_cond_true rfl h5 ?_
        refine at_skip ?_
        refine at_then_normal ?_
        refine at_seq ?_
        refine at_block ?_
        refine at_seq ?_
        refine at_draw (by kernel_rfl) (by kernel_rfl) (fun _ h => h.drew) ?_
        refine atq_val rfl rfl rfl (r_move rfl) ?_
        obtain ⟨h6, hF⟩ := of_guard hF
        refine atq_val rfl rfl rfl (r_idxArr Try.underlying41 Try.sizeOf5 rfl rfl h6) ?_
        refine atq_val rfl rfl rfl (r_load_cell Try.isAgg5 rfl (lens_cell0 (c := (cInt .u8)) (y := vget x0 i4) (.s .z) (Lens.comp (Lens.whole _ _) (fun z => vset x0 i4 z) (Lens.vec (cInt .u8) (by decide) x0 i4 h6)) rfl)) ?_
        refine atq_val rfl rfl rfl (r_move rfl) ?_
        obtain ⟨h7, hF⟩ := of_guard hF
        refine atq_val rfl rfl rfl (r_idxArr Try.underlying41 Try.sizeOf5 rfl rfl h7) ?_
        refine atq_val rfl rfl rfl (r_load_cell Try.isAgg5 rfl (lens_cell0 (c := (cInt .u8)) (y := vget x1 i4) .z (Lens.comp (Lens.whole _ _) (fun z => vset x1 i4 z) (Lens.vec (cInt .u8) (by decide) x1 i4 h7)) rfl)) ?_
        refine atq_val rfl rfl rfl (r_ineq rfl rfl) ?_
        refine atq_nil ?_
        refine at_weak [(2, _), (3, _), (5, _), (16, _)] ⟨rfl, rfl, rfl, rfl, trivial⟩ ?_
        refine at_then_normal ?_
        rcases of_ite hF with ⟨h8, hF⟩ | ⟨h8, hF⟩
        · refine at_cond_true rfl h8 ?_
          refine at_seq ?_
          refine at_draw (by kernel_rfl) (by kernel_rfl) (fun _ h => h.drew) ?_
          refine atq_val rfl rfl rfl (r_move rfl) ?_
          obtain ⟨h9, hF⟩ := of_guard hF
          refine atq_val rfl rfl rfl (r_idxArr Try.underlying41 Try.sizeOf5 rfl rfl h9) ?_
          refine atq_val rfl rfl rfl (r_load_cell Try.isAgg5 rfl (lens_cell0 (c := (cInt .u8)) (y := vget x0 i4) (.s .z) (Lens.comp (Lens.whole _ _) (fun z => vset x0 i4 z) (Lens.vec (cInt .u8) (by decide) x0 i4 h9)) rfl)) ?_
          refine atq_val rfl rfl rfl (r_move rfl) ?_
          obtain ⟨h10, hF⟩ := of_guard hF
          refine atq_val rfl rfl rfl (r_idxArr Try.underlying41 Try.sizeOf5 rfl rfl h10) ?_
          refine atq_val rfl rfl rfl (r_load_cell Try.isAgg5 rfl (lens_cell0 (c := (cInt .u8)) (y := vget x1 i4) .z (Lens.comp (Lens.whole _ _) (fun z => vset x1 i4 z) (Lens.vec (cInt .u8) (by decide) x1 i4 h10)) rfl)) ?_
          refine atq_val rfl rfl rfl (r_ilss rfl rfl) ?_
          refine atq_val rfl rfl rfl (r_assign rfl) ?_
          refine atq_nil ?_
          refine at_drop (H := _) .z ?_
          refine at_drop (H := _) .z ?_
          refine at_weak [(4, _)] ⟨rfl, trivial⟩ ?_
          refine at_then_normal ?_
          refine at_ret ?_
          refine at_blk_ret (at_then_ret (at_then_ret (at_blk_ret (at_then_ret ?_))))
          obtain rfl := of_some hF
          subst K
          exact at_return1 rfl rfl (fun w1 hw => ⟨rfl, hw.below⟩)
        · refine at_cond_false rfl h8 ?_
          refine at_skip ?_
          refine at_blk_normal (at_then_normal ?_)
          refine at_region ?_
          refine at_val rfl rfl rfl (r_move rfl) ?_
          refine at_val rfl rfl rfl (r_iadd rfl rfl) ?_
          refine at_val rfl rfl rfl (r_assign rfl) ?_
          refine at_nil ?_
          refine at_weak [(2, _), (3, _), (5, _)] ⟨rfl, rfl, rfl, trivial⟩ ?_
          refine at_then_normal ?_
          exact at_weak_k (ih _ _ hF K) ⟨rfl, rfl, rfl, trivial⟩
      · refine at_cond_false rfl h5 ?_
        refine at_exit ?_
        refine at_then_exit (at_then_exit ?_)
        refine at_drop (H := _) .z ?_
        refine at_drop (H := _) .z ?_
        obtain rfl := of_some hF
        exact at_weak_k K trivial
  · cases q3 with
    | ret r' => exact of_some hF
    | nx sq3 =>
      skip
      refine at_blk_same ?_
      refine at_then_normal ?_
      refine at_seq ?_
      refine at_region ?_
      refine at_val rfl rfl rfl (r_assign rfl) ?_
      refine at_nil ?_
      refine at_weak [(4, _)] ⟨rfl, trivial⟩ ?_
      refine at_then_normal ?_
      refine at_ret ?_
      have K := of_some hF
      subst K
      exact at_return1 rfl rfl (fun w1 hw => ⟨rfl, hw.below⟩)

def keys_Zero (x0 : (Vector Int 32)) : Option (Bool) :=
  some (decide (x0 = (Vector.replicate 32 (0 : Int) : (Vector Int 32))))
theorem keys_Zero_ok (x0 : (Vector Int 32)) (r : Bool) (hF : keys_Zero x0 = some r) (w : World) :
    Calls Try.prog 27 #[.agg (Cd.cs (cVec (cInt .u8) 32 (by decide)) x0).toArray] w (fun e w' => e = .returned (.bool r) ∧ Below w.heap.size w w') := by
  unfold keys_Zero at hF
  refine calls_enter (l := [.agg (Cd.cs (cVec (cInt .u8) 32 (by decide)) x0).toArray]) Try.func27 rfl rfl rfl ?_
  refine at_start ?_
  refine at_weak [(0, _)] ⟨rfl, trivial⟩ ?_
  refine at_seq ?_
  refine at_region ?_
  refine at_box (cs := Cd.cs (cVec (cInt .u8) 32 (by decide)) x0) rfl rfl rfl ?_
  intro b1
  refine at_val rfl rfl rfl (r_assign rfl) ?_
  refine at_nil ?_
  refine at_weak [(1, _)] ⟨rfl, trivial⟩ ?_
  refine at_then_normal ?_
  refine at_seq ?_
  refine at_region ?_
  refine at_val rfl rfl rfl (r_load_aggc (c := (cVec (cInt .u8) 32 (by decide))) (z := x0) Try.isAgg41 Try.sizeOf41 rfl (lens_cell .z (Lens.whole _ _))) ?_
  refine at_val rfl rfl rfl (r_build_array (zs := Cd.cs (cVec (cInt .u8) 32 (by decide)) (Vector.replicate 32 (0 : Int) : (Vector Int 32))) (cs := Cd.cs (cVec (cInt .u8) 32 (by decide)) (Vector.replicate 32 (0 : Int) : (Vector Int 32))) Try.underlying41 Try.zeroValue41 rfl Try.sizeOf5 rfl rfl) ?_
  refine at_val rfl rfl rfl (r_eqagg (c := (cVec (cInt .u8) 32 (by decide))) (a := x0) (b := (Vector.replicate 32 (0 : Int) : (Vector Int 32))) (eqs_vec Try.underlying41 infoT5 Try.sizeOf5 Try.isAgg5 (.inr rfl) (eqs_int Try.underlying5)) rfl Try.eqGuardType41 rfl rfl (.inl rfl) rfl) ?_
  refine at_val rfl rfl rfl (r_assign rfl) ?_
  refine at_nil ?_
  refine at_drop (H := _) .z ?_
  refine at_weak [(2, _)] ⟨rfl, trivial⟩ ?_
  refine at_then_normal ?_
  refine at_ret ?_
  have K := of_some hF
  subst K
  exact at_return1 rfl rfl (fun w1 hw => ⟨rfl, hw.below⟩)

def crawlwayref07_Zero.l0 (x0 : (Vector Int 32)) (i3 : Int) : Option (Ctl (Bool) (Unit)) :=
  if (decide (i3 < 32)) = true then (if (0 : Int) ≤ i3 ∧ i3 < 32 then if (vget x0 i3 != 0) = true then (some (.ret false)) else (crawlwayref07_Zero.l0 x0 (wr .i64 (i3 + 1))) else none) else (some (.nx ()))
  partial_fixpoint
def crawlwayref07_Zero (x0 : (Vector Int 32)) : Option (Bool) :=
  crawlwayref07_Zero.l0 x0 0 >>= fun q2 => match q2 with | .ret r' => some r' | .nx sq2 => (some true)
theorem crawlwayref07_Zero_ok (x0 : (Vector Int 32)) (r : Bool) (hF : crawlwayref07_Zero x0 = some r) (w : World) :
    Calls Try.prog 28 #[.agg (Cd.cs (cVec (cInt .u8) 32 (by decide)) x0).toArray] w (fun e w' => e = .returned (.bool r) ∧ Below w.heap.size w w') := by
  unfold crawlwayref07_Zero at hF
  refine calls_enter (l := [.agg (Cd.cs (cVec (cInt .u8) 32 (by decide)) x0).toArray]) Try.func28 rfl rfl rfl ?_
  refine at_start ?_
  refine at_weak [(0, _)] ⟨rfl, trivial⟩ ?_
  refine at_seq ?_
  refine at_region ?_
  refine at_box (cs := Cd.cs (cVec (cInt .u8) 32 (by decide)) x0) rfl rfl rfl ?_
  intro b1
  refine at_val rfl rfl rfl (r_assign rfl) ?_
  refine at_nil ?_
  refine at_weak [(1, _)] ⟨rfl, trivial⟩ ?_
  refine at_then_normal ?_
  refine at_seq ?_
  refine at_seq ?_
  refine at_region ?_
  refine at_val rfl rfl rfl (r_assign rfl) ?_
  refine at_nil ?_
  refine at_weak [(1, _), (3, _)] ⟨rfl, rfl, trivial⟩ ?_
  refine at_then_normal ?_
  refine at_block ?_
  obtain ⟨q2, hq2, hF⟩ := of_bindM hF
  refine at_weak [(1, _), (3, _)] ⟨rfl, rfl, trivial⟩ ?_
  refine at_loop_r (B := 0) (r := r) (q := q2) (A := fun (_ : Unit) Y => At 12 [] (Wd w []) Y) ?_ ?_
  · intro K
    refine crawlwayref07_Zero.l0.partial_correctness x0 (motive := fun i3 x => KR (fun (_ : Unit) Y => At 12 [] (Wd w []) Y) _ 0 r x → Round (fun Y => At 12 [(1, .pointer (some ⟨b1, 0, none⟩)), (3, .int .i64 i3)] (Wd w [cellsE b1 (Cd.cs (cVec (cInt .u8) 32 (by decide)) x0) 41]) Y) _ _ _) ?_ _ _ hq2 K
    · clear K hF
      intro g ih i3 x hF K
      refine at_round ?_
      refine at_seq ?_
      refine at_seq ?_
      refine at_region ?_
      refine at_val rfl rfl rfl (r_move rfl) ?_
      refine at_val rfl rfl rfl (r_ilss rfl rfl) ?_
      refine at_nil ?_
      refine at_weak [(1, _), (3, _), (5, _)] ⟨rfl, rfl, rfl, trivial⟩ ?_
      refine at_then_normal ?_
      rcases of_ite hF with ⟨h4, hF⟩ | ⟨h4, hF⟩
      · refine at_cond_true rfl h4 ?_
        refine at_skip ?_
        refine at_then_normal ?_
        refine at_seq ?_
        refine at_block ?_
        refine at_seq ?_
        refine at_region ?_
        refine at_val rfl rfl rfl (r_move rfl) ?_
        obtain ⟨h5, hF⟩ := of_guard hF
        refine at_val rfl rfl rfl (r_idxArr Try.underlying41 Try.sizeOf5 rfl rfl h5) ?_
        refine at_val rfl rfl rfl (r_load_cell Try.isAgg5 rfl (lens_cell0 (c := (cInt .u8)) (y := vget x0 i3) .z (Lens.comp (Lens.whole _ _) (fun z => vset x0 i3 z) (Lens.vec (cInt .u8) (by decide) x0 i3 h5)) rfl)) ?_
        refine at_val rfl rfl rfl (r_ineq rfl rfl) ?_
        refine at_nil ?_
        refine at_weak [(1, _), (3, _), (11, _)] ⟨rfl, rfl, rfl, trivial⟩ ?_
        refine at_then_normal ?_
        rcases of_ite hF with ⟨h6, hF⟩ | ⟨h6, hF⟩
        · refine at_cond_true rfl h6 ?_
          refine at_seq ?_
          refine at_region ?_
          refine at_val rfl rfl rfl (r_assign rfl) ?_
          refine at_nil ?_
          refine at_drop (H := _) .z ?_
          refine at_weak [(2, _)] ⟨rfl, trivial⟩ ?_
          refine at_then_normal ?_
          refine at_ret ?_
          refine at_blk_ret (at_then_ret (at_then_ret (at_blk_ret (at_then_ret ?_))))
          obtain rfl := of_some hF
          subst K
          exact at_return1 rfl rfl (fun w1 hw => ⟨rfl, hw.below⟩)
        · refine at_cond_false rfl h6 ?_
          refine at_skip ?_
          refine at_blk_normal (at_then_normal ?_)
          refine at_region ?_
          refine at_val rfl rfl rfl (r_move rfl) ?_
          refine at_val rfl rfl rfl (r_iadd rfl rfl) ?_
          refine at_val rfl rfl rfl (r_assign rfl) ?_
          refine at_nil ?_
          refine at_weak [(1, _), (3, _)] ⟨rfl, rfl, trivial⟩ ?_
          refine at_then_normal ?_
          exact at_weak_k (ih _ _ hF K) ⟨rfl, rfl, trivial⟩
      · refine at_cond_false rfl h4 ?_
        refine at_exit ?_
        refine at_then_exit (at_then_exit ?_)
        refine at_drop (H := _) .z ?_
        obtain rfl := of_some hF
        exact at_weak_k K trivial
  · cases q2 with
    | ret r' => exact of_some hF
    | nx sq2 =>
      skip
      refine at_blk_same ?_
      refine at_then_normal ?_
      refine at_seq ?_
      refine at_region ?_
      refine at_val rfl rfl rfl (r_assign rfl) ?_
      refine at_nil ?_
      refine at_weak [(2, _)] ⟨rfl, trivial⟩ ?_
      refine at_then_normal ?_
      refine at_ret ?_
      have K := of_some hF
      subst K
      exact at_return1 rfl rfl (fun w1 hw => ⟨rfl, hw.below⟩)

def crawlwayref07_Clamp (x0 : (Vector Int 32)) : Option ((Vector Int 32)) :=
  some (vset (vset x0 0 (wr .u8 ((vget x0 0) - (Int.tmod (vget x0 0) 8)))) 31 (wr .u8 ((Int.tmod (vget (vset x0 0 (wr .u8 ((vget x0 0) - (Int.tmod (vget x0 0) 8)))) 31) 64) + 64)))
theorem crawlwayref07_Clamp_ok (x0 : (Vector Int 32)) (r : (Vector Int 32)) (hF : crawlwayref07_Clamp x0 = some r) (w : World) :
    Calls Try.prog 29 #[.agg (Cd.cs (cVec (cInt .u8) 32 (by decide)) x0).toArray] w (fun e w' => e = .returned (.agg (Cd.cs (cVec (cInt .u8) 32 (by decide)) r).toArray) ∧ Below w.heap.size w w') := by
  unfold crawlwayref07_Clamp at hF
  refine calls_enter (l := [.agg (Cd.cs (cVec (cInt .u8) 32 (by decide)) x0).toArray]) Try.func29 rfl rfl rfl ?_
  refine at_start ?_
  refine at_weak [(0, _)] ⟨rfl, trivial⟩ ?_
  refine at_seq ?_
  refine at_region ?_
  refine at_box (cs := Cd.cs (cVec (cInt .u8) 32 (by decide)) x0) rfl rfl rfl ?_
  intro b1
  refine at_alloc (cs := Cd.cs (cVec (cInt .u8) 32 (by decide)) (Vector.replicate 32 (0 : Int) : (Vector Int 32))) Try.zeroValue41 rfl rfl ?_
  intro b2
  refine at_nil ?_
  refine at_weak [(1, _), (2, _)] ⟨rfl, rfl, trivial⟩ ?_
  refine at_then_normal ?_
  refine at_seq ?_
  refine at_region ?_
  refine at_val rfl rfl rfl (r_idxArr Try.underlying41 Try.sizeOf5 rfl rfl (by decide)) ?_
  refine at_val rfl rfl rfl (r_load_cell Try.isAgg5 rfl (lens_cell0 (c := (cInt .u8)) (y := vget x0 0) (.s .z) (Lens.comp (Lens.whole _ _) (fun z => vset x0 0 z) (Lens.vec (cInt .u8) (by decide) x0 0 (by decide))) rfl)) ?_
  refine at_val rfl rfl rfl (r_idxArr Try.underlying41 Try.sizeOf5 rfl rfl (by decide)) ?_
  refine at_val rfl rfl rfl (r_load_cell Try.isAgg5 rfl (lens_cell0 (c := (cInt .u8)) (y := vget x0 0) (.s .z) (Lens.comp (Lens.whole _ _) (fun z => vset x0 0 z) (Lens.vec (cInt .u8) (by decide) x0 0 (by decide))) rfl)) ?_
  refine at_val rfl rfl rfl (r_irem rfl rfl (by decide)) ?_
  refine at_val rfl rfl rfl (r_isub rfl rfl) ?_
  refine at_val rfl rfl rfl (r_idxArr Try.underlying41 Try.sizeOf5 rfl rfl (by decide)) ?_
  refine at_store (c := (cInt .u8)) (z := wr .u8 ((vget x0 0) - (Int.tmod (vget x0 0) 8))) (.s .z) (Lens.comp (Lens.whole _ _) (fun z => vset x0 0 z) (Lens.vec (cInt .u8) (by decide) x0 0 (by decide))) Try.sizeOf5 rfl rfl rfl ?_
  refine at_nil ?_
  refine at_weak [(1, _), (2, _)] ⟨rfl, rfl, trivial⟩ ?_
  refine at_then_normal ?_
  refine at_seq ?_
  refine at_region ?_
  refine at_val rfl rfl rfl (r_idxArr Try.underlying41 Try.sizeOf5 rfl rfl (by decide)) ?_
  refine at_val rfl rfl rfl (r_load_cell Try.isAgg5 rfl (lens_cell0 (c := (cInt .u8)) (y := vget (vset x0 0 (wr .u8 ((vget x0 0) - (Int.tmod (vget x0 0) 8)))) 31) (.s .z) (Lens.comp (Lens.whole _ _) (fun z => vset (vset x0 0 (wr .u8 ((vget x0 0) - (Int.tmod (vget x0 0) 8)))) 31 z) (Lens.vec (cInt .u8) (by decide) (vset x0 0 (wr .u8 ((vget x0 0) - (Int.tmod (vget x0 0) 8)))) 31 (by decide))) rfl)) ?_
  refine at_val rfl rfl rfl (r_irem rfl rfl (by decide)) ?_
  refine at_val rfl rfl rfl (r_iadd rfl rfl) ?_
  refine at_val rfl rfl rfl (r_idxArr Try.underlying41 Try.sizeOf5 rfl rfl (by decide)) ?_
  refine at_store (c := (cInt .u8)) (z := wr .u8 ((Int.tmod (vget (vset x0 0 (wr .u8 ((vget x0 0) - (Int.tmod (vget x0 0) 8)))) 31) 64) + 64)) (.s .z) (Lens.comp (Lens.whole _ _) (fun z => vset (vset x0 0 (wr .u8 ((vget x0 0) - (Int.tmod (vget x0 0) 8)))) 31 z) (Lens.vec (cInt .u8) (by decide) (vset x0 0 (wr .u8 ((vget x0 0) - (Int.tmod (vget x0 0) 8)))) 31 (by decide))) Try.sizeOf5 rfl rfl rfl ?_
  refine at_nil ?_
  refine at_weak [(1, _), (2, _)] ⟨rfl, rfl, trivial⟩ ?_
  refine at_then_normal ?_
  refine at_seq ?_
  refine at_region ?_
  refine at_val rfl rfl rfl (r_load_aggc (c := (cVec (cInt .u8) 32 (by decide))) (z := vset (vset x0 0 (wr .u8 ((vget x0 0) - (Int.tmod (vget x0 0) 8)))) 31 (wr .u8 ((Int.tmod (vget (vset x0 0 (wr .u8 ((vget x0 0) - (Int.tmod (vget x0 0) 8)))) 31) 64) + 64))) Try.isAgg41 Try.sizeOf41 rfl (lens_cell (.s .z) (Lens.whole _ _))) ?_
  refine at_store (c := (cVec (cInt .u8) 32 (by decide))) (z := vset (vset x0 0 (wr .u8 ((vget x0 0) - (Int.tmod (vget x0 0) 8)))) 31 (wr .u8 ((Int.tmod (vget (vset x0 0 (wr .u8 ((vget x0 0) - (Int.tmod (vget x0 0) 8)))) 31) 64) + 64))) .z (Lens.whole _ _) Try.sizeOf41 rfl rfl rfl ?_
  refine at_nil ?_
  refine at_drop (H := _) (.s .z) ?_
  refine at_weak [(2, _)] ⟨rfl, trivial⟩ ?_
  refine at_then_normal ?_
  refine at_ret ?_
  have K := of_some hF
  subst K
  exact at_res1 rfl (res_cell (c := (cVec (cInt .u8) 32 (by decide))) (y := vset (vset x0 0 (wr .u8 ((vget x0 0) - (Int.tmod (vget x0 0) 8)))) 31 (wr .u8 ((Int.tmod (vget (vset x0 0 (wr .u8 ((vget x0 0) - (Int.tmod (vget x0 0) 8)))) 31) 64) + 64))) rfl .z (Lens.whole _ _) Try.isAgg41 Try.sizeOf41 (.inl rfl)) (fun w1 hw => ⟨rfl, hw.below⟩)

def keys_Text (x0 : (Vector Int 32)) : Option (ByteArray) :=
  sixtyfour_Encode (Vector.toList x0) >>= fun t2 => some t2
theorem keys_Text_ok (x0 : (Vector Int 32)) (r : ByteArray) (hF : keys_Text x0 = some r) (w : World) :
    Calls Try.prog 45 #[.agg (Cd.cs (cVec (cInt .u8) 32 (by decide)) x0).toArray] w (fun e w' => e = .returned (.string r) ∧ Below w.heap.size w w') := by
  unfold keys_Text at hF
  refine calls_enter (l := [.agg (Cd.cs (cVec (cInt .u8) 32 (by decide)) x0).toArray]) Try.func45 rfl rfl rfl ?_
  refine at_start ?_
  refine at_weak [(0, _)] ⟨rfl, trivial⟩ ?_
  refine at_seq ?_
  refine at_region ?_
  refine at_box (cs := Cd.cs (cVec (cInt .u8) 32 (by decide)) x0) rfl rfl rfl ?_
  intro b1
  refine at_val rfl rfl rfl (r_assign rfl) ?_
  refine at_nil ?_
  refine at_weak [(1, _)] ⟨rfl, trivial⟩ ?_
  refine at_then_normal ?_
  refine at_seq ?_
  refine at_region ?_
  refine at_val rfl rfl rfl (r_slice_vec x0 Try.underlying41 Try.sizeOf5 rfl) ?_
  obtain ⟨t2, ht2, hF⟩ := of_bindM hF
  refine at_callB Try.func20 rfl (by kernel_rfl) rfl rfl (fun w hw => sixtyfour_Encode_ok _ _ _ _ ht2 w (vec_row (hw.ok (Upd.mem .z)))) ?_
  refine at_val rfl rfl rfl (r_assign rfl) ?_
  refine at_nil ?_
  refine at_drop (H := _) .z ?_
  refine at_weak [(2, _)] ⟨rfl, trivial⟩ ?_
  refine at_then_normal ?_
  refine at_ret ?_
  have K := of_some hF
  subst K
  exact at_return1 rfl rfl (fun w1 hw => ⟨rfl, hw.below⟩)

def keys_Hex (x0 : (Vector Int 32)) : Option (ByteArray) :=
  hexes_Encode (Vector.toList x0) >>= fun t2 => some t2
theorem keys_Hex_ok (x0 : (Vector Int 32)) (r : ByteArray) (hF : keys_Hex x0 = some r) (w : World) :
    Calls Try.prog 46 #[.agg (Cd.cs (cVec (cInt .u8) 32 (by decide)) x0).toArray] w (fun e w' => e = .returned (.string r) ∧ Below w.heap.size w w') := by
  unfold keys_Hex at hF
  refine calls_enter (l := [.agg (Cd.cs (cVec (cInt .u8) 32 (by decide)) x0).toArray]) Try.func46 rfl rfl rfl ?_
  refine at_start ?_
  refine at_weak [(0, _)] ⟨rfl, trivial⟩ ?_
  refine at_seq ?_
  refine at_region ?_
  refine at_box (cs := Cd.cs (cVec (cInt .u8) 32 (by decide)) x0) rfl rfl rfl ?_
  intro b1
  refine at_val rfl rfl rfl (r_assign rfl) ?_
  refine at_nil ?_
  refine at_weak [(1, _)] ⟨rfl, trivial⟩ ?_
  refine at_then_normal ?_
  refine at_seq ?_
  refine at_region ?_
  refine at_val rfl rfl rfl (r_slice_vec x0 Try.underlying41 Try.sizeOf5 rfl) ?_
  obtain ⟨t2, ht2, hF⟩ := of_bindM hF
  refine at_callB Try.func14 rfl (by kernel_rfl) rfl rfl (fun w hw => hexes_Encode_ok _ _ _ _ ht2 w (vec_row (hw.ok (Upd.mem .z)))) ?_
  refine at_val rfl rfl rfl (r_assign rfl) ?_
  refine at_nil ?_
  refine at_drop (H := _) .z ?_
  refine at_weak [(2, _)] ⟨rfl, trivial⟩ ?_
  refine at_then_normal ?_
  refine at_ret ?_
  have K := of_some hF
  subst K
  exact at_return1 rfl rfl (fun w1 hw => ⟨rfl, hw.below⟩)

def crawlwaylaw07_alive : Option (Bool) :=
  keys_Text (Vector.replicate 32 (0 : Int) : (Vector Int 32)) >>= fun t1 => if ((t1.size : Int) == 44) = true then (if (0 : Int) ≤ 43 ∧ 43 < (t1.size : Int) then if (bt t1 43 == 61) = true then (if (0 : Int) ≤ 42 ∧ 42 < (t1.size : Int) then if (bt t1 42 == 65) = true then (keys_Hex (vset (Vector.replicate 32 (0 : Int) : (Vector Int 32)) 0 1) >>= fun t7 => if ((t7.size : Int) == 64) = true then (keys_Zero (Vector.replicate 32 (0 : Int) : (Vector Int 32)) >>= fun t9 => some t9) else (some false)) else (some false) else none) else (some false) else none) else (some false)
theorem crawlwaylaw07_alive_ok (r : Bool) (hF : crawlwaylaw07_alive  = some r) (w : World) :
    Calls Try.prog 30 #[] w (fun e w' => e = .returned (.bool r) ∧ Below w.heap.size w w') := by
  unfold crawlwaylaw07_alive at hF
  refine calls_enter (l := []) Try.func30 rfl rfl rfl ?_
  refine at_start ?_
  refine at_weak [] trivial ?_
  refine at_seq ?_
  refine at_region ?_
  refine at_val rfl rfl rfl (r_assign rfl) ?_
  refine at_nil ?_
  refine at_weak [] trivial ?_
  refine at_then_normal ?_
  refine at_seq ?_
  refine at_region ?_
  refine at_val rfl rfl rfl (r_build_array (zs := Cd.cs (cVec (cInt .u8) 32 (by decide)) (Vector.replicate 32 (0 : Int) : (Vector Int 32))) (cs := Cd.cs (cVec (cInt .u8) 32 (by decide)) (Vector.replicate 32 (0 : Int) : (Vector Int 32))) Try.underlying41 Try.zeroValue41 rfl Try.sizeOf5 rfl rfl) ?_
  obtain ⟨t1, ht1, hF⟩ := of_bindM hF
  refine at_callB Try.func45 rfl (by kernel_rfl) rfl rfl (fun w hw => keys_Text_ok _ _ ht1 w) ?_
  refine at_val rfl rfl rfl (r_assign rfl) ?_
  refine at_nil ?_
  refine at_weak [(1, _)] ⟨rfl, trivial⟩ ?_
  refine at_then_normal ?_
  refine at_seq ?_
  refine at_region ?_
  refine at_val rfl rfl rfl (r_move rfl) ?_
  refine at_val rfl rfl rfl (r_len_str Try.underlying9 rfl) ?_
  refine at_val rfl rfl rfl (r_ieql rfl rfl) ?_
  refine at_val rfl rfl rfl (r_move rfl) ?_
  rcases of_ite hF with ⟨h2, hF⟩ | ⟨h2, hF⟩
  · refine at_fix (g := 7) rfl h2 ?_
    refine at_guard_yes rfl rfl rfl ?_
    refine at_val rfl rfl rfl (r_move rfl) ?_
    refine at_guard_yes rfl rfl rfl ?_
    obtain ⟨h3, hF⟩ := of_guard hF
    refine at_val rfl rfl rfl (r_index_str Try.underlying9 rfl rfl h3) ?_
    refine at_guard_yes rfl rfl rfl ?_
    refine at_val rfl rfl rfl (r_ieql rfl rfl) ?_
    refine at_val rfl rfl rfl (r_pick rfl rfl rfl) ?_
    refine at_val rfl rfl rfl (r_move rfl) ?_
    rcases of_ite hF with ⟨h4, hF⟩ | ⟨h4, hF⟩
    · refine at_fix (g := 12) rfl h4 ?_
      refine at_guard_yes rfl rfl rfl ?_
      refine at_val rfl rfl rfl (r_move rfl) ?_
      refine at_guard_yes rfl rfl rfl ?_
      obtain ⟨h5, hF⟩ := of_guard hF
      refine at_val rfl rfl rfl (r_index_str Try.underlying9 rfl rfl h5) ?_
      refine at_guard_yes rfl rfl rfl ?_
      refine at_val rfl rfl rfl (r_ieql rfl rfl) ?_
      refine at_val rfl rfl rfl (r_pick rfl rfl rfl) ?_
      refine at_val rfl rfl rfl (r_move rfl) ?_
      rcases of_ite hF with ⟨h6, hF⟩ | ⟨h6, hF⟩
      · refine at_fix (g := 17) rfl h6 ?_
        refine at_guard_yes rfl rfl rfl ?_
        refine at_val rfl rfl rfl (r_build_array (zs := Cd.cs (cVec (cInt .u8) 32 (by decide)) (Vector.replicate 32 (0 : Int) : (Vector Int 32))) (cs := Cd.cs (cVec (cInt .u8) 32 (by decide)) (vset (Vector.replicate 32 (0 : Int) : (Vector Int 32)) 0 1)) Try.underlying41 Try.zeroValue41 rfl Try.sizeOf5 rfl (fill_step (c := (cInt .u8)) (z := 1) rfl (Lens.vec (cInt .u8) (by decide) (Vector.replicate 32 (0 : Int) : (Vector Int 32)) 0 (by decide)) rfl rfl)) ?_
        refine at_guard_yes rfl rfl rfl ?_
        obtain ⟨t7, ht7, hF⟩ := of_bindM hF
        refine at_callB Try.func46 rfl (by kernel_rfl) rfl rfl (fun w hw => keys_Hex_ok _ _ ht7 w) ?_
        refine at_guard_yes rfl rfl rfl ?_
        refine at_val rfl rfl rfl (r_len_str Try.underlying9 rfl) ?_
        refine at_guard_yes rfl rfl rfl ?_
        refine at_val rfl rfl rfl (r_ieql rfl rfl) ?_
        refine at_val rfl rfl rfl (r_pick rfl rfl rfl) ?_
        refine at_val rfl rfl rfl (r_move rfl) ?_
        rcases of_ite hF with ⟨h8, hF⟩ | ⟨h8, hF⟩
        · refine at_fix (g := 23) rfl h8 ?_
          refine at_guard_yes rfl rfl rfl ?_
          refine at_val rfl rfl rfl (r_build_array (zs := Cd.cs (cVec (cInt .u8) 32 (by decide)) (Vector.replicate 32 (0 : Int) : (Vector Int 32))) (cs := Cd.cs (cVec (cInt .u8) 32 (by decide)) (Vector.replicate 32 (0 : Int) : (Vector Int 32))) Try.underlying41 Try.zeroValue41 rfl Try.sizeOf5 rfl rfl) ?_
          refine at_guard_yes rfl rfl rfl ?_
          obtain ⟨t9, ht9, hF⟩ := of_bindM hF
          refine at_callB Try.func27 rfl (by kernel_rfl) rfl rfl (fun w hw => keys_Zero_ok _ _ ht9 w) ?_
          refine at_val rfl rfl rfl (r_pick rfl rfl rfl) ?_
          refine at_val rfl rfl rfl (r_assign rfl) ?_
          refine at_nil ?_
          refine at_weak [(0, _)] ⟨rfl, trivial⟩ ?_
          refine at_then_normal ?_
          refine at_ret ?_
          have K := of_some hF
          subst K
          exact at_return1 rfl rfl (fun w1 hw => ⟨rfl, hw.below⟩)
        · refine at_fix (g := 23) rfl h8 ?_
          refine at_guard_no rfl rfl rfl rfl rfl ?_
          refine at_guard_no rfl rfl rfl rfl rfl ?_
          refine at_val rfl rfl rfl (r_pick rfl rfl rfl) ?_
          refine at_val rfl rfl rfl (r_assign rfl) ?_
          refine at_nil ?_
          refine at_weak [(0, _)] ⟨rfl, trivial⟩ ?_
          refine at_then_normal ?_
          refine at_ret ?_
          have K := of_some hF
          subst K
          exact at_return1 rfl rfl (fun w1 hw => ⟨rfl, hw.below⟩)
      · refine at_fix (g := 17) rfl h6 ?_
        refine at_guard_no rfl rfl rfl rfl rfl ?_
        refine at_guard_no rfl rfl rfl rfl rfl ?_
        refine at_guard_no rfl rfl rfl rfl rfl ?_
        refine at_guard_no rfl rfl rfl rfl rfl ?_
        refine at_val rfl rfl rfl (r_pick rfl rfl rfl) ?_
        refine at_val rfl rfl rfl (r_move rfl) ?_
        refine at_guard_no rfl rfl rfl rfl rfl ?_
        refine at_guard_no rfl rfl rfl rfl rfl ?_
        refine at_val rfl rfl rfl (r_pick rfl rfl rfl) ?_
        refine at_val rfl rfl rfl (r_assign rfl) ?_
        refine at_nil ?_
        refine at_weak [(0, _)] ⟨rfl, trivial⟩ ?_
        refine at_then_normal ?_
        refine at_ret ?_
        have K := of_some hF
        subst K
        exact at_return1 rfl rfl (fun w1 hw => ⟨rfl, hw.below⟩)
    · refine at_fix (g := 12) rfl h4 ?_
      refine at_guard_no rfl rfl rfl rfl rfl ?_
      refine at_guard_no rfl rfl rfl rfl rfl ?_
      refine at_guard_no rfl rfl rfl rfl rfl ?_
      refine at_val rfl rfl rfl (r_pick rfl rfl rfl) ?_
      refine at_val rfl rfl rfl (r_move rfl) ?_
      refine at_guard_no rfl rfl rfl rfl rfl ?_
      refine at_guard_no rfl rfl rfl rfl rfl ?_
      refine at_guard_no rfl rfl rfl rfl rfl ?_
      refine at_guard_no rfl rfl rfl rfl rfl ?_
      refine at_val rfl rfl rfl (r_pick rfl rfl rfl) ?_
      refine at_val rfl rfl rfl (r_move rfl) ?_
      refine at_guard_no rfl rfl rfl rfl rfl ?_
      refine at_guard_no rfl rfl rfl rfl rfl ?_
      refine at_val rfl rfl rfl (r_pick rfl rfl rfl) ?_
      refine at_val rfl rfl rfl (r_assign rfl) ?_
      refine at_nil ?_
      refine at_weak [(0, _)] ⟨rfl, trivial⟩ ?_
      refine at_then_normal ?_
      refine at_ret ?_
      have K := of_some hF
      subst K
      exact at_return1 rfl rfl (fun w1 hw => ⟨rfl, hw.below⟩)
  · refine at_fix (g := 7) rfl h2 ?_
    refine at_guard_no rfl rfl rfl rfl rfl ?_
    refine at_guard_no rfl rfl rfl rfl rfl ?_
    refine at_guard_no rfl rfl rfl rfl rfl ?_
    refine at_val rfl rfl rfl (r_pick rfl rfl rfl) ?_
    refine at_val rfl rfl rfl (r_move rfl) ?_
    refine at_guard_no rfl rfl rfl rfl rfl ?_
    refine at_guard_no rfl rfl rfl rfl rfl ?_
    refine at_guard_no rfl rfl rfl rfl rfl ?_
    refine at_val rfl rfl rfl (r_pick rfl rfl rfl) ?_
    refine at_val rfl rfl rfl (r_move rfl) ?_
    refine at_guard_no rfl rfl rfl rfl rfl ?_
    refine at_guard_no rfl rfl rfl rfl rfl ?_
    refine at_guard_no rfl rfl rfl rfl rfl ?_
    refine at_guard_no rfl rfl rfl rfl rfl ?_
    refine at_val rfl rfl rfl (r_pick rfl rfl rfl) ?_
    refine at_val rfl rfl rfl (r_move rfl) ?_
    refine at_guard_no rfl rfl rfl rfl rfl ?_
    refine at_guard_no rfl rfl rfl rfl rfl ?_
    refine at_val rfl rfl rfl (r_pick rfl rfl rfl) ?_
    refine at_val rfl rfl rfl (r_assign rfl) ?_
    refine at_nil ?_
    refine at_weak [(0, _)] ⟨rfl, trivial⟩ ?_
    refine at_then_normal ?_
    refine at_ret ?_
    have K := of_some hF
    subst K
    exact at_return1 rfl rfl (fun w1 hw => ⟨rfl, hw.below⟩)

def crawlwaylaw07_KeysOrder (x0 : (Vector Int 32)) (x1 : (Vector Int 32)) : Option (Bool) :=
  keys_Clamp x0 >>= fun t3 => keys_Less x0 x1 >>= fun t5 => crawlwayref07_Less x0 x1 >>= fun t6 => if (t5 == t6) = true then (keys_Zero x0 >>= fun t8 => crawlwayref07_Zero x0 >>= fun t9 => if (t8 == t9) = true then (crawlwayref07_Clamp x0 >>= fun t11 => if (decide (t3 = t11)) = true then (keys_Clamp t3 >>= fun t13 => if (decide (t13 = t3)) = true then (keys_Less x0 x1 >>= fun t15 => if (!t15) = true then (keys_Less x1 x0 >>= fun t17 => if (decide (x0 = x1) == !t17) = true then (crawlwaylaw07_alive >>= fun t19 => some t19) else (some false)) else (if (decide (x0 = x1) == false) = true then (crawlwaylaw07_alive >>= fun t21 => some t21) else (some false))) else (some false)) else (some false)) else (some false)) else (some false)
theorem crawlwaylaw07_KeysOrder_ok (x0 : (Vector Int 32)) (x1 : (Vector Int 32)) (r : Bool) (hF : crawlwaylaw07_KeysOrder x0 x1 = some r) (w : World) :
    Calls Try.prog 8 #[.agg (Cd.cs (cVec (cInt .u8) 32 (by decide)) x0).toArray, .agg (Cd.cs (cVec (cInt .u8) 32 (by decide)) x1).toArray] w (fun e w' => e = .returned (.bool r) ∧ Below w.heap.size w w') := by
  unfold crawlwaylaw07_KeysOrder at hF
  refine calls_enter (l := [.agg (Cd.cs (cVec (cInt .u8) 32 (by decide)) x0).toArray, .agg (Cd.cs (cVec (cInt .u8) 32 (by decide)) x1).toArray]) Try.func8 rfl rfl rfl ?_
  refine at_start ?_
  refine at_weak [(0, _), (1, _)] ⟨rfl, rfl, trivial⟩ ?_
  refine at_seq ?_
  refine at_region ?_
  refine at_box (cs := Cd.cs (cVec (cInt .u8) 32 (by decide)) x0) rfl rfl rfl ?_
  intro b1
  refine at_box (cs := Cd.cs (cVec (cInt .u8) 32 (by decide)) x1) rfl rfl rfl ?_
  intro b2
  refine at_val rfl rfl rfl (r_assign rfl) ?_
  refine at_nil ?_
  refine at_weak [(2, _), (3, _)] ⟨rfl, rfl, trivial⟩ ?_
  refine at_then_normal ?_
  refine at_seq ?_
  refine at_region ?_
  refine at_val rfl rfl rfl (r_load_aggc (c := (cVec (cInt .u8) 32 (by decide))) (z := x0) Try.isAgg41 Try.sizeOf41 rfl (lens_cell (.s .z) (Lens.whole _ _))) ?_
  obtain ⟨t3, ht3, hF⟩ := of_bindM hF
  refine at_callB Try.func24 rfl (by kernel_rfl) rfl rfl (fun w hw => keys_Clamp_ok _ _ ht3 w) ?_
  refine at_alloc (cs := Cd.cs (cVec (cInt .u8) 32 (by decide)) (Vector.replicate 32 (0 : Int) : (Vector Int 32))) Try.zeroValue41 rfl rfl ?_
  intro b4
  refine at_store (c := (cVec (cInt .u8) 32 (by decide))) (z := t3) .z (Lens.whole _ _) Try.sizeOf41 rfl rfl rfl ?_
  refine at_nil ?_
  refine at_weak [(2, _), (3, _), (5, _)] ⟨rfl, rfl, rfl, trivial⟩ ?_
  refine at_then_normal ?_
  refine at_seq ?_
  refine at_draw (by kernel_rfl) (by kernel_rfl) (fun _ h => h.drew) ?_
  refine atq_val rfl rfl rfl (r_load_aggc (c := (cVec (cInt .u8) 32 (by decide))) (z := x0) Try.isAgg41 Try.sizeOf41 rfl (lens_cell (.s (.s .z)) (Lens.whole _ _))) ?_
  refine atq_val rfl rfl rfl (r_load_aggc (c := (cVec (cInt .u8) 32 (by decide))) (z := x1) Try.isAgg41 Try.sizeOf41 rfl (lens_cell (.s .z) (Lens.whole _ _))) ?_
  obtain ⟨t5, ht5, hF⟩ := of_bindM hF
  refine atq_call Try.func25 rfl (by kernel_rfl) rfl rfl (fun w hw => (keys_Less_ok _ _ _ ht5 w).mono fun _ _ h => ⟨h.1, hw.call h.2⟩) ?_
  refine atq_val rfl rfl rfl (r_load_aggc (c := (cVec (cInt .u8) 32 (by decide))) (z := x0) Try.isAgg41 Try.sizeOf41 rfl (lens_cell (.s (.s .z)) (Lens.whole _ _))) ?_
  refine atq_val rfl rfl rfl (r_load_aggc (c := (cVec (cInt .u8) 32 (by decide))) (z := x1) Try.isAgg41 Try.sizeOf41 rfl (lens_cell (.s .z) (Lens.whole _ _))) ?_
  obtain ⟨t6, ht6, hF⟩ := of_bindM hF
  refine atq_call Try.func26 rfl (by kernel_rfl) rfl rfl (fun w hw => (crawlwayref07_Less_ok _ _ _ ht6 w).mono fun _ _ h => ⟨h.1, hw.call h.2⟩) ?_
  refine atq_val rfl rfl rfl (r_bool Try.underlying4 rfl rfl (.inl rfl) rfl) ?_
  refine atq_val rfl rfl rfl (r_move rfl) ?_
  rcases of_ite hF with ⟨h7, hF⟩ | ⟨h7, hF⟩
  · refine atq_fix (g := 15) rfl h7 ?_
    refine atq_guard_yes rfl rfl rfl ?_
    refine atq_val rfl rfl rfl (r_load_aggc (c := (cVec (cInt .u8) 32 (by decide))) (z := x0) Try.isAgg41 Try.sizeOf41 rfl (lens_cell (.s (.s .z)) (Lens.whole _ _))) ?_
    refine atq_guard_yes rfl rfl rfl ?_
    obtain ⟨t8, ht8, hF⟩ := of_bindM hF
    refine atq_call Try.func27 rfl (by kernel_rfl) rfl rfl (fun w hw => (keys_Zero_ok _ _ ht8 w).mono fun _ _ h => ⟨h.1, hw.call h.2⟩) ?_
    refine atq_guard_yes rfl rfl rfl ?_
    refine atq_val rfl rfl rfl (r_load_aggc (c := (cVec (cInt .u8) 32 (by decide))) (z := x0) Try.isAgg41 Try.sizeOf41 rfl (lens_cell (.s (.s .z)) (Lens.whole _ _))) ?_
    refine atq_guard_yes rfl rfl rfl ?_
    obtain ⟨t9, ht9, hF⟩ := of_bindM hF
    refine atq_call Try.func28 rfl (by kernel_rfl) rfl rfl (fun w hw => (crawlwayref07_Zero_ok _ _ ht9 w).mono fun _ _ h => ⟨h.1, hw.call h.2⟩) ?_
    refine atq_guard_yes rfl rfl rfl ?_
    refine atq_val rfl rfl rfl (r_bool Try.underlying4 rfl rfl (.inl rfl) rfl) ?_
    refine atq_val rfl rfl rfl (r_pick rfl rfl rfl) ?_
    refine atq_val rfl rfl rfl (r_move rfl) ?_
    rcases of_ite hF with ⟨h10, hF⟩ | ⟨h10, hF⟩
    · refine atq_fix (g := 22) rfl h10 ?_
      refine atq_guard_yes rfl rfl rfl ?_
      refine atq_val rfl rfl rfl (r_load_aggc (c := (cVec (cInt .u8) 32 (by decide))) (z := t3) Try.isAgg41 Try.sizeOf41 rfl (lens_cell .z (Lens.whole _ _))) ?_
      refine atq_guard_yes rfl rfl rfl ?_
      refine atq_val rfl rfl rfl (r_load_aggc (c := (cVec (cInt .u8) 32 (by decide))) (z := x0) Try.isAgg41 Try.sizeOf41 rfl (lens_cell (.s (.s .z)) (Lens.whole _ _))) ?_
      refine atq_guard_yes rfl rfl rfl ?_
      obtain ⟨t11, ht11, hF⟩ := of_bindM hF
      refine atq_call Try.func29 rfl (by kernel_rfl) rfl rfl (fun w hw => (crawlwayref07_Clamp_ok _ _ ht11 w).mono fun _ _ h => ⟨h.1, hw.call h.2⟩) ?_
      refine atq_guard_yes rfl rfl rfl ?_
      refine atq_val rfl rfl rfl (r_eqagg (c := (cVec (cInt .u8) 32 (by decide))) (a := t3) (b := t11) (eqs_vec Try.underlying41 infoT5 Try.sizeOf5 Try.isAgg5 (.inr rfl) (eqs_int Try.underlying5)) rfl Try.eqGuardType41 rfl rfl (.inl rfl) rfl) ?_
      refine atq_val rfl rfl rfl (r_pick rfl rfl rfl) ?_
      refine atq_val rfl rfl rfl (r_move rfl) ?_
      rcases of_ite hF with ⟨h12, hF⟩ | ⟨h12, hF⟩
      · refine atq_fix (g := 28) rfl h12 ?_
        refine atq_guard_yes rfl rfl rfl ?_
        refine atq_val rfl rfl rfl (r_load_aggc (c := (cVec (cInt .u8) 32 (by decide))) (z := t3) Try.isAgg41 Try.sizeOf41 rfl (lens_cell .z (Lens.whole _ _))) ?_
        refine atq_guard_yes rfl rfl rfl ?_
        obtain ⟨t13, ht13, hF⟩ := of_bindM hF
        refine atq_call Try.func24 rfl (by kernel_rfl) rfl rfl (fun w hw => (keys_Clamp_ok _ _ ht13 w).mono fun _ _ h => ⟨h.1, hw.call h.2⟩) ?_
        refine atq_guard_yes rfl rfl rfl ?_
        refine atq_val rfl rfl rfl (r_load_aggc (c := (cVec (cInt .u8) 32 (by decide))) (z := t3) Try.isAgg41 Try.sizeOf41 rfl (lens_cell .z (Lens.whole _ _))) ?_
        refine atq_guard_yes rfl rfl rfl ?_
        refine atq_val rfl rfl rfl (r_eqagg (c := (cVec (cInt .u8) 32 (by decide))) (a := t13) (b := t3) (eqs_vec Try.underlying41 infoT5 Try.sizeOf5 Try.isAgg5 (.inr rfl) (eqs_int Try.underlying5)) rfl Try.eqGuardType41 rfl rfl (.inl rfl) rfl) ?_
        refine atq_val rfl rfl rfl (r_pick rfl rfl rfl) ?_
        refine atq_val rfl rfl rfl (r_move rfl) ?_
        rcases of_ite hF with ⟨h14, hF⟩ | ⟨h14, hF⟩
        · refine atq_fix (g := 34) rfl h14 ?_
          refine atq_guard_yes rfl rfl rfl ?_
          refine atq_val rfl rfl rfl (r_load_aggc (c := (cVec (cInt .u8) 32 (by decide))) (z := x0) Try.isAgg41 Try.sizeOf41 rfl (lens_cell (.s (.s .z)) (Lens.whole _ _))) ?_
          refine atq_guard_yes rfl rfl rfl ?_
          refine atq_val rfl rfl rfl (r_load_aggc (c := (cVec (cInt .u8) 32 (by decide))) (z := x1) Try.isAgg41 Try.sizeOf41 rfl (lens_cell (.s .z) (Lens.whole _ _))) ?_
          refine atq_guard_yes rfl rfl rfl ?_
          refine atq_val rfl rfl rfl (r_eqagg (c := (cVec (cInt .u8) 32 (by decide))) (a := x0) (b := x1) (eqs_vec Try.underlying41 infoT5 Try.sizeOf5 Try.isAgg5 (.inr rfl) (eqs_int Try.underlying5)) rfl Try.eqGuardType41 rfl rfl (.inl rfl) rfl) ?_
          refine atq_guard_yes rfl rfl rfl ?_
          refine atq_val rfl rfl rfl (r_load_aggc (c := (cVec (cInt .u8) 32 (by decide))) (z := x0) Try.isAgg41 Try.sizeOf41 rfl (lens_cell (.s (.s .z)) (Lens.whole _ _))) ?_
          refine atq_guard_yes rfl rfl rfl ?_
          refine atq_val rfl rfl rfl (r_load_aggc (c := (cVec (cInt .u8) 32 (by decide))) (z := x1) Try.isAgg41 Try.sizeOf41 rfl (lens_cell (.s .z) (Lens.whole _ _))) ?_
          refine atq_guard_yes rfl rfl rfl ?_
          obtain ⟨t15, ht15, hF⟩ := of_bindM hF
          refine atq_call Try.func25 rfl (by kernel_rfl) rfl rfl (fun w hw => (keys_Less_ok _ _ _ ht15 w).mono fun _ _ h => ⟨h.1, hw.call h.2⟩) ?_
          refine atq_guard_yes rfl rfl rfl ?_
          refine atq_val rfl rfl rfl (r_not rfl) ?_
          refine atq_guard_yes rfl rfl rfl ?_
          refine atq_val rfl rfl rfl (r_move rfl) ?_
          rcases of_ite hF with ⟨h16, hF⟩ | ⟨h16, hF⟩
          · refine atq_fix (g := 42) rfl h16 ?_
            refine atq_guard_yes rfl rfl rfl ?_
            refine atq_val rfl rfl rfl (r_load_aggc (c := (cVec (cInt .u8) 32 (by decide))) (z := x1) Try.isAgg41 Try.sizeOf41 rfl (lens_cell (.s .z) (Lens.whole _ _))) ?_
            refine atq_guard_yes rfl rfl rfl ?_
            refine atq_val rfl rfl rfl (r_load_aggc (c := (cVec (cInt .u8) 32 (by decide))) (z := x0) Try.isAgg41 Try.sizeOf41 rfl (lens_cell (.s (.s .z)) (Lens.whole _ _))) ?_
            refine atq_guard_yes rfl rfl rfl ?_
            obtain ⟨t17, ht17, hF⟩ := of_bindM hF
            refine atq_call Try.func25 rfl (by kernel_rfl) rfl rfl (fun w hw => (keys_Less_ok _ _ _ ht17 w).mono fun _ _ h => ⟨h.1, hw.call h.2⟩) ?_
            refine atq_guard_yes rfl rfl rfl ?_
            refine atq_val rfl rfl rfl (r_not rfl) ?_
            refine atq_guard_yes rfl rfl rfl ?_
            refine atq_val rfl rfl rfl (r_pick rfl rfl rfl) ?_
            refine atq_guard_yes rfl rfl rfl ?_
            refine atq_val rfl rfl rfl (r_bool Try.underlying4 rfl rfl (.inl rfl) rfl) ?_
            refine atq_val rfl rfl rfl (r_pick rfl rfl rfl) ?_
            refine atq_val rfl rfl rfl (r_move rfl) ?_
            rcases of_ite hF with ⟨h18, hF⟩ | ⟨h18, hF⟩
            · refine atq_fix (g := 50) rfl h18 ?_
              refine atq_guard_yes rfl rfl rfl ?_
              obtain ⟨t19, ht19, hF⟩ := of_bindM hF
              refine atq_call Try.func30 rfl (by kernel_rfl) rfl rfl (fun w hw => (crawlwaylaw07_alive_ok  _ ht19 w).mono fun _ _ h => ⟨h.1, hw.call h.2⟩) ?_
              refine atq_val rfl rfl rfl (r_pick rfl rfl rfl) ?_
              refine atq_val rfl rfl rfl (r_assign rfl) ?_
              refine atq_nil ?_
              refine at_drop (H := _) .z ?_
              refine at_drop (H := _) .z ?_
              refine at_drop (H := _) .z ?_
              refine at_weak [(4, _)] ⟨rfl, trivial⟩ ?_
              refine at_then_normal ?_
              refine at_ret ?_
              have K := of_some hF
              subst K
              exact at_return1 rfl rfl (fun w1 hw => ⟨rfl, hw.below⟩)
            · refine atq_fix (g := 50) rfl h18 ?_
              refine atq_guard_no rfl rfl rfl rfl rfl ?_
              refine atq_val rfl rfl rfl (r_pick rfl rfl rfl) ?_
              refine atq_val rfl rfl rfl (r_assign rfl) ?_
              refine atq_nil ?_
              refine at_drop (H := _) .z ?_
              refine at_drop (H := _) .z ?_
              refine at_drop (H := _) .z ?_
              refine at_weak [(4, _)] ⟨rfl, trivial⟩ ?_
              refine at_then_normal ?_
              refine at_ret ?_
              have K := of_some hF
              subst K
              exact at_return1 rfl rfl (fun w1 hw => ⟨rfl, hw.below⟩)
          · refine atq_fix (g := 42) rfl h16 ?_
            refine atq_guard_no rfl rfl rfl rfl rfl ?_
            refine atq_guard_no rfl rfl rfl rfl rfl ?_
            refine atq_guard_no rfl rfl rfl rfl rfl ?_
            refine atq_guard_no rfl rfl rfl rfl rfl ?_
            refine atq_guard_yes rfl rfl rfl ?_
            refine atq_val rfl rfl rfl (r_pick rfl rfl rfl) ?_
            refine atq_guard_yes rfl rfl rfl ?_
            refine atq_val rfl rfl rfl (r_bool Try.underlying4 rfl rfl (.inl rfl) rfl) ?_
            refine atq_val rfl rfl rfl (r_pick rfl rfl rfl) ?_
            refine atq_val rfl rfl rfl (r_move rfl) ?_
            rcases of_ite hF with ⟨h20, hF⟩ | ⟨h20, hF⟩
            · refine atq_fix (g := 50) rfl h20 ?_
              refine atq_guard_yes rfl rfl rfl ?_
              obtain ⟨t21, ht21, hF⟩ := of_bindM hF
              refine atq_call Try.func30 rfl (by kernel_rfl) rfl rfl (fun w hw => (crawlwaylaw07_alive_ok  _ ht21 w).mono fun _ _ h => ⟨h.1, hw.call h.2⟩) ?_
              refine atq_val rfl rfl rfl (r_pick rfl rfl rfl) ?_
              refine atq_val rfl rfl rfl (r_assign rfl) ?_
              refine atq_nil ?_
              refine at_drop (H := _) .z ?_
              refine at_drop (H := _) .z ?_
              refine at_drop (H := _) .z ?_
              refine at_weak [(4, _)] ⟨rfl, trivial⟩ ?_
              refine at_then_normal ?_
              refine at_ret ?_
              have K := of_some hF
              subst K
              exact at_return1 rfl rfl (fun w1 hw => ⟨rfl, hw.below⟩)
            · refine atq_fix (g := 50) rfl h20 ?_
              refine atq_guard_no rfl rfl rfl rfl rfl ?_
              refine atq_val rfl rfl rfl (r_pick rfl rfl rfl) ?_
              refine atq_val rfl rfl rfl (r_assign rfl) ?_
              refine atq_nil ?_
              refine at_drop (H := _) .z ?_
              refine at_drop (H := _) .z ?_
              refine at_drop (H := _) .z ?_
              refine at_weak [(4, _)] ⟨rfl, trivial⟩ ?_
              refine at_then_normal ?_
              refine at_ret ?_
              have K := of_some hF
              subst K
              exact at_return1 rfl rfl (fun w1 hw => ⟨rfl, hw.below⟩)
        · refine atq_fix (g := 34) rfl h14 ?_
          refine atq_guard_no rfl rfl rfl rfl rfl ?_
          refine atq_guard_no rfl rfl rfl rfl rfl ?_
          refine atq_guard_no rfl rfl rfl rfl rfl ?_
          refine atq_guard_no rfl rfl rfl rfl rfl ?_
          refine atq_guard_no rfl rfl rfl rfl rfl ?_
          refine atq_guard_no rfl rfl rfl rfl rfl ?_
          refine atq_guard_no rfl rfl rfl rfl rfl ?_
          refine atq_guard_no rfl rfl rfl rfl rfl ?_
          refine atq_guard_undef rfl rfl rfl rfl ?_
          refine atq_guard_undef rfl rfl rfl rfl ?_
          refine atq_guard_undef rfl rfl rfl rfl ?_
          refine atq_guard_undef rfl rfl rfl rfl ?_
          refine atq_guard_no rfl rfl rfl rfl rfl ?_
          refine atq_guard_no rfl rfl rfl rfl rfl ?_
          refine atq_val rfl rfl rfl (r_pick rfl rfl rfl) ?_
          refine atq_val rfl rfl rfl (r_move rfl) ?_
          refine atq_guard_no rfl rfl rfl rfl rfl ?_
          refine atq_val rfl rfl rfl (r_pick rfl rfl rfl) ?_
          refine atq_val rfl rfl rfl (r_assign rfl) ?_
          refine atq_nil ?_
          refine at_drop (H := _) .z ?_
          refine at_drop (H := _) .z ?_
          refine at_drop (H := _) .z ?_
          refine at_weak [(4, _)] ⟨rfl, trivial⟩ ?_
          refine at_then_normal ?_
          refine at_ret ?_
          have K := of_some hF
          subst K
          exact at_return1 rfl rfl (fun w1 hw => ⟨rfl, hw.below⟩)
      · refine atq_fix (g := 28) rfl h12 ?_
        refine atq_guard_no rfl rfl rfl rfl rfl ?_
        refine atq_guard_no rfl rfl rfl rfl rfl ?_
        refine atq_guard_no rfl rfl rfl rfl rfl ?_
        refine atq_guard_no rfl rfl rfl rfl rfl ?_
        refine atq_val rfl rfl rfl (r_pick rfl rfl rfl) ?_
        refine atq_val rfl rfl rfl (r_move rfl) ?_
        refine atq_guard_no rfl rfl rfl rfl rfl ?_
        refine atq_guard_no rfl rfl rfl rfl rfl ?_
        refine atq_guard_no rfl rfl rfl rfl rfl ?_
        refine atq_guard_no rfl rfl rfl rfl rfl ?_
        refine atq_guard_no rfl rfl rfl rfl rfl ?_
        refine atq_guard_no rfl rfl rfl rfl rfl ?_
        refine atq_guard_no rfl rfl rfl rfl rfl ?_
        refine atq_guard_no rfl rfl rfl rfl rfl ?_
        refine atq_guard_undef rfl rfl rfl rfl ?_
        refine atq_guard_undef rfl rfl rfl rfl ?_
        refine atq_guard_undef rfl rfl rfl rfl ?_
        refine atq_guard_undef rfl rfl rfl rfl ?_
        refine atq_guard_no rfl rfl rfl rfl rfl ?_
        refine atq_guard_no rfl rfl rfl rfl rfl ?_
        refine atq_val rfl rfl rfl (r_pick rfl rfl rfl) ?_
        refine atq_val rfl rfl rfl (r_move rfl) ?_
        refine atq_guard_no rfl rfl rfl rfl rfl ?_
        refine atq_val rfl rfl rfl (r_pick rfl rfl rfl) ?_
        refine atq_val rfl rfl rfl (r_assign rfl) ?_
        refine atq_nil ?_
        refine at_drop (H := _) .z ?_
        refine at_drop (H := _) .z ?_
        refine at_drop (H := _) .z ?_
        refine at_weak [(4, _)] ⟨rfl, trivial⟩ ?_
        refine at_then_normal ?_
        refine at_ret ?_
        have K := of_some hF
        subst K
        exact at_return1 rfl rfl (fun w1 hw => ⟨rfl, hw.below⟩)
    · refine atq_fix (g := 22) rfl h10 ?_
      refine atq_guard_no rfl rfl rfl rfl rfl ?_
      refine atq_guard_no rfl rfl rfl rfl rfl ?_
      refine atq_guard_no rfl rfl rfl rfl rfl ?_
      refine atq_guard_no rfl rfl rfl rfl rfl ?_
      refine atq_val rfl rfl rfl (r_pick rfl rfl rfl) ?_
      refine atq_val rfl rfl rfl (r_move rfl) ?_
      refine atq_guard_no rfl rfl rfl rfl rfl ?_
      refine atq_guard_no rfl rfl rfl rfl rfl ?_
      refine atq_guard_no rfl rfl rfl rfl rfl ?_
      refine atq_guard_no rfl rfl rfl rfl rfl ?_
      refine atq_val rfl rfl rfl (r_pick rfl rfl rfl) ?_
      refine atq_val rfl rfl rfl (r_move rfl) ?_
      refine atq_guard_no rfl rfl rfl rfl rfl ?_
      refine atq_guard_no rfl rfl rfl rfl rfl ?_
      refine atq_guard_no rfl rfl rfl rfl rfl ?_
      refine atq_guard_no rfl rfl rfl rfl rfl ?_
      refine atq_guard_no rfl rfl rfl rfl rfl ?_
      refine atq_guard_no rfl rfl rfl rfl rfl ?_
      refine atq_guard_no rfl rfl rfl rfl rfl ?_
      refine atq_guard_no rfl rfl rfl rfl rfl ?_
      refine atq_guard_undef rfl rfl rfl rfl ?_
      refine atq_guard_undef rfl rfl rfl rfl ?_
      refine atq_guard_undef rfl rfl rfl rfl ?_
      refine atq_guard_undef rfl rfl rfl rfl ?_
      refine atq_guard_no rfl rfl rfl rfl rfl ?_
      refine atq_guard_no rfl rfl rfl rfl rfl ?_
      refine atq_val rfl rfl rfl (r_pick rfl rfl rfl) ?_
      refine atq_val rfl rfl rfl (r_move rfl) ?_
      refine atq_guard_no rfl rfl rfl rfl rfl ?_
      refine atq_val rfl rfl rfl (r_pick rfl rfl rfl) ?_
      refine atq_val rfl rfl rfl (r_assign rfl) ?_
      refine atq_nil ?_
      refine at_drop (H := _) .z ?_
      refine at_drop (H := _) .z ?_
      refine at_drop (H := _) .z ?_
      refine at_weak [(4, _)] ⟨rfl, trivial⟩ ?_
      refine at_then_normal ?_
      refine at_ret ?_
      have K := of_some hF
      subst K
      exact at_return1 rfl rfl (fun w1 hw => ⟨rfl, hw.below⟩)
  · refine atq_fix (g := 15) rfl h7 ?_
    refine atq_guard_no rfl rfl rfl rfl rfl ?_
    refine atq_guard_no rfl rfl rfl rfl rfl ?_
    refine atq_guard_no rfl rfl rfl rfl rfl ?_
    refine atq_guard_no rfl rfl rfl rfl rfl ?_
    refine atq_guard_no rfl rfl rfl rfl rfl ?_
    refine atq_val rfl rfl rfl (r_pick rfl rfl rfl) ?_
    refine atq_val rfl rfl rfl (r_move rfl) ?_
    refine atq_guard_no rfl rfl rfl rfl rfl ?_
    refine atq_guard_no rfl rfl rfl rfl rfl ?_
    refine atq_guard_no rfl rfl rfl rfl rfl ?_
    refine atq_guard_no rfl rfl rfl rfl rfl ?_
    refine atq_val rfl rfl rfl (r_pick rfl rfl rfl) ?_
    refine atq_val rfl rfl rfl (r_move rfl) ?_
    refine atq_guard_no rfl rfl rfl rfl rfl ?_
    refine atq_guard_no rfl rfl rfl rfl rfl ?_
    refine atq_guard_no rfl rfl rfl rfl rfl ?_
    refine atq_guard_no rfl rfl rfl rfl rfl ?_
    refine atq_val rfl rfl rfl (r_pick rfl rfl rfl) ?_
    refine atq_val rfl rfl rfl (r_move rfl) ?_
    refine atq_guard_no rfl rfl rfl rfl rfl ?_
    refine atq_guard_no rfl rfl rfl rfl rfl ?_
    refine atq_guard_no rfl rfl rfl rfl rfl ?_
    refine atq_guard_no rfl rfl rfl rfl rfl ?_
    refine atq_guard_no rfl rfl rfl rfl rfl ?_
    refine atq_guard_no rfl rfl rfl rfl rfl ?_
    refine atq_guard_no rfl rfl rfl rfl rfl ?_
    refine atq_guard_no rfl rfl rfl rfl rfl ?_
    refine atq_guard_undef rfl rfl rfl rfl ?_
    refine atq_guard_undef rfl rfl rfl rfl ?_
    refine atq_guard_undef rfl rfl rfl rfl ?_
    refine atq_guard_undef rfl rfl rfl rfl ?_
    refine atq_guard_no rfl rfl rfl rfl rfl ?_
    refine atq_guard_no rfl rfl rfl rfl rfl ?_
    refine atq_val rfl rfl rfl (r_pick rfl rfl rfl) ?_
    refine atq_val rfl rfl rfl (r_move rfl) ?_
    refine atq_guard_no rfl rfl rfl rfl rfl ?_
    refine atq_val rfl rfl rfl (r_pick rfl rfl rfl) ?_
    refine atq_val rfl rfl rfl (r_assign rfl) ?_
    refine atq_nil ?_
    refine at_drop (H := _) .z ?_
    refine at_drop (H := _) .z ?_
    refine at_drop (H := _) .z ?_
    refine at_weak [(4, _)] ⟨rfl, trivial⟩ ?_
    refine at_then_normal ?_
    refine at_ret ?_
    have K := of_some hF
    subst K
    exact at_return1 rfl rfl (fun w1 hw => ⟨rfl, hw.below⟩)
end Go.Proofs.Ytnojjenpggdadaa
