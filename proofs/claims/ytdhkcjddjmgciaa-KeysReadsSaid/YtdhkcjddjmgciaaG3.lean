/- Functions with the same answers as the Go functions that they are named for, and the proofs of it, by a program of this project (gen.py). -/
import Derived.Test.YtdhkcjddjmgciaaT
import Derived.Test.YtdhkcjddjmgciaaShelf
import Derived.Test.YtdhkcjddjmgciaaProg
import Derived.Test.YtdhkcjddjmgciaaG1
import Derived.Test.YtdhkcjddjmgciaaG2
set_option linter.unusedVariables false
set_option linter.unusedSimpArgs false
namespace Go.Proofs.Ytdhkcjddjmgciaa
open E Go.RowKit

theorem infoG35_is : (Try.prog.info? 5).isSome = true := by kernel_rfl
noncomputable def infoG35_v : TypeInfo := (Try.prog.info? 5).get infoG35_is
theorem infoG35 : Try.prog.info? 5 = some infoG35_v := (Option.some_get _).symm

def keys_Zero (x0 : (Vector Int 32)) : Option (Bool) :=
  some (decide (x0 = (Vector.replicate 32 (0 : Int) : (Vector Int 32))))
theorem keys_Zero_ok (x0 : (Vector Int 32)) (r : Bool) (hF : keys_Zero x0 = some r) (w : World) :
    Calls Try.prog 90 #[.agg (Cd.cs (cVec (cInt .u8) 32 (by decide)) x0).toArray] w (fun e w' => e = .returned (.bool r) ∧ Below w.heap.size w w') := by
  unfold keys_Zero at hF
  refine calls_enter (l := [.agg (Cd.cs (cVec (cInt .u8) 32 (by decide)) x0).toArray]) Try.func90 rfl rfl rfl ?_
  refine at_start ?_
  refine at_weak [(0, _)] ⟨rfl, trivial⟩ ?_
  refine at_seq ?_
  refine at_region ?_
  refine at_box (cs := Cd.cs (cVec (cInt .u8) 32 (by decide)) x0) rfl rfl rfl ?_
  intro b1
  refine at_val rfl rfl rfl (r_assign rfl) ?_
  refine at_nil ?_
  refine at_weak [(1, _)] ⟨rfl, trivial⟩ ?_
  refine at_then_normal ?_
  refine at_seq ?_
  refine at_region ?_
  refine at_val rfl rfl rfl (r_load_aggc (c := (cVec (cInt .u8) 32 (by decide))) (z := x0) Try.isAgg73 Try.sizeOf73 rfl (lens_cell .z (Lens.whole _ _))) ?_
  refine at_val rfl rfl rfl (r_build_array (zs := Cd.cs (cVec (cInt .u8) 32 (by decide)) (Vector.replicate 32 (0 : Int) : (Vector Int 32))) (cs := Cd.cs (cVec (cInt .u8) 32 (by decide)) (Vector.replicate 32 (0 : Int) : (Vector Int 32))) Try.underlying73 Try.zeroValue73 rfl Try.sizeOf5 rfl rfl) ?_
  refine at_val rfl rfl rfl (r_eqagg (c := (cVec (cInt .u8) 32 (by decide))) (a := x0) (b := (Vector.replicate 32 (0 : Int) : (Vector Int 32))) (eqs_vec Try.underlying73 infoT5 Try.sizeOf5 Try.isAgg5 (.inr rfl) (eqs_int Try.underlying5)) rfl Try.eqGuardType73 rfl rfl (.inl rfl) rfl) ?_
  refine at_val rfl rfl rfl (r_assign rfl) ?_
  refine at_nil ?_
  refine at_drop (H := _) .z ?_
  refine at_weak [(2, _)] ⟨rfl, trivial⟩ ?_
  refine at_then_normal ?_
  refine at_ret ?_
  have K := of_some hF
  subst K
  exact at_return1 rfl rfl (fun w1 hw => ⟨rfl, hw.below⟩)

def keys_Text (x0 : (Vector Int 32)) : Option (ByteArray) :=
  sixtyfour_Encode (Vector.toList x0) >>= fun t2 => some t2
theorem keys_Text_ok (x0 : (Vector Int 32)) (r : ByteArray) (hF : keys_Text x0 = some r) (w : World) :
    Calls Try.prog 39 #[.agg (Cd.cs (cVec (cInt .u8) 32 (by decide)) x0).toArray] w (fun e w' => e = .returned (.string r) ∧ Below w.heap.size w w') := by
  unfold keys_Text at hF
  refine calls_enter (l := [.agg (Cd.cs (cVec (cInt .u8) 32 (by decide)) x0).toArray]) Try.func39 rfl rfl rfl ?_
  refine at_start ?_
  refine at_weak [(0, _)] ⟨rfl, trivial⟩ ?_
  refine at_seq ?_
  refine at_region ?_
  refine at_box (cs := Cd.cs (cVec (cInt .u8) 32 (by decide)) x0) rfl rfl rfl ?_
  intro b1
  refine at_val rfl rfl rfl (r_assign rfl) ?_
  refine at_nil ?_
  refine at_weak [(1, _)] ⟨rfl, trivial⟩ ?_
  refine at_then_normal ?_
  refine at_seq ?_
  refine at_region ?_
  refine at_val rfl rfl rfl (r_slice_vec x0 Try.underlying73 Try.sizeOf5 rfl) ?_
  obtain ⟨t2, ht2, hF⟩ := of_bindM hF
  refine at_callB Try.func82 rfl (by kernel_rfl) rfl rfl (fun w hw => sixtyfour_Encode_ok _ _ _ _ ht2 w (vec_row (hw.ok (Upd.mem .z)))) ?_
  refine at_val rfl rfl rfl (r_assign rfl) ?_
  refine at_nil ?_
  refine at_drop (H := _) .z ?_
  refine at_weak [(2, _)] ⟨rfl, trivial⟩ ?_
  refine at_then_normal ?_
  refine at_ret ?_
  have K := of_some hF
  subst K
  exact at_return1 rfl rfl (fun w1 hw => ⟨rfl, hw.below⟩)

def keys_Hex (x0 : (Vector Int 32)) : Option (ByteArray) :=
  hexes_Encode (Vector.toList x0) >>= fun t2 => some t2
theorem keys_Hex_ok (x0 : (Vector Int 32)) (r : ByteArray) (hF : keys_Hex x0 = some r) (w : World) :
    Calls Try.prog 40 #[.agg (Cd.cs (cVec (cInt .u8) 32 (by decide)) x0).toArray] w (fun e w' => e = .returned (.string r) ∧ Below w.heap.size w w') := by
  unfold keys_Hex at hF
  refine calls_enter (l := [.agg (Cd.cs (cVec (cInt .u8) 32 (by decide)) x0).toArray]) Try.func40 rfl rfl rfl ?_
  refine at_start ?_
  refine at_weak [(0, _)] ⟨rfl, trivial⟩ ?_
  refine at_seq ?_
  refine at_region ?_
  refine at_box (cs := Cd.cs (cVec (cInt .u8) 32 (by decide)) x0) rfl rfl rfl ?_
  intro b1
  refine at_val rfl rfl rfl (r_assign rfl) ?_
  refine at_nil ?_
  refine at_weak [(1, _)] ⟨rfl, trivial⟩ ?_
  refine at_then_normal ?_
  refine at_seq ?_
  refine at_region ?_
  refine at_val rfl rfl rfl (r_slice_vec x0 Try.underlying73 Try.sizeOf5 rfl) ?_
  obtain ⟨t2, ht2, hF⟩ := of_bindM hF
  refine at_callB Try.func83 rfl (by kernel_rfl) rfl rfl (fun w hw => hexes_Encode_ok _ _ _ _ ht2 w (vec_row (hw.ok (Upd.mem .z)))) ?_
  refine at_val rfl rfl rfl (r_assign rfl) ?_
  refine at_nil ?_
  refine at_drop (H := _) .z ?_
  refine at_weak [(2, _)] ⟨rfl, trivial⟩ ?_
  refine at_then_normal ?_
  refine at_ret ?_
  have K := of_some hF
  subst K
  exact at_return1 rfl rfl (fun w1 hw => ⟨rfl, hw.below⟩)

def keys_Of (x0 : List Int) : Option ((Vector Int 32) × Int) :=
  if (decide ((x0.length : Int) < 32)) = true then (some ((Vector.replicate 32 (0 : Int) : (Vector Int 32)), 3)) else (if (decide ((x0.length : Int) > 32)) = true then (some ((Vector.replicate 32 (0 : Int) : (Vector Int 32)), 4)) else (if 32 ≤ x0.length then some (lvec 32 x0, 0) else none))
theorem keys_Of_ok (x0 : List Int) (p0_ : Option Addr) (c0_ : Nat) (r : (Vector Int 32) × Int) (hF : keys_Of x0 = some r) (w : World) (hr0 : Row (cInt .u8) w p0_ c0_ x0) :
    Calls Try.prog 85 #[.slice p0_ x0.length c0_] w (fun e w' => e = .returned (.tuple #[.agg (Cd.cs (cVec (cInt .u8) 32 (by decide)) r.1).toArray, .int .i64 r.2]) ∧ Below w.heap.size w w') := by
  unfold keys_Of at hF
  refine calls_enter (l := [.slice p0_ x0.length c0_]) Try.func85 rfl rfl rfl ?_
  refine at_start ?_
  refine at_weak [(0, _)] ⟨rfl, trivial⟩ ?_
  refine at_seq ?_
  refine at_region ?_
  refine at_alloc (cs := Cd.cs (cVec (cInt .u8) 32 (by decide)) (Vector.replicate 32 (0 : Int) : (Vector Int 32))) Try.zeroValue73 rfl rfl ?_
  intro b1
  refine at_val rfl rfl rfl (r_assign rfl) ?_
  refine at_nil ?_
  refine at_weak [(0, _), (2, _)] ⟨rfl, rfl, trivial⟩ ?_
  refine at_then_normal ?_
  refine at_seq ?_
  refine at_block ?_
  refine at_seq ?_
  refine at_region ?_
  refine at_val rfl rfl rfl (r_move rfl) ?_
  refine at_val rfl rfl rfl (r_len_sl Try.underlying79 rfl) ?_
  refine at_val rfl rfl rfl (r_ilss rfl rfl) ?_
  refine at_val rfl rfl rfl (r_assign rfl) ?_
  refine at_nil ?_
  refine at_weak [(0, _), (2, _), (4, _)] ⟨rfl, rfl, rfl, trivial⟩ ?_
  refine at_then_normal ?_
  rcases of_ite hF with ⟨h2, hF⟩ | ⟨h2, hF⟩
  · refine at_cond_true rfl h2 ?_
    refine at_seq ?_
    refine at_region ?_
    refine at_val rfl rfl rfl (r_build_array (zs := Cd.cs (cVec (cInt .u8) 32 (by decide)) (Vector.replicate 32 (0 : Int) : (Vector Int 32))) (cs := Cd.cs (cVec (cInt .u8) 32 (by decide)) (Vector.replicate 32 (0 : Int) : (Vector Int 32))) Try.underlying73 Try.zeroValue73 rfl Try.sizeOf5 rfl rfl) ?_
    refine at_store (c := (cVec (cInt .u8) 32 (by decide))) (z := (Vector.replicate 32 (0 : Int) : (Vector Int 32))) .z (Lens.whole _ _) Try.sizeOf73 rfl rfl rfl ?_
    refine at_val rfl rfl rfl (r_assign rfl) ?_
    refine at_nil ?_
    refine at_weak [(2, _), (3, _)] ⟨rfl, rfl, trivial⟩ ?_
    refine at_then_normal ?_
    refine at_ret ?_
    refine at_blk_ret (at_then_ret ?_)
    have K := of_some hF
    subst K
    exact at_res2 rfl (res_cell (c := (cVec (cInt .u8) 32 (by decide))) (y := (Vector.replicate 32 (0 : Int) : (Vector Int 32))) rfl .z (Lens.whole _ _) Try.isAgg73 Try.sizeOf73 (.inl rfl)) (res_tmp rfl) (fun w1 hw => ⟨rfl, hw.below⟩)
  · refine at_cond_false rfl h2 ?_
    refine at_seq ?_
    refine at_region ?_
    refine at_val rfl rfl rfl (r_move rfl) ?_
    refine at_val rfl rfl rfl (r_len_sl Try.underlying79 rfl) ?_
    refine at_val rfl rfl rfl (r_igtr rfl rfl) ?_
    refine at_val rfl rfl rfl (r_assign rfl) ?_
    refine at_nil ?_
    refine at_weak [(0, _), (2, _), (9, _)] ⟨rfl, rfl, rfl, trivial⟩ ?_
    refine at_then_normal ?_
    rcases of_ite hF with ⟨h3, hF⟩ | ⟨h3, hF⟩
    · refine at_cond_true rfl h3 ?_
      refine at_seq ?_
      refine at_region ?_
      refine at_val rfl rfl rfl (r_build_array (zs := Cd.cs (cVec (cInt .u8) 32 (by decide)) (Vector.replicate 32 (0 : Int) : (Vector Int 32))) (cs := Cd.cs (cVec (cInt .u8) 32 (by decide)) (Vector.replicate 32 (0 : Int) : (Vector Int 32))) Try.underlying73 Try.zeroValue73 rfl Try.sizeOf5 rfl rfl) ?_
      refine at_store (c := (cVec (cInt .u8) 32 (by decide))) (z := (Vector.replicate 32 (0 : Int) : (Vector Int 32))) .z (Lens.whole _ _) Try.sizeOf73 rfl rfl rfl ?_
      refine at_val rfl rfl rfl (r_assign rfl) ?_
      refine at_nil ?_
      refine at_weak [(2, _), (3, _)] ⟨rfl, rfl, trivial⟩ ?_
      refine at_then_normal ?_
      refine at_ret ?_
      refine at_blk_ret (at_then_ret ?_)
      have K := of_some hF
      subst K
      exact at_res2 rfl (res_cell (c := (cVec (cInt .u8) 32 (by decide))) (y := (Vector.replicate 32 (0 : Int) : (Vector Int 32))) rfl .z (Lens.whole _ _) Try.isAgg73 Try.sizeOf73 (.inl rfl)) (res_tmp rfl) (fun w1 hw => ⟨rfl, hw.below⟩)
    · refine at_cond_false rfl h3 ?_
      refine at_skip ?_
      refine at_blk_normal (at_then_normal ?_)
      refine at_seq ?_
      refine at_region ?_
      refine at_val rfl rfl rfl (r_move rfl) ?_
      obtain ⟨h4, hF⟩ := of_guard hF
      refine at_val rfl rfl rfl (r_arrptr Try.underlying73 rfl h4) ?_
      refine at_pure (φ := ∃ b o, p0_ = some ⟨b, o, none⟩) (fun w1 hw => row_ptr (i := 0) (hr0.below hw.below) (by omega)) ?_
      rintro ⟨b5, o6, hp7⟩
      refine at_val rfl rfl rfl (r_load_aggc (c := (cVec (cInt .u8) 32 (by decide))) (z := lvec 32 x0) Try.isAgg73 Try.sizeOf73 (by rw [← hp7]; rfl) (fun w1 hw => row_lvec (hr0.below hw.below) h4 hp7)) ?_
      refine at_store (c := (cVec (cInt .u8) 32 (by decide))) (z := lvec 32 x0) .z (Lens.whole _ _) Try.sizeOf73 rfl rfl rfl ?_
      refine at_val rfl rfl rfl (r_assign rfl) ?_
      refine at_nil ?_
      refine at_weak [(2, _), (3, _)] ⟨rfl, rfl, trivial⟩ ?_
      refine at_then_normal ?_
      refine at_ret ?_
      have K := of_some hF
      subst K
      exact at_res2 rfl (res_cell (c := (cVec (cInt .u8) 32 (by decide))) (y := lvec 32 x0) rfl .z (Lens.whole _ _) Try.isAgg73 Try.sizeOf73 (.inl rfl)) (res_tmp rfl) (fun w1 hw => ⟨rfl, hw.below⟩)

def keys_Parse (x0 : ByteArray) : Option ((Vector Int 32) × Int) :=
  sixtyfour_Decode x0 >>= fun t2 => if (t2.2 != 0) = true then (some ((Vector.replicate 32 (0 : Int) : (Vector Int 32)), t2.2)) else (keys_Of t2.1 >>= fun t6 => some (t6.1, t6.2))
theorem keys_Parse_ok (x0 : ByteArray) (r : (Vector Int 32) × Int) (hF : keys_Parse x0 = some r) (w : World) :
    Calls Try.prog 41 #[.string x0] w (fun e w' => e = .returned (.tuple #[.agg (Cd.cs (cVec (cInt .u8) 32 (by decide)) r.1).toArray, .int .i64 r.2]) ∧ Below w.heap.size w w') := by
  unfold keys_Parse at hF
  refine calls_enter (l := [.string x0]) Try.func41 rfl rfl rfl ?_
  refine at_start ?_
  refine at_weak [(0, _)] ⟨rfl, trivial⟩ ?_
  refine at_seq ?_
  refine at_region ?_
  refine at_alloc (cs := Cd.cs (cVec (cInt .u8) 32 (by decide)) (Vector.replicate 32 (0 : Int) : (Vector Int 32))) Try.zeroValue73 rfl rfl ?_
  intro b1
  refine at_val rfl rfl rfl (r_assign rfl) ?_
  refine at_nil ?_
  refine at_weak [(0, _), (2, _)] ⟨rfl, rfl, trivial⟩ ?_
  refine at_then_normal ?_
  refine at_seq ?_
  refine at_region ?_
  refine at_val rfl rfl rfl (r_move rfl) ?_
  obtain ⟨t2, ht2, hF⟩ := of_bindM hF
  refine at_callO (c := (cInt .u8)) (e := 5) (ys := t2.1) (V := fun p cap => .tuple #[.slice p t2.1.length cap, .int .i64 t2.2]) Try.func84 rfl (by kernel_rfl) rfl rfl (fun w hw => sixtyfour_Decode_ok _ _ ht2 w) ?_
  intro p3 c4
  refine at_val rfl rfl rfl (r_move rfl) ?_
  refine at_val rfl rfl rfl (r_extract rfl rfl) ?_
  refine at_val rfl rfl rfl (r_extract rfl rfl) ?_
  refine at_val rfl rfl rfl (r_assign rfl) ?_
  refine at_val rfl rfl rfl (r_assign rfl) ?_
  refine at_nil ?_
  refine at_weak [(2, _), (4, _), (5, _)] ⟨rfl, rfl, rfl, trivial⟩ ?_
  refine at_then_normal ?_
  refine at_seq ?_
  refine at_seq ?_
  refine at_region ?_
  refine at_val rfl rfl rfl (r_move rfl) ?_
  refine at_val rfl rfl rfl (r_ineq rfl rfl) ?_
  refine at_nil ?_
  refine at_weak [(2, _), (4, _), (5, _), (12, _)] ⟨rfl, rfl, rfl, rfl, trivial⟩ ?_
  refine at_then_normal ?_
  rcases of_ite hF with ⟨h5, hF⟩ | ⟨h5, hF⟩
  · refine at_cond_true rfl h5 ?_
    refine at_seq ?_
    refine at_region ?_
    refine at_val rfl rfl rfl (r_build_array (zs := Cd.cs (cVec (cInt .u8) 32 (by decide)) (Vector.replicate 32 (0 : Int) : (Vector Int 32))) (cs := Cd.cs (cVec (cInt .u8) 32 (by decide)) (Vector.replicate 32 (0 : Int) : (Vector Int 32))) Try.underlying73 Try.zeroValue73 rfl Try.sizeOf5 rfl rfl) ?_
    refine at_val rfl rfl rfl (r_move rfl) ?_
    refine at_store (c := (cVec (cInt .u8) 32 (by decide))) (z := (Vector.replicate 32 (0 : Int) : (Vector Int 32))) (.s .z) (Lens.whole _ _) Try.sizeOf73 rfl rfl rfl ?_
    refine at_val rfl rfl rfl (r_assign rfl) ?_
    refine at_nil ?_
    refine at_drop (H := _) .z ?_
    refine at_weak [(2, _), (3, _)] ⟨rfl, rfl, trivial⟩ ?_
    refine at_then_normal ?_
    refine at_ret ?_
    refine at_then_ret ?_
    have K := of_some hF
    subst K
    exact at_res2 rfl (res_cell (c := (cVec (cInt .u8) 32 (by decide))) (y := (Vector.replicate 32 (0 : Int) : (Vector Int 32))) rfl .z (Lens.whole _ _) Try.isAgg73 Try.sizeOf73 (.inl rfl)) (res_tmp rfl) (fun w1 hw => ⟨rfl, hw.below⟩)
  · refine at_cond_false rfl h5 ?_
    refine at_skip ?_
    refine at_then_normal ?_
    refine at_seq ?_
    refine at_region ?_
    refine at_val rfl rfl rfl (r_move rfl) ?_
    obtain ⟨t6, ht6, hF⟩ := of_bindM hF
    refine at_callB Try.func85 rfl (by kernel_rfl) rfl rfl (fun w hw => keys_Of_ok _ _ _ _ ht6 w (hw.own .z).row) ?_
    refine at_val rfl rfl rfl (r_extract rfl rfl) ?_
    refine at_val rfl rfl rfl (r_extract rfl rfl) ?_
    refine at_store (c := (cVec (cInt .u8) 32 (by decide))) (z := t6.1) (.s .z) (Lens.whole _ _) Try.sizeOf73 rfl rfl rfl ?_
    refine at_val rfl rfl rfl (r_assign rfl) ?_
    refine at_nil ?_
    refine at_drop (H := _) .z ?_
    refine at_weak [(2, _), (3, _)] ⟨rfl, rfl, trivial⟩ ?_
    refine at_then_normal ?_
    refine at_ret ?_
    have K := of_some hF
    subst K
    exact at_res2 rfl (res_cell (c := (cVec (cInt .u8) 32 (by decide))) (y := t6.1) rfl .z (Lens.whole _ _) Try.isAgg73 Try.sizeOf73 (.inl rfl)) (res_tmp rfl) (fun w1 hw => ⟨rfl, hw.below⟩)

def keys_ParseHex (x0 : ByteArray) : Option ((Vector Int 32) × Int) :=
  hexes_Decode x0 >>= fun t2 => if (t2.2 != 0) = true then (some ((Vector.replicate 32 (0 : Int) : (Vector Int 32)), t2.2)) else (keys_Of t2.1 >>= fun t6 => some (t6.1, t6.2))
theorem keys_ParseHex_ok (x0 : ByteArray) (r : (Vector Int 32) × Int) (hF : keys_ParseHex x0 = some r) (w : World) :
    Calls Try.prog 42 #[.string x0] w (fun e w' => e = .returned (.tuple #[.agg (Cd.cs (cVec (cInt .u8) 32 (by decide)) r.1).toArray, .int .i64 r.2]) ∧ Below w.heap.size w w') := by
  unfold keys_ParseHex at hF
  refine calls_enter (l := [.string x0]) Try.func42 rfl rfl rfl ?_
  refine at_start ?_
  refine at_weak [(0, _)] ⟨rfl, trivial⟩ ?_
  refine at_seq ?_
  refine at_region ?_
  refine at_alloc (cs := Cd.cs (cVec (cInt .u8) 32 (by decide)) (Vector.replicate 32 (0 : Int) : (Vector Int 32))) Try.zeroValue73 rfl rfl ?_
  intro b1
  refine at_val rfl rfl rfl (r_assign rfl) ?_
  refine at_nil ?_
  refine at_weak [(0, _), (2, _)] ⟨rfl, rfl, trivial⟩ ?_
  refine at_then_normal ?_
  refine at_seq ?_
  refine at_region ?_
  refine at_val rfl rfl rfl (r_move rfl) ?_
  obtain ⟨t2, ht2, hF⟩ := of_bindM hF
  refine at_callO (c := (cInt .u8)) (e := 5) (ys := t2.1) (V := fun p cap => .tuple #[.slice p t2.1.length cap, .int .i64 t2.2]) Try.func86 rfl (by kernel_rfl) rfl rfl (fun w hw => hexes_Decode_ok _ _ ht2 w) ?_
  intro p3 c4
  refine at_val rfl rfl rfl (r_move rfl) ?_
  refine at_val rfl rfl rfl (r_extract rfl rfl) ?_
  refine at_val rfl rfl rfl (r_extract rfl rfl) ?_
  refine at_val rfl rfl rfl (r_assign rfl) ?_
  refine at_val rfl rfl rfl (r_assign rfl) ?_
  refine at_nil ?_
  refine at_weak [(2, _), (4, _), (5, _)] ⟨rfl, rfl, rfl, trivial⟩ ?_
  refine at_then_normal ?_
  refine at_seq ?_
  refine at_seq ?_
  refine at_region ?_
  refine at_val rfl rfl rfl (r_move rfl) ?_
  refine at_val rfl rfl rfl (r_ineq rfl rfl) ?_
  refine at_nil ?_
  refine at_weak [(2, _), (4, _), (5, _), (12, _)] ⟨rfl, rfl, rfl, rfl, trivial⟩ ?_
  refine at_then_normal ?_
  rcases of_ite hF with ⟨h5, hF⟩ | ⟨h5, hF⟩
  · refine at_cond_true rfl h5 ?_
    refine at_seq ?_
    refine at_region ?_
    refine at_val rfl rfl rfl (r_build_array (zs := Cd.cs (cVec (cInt .u8) 32 (by decide)) (Vector.replicate 32 (0 : Int) : (Vector Int 32))) (cs := Cd.cs (cVec (cInt .u8) 32 (by decide)) (Vector.replicate 32 (0 : Int) : (Vector Int 32))) Try.underlying73 Try.zeroValue73 rfl Try.sizeOf5 rfl rfl) ?_
    refine at_val rfl rfl rfl (r_move rfl) ?_
    refine at_store (c := (cVec (cInt .u8) 32 (by decide))) (z := (Vector.replicate 32 (0 : Int) : (Vector Int 32))) (.s .z) (Lens.whole _ _) Try.sizeOf73 rfl rfl rfl ?_
    refine at_val rfl rfl rfl (r_assign rfl) ?_
    refine at_nil ?_
    refine at_drop (H := _) .z ?_
    refine at_weak [(2, _), (3, _)] ⟨rfl, rfl, trivial⟩ ?_
    refine at_then_normal ?_
    refine at_ret ?_
    refine at_then_ret ?_
    have K := of_some hF
    subst K
    exact at_res2 rfl (res_cell (c := (cVec (cInt .u8) 32 (by decide))) (y := (Vector.replicate 32 (0 : Int) : (Vector Int 32))) rfl .z (Lens.whole _ _) Try.isAgg73 Try.sizeOf73 (.inl rfl)) (res_tmp rfl) (fun w1 hw => ⟨rfl, hw.below⟩)
  · refine at_cond_false rfl h5 ?_
    refine at_skip ?_
    refine at_then_normal ?_
    refine at_seq ?_
    refine at_region ?_
    refine at_val rfl rfl rfl (r_move rfl) ?_
    obtain ⟨t6, ht6, hF⟩ := of_bindM hF
    refine at_callB Try.func85 rfl (by kernel_rfl) rfl rfl (fun w hw => keys_Of_ok _ _ _ _ ht6 w (hw.own .z).row) ?_
    refine at_val rfl rfl rfl (r_extract rfl rfl) ?_
    refine at_val rfl rfl rfl (r_extract rfl rfl) ?_
    refine at_store (c := (cVec (cInt .u8) 32 (by decide))) (z := t6.1) (.s .z) (Lens.whole _ _) Try.sizeOf73 rfl rfl rfl ?_
    refine at_val rfl rfl rfl (r_assign rfl) ?_
    refine at_nil ?_
    refine at_drop (H := _) .z ?_
    refine at_weak [(2, _), (3, _)] ⟨rfl, rfl, trivial⟩ ?_
    refine at_then_normal ?_
    refine at_ret ?_
    have K := of_some hF
    subst K
    exact at_res2 rfl (res_cell (c := (cVec (cInt .u8) 32 (by decide))) (y := t6.1) rfl .z (Lens.whole _ _) Try.isAgg73 Try.sizeOf73 (.inl rfl)) (res_tmp rfl) (fun w1 hw => ⟨rfl, hw.below⟩)

def crawlwayref07_Bytes.l0 (x0 : (Vector Int 32)) (i5 : List Int) (i6 : Int) : Option (List Int) :=
  if (decide (i6 < 32)) = true then (if (0 : Int) ≤ i6 ∧ i6 < 32 then if (i5.length + 1) * 1 ≤ 140737488355328 then crawlwayref07_Bytes.l0 x0 (i5 ++ [vget x0 i6]) (wr .i64 (i6 + 1)) else none else none) else (some i5)
  partial_fixpoint
def crawlwayref07_Bytes (x0 : (Vector Int 32)) : Option (List Int) :=
  crawlwayref07_Bytes.l0 x0 ([] : List Int) 0 >>= fun q4 => some q4
theorem crawlwayref07_Bytes_ok (x0 : (Vector Int 32)) (r : List Int) (hF : crawlwayref07_Bytes x0 = some r) (w : World) :
    Calls Try.prog 44 #[.agg (Cd.cs (cVec (cInt .u8) 32 (by decide)) x0).toArray] w (fun e w' => ∃ p cap, e = .returned (.slice p r.length cap) ∧ Own (cInt .u8) 5 w.heap.size w' p cap r ∧ Below w.heap.size w w') := by
  unfold crawlwayref07_Bytes at hF
  refine calls_enter (l := [.agg (Cd.cs (cVec (cInt .u8) 32 (by decide)) x0).toArray]) Try.func44 rfl rfl rfl ?_
  refine at_start ?_
  refine at_weak [(0, _)] ⟨rfl, trivial⟩ ?_
  refine at_seq ?_
  refine at_region ?_
  refine at_box (cs := Cd.cs (cVec (cInt .u8) 32 (by decide)) x0) rfl rfl rfl ?_
  intro b1
  refine at_val rfl rfl rfl (r_assign rfl) ?_
  refine at_nil ?_
  refine at_weak [(1, _)] ⟨rfl, trivial⟩ ?_
  refine at_then_normal ?_
  refine at_seq ?_
  refine at_region ?_
  refine at_val rfl rfl rfl (r_assign rfl) ?_
  refine at_nil ?_
  refine at_weak [(1, _), (3, _)] ⟨rfl, rfl, trivial⟩ ?_
  refine at_then_normal ?_
  refine at_seq ?_
  refine at_seq ?_
  refine at_region ?_
  refine at_val rfl rfl rfl (r_assign rfl) ?_
  refine at_nil ?_
  refine at_weak [(1, _), (3, _), (4, _)] ⟨rfl, rfl, rfl, trivial⟩ ?_
  refine at_then_normal ?_
  refine at_block ?_
  refine at_own_nil (cInt .u8) 5 ?_
  refine at_weak [(1, _), (3, .slice none ([] : List Int).length 0), (4, _)] ⟨rfl, rfl, rfl, trivial⟩ ?_
  obtain ⟨q4, hq4, hF⟩ := of_bindM hF
  refine at_weak [(1, _), (3, _), (4, _)] ⟨rfl, rfl, rfl, trivial⟩ ?_
  refine at_loop_n (B := 0) (A := fun Y => ∀ (p9 : Option Addr) (c10 : Nat), At 16 [(3, .slice p9 q4.length c10)] (Wd w [rowE (cInt .u8) 5 p9 c10 q4]) Y) ?_ ?_
  · intro K
    refine crawlwayref07_Bytes.l0.partial_correctness x0 (motive := fun i5 i6 x => KN (fun Y => ∀ (p9 : Option Addr) (c10 : Nat), At 16 [(3, .slice p9 x.length c10)] (Wd w [rowE (cInt .u8) 5 p9 c10 x]) Y) _ 0 → Round (fun Y => ∀ (p7 : Option Addr) (c8 : Nat), At 16 [(1, .pointer (some ⟨b1, 0, none⟩)), (3, .slice p7 i5.length c8), (4, .int .i64 i6)] (Wd w [rowE (cInt .u8) 5 p7 c8 i5, cellsE b1 (Cd.cs (cVec (cInt .u8) 32 (by decide)) x0) 73]) Y) _ _ _) ?_ _ _ _ hq4 K none 0
    · clear K hF
      intro g ih i5 i6 x hF K p7 c8
      refine at_round ?_
      refine at_seq ?_
      refine at_seq ?_
      refine at_region ?_
      refine at_val rfl rfl rfl (r_move rfl) ?_
      refine at_val rfl rfl rfl (r_ilss rfl rfl) ?_
      refine at_nil ?_
      refine at_weak [(1, _), (3, _), (4, _), (6, _)] ⟨rfl, rfl, rfl, rfl, trivial⟩ ?_
      refine at_then_normal ?_
      rcases of_ite hF with ⟨h11, hF⟩ | ⟨h11, hF⟩
      · refine at_cond_true rfl h11 ?_
        refine at_skip ?_
        refine at_then_normal ?_
        refine at_seq ?_
        refine at_block ?_
        refine at_region ?_
        refine at_val rfl rfl rfl (r_move rfl) ?_
        refine at_val rfl rfl rfl (r_move rfl) ?_
        obtain ⟨h12, hF⟩ := of_guard hF
        refine at_val rfl rfl rfl (r_idxArr Try.underlying73 Try.sizeOf5 rfl rfl h12) ?_
        refine at_val rfl rfl rfl (r_load_cell Try.isAgg5 rfl (lens_cell0 (c := (cInt .u8)) (y := vget x0 i6) (.s .z) (Lens.comp (Lens.whole _ _) (fun z => vset x0 i6 z) (Lens.vec (cInt .u8) (by decide) x0 i6 h12)) rfl)) ?_
        refine at_lit (cs := (cInt .u8).all ([vget x0 i6] : List Int)) Try.underlying79 Try.sizeOf5 Try.zeroValue5 rfl rfl rfl (by kernel_rfl) rfl ?_
        intro b13
        obtain ⟨h14, hF⟩ := of_guard hF
        refine at_append (z := .int .u8 0) (c := (cInt .u8)) (ys := ([vget x0 i6] : List Int)) (.s .z) Try.underlying79 infoG35 (by kernel_rfl) (by kernel_rfl) rfl rfl rfl rfl (fun _ hw => cells_src (hw.ok (Upd.mem .z))) (by kernel_rfl) h14 (app_small h14) rfl ?_
        intro p15 c16
        refine at_val rfl rfl rfl (r_assign rfl) ?_
        refine at_nil ?_
        refine at_drop (H := _) .z ?_
        refine at_weak [(1, _), (3, _), (4, _)] ⟨rfl, rfl, rfl, trivial⟩ ?_
        refine at_blk_normal (at_then_normal ?_)
        refine at_region ?_
        refine at_val rfl rfl rfl (r_move rfl) ?_
        refine at_val rfl rfl rfl (r_iadd rfl rfl) ?_
        refine at_val rfl rfl rfl (r_assign rfl) ?_
        refine at_nil ?_
        refine at_weak [(1, _), (3, _), (4, _)] ⟨rfl, rfl, rfl, trivial⟩ ?_
        refine at_then_normal ?_
        exact at_weak_k (ih _ _ _ hF K p15 c16) ⟨rfl, rfl, rfl, trivial⟩
      · refine at_cond_false rfl h11 ?_
        refine at_exit ?_
        refine at_then_exit (at_then_exit ?_)
        refine at_drop (H := _) (.s .z) ?_
        obtain rfl := of_some hF
        exact at_weak_k (K p7 c8) ⟨rfl, trivial⟩
  · skip
    intro p9 c10
    refine at_blk_same ?_
    refine at_then_normal ?_
    refine at_seq ?_
    refine at_region ?_
    refine at_val rfl rfl rfl (r_move rfl) ?_
    refine at_val rfl rfl rfl (r_assign rfl) ?_
    refine at_nil ?_
    refine at_weak [(2, _)] ⟨rfl, trivial⟩ ?_
    refine at_then_normal ?_
    refine at_ret ?_
    have K := of_some hF
    subst K
    exact at_return1 rfl rfl (fun w1 hw => ⟨p9, c10, rfl, hw.own .z, hw.below⟩)

def crawlwayref07_Of.l0 (x0 : List Int) (i6 : Int) (i7 : (Vector Int 32)) : Option ((Vector Int 32)) :=
  if (decide (i6 < 32)) = true then (if (0 : Int) ≤ i6 ∧ i6 < (x0.length : Int) then if (0 : Int) ≤ i6 ∧ i6 < 32 then crawlwayref07_Of.l0 x0 (wr .i64 (i6 + 1)) (vset i7 i6 (lget x0 i6)) else none else none) else (some i7)
  partial_fixpoint
def crawlwayref07_Of (x0 : List Int) : Option ((Vector Int 32) × Int) :=
  if (decide ((x0.length : Int) < 32)) = true then (some ((Vector.replicate 32 (0 : Int) : (Vector Int 32)), 3)) else (if (decide ((x0.length : Int) > 32)) = true then (some ((Vector.replicate 32 (0 : Int) : (Vector Int 32)), 4)) else (crawlwayref07_Of.l0 x0 0 (Vector.replicate 32 (0 : Int) : (Vector Int 32)) >>= fun q5 => some (q5, 0)))
theorem crawlwayref07_Of_ok (x0 : List Int) (p0_ : Option Addr) (c0_ : Nat) (r : (Vector Int 32) × Int) (hF : crawlwayref07_Of x0 = some r) (w : World) (hr0 : Row (cInt .u8) w p0_ c0_ x0) :
    Calls Try.prog 92 #[.slice p0_ x0.length c0_] w (fun e w' => e = .returned (.tuple #[.agg (Cd.cs (cVec (cInt .u8) 32 (by decide)) r.1).toArray, .int .i64 r.2]) ∧ Below w.heap.size w w') := by
  unfold crawlwayref07_Of at hF
  refine calls_enter (l := [.slice p0_ x0.length c0_]) Try.func92 rfl rfl rfl ?_
  refine at_start ?_
  refine at_weak [(0, _)] ⟨rfl, trivial⟩ ?_
  refine at_seq ?_
  refine at_region ?_
  refine at_alloc (cs := Cd.cs (cVec (cInt .u8) 32 (by decide)) (Vector.replicate 32 (0 : Int) : (Vector Int 32))) Try.zeroValue73 rfl rfl ?_
  intro b1
  refine at_val rfl rfl rfl (r_assign rfl) ?_
  refine at_nil ?_
  refine at_weak [(0, _), (2, _)] ⟨rfl, rfl, trivial⟩ ?_
  refine at_then_normal ?_
  refine at_seq ?_
  refine at_region ?_
  refine at_alloc (cs := Cd.cs (cVec (cInt .u8) 32 (by decide)) (Vector.replicate 32 (0 : Int) : (Vector Int 32))) Try.zeroValue73 rfl rfl ?_
  intro b2
  refine at_nil ?_
  refine at_weak [(0, _), (2, _), (4, _)] ⟨rfl, rfl, rfl, trivial⟩ ?_
  refine at_then_normal ?_
  refine at_seq ?_
  refine at_seq ?_
  refine at_region ?_
  refine at_val rfl rfl rfl (r_move rfl) ?_
  refine at_val rfl rfl rfl (r_len_sl Try.underlying79 rfl) ?_
  refine at_val rfl rfl rfl (r_ilss rfl rfl) ?_
  refine at_nil ?_
  refine at_weak [(0, _), (2, _), (4, _), (8, _)] ⟨rfl, rfl, rfl, rfl, trivial⟩ ?_
  refine at_then_normal ?_
  rcases of_ite hF with ⟨h3, hF⟩ | ⟨h3, hF⟩
  · refine at_cond_true rfl h3 ?_
    refine at_seq ?_
    refine at_region ?_
    refine at_val rfl rfl rfl (r_load_aggc (c := (cVec (cInt .u8) 32 (by decide))) (z := (Vector.replicate 32 (0 : Int) : (Vector Int 32))) Try.isAgg73 Try.sizeOf73 rfl (lens_cell .z (Lens.whole _ _))) ?_
    refine at_store (c := (cVec (cInt .u8) 32 (by decide))) (z := (Vector.replicate 32 (0 : Int) : (Vector Int 32))) (.s .z) (Lens.whole _ _) Try.sizeOf73 rfl rfl rfl ?_
    refine at_val rfl rfl rfl (r_assign rfl) ?_
    refine at_nil ?_
    refine at_drop (H := _) .z ?_
    refine at_weak [(2, _), (3, _)] ⟨rfl, rfl, trivial⟩ ?_
    refine at_then_normal ?_
    refine at_ret ?_
    refine at_then_ret ?_
    have K := of_some hF
    subst K
    exact at_res2 rfl (res_cell (c := (cVec (cInt .u8) 32 (by decide))) (y := (Vector.replicate 32 (0 : Int) : (Vector Int 32))) rfl .z (Lens.whole _ _) Try.isAgg73 Try.sizeOf73 (.inl rfl)) (res_tmp rfl) (fun w1 hw => ⟨rfl, hw.below⟩)
  · refine at_cond_false rfl h3 ?_
    refine at_skip ?_
    refine at_then_normal ?_
    refine at_seq ?_
    refine at_seq ?_
    refine at_region ?_
    refine at_val rfl rfl rfl (r_move rfl) ?_
    refine at_val rfl rfl rfl (r_len_sl Try.underlying79 rfl) ?_
    refine at_val rfl rfl rfl (r_igtr rfl rfl) ?_
    refine at_nil ?_
    refine at_weak [(0, _), (2, _), (4, _), (12, _)] ⟨rfl, rfl, rfl, rfl, trivial⟩ ?_
    refine at_then_normal ?_
    rcases of_ite hF with ⟨h4, hF⟩ | ⟨h4, hF⟩
    · refine at_cond_true rfl h4 ?_
      refine at_seq ?_
      refine at_region ?_
      refine at_val rfl rfl rfl (r_load_aggc (c := (cVec (cInt .u8) 32 (by decide))) (z := (Vector.replicate 32 (0 : Int) : (Vector Int 32))) Try.isAgg73 Try.sizeOf73 rfl (lens_cell .z (Lens.whole _ _))) ?_
      refine at_store (c := (cVec (cInt .u8) 32 (by decide))) (z := (Vector.replicate 32 (0 : Int) : (Vector Int 32))) (.s .z) (Lens.whole _ _) Try.sizeOf73 rfl rfl rfl ?_
      refine at_val rfl rfl rfl (r_assign rfl) ?_
      refine at_nil ?_
      refine at_drop (H := _) .z ?_
      refine at_weak [(2, _), (3, _)] ⟨rfl, rfl, trivial⟩ ?_
      refine at_then_normal ?_
      refine at_ret ?_
      refine at_then_ret ?_
      have K := of_some hF
      subst K
      exact at_res2 rfl (res_cell (c := (cVec (cInt .u8) 32 (by decide))) (y := (Vector.replicate 32 (0 : Int) : (Vector Int 32))) rfl .z (Lens.whole _ _) Try.isAgg73 Try.sizeOf73 (.inl rfl)) (res_tmp rfl) (fun w1 hw => ⟨rfl, hw.below⟩)
    · refine at_cond_false rfl h4 ?_
      refine at_skip ?_
      refine at_then_normal ?_
      refine at_seq ?_
      refine at_seq ?_
      refine at_region ?_
      refine at_val rfl rfl rfl (r_assign rfl) ?_
      refine at_nil ?_
      refine at_weak [(0, _), (2, _), (4, _), (5, _)] ⟨rfl, rfl, rfl, rfl, trivial⟩ ?_
      refine at_then_normal ?_
      refine at_block ?_
      obtain ⟨q5, hq5, hF⟩ := of_bindM hF
      refine at_weak [(0, _), (2, _), (4, _), (5, _)] ⟨rfl, rfl, rfl, rfl, trivial⟩ ?_
      refine at_loop_n (B := 0) (A := fun Y => At 25 [(2, .pointer (some ⟨b1, 0, none⟩)), (4, .pointer (some ⟨b2, 0, none⟩))] (Wd w [cellsE b2 (Cd.cs (cVec (cInt .u8) 32 (by decide)) q5) 73, cellsE b1 (Cd.cs (cVec (cInt .u8) 32 (by decide)) (Vector.replicate 32 (0 : Int) : (Vector Int 32))) 73]) Y) ?_ ?_
      · intro K
        refine crawlwayref07_Of.l0.partial_correctness x0 (motive := fun i6 i7 x => KN (fun Y => At 25 [(2, .pointer (some ⟨b1, 0, none⟩)), (4, .pointer (some ⟨b2, 0, none⟩))] (Wd w [cellsE b2 (Cd.cs (cVec (cInt .u8) 32 (by decide)) x) 73, cellsE b1 (Cd.cs (cVec (cInt .u8) 32 (by decide)) (Vector.replicate 32 (0 : Int) : (Vector Int 32))) 73]) Y) _ 0 → Round (fun Y => At 25 [(0, .slice p0_ x0.length c0_), (2, .pointer (some ⟨b1, 0, none⟩)), (4, .pointer (some ⟨b2, 0, none⟩)), (5, .int .i64 i6)] (Wd w [cellsE b2 (Cd.cs (cVec (cInt .u8) 32 (by decide)) i7) 73, cellsE b1 (Cd.cs (cVec (cInt .u8) 32 (by decide)) (Vector.replicate 32 (0 : Int) : (Vector Int 32))) 73]) Y) _ _ _) ?_ _ _ _ hq5 K
        · clear K hF
          intro g ih i6 i7 x hF K
          refine at_round ?_
          refine at_seq ?_
          refine at_seq ?_
          refine at_region ?_
          refine at_val rfl rfl rfl (r_move rfl) ?_
          refine at_val rfl rfl rfl (r_ilss rfl rfl) ?_
          refine at_nil ?_
          refine at_weak [(0, _), (2, _), (4, _), (5, _), (15, _)] ⟨rfl, rfl, rfl, rfl, rfl, trivial⟩ ?_
          refine at_then_normal ?_
          rcases of_ite hF with ⟨h8, hF⟩ | ⟨h8, hF⟩
          · refine at_cond_true rfl h8 ?_
            refine at_skip ?_
            refine at_then_normal ?_
            refine at_seq ?_
            refine at_block ?_
            refine at_region ?_
            refine at_val rfl rfl rfl (r_move rfl) ?_
            refine at_val rfl rfl rfl (r_move rfl) ?_
            refine at_val rfl rfl rfl (r_move rfl) ?_
            obtain ⟨h9, hF⟩ := of_guard hF
            obtain ⟨b11, o12, hp10⟩ := row_ptr hr0 h9
            refine at_val rfl rfl rfl (r_idx Try.underlying79 Try.sizeOf5 rfl rfl h9 hp10) ?_
            refine at_val rfl rfl rfl (r_load_cell Try.isAgg5 rfl (row_cell0 (fun _ h => h.below) hr0 h9 hp10 rfl)) ?_
            obtain ⟨h13, hF⟩ := of_guard hF
            refine at_val rfl rfl rfl (r_idxArr Try.underlying73 Try.sizeOf5 rfl rfl h13) ?_
            refine at_store (c := (cInt .u8)) (z := lget x0 i6) .z (Lens.comp (Lens.whole _ _) (fun z => vset i7 i6 z) (Lens.vec (cInt .u8) (by decide) i7 i6 h13)) Try.sizeOf5 rfl rfl rfl ?_
            refine at_nil ?_
            refine at_weak [(0, _), (2, _), (4, _), (5, _)] ⟨rfl, rfl, rfl, rfl, trivial⟩ ?_
            refine at_blk_normal (at_then_normal ?_)
            refine at_region ?_
            refine at_val rfl rfl rfl (r_move rfl) ?_
            refine at_val rfl rfl rfl (r_iadd rfl rfl) ?_
            refine at_val rfl rfl rfl (r_assign rfl) ?_
            refine at_nil ?_
            refine at_weak [(0, _), (2, _), (4, _), (5, _)] ⟨rfl, rfl, rfl, rfl, trivial⟩ ?_
            refine at_then_normal ?_
            exact at_weak_k (ih _ _ _ hF K) ⟨rfl, rfl, rfl, rfl, trivial⟩
          · refine at_cond_false rfl h8 ?_
            refine at_exit ?_
            refine at_then_exit (at_then_exit ?_)
            obtain rfl := of_some hF
            exact at_weak_k K ⟨rfl, rfl, trivial⟩
      · skip
        skip
        refine at_blk_same ?_
        refine at_then_normal ?_
        refine at_seq ?_
        refine at_region ?_
        refine at_val rfl rfl rfl (r_load_aggc (c := (cVec (cInt .u8) 32 (by decide))) (z := q5) Try.isAgg73 Try.sizeOf73 rfl (lens_cell .z (Lens.whole _ _))) ?_
        refine at_store (c := (cVec (cInt .u8) 32 (by decide))) (z := q5) (.s .z) (Lens.whole _ _) Try.sizeOf73 rfl rfl rfl ?_
        refine at_val rfl rfl rfl (r_assign rfl) ?_
        refine at_nil ?_
        refine at_drop (H := _) .z ?_
        refine at_weak [(2, _), (3, _)] ⟨rfl, rfl, trivial⟩ ?_
        refine at_then_normal ?_
        refine at_ret ?_
        have K := of_some hF
        subst K
        exact at_res2 rfl (res_cell (c := (cVec (cInt .u8) 32 (by decide))) (y := q5) rfl .z (Lens.whole _ _) Try.isAgg73 Try.sizeOf73 (.inl rfl)) (res_tmp rfl) (fun w1 hw => ⟨rfl, hw.below⟩)

def crawlwayref07_Parse (x0 : ByteArray) : Option ((Vector Int 32) × Int) :=
  crawlwayref04_Decode x0 >>= fun t2 => if (t2.2 != 0) = true then (some ((Vector.replicate 32 (0 : Int) : (Vector Int 32)), t2.2)) else (crawlwayref07_Of t2.1 >>= fun t6 => some (t6.1, t6.2))
theorem crawlwayref07_Parse_ok (x0 : ByteArray) (r : (Vector Int 32) × Int) (hF : crawlwayref07_Parse x0 = some r) (w : World) :
    Calls Try.prog 47 #[.string x0] w (fun e w' => e = .returned (.tuple #[.agg (Cd.cs (cVec (cInt .u8) 32 (by decide)) r.1).toArray, .int .i64 r.2]) ∧ Below w.heap.size w w') := by
  unfold crawlwayref07_Parse at hF
  refine calls_enter (l := [.string x0]) Try.func47 rfl rfl rfl ?_
  refine at_start ?_
  refine at_weak [(0, _)] ⟨rfl, trivial⟩ ?_
  refine at_seq ?_
  refine at_region ?_
  refine at_alloc (cs := Cd.cs (cVec (cInt .u8) 32 (by decide)) (Vector.replicate 32 (0 : Int) : (Vector Int 32))) Try.zeroValue73 rfl rfl ?_
  intro b1
  refine at_val rfl rfl rfl (r_assign rfl) ?_
  refine at_nil ?_
  refine at_weak [(0, _), (2, _)] ⟨rfl, rfl, trivial⟩ ?_
  refine at_then_normal ?_
  refine at_seq ?_
  refine at_region ?_
  refine at_val rfl rfl rfl (r_move rfl) ?_
  obtain ⟨t2, ht2, hF⟩ := of_bindM hF
  refine at_callO (c := (cInt .u8)) (e := 5) (ys := t2.1) (V := fun p cap => .tuple #[.slice p t2.1.length cap, .int .i64 t2.2]) Try.func91 rfl (by kernel_rfl) rfl rfl (fun w hw => crawlwayref04_Decode_ok _ _ ht2 w) ?_
  intro p3 c4
  refine at_val rfl rfl rfl (r_move rfl) ?_
  refine at_val rfl rfl rfl (r_extract rfl rfl) ?_
  refine at_val rfl rfl rfl (r_extract rfl rfl) ?_
  refine at_val rfl rfl rfl (r_assign rfl) ?_
  refine at_val rfl rfl rfl (r_assign rfl) ?_
  refine at_nil ?_
  refine at_weak [(2, _), (4, _), (5, _)] ⟨rfl, rfl, rfl, trivial⟩ ?_
  refine at_then_normal ?_
  refine at_seq ?_
  refine at_seq ?_
  refine at_region ?_
  refine at_val rfl rfl rfl (r_move rfl) ?_
  refine at_val rfl rfl rfl (r_ineq rfl rfl) ?_
  refine at_nil ?_
  refine at_weak [(2, _), (4, _), (5, _), (12, _)] ⟨rfl, rfl, rfl, rfl, trivial⟩ ?_
  refine at_then_normal ?_
  rcases of_ite hF with ⟨h5, hF⟩ | ⟨h5, hF⟩
  · refine at_cond_true rfl h5 ?_
    refine at_seq ?_
    refine at_region ?_
    refine at_val rfl rfl rfl (r_build_array (zs := Cd.cs (cVec (cInt .u8) 32 (by decide)) (Vector.replicate 32 (0 : Int) : (Vector Int 32))) (cs := Cd.cs (cVec (cInt .u8) 32 (by decide)) (Vector.replicate 32 (0 : Int) : (Vector Int 32))) Try.underlying73 Try.zeroValue73 rfl Try.sizeOf5 rfl rfl) ?_
    refine at_val rfl rfl rfl (r_move rfl) ?_
    refine at_store (c := (cVec (cInt .u8) 32 (by decide))) (z := (Vector.replicate 32 (0 : Int) : (Vector Int 32))) (.s .z) (Lens.whole _ _) Try.sizeOf73 rfl rfl rfl ?_
    refine at_val rfl rfl rfl (r_assign rfl) ?_
    refine at_nil ?_
    refine at_drop (H := _) .z ?_
    refine at_weak [(2, _), (3, _)] ⟨rfl, rfl, trivial⟩ ?_
    refine at_then_normal ?_
    refine at_ret ?_
    refine at_then_ret ?_
    have K := of_some hF
    subst K
    exact at_res2 rfl (res_cell (c := (cVec (cInt .u8) 32 (by decide))) (y := (Vector.replicate 32 (0 : Int) : (Vector Int 32))) rfl .z (Lens.whole _ _) Try.isAgg73 Try.sizeOf73 (.inl rfl)) (res_tmp rfl) (fun w1 hw => ⟨rfl, hw.below⟩)
  · refine at_cond_false rfl h5 ?_
    refine at_skip ?_
    refine at_then_normal ?_
    refine at_seq ?_
    refine at_region ?_
    refine at_val rfl rfl rfl (r_move rfl) ?_
    obtain ⟨t6, ht6, hF⟩ := of_bindM hF
    refine at_callB Try.func92 rfl (by kernel_rfl) rfl rfl (fun w hw => crawlwayref07_Of_ok _ _ _ _ ht6 w (hw.own .z).row) ?_
    refine at_val rfl rfl rfl (r_extract rfl rfl) ?_
    refine at_val rfl rfl rfl (r_extract rfl rfl) ?_
    refine at_store (c := (cVec (cInt .u8) 32 (by decide))) (z := t6.1) (.s .z) (Lens.whole _ _) Try.sizeOf73 rfl rfl rfl ?_
    refine at_val rfl rfl rfl (r_assign rfl) ?_
    refine at_nil ?_
    refine at_drop (H := _) .z ?_
    refine at_weak [(2, _), (3, _)] ⟨rfl, rfl, trivial⟩ ?_
    refine at_then_normal ?_
    refine at_ret ?_
    have K := of_some hF
    subst K
    exact at_res2 rfl (res_cell (c := (cVec (cInt .u8) 32 (by decide))) (y := t6.1) rfl .z (Lens.whole _ _) Try.isAgg73 Try.sizeOf73 (.inl rfl)) (res_tmp rfl) (fun w1 hw => ⟨rfl, hw.below⟩)

def crawlwayref07_ParseHex (x0 : ByteArray) : Option ((Vector Int 32) × Int) :=
  crawlwayref05_Decode x0 >>= fun t2 => if (t2.2 != 0) = true then (some ((Vector.replicate 32 (0 : Int) : (Vector Int 32)), t2.2)) else (crawlwayref07_Of t2.1 >>= fun t6 => some (t6.1, t6.2))
theorem crawlwayref07_ParseHex_ok (x0 : ByteArray) (r : (Vector Int 32) × Int) (hF : crawlwayref07_ParseHex x0 = some r) (w : World) :
    Calls Try.prog 48 #[.string x0] w (fun e w' => e = .returned (.tuple #[.agg (Cd.cs (cVec (cInt .u8) 32 (by decide)) r.1).toArray, .int .i64 r.2]) ∧ Below w.heap.size w w') := by
  unfold crawlwayref07_ParseHex at hF
  refine calls_enter (l := [.string x0]) Try.func48 rfl rfl rfl ?_
  refine at_start ?_
  refine at_weak [(0, _)] ⟨rfl, trivial⟩ ?_
  refine at_seq ?_
  refine at_region ?_
  refine at_alloc (cs := Cd.cs (cVec (cInt .u8) 32 (by decide)) (Vector.replicate 32 (0 : Int) : (Vector Int 32))) Try.zeroValue73 rfl rfl ?_
  intro b1
  refine at_val rfl rfl rfl (r_assign rfl) ?_
  refine at_nil ?_
  refine at_weak [(0, _), (2, _)] ⟨rfl, rfl, trivial⟩ ?_
  refine at_then_normal ?_
  refine at_seq ?_
  refine at_region ?_
  refine at_val rfl rfl rfl (r_move rfl) ?_
  obtain ⟨t2, ht2, hF⟩ := of_bindM hF
  refine at_callO (c := (cInt .u8)) (e := 5) (ys := t2.1) (V := fun p cap => .tuple #[.slice p t2.1.length cap, .int .i64 t2.2]) Try.func93 rfl (by kernel_rfl) rfl rfl (fun w hw => crawlwayref05_Decode_ok _ _ ht2 w) ?_
  intro p3 c4
  refine at_val rfl rfl rfl (r_move rfl) ?_
  refine at_val rfl rfl rfl (r_extract rfl rfl) ?_
  refine at_val rfl rfl rfl (r_extract rfl rfl) ?_
  refine at_val rfl rfl rfl (r_assign rfl) ?_
  refine at_val rfl rfl rfl (r_assign rfl) ?_
  refine at_nil ?_
  refine at_weak [(2, _), (4, _), (5, _)] ⟨rfl, rfl, rfl, trivial⟩ ?_
  refine at_then_normal ?_
  refine at_seq ?_
  refine at_seq ?_
  refine at_region ?_
  refine at_val rfl rfl rfl (r_move rfl) ?_
  refine at_val rfl rfl rfl (r_ineq rfl rfl) ?_
  refine at_nil ?_
  refine at_weak [(2, _), (4, _), (5, _), (12, _)] ⟨rfl, rfl, rfl, rfl, trivial⟩ ?_
  refine at_then_normal ?_
  rcases of_ite hF with ⟨h5, hF⟩ | ⟨h5, hF⟩
  · refine at_cond_true rfl h5 ?_
    refine at_seq ?_
    refine at_region ?_
    refine at_val rfl rfl rfl (r_build_array (zs := Cd.cs (cVec (cInt .u8) 32 (by decide)) (Vector.replicate 32 (0 : Int) : (Vector Int 32))) (cs := Cd.cs (cVec (cInt .u8) 32 (by decide)) (Vector.replicate 32 (0 : Int) : (Vector Int 32))) Try.underlying73 Try.zeroValue73 rfl Try.sizeOf5 rfl rfl) ?_
    refine at_val rfl rfl rfl (r_move rfl) ?_
    refine at_store (c := (cVec (cInt .u8) 32 (by decide))) (z := (Vector.replicate 32 (0 : Int) : (Vector Int 32))) (.s .z) (Lens.whole _ _) Try.sizeOf73 rfl rfl rfl ?_
    refine at_val rfl rfl rfl (r_assign rfl) ?_
    refine at_nil ?_
    refine at_drop (H := _) .z ?_
    refine at_weak [(2, _), (3, _)] ⟨rfl, rfl, trivial⟩ ?_
    refine at_then_normal ?_
    refine at_ret ?_
    refine at_then_ret ?_
    have K := of_some hF
    subst K
    exact at_res2 rfl (res_cell (c := (cVec (cInt .u8) 32 (by decide))) (y := (Vector.replicate 32 (0 : Int) : (Vector Int 32))) rfl .z (Lens.whole _ _) Try.isAgg73 Try.sizeOf73 (.inl rfl)) (res_tmp rfl) (fun w1 hw => ⟨rfl, hw.below⟩)
  · refine at_cond_false rfl h5 ?_
    refine at_skip ?_
    refine at_then_normal ?_
    refine at_seq ?_
    refine at_region ?_
    refine at_val rfl rfl rfl (r_move rfl) ?_
    obtain ⟨t6, ht6, hF⟩ := of_bindM hF
    refine at_callB Try.func92 rfl (by kernel_rfl) rfl rfl (fun w hw => crawlwayref07_Of_ok _ _ _ _ ht6 w (hw.own .z).row) ?_
    refine at_val rfl rfl rfl (r_extract rfl rfl) ?_
    refine at_val rfl rfl rfl (r_extract rfl rfl) ?_
    refine at_store (c := (cVec (cInt .u8) 32 (by decide))) (z := t6.1) (.s .z) (Lens.whole _ _) Try.sizeOf73 rfl rfl rfl ?_
    refine at_val rfl rfl rfl (r_assign rfl) ?_
    refine at_nil ?_
    refine at_drop (H := _) .z ?_
    refine at_weak [(2, _), (3, _)] ⟨rfl, rfl, trivial⟩ ?_
    refine at_then_normal ?_
    refine at_ret ?_
    have K := of_some hF
    subst K
    exact at_res2 rfl (res_cell (c := (cVec (cInt .u8) 32 (by decide))) (y := t6.1) rfl .z (Lens.whole _ _) Try.isAgg73 Try.sizeOf73 (.inl rfl)) (res_tmp rfl) (fun w1 hw => ⟨rfl, hw.below⟩)

def crawlwaylaw07_alive : Option (Bool) :=
  keys_Text (Vector.replicate 32 (0 : Int) : (Vector Int 32)) >>= fun t1 => if ((t1.size : Int) == 44) = true then (if (0 : Int) ≤ 43 ∧ 43 < (t1.size : Int) then if (bt t1 43 == 61) = true then (if (0 : Int) ≤ 42 ∧ 42 < (t1.size : Int) then if (bt t1 42 == 65) = true then (keys_Hex (vset (Vector.replicate 32 (0 : Int) : (Vector Int 32)) 0 1) >>= fun t7 => if ((t7.size : Int) == 64) = true then (keys_Zero (Vector.replicate 32 (0 : Int) : (Vector Int 32)) >>= fun t9 => some t9) else (some false)) else (some false) else none) else (some false) else none) else (some false)
theorem crawlwaylaw07_alive_ok (r : Bool) (hF : crawlwaylaw07_alive  = some r) (w : World) :
    Calls Try.prog 46 #[] w (fun e w' => e = .returned (.bool r) ∧ Below w.heap.size w w') := by
  unfold crawlwaylaw07_alive at hF
  refine calls_enter (l := []) Try.func46 rfl rfl rfl ?_
  refine at_start ?_
  refine at_weak [] trivial ?_
  refine at_seq ?_
  refine at_region ?_
  refine at_val rfl rfl rfl (r_assign rfl) ?_
  refine at_nil ?_
  refine at_weak [] trivial ?_
  refine at_then_normal ?_
  refine at_seq ?_
  refine at_region ?_
  refine at_val rfl rfl rfl (r_build_array (zs := Cd.cs (cVec (cInt .u8) 32 (by decide)) (Vector.replicate 32 (0 : Int) : (Vector Int 32))) (cs := Cd.cs (cVec (cInt .u8) 32 (by decide)) (Vector.replicate 32 (0 : Int) : (Vector Int 32))) Try.underlying73 Try.zeroValue73 rfl Try.sizeOf5 rfl rfl) ?_
  obtain ⟨t1, ht1, hF⟩ := of_bindM hF
  refine at_callB Try.func39 rfl (by kernel_rfl) rfl rfl (fun w hw => keys_Text_ok _ _ ht1 w) ?_
  refine at_val rfl rfl rfl (r_assign rfl) ?_
  refine at_nil ?_
  refine at_weak [(1, _)] ⟨rfl, trivial⟩ ?_
  refine at_then_normal ?_
  refine at_seq ?_
  refine at_region ?_
  refine at_val rfl rfl rfl (r_move rfl) ?_
  refine at_val rfl rfl rfl (r_len_str Try.underlying9 rfl) ?_
  refine at_val rfl rfl rfl (r_ieql rfl rfl) ?_
  refine at_val rfl rfl rfl (r_move rfl) ?_
  rcases of_ite hF with ⟨h2, hF⟩ | ⟨h2, hF⟩
  · refine at_fix (g := 7) rfl h2 ?_
    refine at_guard_yes rfl rfl rfl ?_
    refine at_val rfl rfl rfl (r_move rfl) ?_
    refine at_guard_yes rfl rfl rfl ?_
    obtain ⟨h3, hF⟩ := of_guard hF
    refine at_val rfl rfl rfl (r_index_str Try.underlying9 rfl rfl h3) ?_
    refine at_guard_yes rfl rfl rfl ?_
    refine at_val rfl rfl rfl (r_ieql rfl rfl) ?_
    refine at_val rfl rfl rfl (r_pick rfl rfl rfl) ?_
    refine at_val rfl rfl rfl (r_move rfl) ?_
    rcases of_ite hF with ⟨h4, hF⟩ | ⟨h4, hF⟩
    · refine at_fix (g := 12) rfl h4 ?_
      refine at_guard_yes rfl rfl rfl ?_
      refine at_val rfl rfl rfl (r_move rfl) ?_
      refine at_guard_yes rfl rfl rfl ?_
      obtain ⟨h5, hF⟩ := of_guard hF
      refine at_val rfl rfl rfl (r_index_str Try.underlying9 rfl rfl h5) ?_
      refine at_guard_yes rfl rfl rfl ?_
      refine at_val rfl rfl rfl (r_ieql rfl rfl) ?_
      refine at_val rfl rfl rfl (r_pick rfl rfl rfl) ?_
      refine at_val rfl rfl rfl (r_move rfl) ?_
      rcases of_ite hF with ⟨h6, hF⟩ | ⟨h6, hF⟩
      · refine at_fix (g := 17) rfl h6 ?_
        refine at_guard_yes rfl rfl rfl ?_
        refine at_val rfl rfl rfl (r_build_array (zs := Cd.cs (cVec (cInt .u8) 32 (by decide)) (Vector.replicate 32 (0 : Int) : (Vector Int 32))) (cs := Cd.cs (cVec (cInt .u8) 32 (by decide)) (vset (Vector.replicate 32 (0 : Int) : (Vector Int 32)) 0 1)) Try.underlying73 Try.zeroValue73 rfl Try.sizeOf5 rfl (fill_step (c := (cInt .u8)) (z := 1) rfl (Lens.vec (cInt .u8) (by decide) (Vector.replicate 32 (0 : Int) : (Vector Int 32)) 0 (by decide)) rfl rfl)) ?_
        refine at_guard_yes rfl rfl rfl ?_
        obtain ⟨t7, ht7, hF⟩ := of_bindM hF
        refine at_callB Try.func40 rfl (by kernel_rfl) rfl rfl (fun w hw => keys_Hex_ok _ _ ht7 w) ?_
        refine at_guard_yes rfl rfl rfl ?_
        refine at_val rfl rfl rfl (r_len_str Try.underlying9 rfl) ?_
        refine at_guard_yes rfl rfl rfl ?_
        refine at_val rfl rfl rfl (r_ieql rfl rfl) ?_
        refine at_val rfl rfl rfl (r_pick rfl rfl rfl) ?_
        refine at_val rfl rfl rfl (r_move rfl) ?_
        rcases of_ite hF with ⟨h8, hF⟩ | ⟨h8, hF⟩
        · refine at_fix (g := 23) rfl h8 ?_
          refine at_guard_yes rfl rfl rfl ?_
          refine at_val rfl rfl rfl (r_build_array (zs := Cd.cs (cVec (cInt .u8) 32 (by decide)) (Vector.replicate 32 (0 : Int) : (Vector Int 32))) (cs := Cd.cs (cVec (cInt .u8) 32 (by decide)) (Vector.replicate 32 (0 : Int) : (Vector Int 32))) Try.underlying73 Try.zeroValue73 rfl Try.sizeOf5 rfl rfl) ?_
          refine at_guard_yes rfl rfl rfl ?_
          obtain ⟨t9, ht9, hF⟩ := of_bindM hF
          refine at_callB Try.func90 rfl (by kernel_rfl) rfl rfl (fun w hw => keys_Zero_ok _ _ ht9 w) ?_
          refine at_val rfl rfl rfl (r_pick rfl rfl rfl) ?_
          refine at_val rfl rfl rfl (r_assign rfl) ?_
          refine at_nil ?_
          refine at_weak [(0, _)] ⟨rfl, trivial⟩ ?_
          refine at_then_normal ?_
          refine at_ret ?_
          have K := of_some hF
          subst K
          exact at_return1 rfl rfl (fun w1 hw => ⟨rfl, hw.below⟩)
        · refine at_fix (g := 23) rfl h8 ?_
          refine at_guard_no rfl rfl rfl rfl rfl ?_
          refine at_guard_no rfl rfl rfl rfl rfl ?_
          refine at_val rfl rfl rfl (r_pick rfl rfl rfl) ?_
          refine at_val rfl rfl rfl (r_assign rfl) ?_
          refine at_nil ?_
          refine at_weak [(0, _)] ⟨rfl, trivial⟩ ?_
          refine at_then_normal ?_
          refine at_ret ?_
          have K := of_some hF
          subst K
          exact at_return1 rfl rfl (fun w1 hw => ⟨rfl, hw.below⟩)
      · refine at_fix (g := 17) rfl h6 ?_
        refine at_guard_no rfl rfl rfl rfl rfl ?_
        refine at_guard_no rfl rfl rfl rfl rfl ?_
        refine at_guard_no rfl rfl rfl rfl rfl ?_
        refine at_guard_no rfl rfl rfl rfl rfl ?_
        refine at_val rfl rfl rfl (r_pick rfl rfl rfl) ?_
        refine at_val rfl rfl rfl (r_move rfl) ?_
        refine at_guard_no rfl rfl rfl rfl rfl ?_
        refine at_guard_no rfl rfl rfl rfl rfl ?_
        refine at_val rfl rfl rfl (r_pick rfl rfl rfl) ?_
        refine at_val rfl rfl rfl (r_assign rfl) ?_
        refine at_nil ?_
        refine at_weak [(0, _)] ⟨rfl, trivial⟩ ?_
        refine at_then_normal ?_
        refine at_ret ?_
        have K := of_some hF
        subst K
        exact at_return1 rfl rfl (fun w1 hw => ⟨rfl, hw.below⟩)
    · refine at_fix (g := 12) rfl h4 ?_
      refine at_guard_no rfl rfl rfl rfl rfl ?_
      refine at_guard_no rfl rfl rfl rfl rfl ?_
      refine at_guard_no rfl rfl rfl rfl rfl ?_
      refine at_val rfl rfl rfl (r_pick rfl rfl rfl) ?_
      refine at_val rfl rfl rfl (r_move rfl) ?_
      refine at_guard_no rfl rfl rfl rfl rfl ?_
      refine at_guard_no rfl rfl rfl rfl rfl ?_
      refine at_guard_no rfl rfl rfl rfl rfl ?_
      refine at_guard_no rfl rfl rfl rfl rfl ?_
      refine at_val rfl rfl rfl (r_pick rfl rfl rfl) ?_
      refine at_val rfl rfl rfl (r_move rfl) ?_
      refine at_guard_no rfl rfl rfl rfl rfl ?_
      refine at_guard_no rfl rfl rfl rfl rfl ?_
      refine at_val rfl rfl rfl (r_pick rfl rfl rfl) ?_
      refine at_val rfl rfl rfl (r_assign rfl) ?_
      refine at_nil ?_
      refine at_weak [(0, _)] ⟨rfl, trivial⟩ ?_
      refine at_then_normal ?_
      refine at_ret ?_
      have K := of_some hF
      subst K
      exact at_return1 rfl rfl (fun w1 hw => ⟨rfl, hw.below⟩)
  · refine at_fix (g := 7) rfl h2 ?_
    refine at_guard_no rfl rfl rfl rfl rfl ?_
    refine at_guard_no rfl rfl rfl rfl rfl ?_
    refine at_guard_no rfl rfl rfl rfl rfl ?_
    refine at_val rfl rfl rfl (r_pick rfl rfl rfl) ?_
    refine at_val rfl rfl rfl (r_move rfl) ?_
    refine at_guard_no rfl rfl rfl rfl rfl ?_
    refine at_guard_no rfl rfl rfl rfl rfl ?_
    refine at_guard_no rfl rfl rfl rfl rfl ?_
    refine at_val rfl rfl rfl (r_pick rfl rfl rfl) ?_
    refine at_val rfl rfl rfl (r_move rfl) ?_
    refine at_guard_no rfl rfl rfl rfl rfl ?_
    refine at_guard_no rfl rfl rfl rfl rfl ?_
    refine at_guard_no rfl rfl rfl rfl rfl ?_
    refine at_guard_no rfl rfl rfl rfl rfl ?_
    refine at_val rfl rfl rfl (r_pick rfl rfl rfl) ?_
    refine at_val rfl rfl rfl (r_move rfl) ?_
    refine at_guard_no rfl rfl rfl rfl rfl ?_
    refine at_guard_no rfl rfl rfl rfl rfl ?_
    refine at_val rfl rfl rfl (r_pick rfl rfl rfl) ?_
    refine at_val rfl rfl rfl (r_assign rfl) ?_
    refine at_nil ?_
    refine at_weak [(0, _)] ⟨rfl, trivial⟩ ?_
    refine at_then_normal ?_
    refine at_ret ?_
    have K := of_some hF
    subst K
    exact at_return1 rfl rfl (fun w1 hw => ⟨rfl, hw.below⟩)

def crawlwaylaw07_KeysTexts (x0 : (Vector Int 32)) : Option (Bool) :=
  keys_Text x0 >>= fun t2 => keys_Hex x0 >>= fun t3 => keys_Parse t2 >>= fun t4 => keys_ParseHex t3 >>= fun t6 => crawlwayref07_Bytes x0 >>= fun t8 => crawlwayref04_Encode t8 >>= fun t11 => if (seq t2 t11) = true then (crawlwayref07_Bytes x0 >>= fun t13 => crawlwayref05_Encode t13 >>= fun t16 => if (seq t3 t16) = true then (if (decide (t4.1 = x0)) = true then (if (decide (t6.1 = x0)) = true then (if (t4.2 == 0) = true then (if (t6.2 == 0) = true then (crawlwaylaw07_alive >>= fun t22 => some t22) else (some false)) else (some false)) else (some false)) else (some false)) else (some false)) else (some false)
theorem crawlwaylaw07_KeysTexts_ok (x0 : (Vector Int 32)) (r : Bool) (hF : crawlwaylaw07_KeysTexts x0 = some r) (w : World) :
    Calls Try.prog 8 #[.agg (Cd.cs (cVec (cInt .u8) 32 (by decide)) x0).toArray] w (fun e w' => e = .returned (.bool r) ∧ Below w.heap.size w w') := by
  unfold crawlwaylaw07_KeysTexts at hF
  refine calls_enter (l := [.agg (Cd.cs (cVec (cInt .u8) 32 (by decide)) x0).toArray]) Try.func8 rfl rfl rfl ?_
  refine at_start ?_
  refine at_weak [(0, _)] ⟨rfl, trivial⟩ ?_
  refine at_seq ?_
  refine at_region ?_
  refine at_box (cs := Cd.cs (cVec (cInt .u8) 32 (by decide)) x0) rfl rfl rfl ?_
  intro b1
  refine at_val rfl rfl rfl (r_assign rfl) ?_
  refine at_nil ?_
  refine at_weak [(1, _)] ⟨rfl, trivial⟩ ?_
  refine at_then_normal ?_
  refine at_seq ?_
  refine at_region ?_
  refine at_val rfl rfl rfl (r_load_aggc (c := (cVec (cInt .u8) 32 (by decide))) (z := x0) Try.isAgg73 Try.sizeOf73 rfl (lens_cell .z (Lens.whole _ _))) ?_
  obtain ⟨t2, ht2, hF⟩ := of_bindM hF
  refine at_callB Try.func39 rfl (by kernel_rfl) rfl rfl (fun w hw => keys_Text_ok _ _ ht2 w) ?_
  refine at_val rfl rfl rfl (r_assign rfl) ?_
  refine at_nil ?_
  refine at_weak [(1, _), (3, _)] ⟨rfl, rfl, trivial⟩ ?_
  refine at_then_normal ?_
  refine at_seq ?_
  refine at_region ?_
  refine at_val rfl rfl rfl (r_load_aggc (c := (cVec (cInt .u8) 32 (by decide))) (z := x0) Try.isAgg73 Try.sizeOf73 rfl (lens_cell .z (Lens.whole _ _))) ?_
  obtain ⟨t3, ht3, hF⟩ := of_bindM hF
  refine at_callB Try.func40 rfl (by kernel_rfl) rfl rfl (fun w hw => keys_Hex_ok _ _ ht3 w) ?_
  refine at_val rfl rfl rfl (r_assign rfl) ?_
  refine at_nil ?_
  refine at_weak [(1, _), (3, _), (4, _)] ⟨rfl, rfl, rfl, trivial⟩ ?_
  refine at_then_normal ?_
  refine at_seq ?_
  refine at_region ?_
  refine at_val rfl rfl rfl (r_move rfl) ?_
  obtain ⟨t4, ht4, hF⟩ := of_bindM hF
  refine at_callB Try.func41 rfl (by kernel_rfl) rfl rfl (fun w hw => keys_Parse_ok _ _ ht4 w) ?_
  refine at_val rfl rfl rfl (r_move rfl) ?_
  refine at_val rfl rfl rfl (r_extract rfl rfl) ?_
  refine at_val rfl rfl rfl (r_extract rfl rfl) ?_
  refine at_alloc (cs := Cd.cs (cVec (cInt .u8) 32 (by decide)) (Vector.replicate 32 (0 : Int) : (Vector Int 32))) Try.zeroValue73 rfl rfl ?_
  intro b5
  refine at_store (c := (cVec (cInt .u8) 32 (by decide))) (z := t4.1) .z (Lens.whole _ _) Try.sizeOf73 rfl rfl rfl ?_
  refine at_val rfl rfl rfl (r_assign rfl) ?_
  refine at_nil ?_
  refine at_weak [(1, _), (3, _), (4, _), (5, _), (6, _)] ⟨rfl, rfl, rfl, rfl, rfl, trivial⟩ ?_
  refine at_then_normal ?_
  refine at_seq ?_
  refine at_region ?_
  refine at_val rfl rfl rfl (r_move rfl) ?_
  obtain ⟨t6, ht6, hF⟩ := of_bindM hF
  refine at_callB Try.func42 rfl (by kernel_rfl) rfl rfl (fun w hw => keys_ParseHex_ok _ _ ht6 w) ?_
  refine at_val rfl rfl rfl (r_move rfl) ?_
  refine at_val rfl rfl rfl (r_extract rfl rfl) ?_
  refine at_val rfl rfl rfl (r_extract rfl rfl) ?_
  refine at_alloc (cs := Cd.cs (cVec (cInt .u8) 32 (by decide)) (Vector.replicate 32 (0 : Int) : (Vector Int 32))) Try.zeroValue73 rfl rfl ?_
  intro b7
  refine at_store (c := (cVec (cInt .u8) 32 (by decide))) (z := t6.1) .z (Lens.whole _ _) Try.sizeOf73 rfl rfl rfl ?_
  refine at_val rfl rfl rfl (r_assign rfl) ?_
  refine at_nil ?_
  refine at_weak [(1, _), (3, _), (4, _), (5, _), (6, _), (7, _), (8, _)] ⟨rfl, rfl, rfl, rfl, rfl, rfl, rfl, trivial⟩ ?_
  refine at_then_normal ?_
  refine at_seq ?_
  refine at_region ?_
  refine at_val rfl rfl rfl (r_move rfl) ?_
  refine at_val rfl rfl rfl (r_load_aggc (c := (cVec (cInt .u8) 32 (by decide))) (z := x0) Try.isAgg73 Try.sizeOf73 rfl (lens_cell (.s (.s .z)) (Lens.whole _ _))) ?_
  obtain ⟨t8, ht8, hF⟩ := of_bindM hF
  refine at_callO (c := (cInt .u8)) (e := 5) (ys := t8) (V := fun p cap => .slice p t8.length cap) Try.func44 rfl (by kernel_rfl) rfl rfl (fun w hw => crawlwayref07_Bytes_ok _ _ ht8 w) ?_
  intro p9 c10
  obtain ⟨t11, ht11, hF⟩ := of_bindM hF
  refine at_callB Try.func43 rfl (by kernel_rfl) rfl rfl (fun w hw => callB_of_call0 (crawlwayref04_Encode_ok _ _ _ _ ht11 w (hw.own .z).row)) ?_
  refine at_val rfl rfl rfl (r_seql rfl rfl) ?_
  refine at_val rfl rfl rfl (r_move rfl) ?_
  rcases of_ite hF with ⟨h12, hF⟩ | ⟨h12, hF⟩
  · refine at_fix (g := 28) rfl h12 ?_
    refine at_guard_yes rfl rfl rfl ?_
    refine at_val rfl rfl rfl (r_move rfl) ?_
    refine at_guard_yes rfl rfl rfl ?_
    refine at_val rfl rfl rfl (r_load_aggc (c := (cVec (cInt .u8) 32 (by decide))) (z := x0) Try.isAgg73 Try.sizeOf73 rfl (lens_cell (.s (.s (.s .z))) (Lens.whole _ _))) ?_
    refine at_guard_yes rfl rfl rfl ?_
    obtain ⟨t13, ht13, hF⟩ := of_bindM hF
    refine at_callO (c := (cInt .u8)) (e := 5) (ys := t13) (V := fun p cap => .slice p t13.length cap) Try.func44 rfl (by kernel_rfl) rfl rfl (fun w hw => crawlwayref07_Bytes_ok _ _ ht13 w) ?_
    intro p14 c15
    refine at_guard_yes rfl rfl rfl ?_
    obtain ⟨t16, ht16, hF⟩ := of_bindM hF
    refine at_callB Try.func45 rfl (by kernel_rfl) rfl rfl (fun w hw => crawlwayref05_Encode_ok _ _ _ _ ht16 w (hw.own .z).row) ?_
    refine at_guard_yes rfl rfl rfl ?_
    refine at_val rfl rfl rfl (r_seql rfl rfl) ?_
    refine at_val rfl rfl rfl (r_pick rfl rfl rfl) ?_
    refine at_val rfl rfl rfl (r_move rfl) ?_
    rcases of_ite hF with ⟨h17, hF⟩ | ⟨h17, hF⟩
    · refine at_fix (g := 35) rfl h17 ?_
      refine at_guard_yes rfl rfl rfl ?_
      refine at_val rfl rfl rfl (r_load_aggc (c := (cVec (cInt .u8) 32 (by decide))) (z := t4.1) Try.isAgg73 Try.sizeOf73 rfl (lens_cell (.s (.s (.s .z))) (Lens.whole _ _))) ?_
      refine at_guard_yes rfl rfl rfl ?_
      refine at_val rfl rfl rfl (r_load_aggc (c := (cVec (cInt .u8) 32 (by decide))) (z := x0) Try.isAgg73 Try.sizeOf73 rfl (lens_cell (.s (.s (.s (.s .z)))) (Lens.whole _ _))) ?_
      refine at_guard_yes rfl rfl rfl ?_
      refine at_val rfl rfl rfl (r_eqagg (c := (cVec (cInt .u8) 32 (by decide))) (a := t4.1) (b := x0) (eqs_vec Try.underlying73 infoT5 Try.sizeOf5 Try.isAgg5 (.inr rfl) (eqs_int Try.underlying5)) rfl Try.eqGuardType73 rfl rfl (.inl rfl) rfl) ?_
      refine at_val rfl rfl rfl (r_pick rfl rfl rfl) ?_
      refine at_val rfl rfl rfl (r_move rfl) ?_
      rcases of_ite hF with ⟨h18, hF⟩ | ⟨h18, hF⟩
      · refine at_fix (g := 40) rfl h18 ?_
        refine at_guard_yes rfl rfl rfl ?_
        refine at_val rfl rfl rfl (r_load_aggc (c := (cVec (cInt .u8) 32 (by decide))) (z := t6.1) Try.isAgg73 Try.sizeOf73 rfl (lens_cell (.s (.s .z)) (Lens.whole _ _))) ?_
        refine at_guard_yes rfl rfl rfl ?_
        refine at_val rfl rfl rfl (r_load_aggc (c := (cVec (cInt .u8) 32 (by decide))) (z := x0) Try.isAgg73 Try.sizeOf73 rfl (lens_cell (.s (.s (.s (.s .z)))) (Lens.whole _ _))) ?_
        refine at_guard_yes rfl rfl rfl ?_
        refine at_val rfl rfl rfl (r_eqagg (c := (cVec (cInt .u8) 32 (by decide))) (a := t6.1) (b := x0) (eqs_vec Try.underlying73 infoT5 Try.sizeOf5 Try.isAgg5 (.inr rfl) (eqs_int Try.underlying5)) rfl Try.eqGuardType73 rfl rfl (.inl rfl) rfl) ?_
        refine at_val rfl rfl rfl (r_pick rfl rfl rfl) ?_
        refine at_val rfl rfl rfl (r_move rfl) ?_
        rcases of_ite hF with ⟨h19, hF⟩ | ⟨h19, hF⟩
        · refine at_fix (g := 45) rfl h19 ?_
          refine at_guard_yes rfl rfl rfl ?_
          refine at_val rfl rfl rfl (r_move rfl) ?_
          refine at_guard_yes rfl rfl rfl ?_
          refine at_val rfl rfl rfl (r_ieql rfl rfl) ?_
          refine at_val rfl rfl rfl (r_pick rfl rfl rfl) ?_
          refine at_val rfl rfl rfl (r_move rfl) ?_
          rcases of_ite hF with ⟨h20, hF⟩ | ⟨h20, hF⟩
          · refine at_fix (g := 49) rfl h20 ?_
            refine at_guard_yes rfl rfl rfl ?_
            refine at_val rfl rfl rfl (r_move rfl) ?_
            refine at_guard_yes rfl rfl rfl ?_
            refine at_val rfl rfl rfl (r_ieql rfl rfl) ?_
            refine at_val rfl rfl rfl (r_pick rfl rfl rfl) ?_
            refine at_val rfl rfl rfl (r_move rfl) ?_
            rcases of_ite hF with ⟨h21, hF⟩ | ⟨h21, hF⟩
            · refine at_fix (g := 53) rfl h21 ?_
              refine at_guard_yes rfl rfl rfl ?_
              obtain ⟨t22, ht22, hF⟩ := of_bindM hF
              refine at_callB Try.func46 rfl (by kernel_rfl) rfl rfl (fun w hw => crawlwaylaw07_alive_ok  _ ht22 w) ?_
              refine at_val rfl rfl rfl (r_pick rfl rfl rfl) ?_
              refine at_val rfl rfl rfl (r_assign rfl) ?_
              refine at_nil ?_
              refine at_drop (H := _) .z ?_
              refine at_drop (H := _) .z ?_
              refine at_drop (H := _) .z ?_
              refine at_drop (H := _) .z ?_
              refine at_drop (H := _) .z ?_
              refine at_weak [(2, _)] ⟨rfl, trivial⟩ ?_
              refine at_then_normal ?_
              refine at_ret ?_
              have K := of_some hF
              subst K
              exact at_return1 rfl rfl (fun w1 hw => ⟨rfl, hw.below⟩)
            · refine at_fix (g := 53) rfl h21 ?_
              refine at_guard_no rfl rfl rfl rfl rfl ?_
              refine at_val rfl rfl rfl (r_pick rfl rfl rfl) ?_
              refine at_val rfl rfl rfl (r_assign rfl) ?_
              refine at_nil ?_
              refine at_drop (H := _) .z ?_
              refine at_drop (H := _) .z ?_
              refine at_drop (H := _) .z ?_
              refine at_drop (H := _) .z ?_
              refine at_drop (H := _) .z ?_
              refine at_weak [(2, _)] ⟨rfl, trivial⟩ ?_
              refine at_then_normal ?_
              refine at_ret ?_
              have K := of_some hF
              subst K
              exact at_return1 rfl rfl (fun w1 hw => ⟨rfl, hw.below⟩)
          · refine at_fix (g := 49) rfl h20 ?_
            refine at_guard_no rfl rfl rfl rfl rfl ?_
            refine at_guard_no rfl rfl rfl rfl rfl ?_
            refine at_val rfl rfl rfl (r_pick rfl rfl rfl) ?_
            refine at_val rfl rfl rfl (r_move rfl) ?_
            refine at_guard_no rfl rfl rfl rfl rfl ?_
            refine at_val rfl rfl rfl (r_pick rfl rfl rfl) ?_
            refine at_val rfl rfl rfl (r_assign rfl) ?_
            refine at_nil ?_
            refine at_drop (H := _) .z ?_
            refine at_drop (H := _) .z ?_
            refine at_drop (H := _) .z ?_
            refine at_drop (H := _) .z ?_
            refine at_drop (H := _) .z ?_
            refine at_weak [(2, _)] ⟨rfl, trivial⟩ ?_
            refine at_then_normal ?_
            refine at_ret ?_
            have K := of_some hF
            subst K
            exact at_return1 rfl rfl (fun w1 hw => ⟨rfl, hw.below⟩)
        · refine at_fix (g := 45) rfl h19 ?_
          refine at_guard_no rfl rfl rfl rfl rfl ?_
          refine at_guard_no rfl rfl rfl rfl rfl ?_
          refine at_val rfl rfl rfl (r_pick rfl rfl rfl) ?_
          refine at_val rfl rfl rfl (r_move rfl) ?_
          refine at_guard_no rfl rfl rfl rfl rfl ?_
          refine at_guard_no rfl rfl rfl rfl rfl ?_
          refine at_val rfl rfl rfl (r_pick rfl rfl rfl) ?_
          refine at_val rfl rfl rfl (r_move rfl) ?_
          refine at_guard_no rfl rfl rfl rfl rfl ?_
          refine at_val rfl rfl rfl (r_pick rfl rfl rfl) ?_
          refine at_val rfl rfl rfl (r_assign rfl) ?_
          refine at_nil ?_
          refine at_drop (H := _) .z ?_
          refine at_drop (H := _) .z ?_
          refine at_drop (H := _) .z ?_
          refine at_drop (H := _) .z ?_
          refine at_drop (H := _) .z ?_
          refine at_weak [(2, _)] ⟨rfl, trivial⟩ ?_
          refine at_then_normal ?_
          refine at_ret ?_
          have K := of_some hF
          subst K
          exact at_return1 rfl rfl (fun w1 hw => ⟨rfl, hw.below⟩)
      · refine at_fix (g := 40) rfl h18 ?_
        refine at_guard_no rfl rfl rfl rfl rfl ?_
        refine at_guard_no rfl rfl rfl rfl rfl ?_
        refine at_guard_no rfl rfl rfl rfl rfl ?_
        refine at_val rfl rfl rfl (r_pick rfl rfl rfl) ?_
        refine at_val rfl rfl rfl (r_move rfl) ?_
        refine at_guard_no rfl rfl rfl rfl rfl ?_
        refine at_guard_no rfl rfl rfl rfl rfl ?_
        refine at_val rfl rfl rfl (r_pick rfl rfl rfl) ?_
        refine at_val rfl rfl rfl (r_move rfl) ?_
        refine at_guard_no rfl rfl rfl rfl rfl ?_
        refine at_guard_no rfl rfl rfl rfl rfl ?_
        refine at_val rfl rfl rfl (r_pick rfl rfl rfl) ?_
        refine at_val rfl rfl rfl (r_move rfl) ?_
        refine at_guard_no rfl rfl rfl rfl rfl ?_
        refine at_val rfl rfl rfl (r_pick rfl rfl rfl) ?_
        refine at_val rfl rfl rfl (r_assign rfl) ?_
        refine at_nil ?_
        refine at_drop (H := _) .z ?_
        refine at_drop (H := _) .z ?_
        refine at_drop (H := _) .z ?_
        refine at_drop (H := _) .z ?_
        refine at_drop (H := _) .z ?_
        refine at_weak [(2, _)] ⟨rfl, trivial⟩ ?_
        refine at_then_normal ?_
        refine at_ret ?_
        have K := of_some hF
        subst K
        exact at_return1 rfl rfl (fun w1 hw => ⟨rfl, hw.below⟩)
    · refine at_fix (g := 35) rfl h17 ?_
      refine at_guard_no rfl rfl rfl rfl rfl ?_
      refine at_guard_no rfl rfl rfl rfl rfl ?_
      refine at_guard_no rfl rfl rfl rfl rfl ?_
      refine at_val rfl rfl rfl (r_pick rfl rfl rfl) ?_
      refine at_val rfl rfl rfl (r_move rfl) ?_
      refine at_guard_no rfl rfl rfl rfl rfl ?_
      refine at_guard_no rfl rfl rfl rfl rfl ?_
      refine at_guard_no rfl rfl rfl rfl rfl ?_
      refine at_val rfl rfl rfl (r_pick rfl rfl rfl) ?_
      refine at_val rfl rfl rfl (r_move rfl) ?_
      refine at_guard_no rfl rfl rfl rfl rfl ?_
      refine at_guard_no rfl rfl rfl rfl rfl ?_
      refine at_val rfl rfl rfl (r_pick rfl rfl rfl) ?_
      refine at_val rfl rfl rfl (r_move rfl) ?_
      refine at_guard_no rfl rfl rfl rfl rfl ?_
      refine at_guard_no rfl rfl rfl rfl rfl ?_
      refine at_val rfl rfl rfl (r_pick rfl rfl rfl) ?_
      refine at_val rfl rfl rfl (r_move rfl) ?_
      refine at_guard_no rfl rfl rfl rfl rfl ?_
      refine at_val rfl rfl rfl (r_pick rfl rfl rfl) ?_
      refine at_val rfl rfl rfl (r_assign rfl) ?_
      refine at_nil ?_
      refine at_drop (H := _) .z ?_
      refine at_drop (H := _) .z ?_
      refine at_drop (H := _) .z ?_
      refine at_drop (H := _) .z ?_
      refine at_drop (H := _) .z ?_
      refine at_weak [(2, _)] ⟨rfl, trivial⟩ ?_
      refine at_then_normal ?_
      refine at_ret ?_
      have K := of_some hF
      subst K
      exact at_return1 rfl rfl (fun w1 hw => ⟨rfl, hw.below⟩)
  · refine at_fix (g := 28) rfl h12 ?_
    refine at_guard_no rfl rfl rfl rfl rfl ?_
    refine at_guard_no rfl rfl rfl rfl rfl ?_
    refine at_guard_no rfl rfl rfl rfl rfl ?_
    refine at_guard_no rfl rfl rfl rfl rfl ?_
    refine at_guard_no rfl rfl rfl rfl rfl ?_
    refine at_val rfl rfl rfl (r_pick rfl rfl rfl) ?_
    refine at_val rfl rfl rfl (r_move rfl) ?_
    refine at_guard_no rfl rfl rfl rfl rfl ?_
    refine at_guard_no rfl rfl rfl rfl rfl ?_
    refine at_guard_no rfl rfl rfl rfl rfl ?_
    refine at_val rfl rfl rfl (r_pick rfl rfl rfl) ?_
    refine at_val rfl rfl rfl (r_move rfl) ?_
    refine at_guard_no rfl rfl rfl rfl rfl ?_
    refine at_guard_no rfl rfl rfl rfl rfl ?_
    refine at_guard_no rfl rfl rfl rfl rfl ?_
    refine at_val rfl rfl rfl (r_pick rfl rfl rfl) ?_
    refine at_val rfl rfl rfl (r_move rfl) ?_
    refine at_guard_no rfl rfl rfl rfl rfl ?_
    refine at_guard_no rfl rfl rfl rfl rfl ?_
    refine at_val rfl rfl rfl (r_pick rfl rfl rfl) ?_
    refine at_val rfl rfl rfl (r_move rfl) ?_
    refine at_guard_no rfl rfl rfl rfl rfl ?_
    refine at_guard_no rfl rfl rfl rfl rfl ?_
    refine at_val rfl rfl rfl (r_pick rfl rfl rfl) ?_
    refine at_val rfl rfl rfl (r_move rfl) ?_
    refine at_guard_no rfl rfl rfl rfl rfl ?_
    refine at_val rfl rfl rfl (r_pick rfl rfl rfl) ?_
    refine at_val rfl rfl rfl (r_assign rfl) ?_
    refine at_nil ?_
    refine at_drop (H := _) .z ?_
    refine at_drop (H := _) .z ?_
    refine at_drop (H := _) .z ?_
    refine at_drop (H := _) .z ?_
    refine at_weak [(2, _)] ⟨rfl, trivial⟩ ?_
    refine at_then_normal ?_
    refine at_ret ?_
    have K := of_some hF
    subst K
    exact at_return1 rfl rfl (fun w1 hw => ⟨rfl, hw.below⟩)

def crawlwaylaw07_KeysReads (x0 : ByteArray) : Option (Bool) :=
  if (decide ((x0.size : Int) > 200)) = true then (crawlwaylaw07_alive >>= fun t2 => some t2) else (keys_Parse x0 >>= fun t3 => keys_ParseHex x0 >>= fun t5 => crawlwayref07_Parse x0 >>= fun t7 => crawlwayref07_ParseHex x0 >>= fun t9 => if (!decide (t3.1 = t7.1)) = true then (some false) else (if (!decide (t5.1 = t9.1)) = true then (some false) else (if (t3.2 != t7.2) = true then (some false) else (if (t5.2 != t9.2) = true then (some false) else (if (t7.2 != 0) = true then (if (t9.2 != 0) = true then (crawlwaylaw07_alive >>= fun t17 => some t17) else (keys_Hex t5.1 >>= fun t18 => if (seq t18 x0) = true then (crawlwaylaw07_alive >>= fun t20 => some t20) else (some false))) else (keys_Text t3.1 >>= fun t21 => if (seq t21 x0) = true then (if (t9.2 != 0) = true then (crawlwaylaw07_alive >>= fun t24 => some t24) else (keys_Hex t5.1 >>= fun t25 => if (seq t25 x0) = true then (crawlwaylaw07_alive >>= fun t27 => some t27) else (some false))) else (some false)))))))
theorem crawlwaylaw07_KeysReads_ok (x0 : ByteArray) (r : Bool) (hF : crawlwaylaw07_KeysReads x0 = some r) (w : World) :
    Calls Try.prog 9 #[.string x0] w (fun e w' => e = .returned (.bool r) ∧ Below w.heap.size w w') := by
  unfold crawlwaylaw07_KeysReads at hF
  refine calls_enter (l := [.string x0]) Try.func9 rfl rfl rfl ?_
  refine at_start ?_
  refine at_weak [(0, _)] ⟨rfl, trivial⟩ ?_
  refine at_seq ?_
  refine at_region ?_
  refine at_val rfl rfl rfl (r_assign rfl) ?_
  refine at_nil ?_
  refine at_weak [(0, _)] ⟨rfl, trivial⟩ ?_
  refine at_then_normal ?_
  refine at_seq ?_
  refine at_seq ?_
  refine at_region ?_
  refine at_val rfl rfl rfl (r_move rfl) ?_
  refine at_val rfl rfl rfl (r_len_str Try.underlying9 rfl) ?_
  refine at_val rfl rfl rfl (r_igtr rfl rfl) ?_
  refine at_nil ?_
  refine at_weak [(0, _), (13, _)] ⟨rfl, rfl, trivial⟩ ?_
  refine at_then_normal ?_
  rcases of_ite hF with ⟨h1, hF⟩ | ⟨h1, hF⟩
  · refine at_cond_true rfl h1 ?_
    refine at_seq ?_
    refine at_region ?_
    obtain ⟨t2, ht2, hF⟩ := of_bindM hF
    refine at_callB Try.func46 rfl (by kernel_rfl) rfl rfl (fun w hw => crawlwaylaw07_alive_ok  _ ht2 w) ?_
    refine at_val rfl rfl rfl (r_assign rfl) ?_
    refine at_nil ?_
    refine at_weak [(2, _)] ⟨rfl, trivial⟩ ?_
    refine at_then_normal ?_
    refine at_ret ?_
    refine at_then_ret ?_
    have K := of_some hF
    subst K
    exact at_return1 rfl rfl (fun w1 hw => ⟨rfl, hw.below⟩)
  · refine at_cond_false rfl h1 ?_
    refine at_skip ?_
    refine at_then_normal ?_
    refine at_seq ?_
    refine at_region ?_
    refine at_val rfl rfl rfl (r_move rfl) ?_
    obtain ⟨t3, ht3, hF⟩ := of_bindM hF
    refine at_callB Try.func41 rfl (by kernel_rfl) rfl rfl (fun w hw => keys_Parse_ok _ _ ht3 w) ?_
    refine at_val rfl rfl rfl (r_move rfl) ?_
    refine at_val rfl rfl rfl (r_extract rfl rfl) ?_
    refine at_val rfl rfl rfl (r_extract rfl rfl) ?_
    refine at_alloc (cs := Cd.cs (cVec (cInt .u8) 32 (by decide)) (Vector.replicate 32 (0 : Int) : (Vector Int 32))) Try.zeroValue73 rfl rfl ?_
    intro b4
    refine at_store (c := (cVec (cInt .u8) 32 (by decide))) (z := t3.1) .z (Lens.whole _ _) Try.sizeOf73 rfl rfl rfl ?_
    refine at_val rfl rfl rfl (r_assign rfl) ?_
    refine at_nil ?_
    refine at_weak [(0, _), (3, _), (4, _)] ⟨rfl, rfl, rfl, trivial⟩ ?_
    refine at_then_normal ?_
    refine at_seq ?_
    refine at_region ?_
    refine at_val rfl rfl rfl (r_move rfl) ?_
    obtain ⟨t5, ht5, hF⟩ := of_bindM hF
    refine at_callB Try.func42 rfl (by kernel_rfl) rfl rfl (fun w hw => keys_ParseHex_ok _ _ ht5 w) ?_
    refine at_val rfl rfl rfl (r_move rfl) ?_
    refine at_val rfl rfl rfl (r_extract rfl rfl) ?_
    refine at_val rfl rfl rfl (r_extract rfl rfl) ?_
    refine at_alloc (cs := Cd.cs (cVec (cInt .u8) 32 (by decide)) (Vector.replicate 32 (0 : Int) : (Vector Int 32))) Try.zeroValue73 rfl rfl ?_
    intro b6
    refine at_store (c := (cVec (cInt .u8) 32 (by decide))) (z := t5.1) .z (Lens.whole _ _) Try.sizeOf73 rfl rfl rfl ?_
    refine at_val rfl rfl rfl (r_assign rfl) ?_
    refine at_nil ?_
    refine at_weak [(0, _), (3, _), (4, _), (5, _), (6, _)] ⟨rfl, rfl, rfl, rfl, rfl, trivial⟩ ?_
    refine at_then_normal ?_
    refine at_seq ?_
    refine at_region ?_
    refine at_val rfl rfl rfl (r_move rfl) ?_
    obtain ⟨t7, ht7, hF⟩ := of_bindM hF
    refine at_callB Try.func47 rfl (by kernel_rfl) rfl rfl (fun w hw => crawlwayref07_Parse_ok _ _ ht7 w) ?_
    refine at_val rfl rfl rfl (r_move rfl) ?_
    refine at_val rfl rfl rfl (r_extract rfl rfl) ?_
    refine at_val rfl rfl rfl (r_extract rfl rfl) ?_
    refine at_alloc (cs := Cd.cs (cVec (cInt .u8) 32 (by decide)) (Vector.replicate 32 (0 : Int) : (Vector Int 32))) Try.zeroValue73 rfl rfl ?_
    intro b8
    refine at_store (c := (cVec (cInt .u8) 32 (by decide))) (z := t7.1) .z (Lens.whole _ _) Try.sizeOf73 rfl rfl rfl ?_
    refine at_val rfl rfl rfl (r_assign rfl) ?_
    refine at_nil ?_
    refine at_weak [(0, _), (3, _), (4, _), (5, _), (6, _), (7, _), (8, _)] ⟨rfl, rfl, rfl, rfl, rfl, rfl, rfl, trivial⟩ ?_
    refine at_then_normal ?_
    refine at_seq ?_
    refine at_region ?_
    refine at_val rfl rfl rfl (r_move rfl) ?_
    obtain ⟨t9, ht9, hF⟩ := of_bindM hF
    refine at_callB Try.func48 rfl (by kernel_rfl) rfl rfl (fun w hw => crawlwayref07_ParseHex_ok _ _ ht9 w) ?_
    refine at_val rfl rfl rfl (r_move rfl) ?_
    refine at_val rfl rfl rfl (r_extract rfl rfl) ?_
    refine at_val rfl rfl rfl (r_extract rfl rfl) ?_
    refine at_alloc (cs := Cd.cs (cVec (cInt .u8) 32 (by decide)) (Vector.replicate 32 (0 : Int) : (Vector Int 32))) Try.zeroValue73 rfl rfl ?_
    intro b10
    refine at_store (c := (cVec (cInt .u8) 32 (by decide))) (z := t9.1) .z (Lens.whole _ _) Try.sizeOf73 rfl rfl rfl ?_
    refine at_val rfl rfl rfl (r_assign rfl) ?_
    refine at_nil ?_
    refine at_weak [(0, _), (3, _), (4, _), (5, _), (6, _), (7, _), (8, _), (9, _), (10, _)] ⟨rfl, rfl, rfl, rfl, rfl, rfl, rfl, rfl, rfl, trivial⟩ ?_
    refine at_then_normal ?_
    refine at_seq ?_
    refine at_seq ?_
    refine at_region ?_
    refine at_val rfl rfl rfl (r_load_aggc (c := (cVec (cInt .u8) 32 (by decide))) (z := t3.1) Try.isAgg73 Try.sizeOf73 rfl (lens_cell (.s (.s (.s .z))) (Lens.whole _ _))) ?_
    refine at_val rfl rfl rfl (r_load_aggc (c := (cVec (cInt .u8) 32 (by decide))) (z := t7.1) Try.isAgg73 Try.sizeOf73 rfl (lens_cell (.s .z) (Lens.whole _ _))) ?_
    refine at_val rfl rfl rfl (r_eqagg (c := (cVec (cInt .u8) 32 (by decide))) (a := t3.1) (b := t7.1) (eqs_vec Try.underlying73 infoT5 Try.sizeOf5 Try.isAgg5 (.inr rfl) (eqs_int Try.underlying5)) rfl Try.eqGuardType73 rfl rfl (.inr rfl) rfl) ?_
    refine at_val rfl rfl rfl (r_move rfl) ?_
    rcases of_ite hF with ⟨h11, hF⟩ | ⟨h11, hF⟩
    · refine at_fix (g := 38) rfl h11 ?_
      refine at_guard_no rfl rfl rfl rfl rfl ?_
      refine at_guard_no rfl rfl rfl rfl rfl ?_
      refine at_guard_no rfl rfl rfl rfl rfl ?_
      refine at_val rfl rfl rfl (r_pick rfl rfl rfl) ?_
      refine at_val rfl rfl rfl (r_move rfl) ?_
      refine at_guard_no rfl rfl rfl rfl rfl ?_
      refine at_guard_no rfl rfl rfl rfl rfl ?_
      refine at_guard_no rfl rfl rfl rfl rfl ?_
      refine at_val rfl rfl rfl (r_pick rfl rfl rfl) ?_
      refine at_val rfl rfl rfl (r_move rfl) ?_
      refine at_guard_no rfl rfl rfl rfl rfl ?_
      refine at_guard_no rfl rfl rfl rfl rfl ?_
      refine at_guard_no rfl rfl rfl rfl rfl ?_
      refine at_val rfl rfl rfl (r_pick rfl rfl rfl) ?_
      refine at_nil ?_
      refine at_drop (H := _) .z ?_
      refine at_drop (H := _) .z ?_
      refine at_weak [(0, _), (3, _), (5, _), (8, _), (10, _), (52, _)] ⟨rfl, rfl, rfl, rfl, rfl, rfl, trivial⟩ ?_
      refine at_then_normal ?_
      refine at_cond_true rfl rfl ?_
      refine at_seq ?_
      refine at_region ?_
      refine at_val rfl rfl rfl (r_assign rfl) ?_
      refine at_nil ?_
      refine at_drop (H := _) .z ?_
      refine at_drop (H := _) .z ?_
      refine at_weak [(2, _)] ⟨rfl, trivial⟩ ?_
      refine at_then_normal ?_
      refine at_ret ?_
      refine at_then_ret ?_
      have K := of_some hF
      subst K
      exact at_return1 rfl rfl (fun w1 hw => ⟨rfl, hw.below⟩)
    · refine at_fix (g := 38) rfl h11 ?_
      refine at_guard_yes rfl rfl rfl ?_
      refine at_val rfl rfl rfl (r_load_aggc (c := (cVec (cInt .u8) 32 (by decide))) (z := t5.1) Try.isAgg73 Try.sizeOf73 rfl (lens_cell (.s (.s .z)) (Lens.whole _ _))) ?_
      refine at_guard_yes rfl rfl rfl ?_
      refine at_val rfl rfl rfl (r_load_aggc (c := (cVec (cInt .u8) 32 (by decide))) (z := t9.1) Try.isAgg73 Try.sizeOf73 rfl (lens_cell .z (Lens.whole _ _))) ?_
      refine at_guard_yes rfl rfl rfl ?_
      refine at_val rfl rfl rfl (r_eqagg (c := (cVec (cInt .u8) 32 (by decide))) (a := t5.1) (b := t9.1) (eqs_vec Try.underlying73 infoT5 Try.sizeOf5 Try.isAgg5 (.inr rfl) (eqs_int Try.underlying5)) rfl Try.eqGuardType73 rfl rfl (.inr rfl) rfl) ?_
      refine at_val rfl rfl rfl (r_pick rfl rfl rfl) ?_
      refine at_val rfl rfl rfl (r_move rfl) ?_
      rcases of_ite hF with ⟨h12, hF⟩ | ⟨h12, hF⟩
      · refine at_fix (g := 43) rfl h12 ?_
        refine at_guard_no rfl rfl rfl rfl rfl ?_
        refine at_guard_no rfl rfl rfl rfl rfl ?_
        refine at_guard_no rfl rfl rfl rfl rfl ?_
        refine at_val rfl rfl rfl (r_pick rfl rfl rfl) ?_
        refine at_val rfl rfl rfl (r_move rfl) ?_
        refine at_guard_no rfl rfl rfl rfl rfl ?_
        refine at_guard_no rfl rfl rfl rfl rfl ?_
        refine at_guard_no rfl rfl rfl rfl rfl ?_
        refine at_val rfl rfl rfl (r_pick rfl rfl rfl) ?_
        refine at_nil ?_
        refine at_drop (H := _) .z ?_
        refine at_drop (H := _) .z ?_
        refine at_weak [(0, _), (3, _), (5, _), (8, _), (10, _), (52, _)] ⟨rfl, rfl, rfl, rfl, rfl, rfl, trivial⟩ ?_
        refine at_then_normal ?_
        refine at_cond_true rfl rfl ?_
        refine at_seq ?_
        refine at_region ?_
        refine at_val rfl rfl rfl (r_assign rfl) ?_
        refine at_nil ?_
        refine at_drop (H := _) .z ?_
        refine at_drop (H := _) .z ?_
        refine at_weak [(2, _)] ⟨rfl, trivial⟩ ?_
        refine at_then_normal ?_
        refine at_ret ?_
        refine at_then_ret ?_
        have K := of_some hF
        subst K
        exact at_return1 rfl rfl (fun w1 hw => ⟨rfl, hw.below⟩)
      · refine at_fix (g := 43) rfl h12 ?_
        refine at_guard_yes rfl rfl rfl ?_
        refine at_val rfl rfl rfl (r_move rfl) ?_
        refine at_guard_yes rfl rfl rfl ?_
        refine at_val rfl rfl rfl (r_move rfl) ?_
        refine at_guard_yes rfl rfl rfl ?_
        refine at_val rfl rfl rfl (r_ineq rfl rfl) ?_
        refine at_val rfl rfl rfl (r_pick rfl rfl rfl) ?_
        refine at_val rfl rfl rfl (r_move rfl) ?_
        rcases of_ite hF with ⟨h13, hF⟩ | ⟨h13, hF⟩
        · refine at_fix (g := 48) rfl h13 ?_
          refine at_guard_no rfl rfl rfl rfl rfl ?_
          refine at_guard_no rfl rfl rfl rfl rfl ?_
          refine at_guard_no rfl rfl rfl rfl rfl ?_
          refine at_val rfl rfl rfl (r_pick rfl rfl rfl) ?_
          refine at_nil ?_
          refine at_drop (H := _) .z ?_
          refine at_drop (H := _) .z ?_
          refine at_weak [(0, _), (3, _), (5, _), (8, _), (10, _), (52, _)] ⟨rfl, rfl, rfl, rfl, rfl, rfl, trivial⟩ ?_
          refine at_then_normal ?_
          refine at_cond_true rfl rfl ?_
          refine at_seq ?_
          refine at_region ?_
          refine at_val rfl rfl rfl (r_assign rfl) ?_
          refine at_nil ?_
          refine at_drop (H := _) .z ?_
          refine at_drop (H := _) .z ?_
          refine at_weak [(2, _)] ⟨rfl, trivial⟩ ?_
          refine at_then_normal ?_
          refine at_ret ?_
          refine at_then_ret ?_
          have K := of_some hF
          subst K
          exact at_return1 rfl rfl (fun w1 hw => ⟨rfl, hw.below⟩)
        · refine at_fix (g := 48) rfl h13 ?_
          refine at_guard_yes rfl rfl rfl ?_
          refine at_val rfl rfl rfl (r_move rfl) ?_
          refine at_guard_yes rfl rfl rfl ?_
          refine at_val rfl rfl rfl (r_move rfl) ?_
          refine at_guard_yes rfl rfl rfl ?_
          refine at_val rfl rfl rfl (r_ineq rfl rfl) ?_
          refine at_val rfl rfl rfl (r_pick rfl rfl rfl) ?_
          refine at_nil ?_
          refine at_drop (H := _) .z ?_
          refine at_drop (H := _) .z ?_
          refine at_weak [(0, _), (3, _), (5, _), (8, _), (10, _), (52, _)] ⟨rfl, rfl, rfl, rfl, rfl, rfl, trivial⟩ ?_
          refine at_then_normal ?_
          rcases of_ite hF with ⟨h14, hF⟩ | ⟨h14, hF⟩
          · refine at_cond_true rfl h14 ?_
            refine at_seq ?_
            refine at_region ?_
            refine at_val rfl rfl rfl (r_assign rfl) ?_
            refine at_nil ?_
            refine at_drop (H := _) .z ?_
            refine at_drop (H := _) .z ?_
            refine at_weak [(2, _)] ⟨rfl, trivial⟩ ?_
            refine at_then_normal ?_
            refine at_ret ?_
            refine at_then_ret ?_
            have K := of_some hF
            subst K
            exact at_return1 rfl rfl (fun w1 hw => ⟨rfl, hw.below⟩)
          · refine at_cond_false rfl h14 ?_
            refine at_skip ?_
            refine at_then_normal ?_
            refine at_seq ?_
            refine at_region ?_
            refine at_val rfl rfl rfl (r_move rfl) ?_
            refine at_val rfl rfl rfl (r_ineq rfl rfl) ?_
            refine at_val rfl rfl rfl (r_move rfl) ?_
            rcases of_ite hF with ⟨h15, hF⟩ | ⟨h15, hF⟩
            · refine at_fix (g := 55) rfl h15 ?_
              refine at_guard_no rfl rfl rfl rfl rfl ?_
              refine at_guard_no rfl rfl rfl rfl rfl ?_
              refine at_guard_no rfl rfl rfl rfl rfl ?_
              refine at_guard_no rfl rfl rfl rfl rfl ?_
              refine at_val rfl rfl rfl (r_pick rfl rfl rfl) ?_
              refine at_val rfl rfl rfl (r_move rfl) ?_
              refine at_guard_yes rfl rfl rfl ?_
              refine at_val rfl rfl rfl (r_move rfl) ?_
              refine at_guard_yes rfl rfl rfl ?_
              refine at_val rfl rfl rfl (r_ineq rfl rfl) ?_
              refine at_guard_yes rfl rfl rfl ?_
              refine at_val rfl rfl rfl (r_move rfl) ?_
              rcases of_ite hF with ⟨h16, hF⟩ | ⟨h16, hF⟩
              · refine at_fix (g := 64) rfl h16 ?_
                refine at_guard_no rfl rfl rfl rfl rfl ?_
                refine at_guard_no rfl rfl rfl rfl rfl ?_
                refine at_guard_no rfl rfl rfl rfl rfl ?_
                refine at_guard_no rfl rfl rfl rfl rfl ?_
                refine at_guard_yes rfl rfl rfl ?_
                refine at_val rfl rfl rfl (r_pick rfl rfl rfl) ?_
                refine at_val rfl rfl rfl (r_pick rfl rfl rfl) ?_
                refine at_val rfl rfl rfl (r_move rfl) ?_
                refine at_guard_yes rfl rfl rfl ?_
                obtain ⟨t17, ht17, hF⟩ := of_bindM hF
                refine at_callB Try.func46 rfl (by kernel_rfl) rfl rfl (fun w hw => crawlwaylaw07_alive_ok  _ ht17 w) ?_
                refine at_val rfl rfl rfl (r_pick rfl rfl rfl) ?_
                refine at_val rfl rfl rfl (r_assign rfl) ?_
                refine at_nil ?_
                refine at_drop (H := _) .z ?_
                refine at_drop (H := _) .z ?_
                refine at_weak [(2, _)] ⟨rfl, trivial⟩ ?_
                refine at_then_normal ?_
                refine at_ret ?_
                have K := of_some hF
                subst K
                exact at_return1 rfl rfl (fun w1 hw => ⟨rfl, hw.below⟩)
              · refine at_fix (g := 64) rfl h16 ?_
                refine at_guard_yes rfl rfl rfl ?_
                refine at_val rfl rfl rfl (r_load_aggc (c := (cVec (cInt .u8) 32 (by decide))) (z := t5.1) Try.isAgg73 Try.sizeOf73 rfl (lens_cell .z (Lens.whole _ _))) ?_
                refine at_guard_yes rfl rfl rfl ?_
                obtain ⟨t18, ht18, hF⟩ := of_bindM hF
                refine at_callB Try.func40 rfl (by kernel_rfl) rfl rfl (fun w hw => keys_Hex_ok _ _ ht18 w) ?_
                refine at_guard_yes rfl rfl rfl ?_
                refine at_val rfl rfl rfl (r_move rfl) ?_
                refine at_guard_yes rfl rfl rfl ?_
                refine at_val rfl rfl rfl (r_seql rfl rfl) ?_
                refine at_guard_yes rfl rfl rfl ?_
                refine at_val rfl rfl rfl (r_pick rfl rfl rfl) ?_
                refine at_val rfl rfl rfl (r_pick rfl rfl rfl) ?_
                refine at_val rfl rfl rfl (r_move rfl) ?_
                rcases of_ite hF with ⟨h19, hF⟩ | ⟨h19, hF⟩
                · refine at_fix (g := 71) rfl h19 ?_
                  refine at_guard_yes rfl rfl rfl ?_
                  obtain ⟨t20, ht20, hF⟩ := of_bindM hF
                  refine at_callB Try.func46 rfl (by kernel_rfl) rfl rfl (fun w hw => crawlwaylaw07_alive_ok  _ ht20 w) ?_
                  refine at_val rfl rfl rfl (r_pick rfl rfl rfl) ?_
                  refine at_val rfl rfl rfl (r_assign rfl) ?_
                  refine at_nil ?_
                  refine at_drop (H := _) .z ?_
                  refine at_drop (H := _) .z ?_
                  refine at_weak [(2, _)] ⟨rfl, trivial⟩ ?_
                  refine at_then_normal ?_
                  refine at_ret ?_
                  have K := of_some hF
                  subst K
                  exact at_return1 rfl rfl (fun w1 hw => ⟨rfl, hw.below⟩)
                · refine at_fix (g := 71) rfl h19 ?_
                  refine at_guard_no rfl rfl rfl rfl rfl ?_
                  refine at_val rfl rfl rfl (r_pick rfl rfl rfl) ?_
                  refine at_val rfl rfl rfl (r_assign rfl) ?_
                  refine at_nil ?_
                  refine at_drop (H := _) .z ?_
                  refine at_drop (H := _) .z ?_
                  refine at_weak [(2, _)] ⟨rfl, trivial⟩ ?_
                  refine at_then_normal ?_
                  refine at_ret ?_
                  have K := of_some hF
                  subst K
                  exact at_return1 rfl rfl (fun w1 hw => ⟨rfl, hw.below⟩)
            · refine at_fix (g := 55) rfl h15 ?_
              refine at_guard_yes rfl rfl rfl ?_
              refine at_val rfl rfl rfl (r_load_aggc (c := (cVec (cInt .u8) 32 (by decide))) (z := t3.1) Try.isAgg73 Try.sizeOf73 rfl (lens_cell (.s .z) (Lens.whole _ _))) ?_
              refine at_guard_yes rfl rfl rfl ?_
              obtain ⟨t21, ht21, hF⟩ := of_bindM hF
              refine at_callB Try.func39 rfl (by kernel_rfl) rfl rfl (fun w hw => keys_Text_ok _ _ ht21 w) ?_
              refine at_guard_yes rfl rfl rfl ?_
              refine at_val rfl rfl rfl (r_move rfl) ?_
              refine at_guard_yes rfl rfl rfl ?_
              refine at_val rfl rfl rfl (r_seql rfl rfl) ?_
              refine at_val rfl rfl rfl (r_pick rfl rfl rfl) ?_
              refine at_val rfl rfl rfl (r_move rfl) ?_
              rcases of_ite hF with ⟨h22, hF⟩ | ⟨h22, hF⟩
              · refine at_fix (g := 61) rfl h22 ?_
                refine at_guard_yes rfl rfl rfl ?_
                refine at_val rfl rfl rfl (r_move rfl) ?_
                refine at_guard_yes rfl rfl rfl ?_
                refine at_val rfl rfl rfl (r_ineq rfl rfl) ?_
                refine at_guard_yes rfl rfl rfl ?_
                refine at_val rfl rfl rfl (r_move rfl) ?_
                rcases of_ite hF with ⟨h23, hF⟩ | ⟨h23, hF⟩
                · refine at_fix (g := 64) rfl h23 ?_
                  refine at_guard_no rfl rfl rfl rfl rfl ?_
                  refine at_guard_no rfl rfl rfl rfl rfl ?_
                  refine at_guard_no rfl rfl rfl rfl rfl ?_
                  refine at_guard_no rfl rfl rfl rfl rfl ?_
                  refine at_guard_yes rfl rfl rfl ?_
                  refine at_val rfl rfl rfl (r_pick rfl rfl rfl) ?_
                  refine at_val rfl rfl rfl (r_pick rfl rfl rfl) ?_
                  refine at_val rfl rfl rfl (r_move rfl) ?_
                  refine at_guard_yes rfl rfl rfl ?_
                  obtain ⟨t24, ht24, hF⟩ := of_bindM hF
                  refine at_callB Try.func46 rfl (by kernel_rfl) rfl rfl (fun w hw => crawlwaylaw07_alive_ok  _ ht24 w) ?_
                  refine at_val rfl rfl rfl (r_pick rfl rfl rfl) ?_
                  refine at_val rfl rfl rfl (r_assign rfl) ?_
                  refine at_nil ?_
                  refine at_drop (H := _) .z ?_
                  refine at_drop (H := _) .z ?_
                  refine at_weak [(2, _)] ⟨rfl, trivial⟩ ?_
                  refine at_then_normal ?_
                  refine at_ret ?_
                  have K := of_some hF
                  subst K
                  exact at_return1 rfl rfl (fun w1 hw => ⟨rfl, hw.below⟩)
                · refine at_fix (g := 64) rfl h23 ?_
                  refine at_guard_yes rfl rfl rfl ?_
                  refine at_val rfl rfl rfl (r_load_aggc (c := (cVec (cInt .u8) 32 (by decide))) (z := t5.1) Try.isAgg73 Try.sizeOf73 rfl (lens_cell .z (Lens.whole _ _))) ?_
                  refine at_guard_yes rfl rfl rfl ?_
                  obtain ⟨t25, ht25, hF⟩ := of_bindM hF
                  refine at_callB Try.func40 rfl (by kernel_rfl) rfl rfl (fun w hw => keys_Hex_ok _ _ ht25 w) ?_
                  refine at_guard_yes rfl rfl rfl ?_
                  refine at_val rfl rfl rfl (r_move rfl) ?_
                  refine at_guard_yes rfl rfl rfl ?_
                  refine at_val rfl rfl rfl (r_seql rfl rfl) ?_
                  refine at_guard_yes rfl rfl rfl ?_
                  refine at_val rfl rfl rfl (r_pick rfl rfl rfl) ?_
                  refine at_val rfl rfl rfl (r_pick rfl rfl rfl) ?_
                  refine at_val rfl rfl rfl (r_move rfl) ?_
                  rcases of_ite hF with ⟨h26, hF⟩ | ⟨h26, hF⟩
                  · refine at_fix (g := 71) rfl h26 ?_
                    refine at_guard_yes rfl rfl rfl ?_
                    obtain ⟨t27, ht27, hF⟩ := of_bindM hF
                    refine at_callB Try.func46 rfl (by kernel_rfl) rfl rfl (fun w hw => crawlwaylaw07_alive_ok  _ ht27 w) ?_
                    refine at_val rfl rfl rfl (r_pick rfl rfl rfl) ?_
                    refine at_val rfl rfl rfl (r_assign rfl) ?_
                    refine at_nil ?_
                    refine at_drop (H := _) .z ?_
                    refine at_drop (H := _) .z ?_
                    refine at_weak [(2, _)] ⟨rfl, trivial⟩ ?_
                    refine at_then_normal ?_
                    refine at_ret ?_
                    have K := of_some hF
                    subst K
                    exact at_return1 rfl rfl (fun w1 hw => ⟨rfl, hw.below⟩)
                  · refine at_fix (g := 71) rfl h26 ?_
                    refine at_guard_no rfl rfl rfl rfl rfl ?_
                    refine at_val rfl rfl rfl (r_pick rfl rfl rfl) ?_
                    refine at_val rfl rfl rfl (r_assign rfl) ?_
                    refine at_nil ?_
                    refine at_drop (H := _) .z ?_
                    refine at_drop (H := _) .z ?_
                    refine at_weak [(2, _)] ⟨rfl, trivial⟩ ?_
                    refine at_then_normal ?_
                    refine at_ret ?_
                    have K := of_some hF
                    subst K
                    exact at_return1 rfl rfl (fun w1 hw => ⟨rfl, hw.below⟩)
              · refine at_fix (g := 61) rfl h22 ?_
                refine at_guard_no rfl rfl rfl rfl rfl ?_
                refine at_guard_no rfl rfl rfl rfl rfl ?_
                refine at_guard_no rfl rfl rfl rfl rfl ?_
                refine at_guard_undef rfl rfl rfl rfl ?_
                refine at_guard_undef rfl rfl rfl rfl ?_
                refine at_guard_undef rfl rfl rfl rfl ?_
                refine at_guard_undef rfl rfl rfl rfl ?_
                refine at_guard_no rfl rfl rfl rfl rfl ?_
                refine at_val rfl rfl rfl (r_pick rfl rfl rfl) ?_
                refine at_val rfl rfl rfl (r_move rfl) ?_
                refine at_guard_no rfl rfl rfl rfl rfl ?_
                refine at_val rfl rfl rfl (r_pick rfl rfl rfl) ?_
                refine at_val rfl rfl rfl (r_assign rfl) ?_
                refine at_nil ?_
                refine at_drop (H := _) .z ?_
                refine at_drop (H := _) .z ?_
                refine at_weak [(2, _)] ⟨rfl, trivial⟩ ?_
                refine at_then_normal ?_
                refine at_ret ?_
                have K := of_some hF
                subst K
                exact at_return1 rfl rfl (fun w1 hw => ⟨rfl, hw.below⟩)
end Go.Proofs.Ytdhkcjddjmgciaa
