/- Functions with the same answers as the Go functions that they are named for, and the proofs of it, by a program of this project (gen.py). -/
import Derived.Test.YtecolkjlpklaaaaDoorT
import Derived.Test.YtecolkjlpklaaaaDoorShelf
import Derived.Test.YtecolkjlpklaaaaDoorW
import Derived.Test.YtecolkjlpklaaaaDoorL
import Derived.Test.YtecolkjlpklaaaaDoorS
import Derived.Test.YtecolkjlpklaaaaDoorJ
import Derived.Test.YtecolkjlpklaaaaDoorK
import Derived.Test.YtecolkjlpklaaaaDoorR
import Derived.Test.YtecolkjlpklaaaaDoorProg
import Derived.Test.YtecolkjlpklaaaaDoorG1
import Derived.Test.YtecolkjlpklaaaaDoorG2
import Derived.Test.YtecolkjlpklaaaaDoorG3
set_option linter.unusedVariables false
set_option linter.unusedSimpArgs false
namespace Go.Proofs.YtecolkjlpklaaaaDoor
open E Go.RowKit

theorem infoH49_is : (Tryd.prog.info? 9).isSome = true := by kernel_rfl
noncomputable def infoH49_v : TypeInfo := (Tryd.prog.info? 9).get infoH49_is
theorem infoH49 : Tryd.prog.info? 9 = some infoH49_v := (Option.some_get _).symm

def hexes_small (x0 : Int) : Option (Int) :=
  if (decide (x0 ≥ 65)) = true then (if (decide (x0 ≤ 70)) = true then (some (ior .u8 x0 32)) else (some x0)) else (some x0)
theorem hexes_small_ok (x0 : Int) (r : Int) (hF : hexes_small x0 = some r) (w : World) :
    Calls Tryd.prog 114 #[.int .u8 x0] w (fun e w' => e = .returned (.int .u8 r) ∧ w' = w) := by
  unfold hexes_small at hF
  refine calls_enter (l := [.int .u8 x0]) Tryd.func114 rfl rfl rfl ?_
  refine at_weak [(0, _)] ⟨rfl, trivial⟩ ?_
  refine at_seq ?_
  refine at_region ?_
  refine at_val rfl rfl rfl (r_assign rfl) ?_
  refine at_nil ?_
  refine at_weak [(0, _)] ⟨rfl, trivial⟩ ?_
  refine at_then_normal ?_
  refine at_seq ?_
  refine at_seq ?_
  refine at_region ?_
  refine at_val rfl rfl rfl (r_move rfl) ?_
  refine at_val rfl rfl rfl (r_igeq rfl rfl) ?_
  refine at_val rfl rfl rfl (r_move rfl) ?_
  rcases of_ite hF with ⟨h1, hF⟩ | ⟨h1, hF⟩
  · refine at_fix (g := 5) rfl h1 ?_
    refine at_guard_yes rfl rfl rfl ?_
    refine at_val rfl rfl rfl (r_move rfl) ?_
    refine at_guard_yes rfl rfl rfl ?_
    refine at_val rfl rfl rfl (r_ileq rfl rfl) ?_
    refine at_val rfl rfl rfl (r_pick rfl rfl rfl) ?_
    refine at_nil ?_
    refine at_weak [(0, _), (8, _)] ⟨rfl, rfl, trivial⟩ ?_
    refine at_then_normal ?_
    rcases of_ite hF with ⟨h2, hF⟩ | ⟨h2, hF⟩
    · refine at_cond_true rfl h2 ?_
      refine at_seq ?_
      refine at_region ?_
      refine at_val rfl rfl rfl (r_move rfl) ?_
      refine at_val rfl rfl rfl (r_ior rfl rfl) ?_
      refine at_val rfl rfl rfl (r_assign rfl) ?_
      refine at_nil ?_
      refine at_weak [(2, _)] ⟨rfl, trivial⟩ ?_
      refine at_then_normal ?_
      refine at_ret ?_
      refine at_then_ret ?_
      have K := of_some hF
      subst K
      exact at_return1 rfl rfl (fun w1 hw => ⟨rfl, hw⟩)
    · refine at_cond_false rfl h2 ?_
      refine at_skip ?_
      refine at_then_normal ?_
      refine at_seq ?_
      refine at_region ?_
      refine at_val rfl rfl rfl (r_move rfl) ?_
      refine at_val rfl rfl rfl (r_assign rfl) ?_
      refine at_nil ?_
      refine at_weak [(2, _)] ⟨rfl, trivial⟩ ?_
      refine at_then_normal ?_
      refine at_ret ?_
      have K := of_some hF
      subst K
      exact at_return1 rfl rfl (fun w1 hw => ⟨rfl, hw⟩)
  · refine at_fix (g := 5) rfl h1 ?_
    refine at_guard_no rfl rfl rfl rfl rfl ?_
    refine at_guard_no rfl rfl rfl rfl rfl ?_
    refine at_val rfl rfl rfl (r_pick rfl rfl rfl) ?_
    refine at_nil ?_
    refine at_weak [(0, _), (8, _)] ⟨rfl, rfl, trivial⟩ ?_
    refine at_then_normal ?_
    refine at_cond_false rfl rfl ?_
    refine at_skip ?_
    refine at_then_normal ?_
    refine at_seq ?_
    refine at_region ?_
    refine at_val rfl rfl rfl (r_move rfl) ?_
    refine at_val rfl rfl rfl (r_assign rfl) ?_
    refine at_nil ?_
    refine at_weak [(2, _)] ⟨rfl, trivial⟩ ?_
    refine at_then_normal ?_
    refine at_ret ?_
    have K := of_some hF
    subst K
    exact at_return1 rfl rfl (fun w1 hw => ⟨rfl, hw⟩)

def hexes_value (x0 : Int) : Option (Int × Bool) :=
  some (wr .u16 (Lib.indexByte (⟨#[48, 49, 50, 51, 52, 53, 54, 55, 56, 57, 97, 98, 99, 100, 101, 102]⟩ : ByteArray).data.toList (Nat.toUInt8 (Int.toNat x0))), decide (Lib.indexByte (⟨#[48, 49, 50, 51, 52, 53, 54, 55, 56, 57, 97, 98, 99, 100, 101, 102]⟩ : ByteArray).data.toList (Nat.toUInt8 (Int.toNat x0)) ≥ 0))
theorem hexes_value_ok (x0 : Int) (r : Int × Bool) (hF : hexes_value x0 = some r) (w : World) :
    Calls Tryd.prog 113 #[.int .u8 x0] w (fun e w' => e = .returned (.tuple #[.int .u16 r.1, .bool r.2]) ∧ w' = w) := by
  unfold hexes_value at hF
  refine calls_enter (l := [.int .u8 x0]) Tryd.func113 rfl rfl rfl ?_
  refine at_weak [(0, _)] ⟨rfl, trivial⟩ ?_
  refine at_seq ?_
  refine at_region ?_
  refine at_val rfl rfl rfl (r_assign rfl) ?_
  refine at_val rfl rfl rfl (r_assign rfl) ?_
  refine at_nil ?_
  refine at_weak [(0, _)] ⟨rfl, trivial⟩ ?_
  refine at_then_normal ?_
  refine at_seq ?_
  refine at_region ?_
  refine at_val rfl rfl rfl (r_move rfl) ?_
  refine at_call0 Tryd.func89 rfl (by kernel_rfl) rfl rfl (fun w => Tryd.strings_IndexByte _ _ w) ?_
  refine at_val rfl rfl rfl (r_assign rfl) ?_
  refine at_nil ?_
  refine at_weak [(4, _)] ⟨rfl, trivial⟩ ?_
  refine at_then_normal ?_
  refine at_seq ?_
  refine at_region ?_
  refine at_val rfl rfl rfl (r_move rfl) ?_
  refine at_val rfl rfl rfl (r_conv Tryd.underlying3 Tryd.underlying88 rfl) ?_
  refine at_val rfl rfl rfl (r_move rfl) ?_
  refine at_val rfl rfl rfl (r_igeq rfl rfl) ?_
  refine at_val rfl rfl rfl (r_assign rfl) ?_
  refine at_val rfl rfl rfl (r_assign rfl) ?_
  refine at_nil ?_
  refine at_weak [(2, _), (3, _)] ⟨rfl, rfl, trivial⟩ ?_
  refine at_then_normal ?_
  refine at_ret ?_
  have K := of_some hF
  subst K
  exact at_return2 rfl rfl rfl (fun w1 hw => ⟨rfl, hw⟩)

def hexes_Group.l0 (i2 : Int) (i3 : ByteArray) : Option (ByteArray) :=
  if (0 : Int) ≤ iand .u16 i2 15 ∧ iand .u16 i2 15 < ((⟨#[48, 49, 50, 51, 52, 53, 54, 55, 56, 57, 97, 98, 99, 100, 101, 102]⟩ : ByteArray).size : Int) then if (Utf8.encode (bt (⟨#[48, 49, 50, 51, 52, 53, 54, 55, 56, 57, 97, 98, 99, 100, 101, 102]⟩ : ByteArray) (iand .u16 i2 15))).size + i3.size ≤ 140737488355328 then if (ishr .u16 i2 4 == 0) = true then (some ((Utf8.encode (bt (⟨#[48, 49, 50, 51, 52, 53, 54, 55, 56, 57, 97, 98, 99, 100, 101, 102]⟩ : ByteArray) (iand .u16 i2 15))) ++ i3)) else (hexes_Group.l0 (ishr .u16 i2 4) ((Utf8.encode (bt (⟨#[48, 49, 50, 51, 52, 53, 54, 55, 56, 57, 97, 98, 99, 100, 101, 102]⟩ : ByteArray) (iand .u16 i2 15))) ++ i3)) else none else none
  partial_fixpoint
def hexes_Group (x0 : Int) : Option (ByteArray) :=
  hexes_Group.l0 x0 (⟨#[]⟩) >>= fun q1 => some q1
theorem hexes_Group_ok (x0 : Int) (r : ByteArray) (hF : hexes_Group x0 = some r) (w : World) :
    Calls Tryd.prog 97 #[.int .u16 x0] w (fun e w' => e = .returned (.string r) ∧ w' = w) := by
  unfold hexes_Group at hF
  refine calls_enter (l := [.int .u16 x0]) Tryd.func97 rfl rfl rfl ?_
  refine at_weak [(0, _)] ⟨rfl, trivial⟩ ?_
  refine at_seq ?_
  refine at_region ?_
  refine at_val rfl rfl rfl (r_assign rfl) ?_
  refine at_nil ?_
  refine at_weak [(0, _)] ⟨rfl, trivial⟩ ?_
  refine at_then_normal ?_
  refine at_seq ?_
  refine at_region ?_
  refine at_val rfl rfl rfl (r_assign rfl) ?_
  refine at_nil ?_
  refine at_weak [(0, _), (3, _)] ⟨rfl, rfl, trivial⟩ ?_
  refine at_then_normal ?_
  refine at_block ?_
  obtain ⟨q1, hq1, hF⟩ := of_bindM hF
  refine at_weak [(0, _), (3, _)] ⟨rfl, rfl, trivial⟩ ?_
  refine at_loop_only (r := r) (q := q1) ?_ ?_
  · intro K
    refine hexes_Group.l0.partial_correctness  (motive := fun i2 i3 x => x = r → Round (fun Y => At 15 [(0, .int .u16 i2), (3, .string i3)] (fun w' => w' = w) Y) _ _ _) ?_ _ _ _ hq1 K
    · clear K hF
      intro g ih i2 i3 x hF K
      refine at_round ?_
      refine at_block ?_
      refine at_seq ?_
      refine at_region ?_
      refine at_val rfl rfl rfl (r_move rfl) ?_
      refine at_val rfl rfl rfl (r_iand rfl rfl) ?_
      obtain ⟨h4, hF⟩ := of_guard hF
      refine at_val rfl rfl rfl (r_index_str Tryd.underlying9 rfl rfl h4) ?_
      refine at_val rfl rfl rfl (r_conv_str Tryd.underlying5 Tryd.underlying9 rfl) ?_
      refine at_val rfl rfl rfl (r_move rfl) ?_
      obtain ⟨h5, hF⟩ := of_guard hF
      refine at_val rfl rfl rfl (r_concat rfl rfl h5) ?_
      refine at_val rfl rfl rfl (r_assign rfl) ?_
      refine at_nil ?_
      refine at_weak [(0, _), (3, _)] ⟨rfl, rfl, trivial⟩ ?_
      refine at_then_normal ?_
      refine at_seq ?_
      refine at_region ?_
      refine at_val rfl rfl rfl (r_move rfl) ?_
      refine at_val rfl rfl rfl (r_ishr rfl rfl (by decide)) ?_
      refine at_val rfl rfl rfl (r_assign rfl) ?_
      refine at_nil ?_
      refine at_weak [(0, _), (3, _)] ⟨rfl, rfl, trivial⟩ ?_
      refine at_then_normal ?_
      refine at_seq ?_
      refine at_region ?_
      refine at_val rfl rfl rfl (r_move rfl) ?_
      refine at_val rfl rfl rfl (r_ieql rfl rfl) ?_
      refine at_nil ?_
      refine at_weak [(0, _), (3, _), (13, _)] ⟨rfl, rfl, rfl, trivial⟩ ?_
      refine at_then_normal ?_
      rcases of_ite hF with ⟨h6, hF⟩ | ⟨h6, hF⟩
      · refine at_cond_true rfl h6 ?_
        refine at_seq ?_
        refine at_region ?_
        refine at_val rfl rfl rfl (r_move rfl) ?_
        refine at_val rfl rfl rfl (r_assign rfl) ?_
        refine at_nil ?_
        refine at_weak [(2, _)] ⟨rfl, trivial⟩ ?_
        refine at_then_normal ?_
        refine at_ret ?_
        refine at_blk_ret (at_then_ret (at_blk_ret ?_))
        obtain rfl := of_some hF
        subst K
        exact at_return1 rfl rfl (fun w1 hw => ⟨rfl, hw⟩)
      · refine at_cond_false rfl h6 ?_
        refine at_skip ?_
        refine at_blk_normal (at_then_normal ?_)
        exact at_weak_k (ih _ _ _ hF K) ⟨rfl, rfl, trivial⟩
  · exact of_some hF

def endian_sized (x0 : List Int) : Option (Bool) :=
  if (decide ((x0.length : Int) ≥ 1)) = true then (some (decide ((x0.length : Int) ≤ 8))) else (some false)
theorem endian_sized_ok (x0 : List Int) (p0_ : Option Addr) (c0_ : Nat) (r : Bool) (hF : endian_sized x0 = some r) (w : World) (hr0 : Row (cInt .u8) w p0_ c0_ x0) :
    Calls Tryd.prog 111 #[.slice p0_ x0.length c0_] w (fun e w' => e = .returned (.bool r) ∧ w' = w) := by
  unfold endian_sized at hF
  refine calls_enter (l := [.slice p0_ x0.length c0_]) Tryd.func111 rfl rfl rfl ?_
  refine at_weak [(0, _)] ⟨rfl, trivial⟩ ?_
  refine at_seq ?_
  refine at_region ?_
  refine at_val rfl rfl rfl (r_assign rfl) ?_
  refine at_nil ?_
  refine at_weak [(0, _)] ⟨rfl, trivial⟩ ?_
  refine at_then_normal ?_
  refine at_seq ?_
  refine at_region ?_
  refine at_val rfl rfl rfl (r_move rfl) ?_
  refine at_val rfl rfl rfl (r_len_sl Tryd.underlying33 rfl) ?_
  refine at_val rfl rfl rfl (r_igeq rfl rfl) ?_
  refine at_val rfl rfl rfl (r_move rfl) ?_
  rcases of_ite hF with ⟨h1, hF⟩ | ⟨h1, hF⟩
  · refine at_fix (g := 6) rfl h1 ?_
    refine at_guard_yes rfl rfl rfl ?_
    refine at_val rfl rfl rfl (r_move rfl) ?_
    refine at_guard_yes rfl rfl rfl ?_
    refine at_val rfl rfl rfl (r_len_sl Tryd.underlying33 rfl) ?_
    refine at_guard_yes rfl rfl rfl ?_
    refine at_val rfl rfl rfl (r_ileq rfl rfl) ?_
    refine at_val rfl rfl rfl (r_pick rfl rfl rfl) ?_
    refine at_val rfl rfl rfl (r_assign rfl) ?_
    refine at_nil ?_
    refine at_weak [(2, _)] ⟨rfl, trivial⟩ ?_
    refine at_then_normal ?_
    refine at_ret ?_
    have K := of_some hF
    subst K
    exact at_return1 rfl rfl (fun w1 hw => ⟨rfl, hw⟩)
  · refine at_fix (g := 6) rfl h1 ?_
    refine at_guard_no rfl rfl rfl rfl rfl ?_
    refine at_guard_no rfl rfl rfl rfl rfl ?_
    refine at_guard_no rfl rfl rfl rfl rfl ?_
    refine at_val rfl rfl rfl (r_pick rfl rfl rfl) ?_
    refine at_val rfl rfl rfl (r_assign rfl) ?_
    refine at_nil ?_
    refine at_weak [(2, _)] ⟨rfl, trivial⟩ ?_
    refine at_then_normal ?_
    refine at_ret ?_
    have K := of_some hF
    subst K
    exact at_return1 rfl rfl (fun w1 hw => ⟨rfl, hw⟩)

def endian_OfBig.l0 (x0 : List Int) (i4 : Int) (i5 : Int) : Option (Int) :=
  if (decide (i5 < (x0.length : Int))) = true then (if (0 : Int) ≤ i5 ∧ i5 < (x0.length : Int) then endian_OfBig.l0 x0 (ior .u64 (ishl .u64 i4 8) (wr .u64 (lget x0 i5))) (wr .i64 (i5 + 1)) else none) else (some i4)
  partial_fixpoint
def endian_OfBig (x0 : List Int) : Option (Int × Int) :=
  endian_sized x0 >>= fun t1 => if (!t1) = true then (some (0, 1)) else (endian_OfBig.l0 x0 0 0 >>= fun q3 => some (q3, 0))
theorem endian_OfBig_ok (x0 : List Int) (p0_ : Option Addr) (c0_ : Nat) (r : Int × Int) (hF : endian_OfBig x0 = some r) (w : World) (hr0 : Row (cInt .u8) w p0_ c0_ x0) :
    Calls Tryd.prog 96 #[.slice p0_ x0.length c0_] w (fun e w' => e = .returned (.tuple #[.int .u64 r.1, .int .i64 r.2]) ∧ w' = w) := by
  unfold endian_OfBig at hF
  refine calls_enter (l := [.slice p0_ x0.length c0_]) Tryd.func96 rfl rfl rfl ?_
  refine at_weak [(0, _)] ⟨rfl, trivial⟩ ?_
  refine at_seq ?_
  refine at_region ?_
  refine at_val rfl rfl rfl (r_assign rfl) ?_
  refine at_val rfl rfl rfl (r_assign rfl) ?_
  refine at_nil ?_
  refine at_weak [(0, _)] ⟨rfl, trivial⟩ ?_
  refine at_then_normal ?_
  refine at_seq ?_
  refine at_seq ?_
  refine at_region ?_
  refine at_val rfl rfl rfl (r_move rfl) ?_
  obtain ⟨t1, ht1, hF⟩ := of_bindM hF
  refine at_call0w Tryd.func111 rfl (by kernel_rfl) rfl rfl (fun w hw => endian_sized_ok _ _ _ _ ht1 w (hr0.below (by subst hw; exact Below.refl _ _))) ?_
  refine at_val rfl rfl rfl (r_not rfl) ?_
  refine at_nil ?_
  refine at_weak [(0, _), (9, _)] ⟨rfl, rfl, trivial⟩ ?_
  refine at_then_normal ?_
  rcases of_ite hF with ⟨h2, hF⟩ | ⟨h2, hF⟩
  · refine at_cond_true rfl h2 ?_
    refine at_seq ?_
    refine at_region ?_
    refine at_val rfl rfl rfl (r_assign rfl) ?_
    refine at_val rfl rfl rfl (r_assign rfl) ?_
    refine at_nil ?_
    refine at_weak [(2, _), (3, _)] ⟨rfl, rfl, trivial⟩ ?_
    refine at_then_normal ?_
    refine at_ret ?_
    refine at_then_ret ?_
    have K := of_some hF
    subst K
    exact at_return2 rfl rfl rfl (fun w1 hw => ⟨rfl, hw⟩)
  · refine at_cond_false rfl h2 ?_
    refine at_skip ?_
    refine at_then_normal ?_
    refine at_seq ?_
    refine at_region ?_
    refine at_val rfl rfl rfl (r_assign rfl) ?_
    refine at_nil ?_
    refine at_weak [(0, _), (4, _)] ⟨rfl, rfl, trivial⟩ ?_
    refine at_then_normal ?_
    refine at_seq ?_
    refine at_seq ?_
    refine at_region ?_
    refine at_val rfl rfl rfl (r_move rfl) ?_
    refine at_val rfl rfl rfl (r_len_sl Tryd.underlying33 rfl) ?_
    refine at_val rfl rfl rfl (r_move rfl) ?_
    refine at_nil ?_
    refine at_weak [(4, _), (10, _), (11, _), (12, _)] ⟨rfl, rfl, rfl, rfl, trivial⟩ ?_
    refine at_then_normal ?_
    refine at_block ?_
    obtain ⟨q3, hq3, hF⟩ := of_bindM hF
    refine at_weak [(4, _), (10, _), (11, _), (12, _)] ⟨rfl, rfl, rfl, rfl, trivial⟩ ?_
    refine at_loop_n (B := 0) (A := fun Y => At 23 [(4, .int .u64 q3)] (fun w' => w' = w) Y) ?_ ?_
    · intro K
      refine endian_OfBig.l0.partial_correctness x0 (motive := fun i4 i5 x => KN (fun Y => At 23 [(4, .int .u64 x)] (fun w' => w' = w) Y) _ 0 → Round (fun Y => At 23 [(4, .int .u64 i4), (10, .slice p0_ x0.length c0_), (11, .int .i64 (x0.length : Int)), (12, .int .i64 i5)] (fun w' => w' = w) Y) _ _ _) ?_ _ _ _ hq3 K
      · clear K hF
        intro g ih i4 i5 x hF K
        refine at_round ?_
        refine at_seq ?_
        refine at_region ?_
        refine at_val rfl rfl rfl (r_ilss rfl rfl) ?_
        refine at_nil ?_
        refine at_weak [(4, _), (10, _), (11, _), (12, _), (13, _)] ⟨rfl, rfl, rfl, rfl, rfl, trivial⟩ ?_
        refine at_then_normal ?_
        refine at_seq ?_
        rcases of_ite hF with ⟨h6, hF⟩ | ⟨h6, hF⟩
        · refine at_cond_true rfl h6 ?_
          refine at_skip ?_
          refine at_then_normal ?_
          refine at_seq ?_
          refine at_block ?_
          refine at_seq ?_
          refine at_region ?_
          obtain ⟨h7, hF⟩ := of_guard hF
          obtain ⟨b9, o10, hp8⟩ := row_ptr hr0 h7
          refine at_val rfl rfl rfl (r_idx Tryd.underlying33 Tryd.sizeOf5 rfl rfl h7 hp8) ?_
          refine at_val rfl rfl rfl (r_load_cell Tryd.isAgg5 rfl (row_cell0 (fun w1 (h : w1 = w) => by subst h; exact Below.refl _ _) hr0 h7 hp8 rfl)) ?_
          refine at_val rfl rfl rfl (r_assign rfl) ?_
          refine at_nil ?_
          refine at_weak [(4, _), (6, _), (10, _), (11, _), (12, _)] ⟨rfl, rfl, rfl, rfl, rfl, trivial⟩ ?_
          refine at_then_normal ?_
          refine at_region ?_
          refine at_val rfl rfl rfl (r_move rfl) ?_
          refine at_val rfl rfl rfl (r_ishl rfl rfl (by decide)) ?_
          refine at_val rfl rfl rfl (r_move rfl) ?_
          refine at_val rfl rfl rfl (r_conv Tryd.underlying5 Tryd.underlying83 rfl) ?_
          refine at_val rfl rfl rfl (r_ior rfl rfl) ?_
          refine at_val rfl rfl rfl (r_assign rfl) ?_
          refine at_nil ?_
          refine at_weak [(4, _), (10, _), (11, _), (12, _)] ⟨rfl, rfl, rfl, rfl, trivial⟩ ?_
          refine at_blk_normal (at_then_normal ?_)
          refine at_region ?_
          refine at_val rfl rfl rfl (r_iadd rfl rfl) ?_
          refine at_val rfl rfl rfl (r_move rfl) ?_
          refine at_nil ?_
          refine at_weak [(4, _), (10, _), (11, _), (12, _)] ⟨rfl, rfl, rfl, rfl, trivial⟩ ?_
          refine at_then_normal ?_
          exact at_weak_k (ih _ _ _ hF K) ⟨rfl, rfl, rfl, rfl, trivial⟩
        · refine at_cond_false rfl h6 ?_
          refine at_exit ?_
          refine at_then_exit (at_then_exit ?_)
          obtain rfl := of_some hF
          exact at_weak_k K ⟨rfl, trivial⟩
    · skip
      skip
      refine at_blk_same ?_
      refine at_then_normal ?_
      refine at_seq ?_
      refine at_region ?_
      refine at_val rfl rfl rfl (r_move rfl) ?_
      refine at_val rfl rfl rfl (r_assign rfl) ?_
      refine at_val rfl rfl rfl (r_assign rfl) ?_
      refine at_nil ?_
      refine at_weak [(2, _), (3, _)] ⟨rfl, rfl, trivial⟩ ?_
      refine at_then_normal ?_
      refine at_ret ?_
      have K := of_some hF
      subst K
      exact at_return2 rfl rfl rfl (fun w1 hw => ⟨rfl, hw⟩)

def colon_groups.l0 (x0 : (Vector Int 16)) (i5 : Int) (i6 : (Vector Int 8)) : Option ((Vector Int 8)) :=
  if (decide (i5 < 8)) = true then (if (0 : Int) ≤ wr .i64 (2 * i5) ∧ wr .i64 (2 * i5) ≤ wr .i64 ((wr .i64 (2 * i5)) + 2) ∧ wr .i64 ((wr .i64 (2 * i5)) + 2) ≤ (16 : Int) then endian_OfBig (lsub (Vector.toList x0) (wr .i64 (2 * i5)) (wr .i64 ((wr .i64 (2 * i5)) + 2))) >>= fun t9 => if (0 : Int) ≤ i5 ∧ i5 < 8 then colon_groups.l0 x0 (wr .i64 (i5 + 1)) (vset i6 i5 (wr .u16 t9.1)) else none else none) else (some i6)
  partial_fixpoint
def colon_groups (x0 : (Vector Int 16)) : Option ((Vector Int 8)) :=
  colon_groups.l0 x0 0 (Vector.replicate 8 (0 : Int) : (Vector Int 8)) >>= fun q4 => some q4
theorem colon_groups_ok (x0 : (Vector Int 16)) (r : (Vector Int 8)) (hF : colon_groups x0 = some r) (w : World) :
    Calls Tryd.prog 78 #[.agg (Cd.cs (cVec (cInt .u8) 16 (by decide)) x0).toArray] w (fun e w' => e = .returned (.agg (Cd.cs (cVec (cInt .u16) 8 (by decide)) r).toArray) ∧ Below w.heap.size w w') := by
  unfold colon_groups at hF
  refine calls_enter (l := [.agg (Cd.cs (cVec (cInt .u8) 16 (by decide)) x0).toArray]) Tryd.func78 rfl rfl rfl ?_
  refine at_start ?_
  refine at_weak [(0, _)] ⟨rfl, trivial⟩ ?_
  refine at_seq ?_
  refine at_region ?_
  refine at_box (cs := Cd.cs (cVec (cInt .u8) 16 (by decide)) x0) rfl rfl rfl ?_
  intro b1
  refine at_alloc (cs := Cd.cs (cVec (cInt .u16) 8 (by decide)) (Vector.replicate 8 (0 : Int) : (Vector Int 8))) Tryd.zeroValue89 rfl rfl ?_
  intro b2
  refine at_nil ?_
  refine at_weak [(1, _), (2, _)] ⟨rfl, rfl, trivial⟩ ?_
  refine at_then_normal ?_
  refine at_seq ?_
  refine at_region ?_
  refine at_alloc (cs := Cd.cs (cVec (cInt .u16) 8 (by decide)) (Vector.replicate 8 (0 : Int) : (Vector Int 8))) Tryd.zeroValue89 rfl rfl ?_
  intro b3
  refine at_nil ?_
  refine at_weak [(1, _), (2, _), (3, _)] ⟨rfl, rfl, rfl, trivial⟩ ?_
  refine at_then_normal ?_
  refine at_seq ?_
  refine at_seq ?_
  refine at_region ?_
  refine at_val rfl rfl rfl (r_move rfl) ?_
  refine at_nil ?_
  refine at_weak [(1, _), (2, _), (3, _), (7, _)] ⟨rfl, rfl, rfl, rfl, trivial⟩ ?_
  refine at_then_normal ?_
  refine at_block ?_
  obtain ⟨q4, hq4, hF⟩ := of_bindM hF
  refine at_weak [(1, _), (2, _), (3, _), (7, _)] ⟨rfl, rfl, rfl, rfl, trivial⟩ ?_
  refine at_loop_n (B := 0) (A := fun Y => At 26 [(2, .pointer (some ⟨b2, 0, none⟩)), (3, .pointer (some ⟨b3, 0, none⟩))] (Wd w [cellsE b3 (Cd.cs (cVec (cInt .u16) 8 (by decide)) q4) 89, cellsE b2 (Cd.cs (cVec (cInt .u16) 8 (by decide)) (Vector.replicate 8 (0 : Int) : (Vector Int 8))) 89]) Y) ?_ ?_
  · intro K
    refine colon_groups.l0.partial_correctness x0 (motive := fun i5 i6 x => KN (fun Y => At 26 [(2, .pointer (some ⟨b2, 0, none⟩)), (3, .pointer (some ⟨b3, 0, none⟩))] (Wd w [cellsE b3 (Cd.cs (cVec (cInt .u16) 8 (by decide)) x) 89, cellsE b2 (Cd.cs (cVec (cInt .u16) 8 (by decide)) (Vector.replicate 8 (0 : Int) : (Vector Int 8))) 89]) Y) _ 0 → Round (fun Y => At 26 [(1, .pointer (some ⟨b1, 0, none⟩)), (2, .pointer (some ⟨b2, 0, none⟩)), (3, .pointer (some ⟨b3, 0, none⟩)), (7, .int .i64 i5)] (Wd w [cellsE b3 (Cd.cs (cVec (cInt .u16) 8 (by decide)) i6) 89, cellsE b2 (Cd.cs (cVec (cInt .u16) 8 (by decide)) (Vector.replicate 8 (0 : Int) : (Vector Int 8))) 89, cellsE b1 (Cd.cs (cVec (cInt .u8) 16 (by decide)) x0) 22]) Y) _ _ _) ?_ _ _ _ hq4 K
    · clear K hF
      intro g ih i5 i6 x hF K
      refine at_round ?_
      refine at_seq ?_
      refine at_region ?_
      refine at_val rfl rfl rfl (r_ilss rfl rfl) ?_
      refine at_nil ?_
      refine at_weak [(1, _), (2, _), (3, _), (7, _), (8, _)] ⟨rfl, rfl, rfl, rfl, rfl, trivial⟩ ?_
      refine at_then_normal ?_
      refine at_seq ?_
      rcases of_ite hF with ⟨h7, hF⟩ | ⟨h7, hF⟩
      · refine at_cond_true rfl h7 ?_
        refine at_skip ?_
        refine at_then_normal ?_
        refine at_seq ?_
        refine at_block ?_
        refine at_seq ?_
        refine at_region ?_
        refine at_val rfl rfl rfl (r_move rfl) ?_
        refine at_val rfl rfl rfl (r_assign rfl) ?_
        refine at_nil ?_
        refine at_weak [(1, _), (2, _), (3, _), (4, _), (7, _)] ⟨rfl, rfl, rfl, rfl, rfl, trivial⟩ ?_
        refine at_then_normal ?_
        refine at_seq ?_
        refine at_region ?_
        refine at_val rfl rfl rfl (r_move rfl) ?_
        refine at_val rfl rfl rfl (r_imul rfl rfl) ?_
        refine at_val rfl rfl rfl (r_move rfl) ?_
        refine at_val rfl rfl rfl (r_imul rfl rfl) ?_
        refine at_val rfl rfl rfl (r_iadd rfl rfl) ?_
        obtain ⟨h8, hF⟩ := of_guard hF
        refine at_val rfl rfl rfl (r_view (c := (cInt .u8)) (v := x0) (l := wr .i64 (2 * i5)) (h := wr .i64 ((wr .i64 (2 * i5)) + 2)) Tryd.underlying22 Tryd.sizeOf5 rfl ⟨_, rfl⟩ ⟨_, rfl⟩ h8) ?_
        obtain ⟨t9, ht9, hF⟩ := of_bindM hF
        refine at_callB Tryd.func96 rfl (by kernel_rfl) rfl rfl (fun w hw => callB_of_call0 (endian_OfBig_ok _ _ _ _ ht9 w (Row.sub (lens_row (.s (.s .z)) (Lens.whole _ _) hw) (vbnd h8)))) ?_
        refine at_val rfl rfl rfl (r_move rfl) ?_
        refine at_val rfl rfl rfl (r_extract rfl rfl) ?_
        refine at_val rfl rfl rfl (r_extract rfl rfl) ?_
        refine at_val rfl rfl rfl (r_assign rfl) ?_
        refine at_val rfl rfl rfl (r_assign rfl) ?_
        refine at_nil ?_
        refine at_weak [(1, _), (2, _), (3, _), (4, _), (5, _), (7, _)] ⟨rfl, rfl, rfl, rfl, rfl, rfl, trivial⟩ ?_
        refine at_then_normal ?_
        refine at_region ?_
        refine at_val rfl rfl rfl (r_move rfl) ?_
        refine at_val rfl rfl rfl (r_move rfl) ?_
        refine at_val rfl rfl rfl (r_conv Tryd.underlying83 Tryd.underlying88 rfl) ?_
        obtain ⟨h10, hF⟩ := of_guard hF
        refine at_val rfl rfl rfl (r_idxArr Tryd.underlying89 Tryd.sizeOf88 rfl rfl h10) ?_
        refine at_store (c := (cInt .u16)) (z := wr .u16 t9.1) .z (Lens.comp (Lens.whole _ _) (fun z => vset i6 i5 z) (Lens.vec (cInt .u16) (by decide) i6 i5 h10)) Tryd.sizeOf88 rfl rfl rfl ?_
        refine at_nil ?_
        refine at_weak [(1, _), (2, _), (3, _), (7, _)] ⟨rfl, rfl, rfl, rfl, trivial⟩ ?_
        refine at_blk_normal (at_then_normal ?_)
        refine at_region ?_
        refine at_val rfl rfl rfl (r_iadd rfl rfl) ?_
        refine at_val rfl rfl rfl (r_move rfl) ?_
        refine at_nil ?_
        refine at_weak [(1, _), (2, _), (3, _), (7, _)] ⟨rfl, rfl, rfl, rfl, trivial⟩ ?_
        refine at_then_normal ?_
        exact at_weak_k (ih _ _ _ hF K) ⟨rfl, rfl, rfl, rfl, trivial⟩
      · refine at_cond_false rfl h7 ?_
        refine at_exit ?_
        refine at_then_exit (at_then_exit ?_)
        refine at_drop (H := _) (.s (.s .z)) ?_
        obtain rfl := of_some hF
        exact at_weak_k K ⟨rfl, rfl, trivial⟩
  · skip
    skip
    refine at_blk_same ?_
    refine at_then_normal ?_
    refine at_seq ?_
    refine at_region ?_
    refine at_val rfl rfl rfl (r_load_aggc (c := (cVec (cInt .u16) 8 (by decide))) (z := q4) Tryd.isAgg89 Tryd.sizeOf89 rfl (lens_cell .z (Lens.whole _ _))) ?_
    refine at_store (c := (cVec (cInt .u16) 8 (by decide))) (z := q4) (.s .z) (Lens.whole _ _) Tryd.sizeOf89 rfl rfl rfl ?_
    refine at_nil ?_
    refine at_drop (H := _) .z ?_
    refine at_weak [(2, _)] ⟨rfl, trivial⟩ ?_
    refine at_then_normal ?_
    refine at_ret ?_
    have K := of_some hF
    subst K
    exact at_res1 rfl (res_cell (c := (cVec (cInt .u16) 8 (by decide))) (y := q4) rfl .z (Lens.whole _ _) Tryd.isAgg89 Tryd.sizeOf89 (.inl rfl)) (fun w1 hw => ⟨rfl, hw.below⟩)

def colon_longest.l0 (x0 : (Vector Int 8)) (i3 : Int) (i4 : Int) (i5 : Int) (i6 : Int) : Option (Int × Int) :=
  if (decide (i6 < 8)) = true then (if (0 : Int) ≤ i6 ∧ i6 < 8 then if (vget x0 i6 != 0) = true then (colon_longest.l0 x0 i3 i4 0 (wr .i64 (i6 + 1))) else (if (decide (wr .i64 (i5 + 1) > i4)) = true then (colon_longest.l0 x0 (wr .i64 ((wr .i64 (i6 + 1)) - (wr .i64 (i5 + 1)))) (wr .i64 (i5 + 1)) (wr .i64 (i5 + 1)) (wr .i64 (i6 + 1))) else (colon_longest.l0 x0 i3 i4 (wr .i64 (i5 + 1)) (wr .i64 (i6 + 1)))) else none) else (some (i3, i4))
  partial_fixpoint
def colon_longest (x0 : (Vector Int 8)) : Option (Int × Int) :=
  colon_longest.l0 x0 0 0 0 0 >>= fun q2 => some (q2.1, q2.2)
theorem colon_longest_ok (x0 : (Vector Int 8)) (r : Int × Int) (hF : colon_longest x0 = some r) (w : World) :
    Calls Tryd.prog 79 #[.agg (Cd.cs (cVec (cInt .u16) 8 (by decide)) x0).toArray] w (fun e w' => e = .returned (.tuple #[.int .i64 r.1, .int .i64 r.2]) ∧ Below w.heap.size w w') := by
  unfold colon_longest at hF
  refine calls_enter (l := [.agg (Cd.cs (cVec (cInt .u16) 8 (by decide)) x0).toArray]) Tryd.func79 rfl rfl rfl ?_
  refine at_start ?_
  refine at_weak [(0, _)] ⟨rfl, trivial⟩ ?_
  refine at_seq ?_
  refine at_region ?_
  refine at_box (cs := Cd.cs (cVec (cInt .u16) 8 (by decide)) x0) rfl rfl rfl ?_
  intro b1
  refine at_val rfl rfl rfl (r_assign rfl) ?_
  refine at_val rfl rfl rfl (r_assign rfl) ?_
  refine at_nil ?_
  refine at_weak [(1, _), (2, _), (3, _)] ⟨rfl, rfl, rfl, trivial⟩ ?_
  refine at_then_normal ?_
  refine at_seq ?_
  refine at_region ?_
  refine at_val rfl rfl rfl (r_assign rfl) ?_
  refine at_nil ?_
  refine at_weak [(1, _), (2, _), (3, _), (4, _)] ⟨rfl, rfl, rfl, rfl, trivial⟩ ?_
  refine at_then_normal ?_
  refine at_seq ?_
  refine at_seq ?_
  refine at_region ?_
  refine at_val rfl rfl rfl (r_load_aggc (c := (cVec (cInt .u16) 8 (by decide))) (z := x0) Tryd.isAgg89 Tryd.sizeOf89 rfl (lens_cell .z (Lens.whole _ _))) ?_
  refine at_val rfl rfl rfl (r_move rfl) ?_
  refine at_nil ?_
  refine at_drop (H := _) .z ?_
  refine at_weak [(2, _), (3, _), (4, _), (7, _), (8, _)] ⟨rfl, rfl, rfl, rfl, rfl, trivial⟩ ?_
  refine at_then_normal ?_
  refine at_block ?_
  obtain ⟨q2, hq2, hF⟩ := of_bindM hF
  refine at_weak [(2, _), (3, _), (4, _), (7, _), (8, _)] ⟨rfl, rfl, rfl, rfl, rfl, trivial⟩ ?_
  refine at_loop_n (B := 0) (A := fun Y => At 27 [(2, .int .i64 q2.1), (3, .int .i64 q2.2)] (Wd w []) Y) ?_ ?_
  · intro K
    refine colon_longest.l0.partial_correctness x0 (motive := fun i3 i4 i5 i6 x => KN (fun Y => At 27 [(2, .int .i64 x.1), (3, .int .i64 x.2)] (Wd w []) Y) _ 0 → Round (fun Y => At 27 [(2, .int .i64 i3), (3, .int .i64 i4), (4, .int .i64 i5), (7, .agg (Cd.cs (cVec (cInt .u16) 8 (by decide)) x0).toArray), (8, .int .i64 i6)] (Wd w []) Y) _ _ _) ?_ _ _ _ _ _ hq2 K
    · clear K hF
      intro g ih i3 i4 i5 i6 x hF K
      refine at_round ?_
      refine at_seq ?_
      refine at_region ?_
      refine at_val rfl rfl rfl (r_ilss rfl rfl) ?_
      refine at_nil ?_
      refine at_weak [(2, _), (3, _), (4, _), (7, _), (8, _), (9, _)] ⟨rfl, rfl, rfl, rfl, rfl, rfl, trivial⟩ ?_
      refine at_then_normal ?_
      refine at_seq ?_
      rcases of_ite hF with ⟨h7, hF⟩ | ⟨h7, hF⟩
      · refine at_cond_true rfl h7 ?_
        refine at_skip ?_
        refine at_then_normal ?_
        refine at_seq ?_
        refine at_block ?_
        refine at_seq ?_
        refine at_region ?_
        refine at_val rfl rfl rfl (r_move rfl) ?_
        obtain ⟨h8, hF⟩ := of_guard hF
        refine at_val rfl rfl rfl (r_idxVal Tryd.underlying89 Tryd.sizeOf88 rfl rfl h8 (part_vOf (Lens.vec (cInt .u16) (by decide) x0 i6 h8) Tryd.isAgg88 Tryd.sizeOf88 (.inr rfl))) ?_
        refine at_val rfl rfl rfl (r_assign rfl) ?_
        refine at_val rfl rfl rfl (r_assign rfl) ?_
        refine at_nil ?_
        refine at_weak [(2, _), (3, _), (4, _), (5, _), (6, _), (7, _), (8, _)] ⟨rfl, rfl, rfl, rfl, rfl, rfl, rfl, trivial⟩ ?_
        refine at_then_normal ?_
        refine at_seq ?_
        refine at_seq ?_
        refine at_region ?_
        refine at_val rfl rfl rfl (r_move rfl) ?_
        refine at_val rfl rfl rfl (r_ineq rfl rfl) ?_
        refine at_nil ?_
        refine at_weak [(2, _), (3, _), (4, _), (5, _), (7, _), (8, _), (13, _)] ⟨rfl, rfl, rfl, rfl, rfl, rfl, rfl, trivial⟩ ?_
        refine at_then_normal ?_
        rcases of_ite hF with ⟨h9, hF⟩ | ⟨h9, hF⟩
        · refine at_cond_true rfl h9 ?_
          refine at_seq ?_
          refine at_region ?_
          refine at_val rfl rfl rfl (r_assign rfl) ?_
          refine at_nil ?_
          refine at_weak [(2, _), (3, _), (4, _), (7, _), (8, _)] ⟨rfl, rfl, rfl, rfl, rfl, trivial⟩ ?_
          refine at_then_normal ?_
          refine at_exit ?_
          refine at_then_exit (at_blk_same (at_then_normal ?_))
          refine at_region ?_
          refine at_val rfl rfl rfl (r_iadd rfl rfl) ?_
          refine at_val rfl rfl rfl (r_move rfl) ?_
          refine at_nil ?_
          refine at_weak [(2, _), (3, _), (4, _), (7, _), (8, _)] ⟨rfl, rfl, rfl, rfl, rfl, trivial⟩ ?_
          refine at_then_normal ?_
          exact at_weak_k (ih _ _ _ _ _ hF K) ⟨rfl, rfl, rfl, rfl, rfl, trivial⟩
        · refine at_cond_false rfl h9 ?_
          refine at_skip ?_
          refine at_then_normal ?_
          refine at_seq ?_
          refine at_region ?_
          refine at_val rfl rfl rfl (r_move rfl) ?_
          refine at_val rfl rfl rfl (r_iadd rfl rfl) ?_
          refine at_val rfl rfl rfl (r_assign rfl) ?_
          refine at_nil ?_
          refine at_weak [(2, _), (3, _), (4, _), (5, _), (7, _), (8, _)] ⟨rfl, rfl, rfl, rfl, rfl, rfl, trivial⟩ ?_
          refine at_then_normal ?_
          refine at_seq ?_
          refine at_region ?_
          refine at_val rfl rfl rfl (r_move rfl) ?_
          refine at_val rfl rfl rfl (r_move rfl) ?_
          refine at_val rfl rfl rfl (r_igtr rfl rfl) ?_
          refine at_nil ?_
          refine at_weak [(2, _), (3, _), (4, _), (5, _), (7, _), (8, _), (18, _)] ⟨rfl, rfl, rfl, rfl, rfl, rfl, rfl, trivial⟩ ?_
          refine at_then_normal ?_
          rcases of_ite hF with ⟨h10, hF⟩ | ⟨h10, hF⟩
          · refine at_cond_true rfl h10 ?_
            refine at_region ?_
            refine at_val rfl rfl rfl (r_move rfl) ?_
            refine at_val rfl rfl rfl (r_iadd rfl rfl) ?_
            refine at_val rfl rfl rfl (r_move rfl) ?_
            refine at_val rfl rfl rfl (r_isub rfl rfl) ?_
            refine at_val rfl rfl rfl (r_move rfl) ?_
            refine at_val rfl rfl rfl (r_assign rfl) ?_
            refine at_val rfl rfl rfl (r_assign rfl) ?_
            refine at_nil ?_
            refine at_weak [(2, _), (3, _), (4, _), (7, _), (8, _)] ⟨rfl, rfl, rfl, rfl, rfl, trivial⟩ ?_
            refine at_blk_normal (at_then_normal ?_)
            refine at_region ?_
            refine at_val rfl rfl rfl (r_iadd rfl rfl) ?_
            refine at_val rfl rfl rfl (r_move rfl) ?_
            refine at_nil ?_
            refine at_weak [(2, _), (3, _), (4, _), (7, _), (8, _)] ⟨rfl, rfl, rfl, rfl, rfl, trivial⟩ ?_
            refine at_then_normal ?_
            exact at_weak_k (ih _ _ _ _ _ hF K) ⟨rfl, rfl, rfl, rfl, rfl, trivial⟩
          · refine at_cond_false rfl h10 ?_
            refine at_skip ?_
            refine at_blk_normal (at_then_normal ?_)
            refine at_region ?_
            refine at_val rfl rfl rfl (r_iadd rfl rfl) ?_
            refine at_val rfl rfl rfl (r_move rfl) ?_
            refine at_nil ?_
            refine at_weak [(2, _), (3, _), (4, _), (7, _), (8, _)] ⟨rfl, rfl, rfl, rfl, rfl, trivial⟩ ?_
            refine at_then_normal ?_
            exact at_weak_k (ih _ _ _ _ _ hF K) ⟨rfl, rfl, rfl, rfl, rfl, trivial⟩
      · refine at_cond_false rfl h7 ?_
        refine at_exit ?_
        refine at_then_exit (at_then_exit ?_)
        obtain rfl := of_some hF
        exact at_weak_k K ⟨rfl, rfl, trivial⟩
  · skip
    skip
    refine at_blk_same ?_
    refine at_then_normal ?_
    refine at_seq ?_
    refine at_region ?_
    refine at_val rfl rfl rfl (r_move rfl) ?_
    refine at_val rfl rfl rfl (r_move rfl) ?_
    refine at_val rfl rfl rfl (r_assign rfl) ?_
    refine at_val rfl rfl rfl (r_assign rfl) ?_
    refine at_nil ?_
    refine at_weak [(2, _), (3, _)] ⟨rfl, rfl, trivial⟩ ?_
    refine at_then_normal ?_
    refine at_ret ?_
    have K := of_some hF
    subst K
    exact at_return2 rfl rfl rfl (fun w1 hw => ⟨rfl, hw.below⟩)

def colon_row.l0 (x0 : List Int) (i4 : List ByteArray) (i5 : Int) : Option (List ByteArray) :=
  if (decide (i5 < (x0.length : Int))) = true then (if (0 : Int) ≤ i5 ∧ i5 < (x0.length : Int) then hexes_Group (lget x0 i5) >>= fun t15 => if (i4.length + 1) * 16 ≤ 140737488355328 then colon_row.l0 x0 (i4 ++ [t15]) (wr .i64 (i5 + 1)) else none else none) else (some i4)
  partial_fixpoint
def colon_row (x0 : List Int) : Option (ByteArray) :=
  colon_row.l0 x0 ([] : List ByteArray) 0 >>= fun q3 => if List.length q3 ≤ 140737488355328 then if (bjoin q3 (⟨#[58]⟩ : ByteArray)).size ≤ 140737488355328 then some (bjoin q3 (⟨#[58]⟩ : ByteArray)) else none else none
theorem colon_row_ok (x0 : List Int) (p0_ : Option Addr) (c0_ : Nat) (r : ByteArray) (hF : colon_row x0 = some r) (w : World) (hr0 : Row (cInt .u16) w p0_ c0_ x0) :
    Calls Tryd.prog 80 #[.slice p0_ x0.length c0_] w (fun e w' => e = .returned (.string r) ∧ Below w.heap.size w w') := by
  unfold colon_row at hF
  refine calls_enter (l := [.slice p0_ x0.length c0_]) Tryd.func80 rfl rfl rfl ?_
  refine at_start ?_
  refine at_weak [(0, _)] ⟨rfl, trivial⟩ ?_
  refine at_seq ?_
  refine at_region ?_
  refine at_val rfl rfl rfl (r_assign rfl) ?_
  refine at_nil ?_
  refine at_weak [(0, _)] ⟨rfl, trivial⟩ ?_
  refine at_then_normal ?_
  refine at_seq ?_
  refine at_region ?_
  refine at_val rfl rfl rfl (r_assign rfl) ?_
  refine at_nil ?_
  refine at_weak [(0, _), (3, _)] ⟨rfl, rfl, trivial⟩ ?_
  refine at_then_normal ?_
  refine at_seq ?_
  refine at_seq ?_
  refine at_region ?_
  refine at_val rfl rfl rfl (r_move rfl) ?_
  refine at_val rfl rfl rfl (r_len_sl Tryd.underlying94 rfl) ?_
  refine at_val rfl rfl rfl (r_move rfl) ?_
  refine at_nil ?_
  refine at_weak [(3, _), (6, _), (7, _), (8, _)] ⟨rfl, rfl, rfl, rfl, trivial⟩ ?_
  refine at_then_normal ?_
  refine at_block ?_
  refine at_own_nil cStr 9 ?_
  refine at_weak [(3, .slice none ([] : List ByteArray).length 0), (6, _), (7, _), (8, _)] ⟨rfl, rfl, rfl, rfl, trivial⟩ ?_
  obtain ⟨q3, hq3, hF⟩ := of_bindM hF
  refine at_weak [(3, _), (6, _), (7, _), (8, _)] ⟨rfl, rfl, rfl, rfl, trivial⟩ ?_
  refine at_loop_n (B := 0) (A := fun Y => ∀ (p8 : Option Addr) (c9 : Nat), At 20 [(3, .slice p8 q3.length c9)] (Wd w [rowE cStr 9 p8 c9 q3]) Y) ?_ ?_
  · intro K
    refine colon_row.l0.partial_correctness x0 (motive := fun i4 i5 x => KN (fun Y => ∀ (p8 : Option Addr) (c9 : Nat), At 20 [(3, .slice p8 x.length c9)] (Wd w [rowE cStr 9 p8 c9 x]) Y) _ 0 → Round (fun Y => ∀ (p6 : Option Addr) (c7 : Nat), At 20 [(3, .slice p6 i4.length c7), (6, .slice p0_ x0.length c0_), (7, .int .i64 (x0.length : Int)), (8, .int .i64 i5)] (Wd w [rowE cStr 9 p6 c7 i4]) Y) _ _ _) ?_ _ _ _ hq3 K none 0
    · clear K hF
      intro g ih i4 i5 x hF K p6 c7
      refine at_round ?_
      refine at_seq ?_
      refine at_region ?_
      refine at_val rfl rfl rfl (r_ilss rfl rfl) ?_
      refine at_nil ?_
      refine at_weak [(3, _), (6, _), (7, _), (8, _), (9, _)] ⟨rfl, rfl, rfl, rfl, rfl, trivial⟩ ?_
      refine at_then_normal ?_
      refine at_seq ?_
      rcases of_ite hF with ⟨h10, hF⟩ | ⟨h10, hF⟩
      · refine at_cond_true rfl h10 ?_
        refine at_skip ?_
        refine at_then_normal ?_
        refine at_seq ?_
        refine at_block ?_
        refine at_seq ?_
        refine at_region ?_
        obtain ⟨h11, hF⟩ := of_guard hF
        obtain ⟨b13, o14, hp12⟩ := row_ptr hr0 h11
        refine at_val rfl rfl rfl (r_idx Tryd.underlying94 Tryd.sizeOf88 rfl rfl h11 hp12) ?_
        refine at_val rfl rfl rfl (r_load_cell Tryd.isAgg88 rfl (row_cell0 (fun _ h => h.below) hr0 h11 hp12 rfl)) ?_
        refine at_val rfl rfl rfl (r_assign rfl) ?_
        refine at_nil ?_
        refine at_weak [(3, _), (5, _), (6, _), (7, _), (8, _)] ⟨rfl, rfl, rfl, rfl, rfl, trivial⟩ ?_
        refine at_then_normal ?_
        refine at_region ?_
        refine at_val rfl rfl rfl (r_move rfl) ?_
        refine at_val rfl rfl rfl (r_move rfl) ?_
        obtain ⟨t15, ht15, hF⟩ := of_bindM hF
        refine at_call0 Tryd.func97 rfl (by kernel_rfl) rfl rfl (fun w => hexes_Group_ok _ _ ht15 w) ?_
        refine at_lit (cs := cStr.all ([t15] : List ByteArray)) Tryd.underlying76 Tryd.sizeOf9 Tryd.zeroValue9 rfl rfl rfl (by kernel_rfl) rfl ?_
        intro b16
        obtain ⟨h17, hF⟩ := of_guard hF
        refine at_append (z := .string ⟨#[]⟩) (c := cStr) (ys := ([t15] : List ByteArray)) (.s .z) Tryd.underlying76 infoH49 (by kernel_rfl) (by kernel_rfl) rfl rfl rfl rfl (fun _ hw => cells_src (hw.ok (Upd.mem .z))) (by kernel_rfl) h17 (app_small h17) rfl ?_
        intro p18 c19
        refine at_val rfl rfl rfl (r_assign rfl) ?_
        refine at_nil ?_
        refine at_drop (H := _) .z ?_
        refine at_weak [(3, _), (6, _), (7, _), (8, _)] ⟨rfl, rfl, rfl, rfl, trivial⟩ ?_
        refine at_blk_normal (at_then_normal ?_)
        refine at_region ?_
        refine at_val rfl rfl rfl (r_iadd rfl rfl) ?_
        refine at_val rfl rfl rfl (r_move rfl) ?_
        refine at_nil ?_
        refine at_weak [(3, _), (6, _), (7, _), (8, _)] ⟨rfl, rfl, rfl, rfl, trivial⟩ ?_
        refine at_then_normal ?_
        exact at_weak_k (ih _ _ _ hF K p18 c19) ⟨rfl, rfl, rfl, rfl, trivial⟩
      · refine at_cond_false rfl h10 ?_
        refine at_exit ?_
        refine at_then_exit (at_then_exit ?_)
        obtain rfl := of_some hF
        exact at_weak_k (K p6 c7) ⟨rfl, trivial⟩
  · skip
    intro p8 c9
    refine at_blk_same ?_
    refine at_then_normal ?_
    refine at_seq ?_
    refine at_region ?_
    refine at_val rfl rfl rfl (r_move rfl) ?_
    obtain ⟨h20, hF⟩ := of_guard hF
    obtain ⟨h21, hF⟩ := of_guard hF
    refine at_callB Tryd.func91 rfl (by kernel_rfl) rfl rfl (fun w1 hw => join_ok _ _ h20 h21 _ _ w1 (hw.own .z).row) ?_
    refine at_val rfl rfl rfl (r_assign rfl) ?_
    refine at_nil ?_
    refine at_drop (H := _) .z ?_
    refine at_weak [(2, _)] ⟨rfl, trivial⟩ ?_
    refine at_then_normal ?_
    refine at_ret ?_
    have K := of_some hF
    subst K
    exact at_return1 rfl rfl (fun w1 hw => ⟨rfl, hw.below⟩)

def colon_Text (x0 : (Vector Int 16)) : Option (ByteArray) :=
  colon_groups x0 >>= fun t2 => colon_longest t2 >>= fun t4 => if (decide (t4.2 < 2)) = true then (colon_row (Vector.toList t2) >>= fun t6 => some t6) else (if (0 : Int) ≤ 0 ∧ 0 ≤ t4.1 ∧ t4.1 ≤ (8 : Int) then colon_row (lsub (Vector.toList t2) 0 t4.1) >>= fun t8 => if t8.size + (⟨#[58, 58]⟩ : ByteArray).size ≤ 140737488355328 then if (0 : Int) ≤ wr .i64 (t4.1 + t4.2) ∧ wr .i64 (t4.1 + t4.2) ≤ 8 ∧ 8 ≤ (8 : Int) then colon_row (lsub (Vector.toList t2) (wr .i64 (t4.1 + t4.2)) 8) >>= fun t11 => if (t8 ++ (⟨#[58, 58]⟩ : ByteArray)).size + t11.size ≤ 140737488355328 then some ((t8 ++ (⟨#[58, 58]⟩ : ByteArray)) ++ t11) else none else none else none else none)
theorem colon_Text_ok (x0 : (Vector Int 16)) (r : ByteArray) (hF : colon_Text x0 = some r) (w : World) :
    Calls Tryd.prog 59 #[.agg (Cd.cs (cVec (cInt .u8) 16 (by decide)) x0).toArray] w (fun e w' => e = .returned (.string r) ∧ Below w.heap.size w w') := by
  unfold colon_Text at hF
  refine calls_enter (l := [.agg (Cd.cs (cVec (cInt .u8) 16 (by decide)) x0).toArray]) Tryd.func59 rfl rfl rfl ?_
  refine at_start ?_
  refine at_weak [(0, _)] ⟨rfl, trivial⟩ ?_
  refine at_seq ?_
  refine at_region ?_
  refine at_box (cs := Cd.cs (cVec (cInt .u8) 16 (by decide)) x0) rfl rfl rfl ?_
  intro b1
  refine at_val rfl rfl rfl (r_assign rfl) ?_
  refine at_nil ?_
  refine at_weak [(1, _)] ⟨rfl, trivial⟩ ?_
  refine at_then_normal ?_
  refine at_seq ?_
  refine at_region ?_
  refine at_val rfl rfl rfl (r_load_aggc (c := (cVec (cInt .u8) 16 (by decide))) (z := x0) Tryd.isAgg22 Tryd.sizeOf22 rfl (lens_cell .z (Lens.whole _ _))) ?_
  obtain ⟨t2, ht2, hF⟩ := of_bindM hF
  refine at_callB Tryd.func78 rfl (by kernel_rfl) rfl rfl (fun w hw => colon_groups_ok _ _ ht2 w) ?_
  refine at_alloc (cs := Cd.cs (cVec (cInt .u16) 8 (by decide)) (Vector.replicate 8 (0 : Int) : (Vector Int 8))) Tryd.zeroValue89 rfl rfl ?_
  intro b3
  refine at_store (c := (cVec (cInt .u16) 8 (by decide))) (z := t2) .z (Lens.whole _ _) Tryd.sizeOf89 rfl rfl rfl ?_
  refine at_nil ?_
  refine at_drop (H := _) (.s .z) ?_
  refine at_weak [(3, _)] ⟨rfl, trivial⟩ ?_
  refine at_then_normal ?_
  refine at_seq ?_
  refine at_region ?_
  refine at_val rfl rfl rfl (r_load_aggc (c := (cVec (cInt .u16) 8 (by decide))) (z := t2) Tryd.isAgg89 Tryd.sizeOf89 rfl (lens_cell .z (Lens.whole _ _))) ?_
  obtain ⟨t4, ht4, hF⟩ := of_bindM hF
  refine at_callB Tryd.func79 rfl (by kernel_rfl) rfl rfl (fun w hw => colon_longest_ok _ _ ht4 w) ?_
  refine at_val rfl rfl rfl (r_move rfl) ?_
  refine at_val rfl rfl rfl (r_extract rfl rfl) ?_
  refine at_val rfl rfl rfl (r_extract rfl rfl) ?_
  refine at_val rfl rfl rfl (r_assign rfl) ?_
  refine at_val rfl rfl rfl (r_assign rfl) ?_
  refine at_nil ?_
  refine at_weak [(3, _), (4, _), (5, _)] ⟨rfl, rfl, rfl, trivial⟩ ?_
  refine at_then_normal ?_
  refine at_seq ?_
  refine at_seq ?_
  refine at_region ?_
  refine at_val rfl rfl rfl (r_move rfl) ?_
  refine at_val rfl rfl rfl (r_ilss rfl rfl) ?_
  refine at_nil ?_
  refine at_weak [(3, _), (4, _), (5, _), (14, _)] ⟨rfl, rfl, rfl, rfl, trivial⟩ ?_
  refine at_then_normal ?_
  rcases of_ite hF with ⟨h5, hF⟩ | ⟨h5, hF⟩
  · refine at_cond_true rfl h5 ?_
    refine at_seq ?_
    refine at_region ?_
    refine at_val rfl rfl rfl (r_slice_vec t2 Tryd.underlying89 Tryd.sizeOf88 rfl) ?_
    obtain ⟨t6, ht6, hF⟩ := of_bindM hF
    refine at_callB Tryd.func80 rfl (by kernel_rfl) rfl rfl (fun w hw => colon_row_ok _ _ _ _ ht6 w (vec_row (hw.ok (Upd.mem .z)))) ?_
    refine at_val rfl rfl rfl (r_assign rfl) ?_
    refine at_nil ?_
    refine at_drop (H := _) .z ?_
    refine at_weak [(2, _)] ⟨rfl, trivial⟩ ?_
    refine at_then_normal ?_
    refine at_ret ?_
    refine at_then_ret ?_
    have K := of_some hF
    subst K
    exact at_return1 rfl rfl (fun w1 hw => ⟨rfl, hw.below⟩)
  · refine at_cond_false rfl h5 ?_
    refine at_skip ?_
    refine at_then_normal ?_
    refine at_seq ?_
    refine at_draw (by kernel_rfl) (by kernel_rfl) (fun _ h => h.drew) ?_
    refine atq_val rfl rfl rfl (r_move rfl) ?_
    obtain ⟨h7, hF⟩ := of_guard hF
    refine atq_val rfl rfl rfl (r_view (c := (cInt .u16)) (v := t2) (l := 0) (h := t4.1) Tryd.underlying89 Tryd.sizeOf88 rfl rfl ⟨_, rfl⟩ h7) ?_
    obtain ⟨t8, ht8, hF⟩ := of_bindM hF
    refine atq_call Tryd.func80 rfl (by kernel_rfl) rfl rfl (fun w hw => (colon_row_ok _ _ _ _ ht8 w (Row.sub (lens_row .z (Lens.whole _ _) hw) (vbnd h7))).mono fun _ _ h => ⟨h.1, hw.call h.2⟩) ?_
    obtain ⟨h9, hF⟩ := of_guard hF
    refine atq_val rfl rfl rfl (r_concat rfl rfl h9) ?_
    refine atq_val rfl rfl rfl (r_move rfl) ?_
    refine atq_val rfl rfl rfl (r_move rfl) ?_
    refine atq_val rfl rfl rfl (r_iadd rfl rfl) ?_
    obtain ⟨h10, hF⟩ := of_guard hF
    refine atq_val rfl rfl rfl (r_view (c := (cInt .u16)) (v := t2) (l := wr .i64 (t4.1 + t4.2)) (h := 8) Tryd.underlying89 Tryd.sizeOf88 rfl ⟨_, rfl⟩ rfl h10) ?_
    obtain ⟨t11, ht11, hF⟩ := of_bindM hF
    refine atq_call Tryd.func80 rfl (by kernel_rfl) rfl rfl (fun w hw => (colon_row_ok _ _ _ _ ht11 w (Row.sub (lens_row .z (Lens.whole _ _) hw) (vbnd h10))).mono fun _ _ h => ⟨h.1, hw.call h.2⟩) ?_
    obtain ⟨h12, hF⟩ := of_guard hF
    refine atq_val rfl rfl rfl (r_concat rfl rfl h12) ?_
    refine atq_val rfl rfl rfl (r_assign rfl) ?_
    refine atq_nil ?_
    refine at_drop (H := _) .z ?_
    refine at_weak [(2, _)] ⟨rfl, trivial⟩ ?_
    refine at_then_normal ?_
    refine at_ret ?_
    have K := of_some hF
    subst K
    exact at_return1 rfl rfl (fun w1 hw => ⟨rfl, hw.below⟩)

def addr_Text (x0 : S_api_Addr) : Option (ByteArray) :=
  addr_Right x0 >>= fun t2 => if (!t2) = true then (some (⟨#[]⟩)) else (if (x0.f_V == 4) = true then (if 4 ≤ (lsub (Vector.toList x0.f_B) 0 4).length then quad_Text (lvec 4 (lsub (Vector.toList x0.f_B) 0 4)) >>= fun t9 => some t9 else none) else (colon_Text x0.f_B >>= fun t10 => some t10))
theorem addr_Text_ok (x0 : S_api_Addr) (r : ByteArray) (hF : addr_Text x0 = some r) (w : World) (hg_strconv_uint64pow10 : GV_strconv_uint64pow10 w) :
    Calls Tryd.prog 35 #[.agg (Cd.cs c_api_Addr x0).toArray] w (fun e w' => e = .returned (.string r) ∧ Below w.heap.size w w') := by
  unfold addr_Text at hF
  refine calls_enter (l := [.agg (Cd.cs c_api_Addr x0).toArray]) Tryd.func35 rfl rfl rfl ?_
  refine at_start ?_
  refine at_weak [(0, _)] ⟨rfl, trivial⟩ ?_
  refine at_seq ?_
  refine at_region ?_
  refine at_box (cs := Cd.cs c_api_Addr x0) rfl rfl rfl ?_
  intro b1
  refine at_val rfl rfl rfl (r_assign rfl) ?_
  refine at_nil ?_
  refine at_weak [(1, _)] ⟨rfl, trivial⟩ ?_
  refine at_then_normal ?_
  refine at_seq ?_
  refine at_block ?_
  refine at_seq ?_
  refine at_region ?_
  refine at_val rfl rfl rfl (r_load_aggc (c := c_api_Addr) (z := x0) Tryd.isAgg24 Tryd.sizeOf24 rfl (lens_cell .z (Lens.whole _ _))) ?_
  obtain ⟨t2, ht2, hF⟩ := of_bindM hF
  refine at_callB Tryd.func36 rfl (by kernel_rfl) rfl rfl (fun w hw => addr_Right_ok _ _ ht2 w) ?_
  refine at_val rfl rfl rfl (r_not rfl) ?_
  refine at_val rfl rfl rfl (r_assign rfl) ?_
  refine at_nil ?_
  refine at_weak [(1, _), (3, _)] ⟨rfl, rfl, trivial⟩ ?_
  refine at_then_normal ?_
  rcases of_ite hF with ⟨h3, hF⟩ | ⟨h3, hF⟩
  · refine at_cond_true rfl h3 ?_
    refine at_seq ?_
    refine at_region ?_
    refine at_val rfl rfl rfl (r_assign rfl) ?_
    refine at_nil ?_
    refine at_drop (H := _) .z ?_
    refine at_weak [(2, _)] ⟨rfl, trivial⟩ ?_
    refine at_then_normal ?_
    refine at_ret ?_
    refine at_blk_ret (at_then_ret ?_)
    have K := of_some hF
    subst K
    exact at_return1 rfl rfl (fun w1 hw => ⟨rfl, hw.below⟩)
  · refine at_cond_false rfl h3 ?_
    refine at_seq ?_
    refine at_region ?_
    refine at_val rfl rfl rfl (r_fieldAddr (fo := 0) Tryd.underlying24 rfl rfl (fun w => ⟨_, Tryd.sizeOf3 w⟩) rfl) ?_
    refine at_val rfl rfl rfl (r_load_cell Tryd.isAgg3 rfl (lens_cell0 (c := (cInt .i64)) (y := x0.f_V) .z (Lens.comp (Lens.whole _ _) (fun z => { x0 with f_V := z }) (c_api_Addr_f_V x0)) rfl)) ?_
    refine at_val rfl rfl rfl (r_ieql rfl rfl) ?_
    refine at_val rfl rfl rfl (r_assign rfl) ?_
    refine at_nil ?_
    refine at_weak [(1, _), (7, _)] ⟨rfl, rfl, trivial⟩ ?_
    refine at_then_normal ?_
    rcases of_ite hF with ⟨h4, hF⟩ | ⟨h4, hF⟩
    · refine at_cond_true rfl h4 ?_
      refine at_seq ?_
      refine at_region ?_
      refine at_val rfl rfl rfl (r_fieldAddr (fo := 1) Tryd.underlying24 rfl rfl (fun w => ⟨_, Tryd.sizeOf22 w⟩) rfl) ?_
      refine at_val rfl rfl rfl (r_view (c := (cInt .u8)) (v := x0.f_B) (l := 0) (h := 4) Tryd.underlying22 Tryd.sizeOf5 rfl rfl ⟨_, rfl⟩ (by decide)) ?_
      obtain ⟨h5, hF⟩ := of_guard hF
      refine at_val rfl rfl rfl (r_arrptr Tryd.underlying47 rfl h5) ?_
      obtain ⟨b6, o7, hp8⟩ : ∃ b o, rsp (some ⟨b1, 0 + 1, none⟩) 16 0 (Cd.sz (cInt .u8)) = some ⟨b, o, none⟩ := rsp_plain
      refine at_val rfl rfl rfl (r_load_aggc (c := (cVec (cInt .u8) 4 (by decide))) (z := lvec 4 (lsub (Vector.toList x0.f_B) 0 4)) Tryd.isAgg47 Tryd.sizeOf47 (by rw [← hp8]; rfl) (fun w1 hw => row_lvec (Row.sub (lens_row .z (Lens.comp (Lens.whole _ _) (fun z => { x0 with f_B := z }) (c_api_Addr_f_B x0)) hw) (vbnd (by decide))) h5 hp8)) ?_
      obtain ⟨t9, ht9, hF⟩ := of_bindM hF
      refine at_callB Tryd.func72 rfl (by kernel_rfl) rfl rfl (fun w hw => quad_Text_ok _ _ ht9 w (hg_strconv_uint64pow10.on hw.below)) ?_
      refine at_val rfl rfl rfl (r_assign rfl) ?_
      refine at_nil ?_
      refine at_drop (H := _) .z ?_
      refine at_weak [(2, _)] ⟨rfl, trivial⟩ ?_
      refine at_then_normal ?_
      refine at_ret ?_
      refine at_blk_ret (at_then_ret ?_)
      have K := of_some hF
      subst K
      exact at_return1 rfl rfl (fun w1 hw => ⟨rfl, hw.below⟩)
    · refine at_cond_false rfl h4 ?_
      refine at_skip ?_
      refine at_blk_normal (at_then_normal ?_)
      refine at_seq ?_
      refine at_region ?_
      refine at_val rfl rfl rfl (r_fieldAddr (fo := 1) Tryd.underlying24 rfl rfl (fun w => ⟨_, Tryd.sizeOf22 w⟩) rfl) ?_
      refine at_val rfl rfl rfl (r_load_aggc (c := (cVec (cInt .u8) 16 (by decide))) (z := x0.f_B) Tryd.isAgg22 Tryd.sizeOf22 rfl (lens_cell .z (Lens.comp (Lens.whole _ _) (fun z => { x0 with f_B := z }) (c_api_Addr_f_B x0)))) ?_
      obtain ⟨t10, ht10, hF⟩ := of_bindM hF
      refine at_callB Tryd.func59 rfl (by kernel_rfl) rfl rfl (fun w hw => colon_Text_ok _ _ ht10 w) ?_
      refine at_val rfl rfl rfl (r_assign rfl) ?_
      refine at_nil ?_
      refine at_drop (H := _) .z ?_
      refine at_weak [(2, _)] ⟨rfl, trivial⟩ ?_
      refine at_then_normal ?_
      refine at_ret ?_
      have K := of_some hF
      subst K
      exact at_return1 rfl rfl (fun w1 hw => ⟨rfl, hw.below⟩)
end Go.Proofs.YtecolkjlpklaaaaDoor
