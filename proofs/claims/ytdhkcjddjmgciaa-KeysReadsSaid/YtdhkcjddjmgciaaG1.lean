/- Functions with the same answers as the Go functions that they are named for, and the proofs of it, by a program of this project (gen.py). -/
import Derived.Test.YtdhkcjddjmgciaaT
import Derived.Test.YtdhkcjddjmgciaaShelf
import Derived.Test.YtdhkcjddjmgciaaProg

set_option linter.unusedVariables false
set_option linter.unusedSimpArgs false
namespace Go.Proofs.Ytdhkcjddjmgciaa
open E Go.RowKit

theorem infoG15_is : (Try.prog.info? 5).isSome = true := by kernel_rfl
noncomputable def infoG15_v : TypeInfo := (Try.prog.info? 5).get infoG15_is
theorem infoG15 : Try.prog.info? 5 = some infoG15_v := (Option.some_get _).symm

def crawlwayref05_digit (x0 : Int) : Option (ByteArray) :=
  if (0 : Int) ≤ x0 ∧ x0 ≤ wr .i64 (x0 + 1) ∧ wr .i64 (x0 + 1) ≤ ((⟨#[48, 49, 50, 51, 52, 53, 54, 55, 56, 57, 97, 98, 99, 100, 101, 102]⟩ : ByteArray).size : Int) then some ((⟨#[48, 49, 50, 51, 52, 53, 54, 55, 56, 57, 97, 98, 99, 100, 101, 102]⟩ : ByteArray).extract (Int.toNat x0) (Int.toNat (wr .i64 (x0 + 1)))) else none
theorem crawlwayref05_digit_ok (x0 : Int) (r : ByteArray) (hF : crawlwayref05_digit x0 = some r) (w : World) :
    Calls Try.prog 89 #[.int .i64 x0] w (fun e w' => e = .returned (.string r) ∧ w' = w) := by
  unfold crawlwayref05_digit at hF
  refine calls_enter (l := [.int .i64 x0]) Try.func89 rfl rfl rfl ?_
  refine at_weak [(0, _)] ⟨rfl, trivial⟩ ?_
  refine at_seq ?_
  refine at_region ?_
  refine at_val rfl rfl rfl (r_assign rfl) ?_
  refine at_nil ?_
  refine at_weak [(0, _)] ⟨rfl, trivial⟩ ?_
  refine at_then_normal ?_
  refine at_seq ?_
  refine at_region ?_
  refine at_val rfl rfl rfl (r_move rfl) ?_
  refine at_val rfl rfl rfl (r_move rfl) ?_
  refine at_val rfl rfl rfl (r_iadd rfl rfl) ?_
  obtain ⟨h1, hF⟩ := of_guard hF
  refine at_val rfl rfl rfl (r_slice_str Try.underlying9 rfl ⟨_, rfl⟩ ⟨_, rfl⟩ h1) ?_
  refine at_val rfl rfl rfl (r_assign rfl) ?_
  refine at_nil ?_
  refine at_weak [(2, _)] ⟨rfl, trivial⟩ ?_
  refine at_then_normal ?_
  refine at_ret ?_
  have K := of_some hF
  subst K
  exact at_return1 rfl rfl (fun w1 hw => ⟨rfl, hw⟩)

def crawlwayref05_Value.l0 (x0 : Int) (x1 : Bool) (i2 : Int) : Option (Ctl (Int) (Unit)) :=
  if (decide (i2 < 16)) = true then (crawlwayref05_digit i2 >>= fun t4 => if (0 : Int) ≤ 0 ∧ 0 < (t4.size : Int) then if (bt t4 0 == x0) = true then (some (.ret i2)) else (if x1 = true then (if (decide (i2 > 9)) = true then (crawlwayref05_digit i2 >>= fun t9 => if (0 : Int) ≤ 0 ∧ 0 < (t9.size : Int) then if (bt t9 0 == wr .u8 (x0 + 32)) = true then (some (.ret i2)) else (crawlwayref05_Value.l0 x0 x1 (wr .i64 (i2 + 1))) else none) else (crawlwayref05_Value.l0 x0 x1 (wr .i64 (i2 + 1)))) else (crawlwayref05_Value.l0 x0 x1 (wr .i64 (i2 + 1)))) else none) else (some (.nx ()))
  partial_fixpoint
def crawlwayref05_Value (x0 : Int) (x1 : Bool) : Option (Int) :=
  crawlwayref05_Value.l0 x0 x1 0 >>= fun q1 => match q1 with | .ret r' => some r' | .nx sq1 => (some (-1))
theorem crawlwayref05_Value_ok (x0 : Int) (x1 : Bool) (r : Int) (hF : crawlwayref05_Value x0 x1 = some r) (w : World) :
    Calls Try.prog 116 #[.int .u8 x0, .bool x1] w (fun e w' => e = .returned (.int .i64 r) ∧ w' = w) := by
  unfold crawlwayref05_Value at hF
  refine calls_enter (l := [.int .u8 x0, .bool x1]) Try.func116 rfl rfl rfl ?_
  refine at_weak [(0, _), (1, _)] ⟨rfl, rfl, trivial⟩ ?_
  refine at_seq ?_
  refine at_region ?_
  refine at_val rfl rfl rfl (r_assign rfl) ?_
  refine at_nil ?_
  refine at_weak [(0, _), (1, _)] ⟨rfl, rfl, trivial⟩ ?_
  refine at_then_normal ?_
  refine at_seq ?_
  refine at_seq ?_
  refine at_region ?_
  refine at_val rfl rfl rfl (r_assign rfl) ?_
  refine at_nil ?_
  refine at_weak [(0, _), (1, _), (5, _)] ⟨rfl, rfl, rfl, trivial⟩ ?_
  refine at_then_normal ?_
  refine at_block ?_
  obtain ⟨q1, hq1, hF⟩ := of_bindM hF
  refine at_weak [(0, _), (1, _), (5, _)] ⟨rfl, rfl, rfl, trivial⟩ ?_
  refine at_loop_r (B := 0) (r := r) (q := q1) (A := fun (_ : Unit) Y => At 31 [] (fun w' => w' = w) Y) ?_ ?_
  · intro K
    refine crawlwayref05_Value.l0.partial_correctness x0 x1 (motive := fun i2 x => KR (fun (_ : Unit) Y => At 31 [] (fun w' => w' = w) Y) _ 0 r x → Round (fun Y => At 31 [(0, .int .u8 x0), (1, .bool x1), (5, .int .i64 i2)] (fun w' => w' = w) Y) _ _ _) ?_ _ _ hq1 K
    · clear K hF
      intro g ih i2 x hF K
      refine at_round ?_
      refine at_seq ?_
      refine at_seq ?_
      refine at_region ?_
      refine at_val rfl rfl rfl (r_move rfl) ?_
      refine at_val rfl rfl rfl (r_ilss rfl rfl) ?_
      refine at_nil ?_
      refine at_weak [(0, _), (1, _), (5, _), (7, _)] ⟨rfl, rfl, rfl, rfl, trivial⟩ ?_
      refine at_then_normal ?_
      rcases of_ite hF with ⟨h3, hF⟩ | ⟨h3, hF⟩
      · refine at_cond_true rfl h3 ?_
        refine at_skip ?_
        refine at_then_normal ?_
        refine at_seq ?_
        refine at_block ?_
        refine at_seq ?_
        refine at_region ?_
        refine at_val rfl rfl rfl (r_move rfl) ?_
        obtain ⟨t4, ht4, hF⟩ := of_bindM hF
        refine at_call0 Try.func89 rfl (by kernel_rfl) rfl rfl (fun w => crawlwayref05_digit_ok _ _ ht4 w) ?_
        obtain ⟨h5, hF⟩ := of_guard hF
        refine at_val rfl rfl rfl (r_index_str Try.underlying9 rfl rfl h5) ?_
        refine at_val rfl rfl rfl (r_move rfl) ?_
        refine at_val rfl rfl rfl (r_ieql rfl rfl) ?_
        refine at_val rfl rfl rfl (r_move rfl) ?_
        rcases of_ite hF with ⟨h6, hF⟩ | ⟨h6, hF⟩
        · refine at_fix (g := 15) rfl h6 ?_
          refine at_guard_no rfl rfl rfl rfl rfl ?_
          refine at_guard_no rfl rfl rfl rfl rfl ?_
          refine at_guard_undef rfl rfl rfl rfl ?_
          refine at_guard_undef rfl rfl rfl rfl ?_
          refine at_guard_no rfl rfl rfl rfl rfl ?_
          refine at_guard_no rfl rfl rfl rfl rfl ?_
          refine at_guard_undef rfl rfl rfl rfl ?_
          refine at_guard_undef rfl rfl rfl rfl ?_
          refine at_guard_undef rfl rfl rfl rfl ?_
          refine at_guard_undef rfl rfl rfl rfl ?_
          refine at_guard_undef rfl rfl rfl rfl ?_
          refine at_guard_undef rfl rfl rfl rfl ?_
          refine at_guard_no rfl rfl rfl rfl rfl ?_
          refine at_val rfl rfl rfl (r_pick rfl rfl rfl) ?_
          refine at_nil ?_
          refine at_weak [(0, _), (1, _), (5, _), (29, _)] ⟨rfl, rfl, rfl, rfl, trivial⟩ ?_
          refine at_then_normal ?_
          refine at_cond_true rfl rfl ?_
          refine at_seq ?_
          refine at_region ?_
          refine at_val rfl rfl rfl (r_move rfl) ?_
          refine at_val rfl rfl rfl (r_assign rfl) ?_
          refine at_nil ?_
          refine at_weak [(4, _)] ⟨rfl, trivial⟩ ?_
          refine at_then_normal ?_
          refine at_ret ?_
          refine at_blk_ret (at_then_ret (at_then_ret (at_blk_ret (at_then_ret ?_))))
          obtain rfl := of_some hF
          subst K
          exact at_return1 rfl rfl (fun w1 hw => ⟨rfl, hw⟩)
        · refine at_fix (g := 15) rfl h6 ?_
          refine at_guard_yes rfl rfl rfl ?_
          refine at_val rfl rfl rfl (r_move rfl) ?_
          refine at_guard_yes rfl rfl rfl ?_
          refine at_val rfl rfl rfl (r_move rfl) ?_
          rcases of_ite hF with ⟨h7, hF⟩ | ⟨h7, hF⟩
          · refine at_fix (g := 17) rfl h7 ?_
            refine at_guard_yes rfl rfl rfl ?_
            refine at_val rfl rfl rfl (r_move rfl) ?_
            refine at_guard_yes rfl rfl rfl ?_
            refine at_val rfl rfl rfl (r_igtr rfl rfl) ?_
            refine at_guard_yes rfl rfl rfl ?_
            refine at_val rfl rfl rfl (r_pick rfl rfl rfl) ?_
            refine at_guard_yes rfl rfl rfl ?_
            refine at_val rfl rfl rfl (r_move rfl) ?_
            rcases of_ite hF with ⟨h8, hF⟩ | ⟨h8, hF⟩
            · refine at_fix (g := 21) rfl h8 ?_
              refine at_guard_yes rfl rfl rfl ?_
              refine at_val rfl rfl rfl (r_move rfl) ?_
              refine at_guard_yes rfl rfl rfl ?_
              obtain ⟨t9, ht9, hF⟩ := of_bindM hF
              refine at_call0 Try.func89 rfl (by kernel_rfl) rfl rfl (fun w => crawlwayref05_digit_ok _ _ ht9 w) ?_
              refine at_guard_yes rfl rfl rfl ?_
              obtain ⟨h10, hF⟩ := of_guard hF
              refine at_val rfl rfl rfl (r_index_str Try.underlying9 rfl rfl h10) ?_
              refine at_guard_yes rfl rfl rfl ?_
              refine at_val rfl rfl rfl (r_move rfl) ?_
              refine at_guard_yes rfl rfl rfl ?_
              refine at_val rfl rfl rfl (r_iadd rfl rfl) ?_
              refine at_guard_yes rfl rfl rfl ?_
              refine at_val rfl rfl rfl (r_ieql rfl rfl) ?_
              refine at_guard_yes rfl rfl rfl ?_
              refine at_val rfl rfl rfl (r_pick rfl rfl rfl) ?_
              refine at_val rfl rfl rfl (r_pick rfl rfl rfl) ?_
              refine at_nil ?_
              refine at_weak [(0, _), (1, _), (5, _), (29, _)] ⟨rfl, rfl, rfl, rfl, trivial⟩ ?_
              refine at_then_normal ?_
              rcases of_ite hF with ⟨h11, hF⟩ | ⟨h11, hF⟩
              · refine at_cond_true rfl h11 ?_
                refine at_seq ?_
                refine at_region ?_
                refine at_val rfl rfl rfl (r_move rfl) ?_
                refine at_val rfl rfl rfl (r_assign rfl) ?_
                refine at_nil ?_
                refine at_weak [(4, _)] ⟨rfl, trivial⟩ ?_
                refine at_then_normal ?_
                refine at_ret ?_
                refine at_blk_ret (at_then_ret (at_then_ret (at_blk_ret (at_then_ret ?_))))
                obtain rfl := of_some hF
                subst K
                exact at_return1 rfl rfl (fun w1 hw => ⟨rfl, hw⟩)
              · refine at_cond_false rfl h11 ?_
                refine at_skip ?_
                refine at_blk_normal (at_then_normal ?_)
                refine at_region ?_
                refine at_val rfl rfl rfl (r_move rfl) ?_
                refine at_val rfl rfl rfl (r_iadd rfl rfl) ?_
                refine at_val rfl rfl rfl (r_assign rfl) ?_
                refine at_nil ?_
                refine at_weak [(0, _), (1, _), (5, _)] ⟨rfl, rfl, rfl, trivial⟩ ?_
                refine at_then_normal ?_
                exact at_weak_k (ih _ _ hF K) ⟨rfl, rfl, rfl, trivial⟩
            · refine at_fix (g := 21) rfl h8 ?_
              refine at_guard_no rfl rfl rfl rfl rfl ?_
              refine at_guard_no rfl rfl rfl rfl rfl ?_
              refine at_guard_no rfl rfl rfl rfl rfl ?_
              refine at_guard_no rfl rfl rfl rfl rfl ?_
              refine at_guard_no rfl rfl rfl rfl rfl ?_
              refine at_guard_no rfl rfl rfl rfl rfl ?_
              refine at_guard_yes rfl rfl rfl ?_
              refine at_val rfl rfl rfl (r_pick rfl rfl rfl) ?_
              refine at_val rfl rfl rfl (r_pick rfl rfl rfl) ?_
              refine at_nil ?_
              refine at_weak [(0, _), (1, _), (5, _), (29, _)] ⟨rfl, rfl, rfl, rfl, trivial⟩ ?_
              refine at_then_normal ?_
              refine at_cond_false rfl rfl ?_
              refine at_skip ?_
              refine at_blk_normal (at_then_normal ?_)
              refine at_region ?_
              refine at_val rfl rfl rfl (r_move rfl) ?_
              refine at_val rfl rfl rfl (r_iadd rfl rfl) ?_
              refine at_val rfl rfl rfl (r_assign rfl) ?_
              refine at_nil ?_
              refine at_weak [(0, _), (1, _), (5, _)] ⟨rfl, rfl, rfl, trivial⟩ ?_
              refine at_then_normal ?_
              exact at_weak_k (ih _ _ hF K) ⟨rfl, rfl, rfl, trivial⟩
          · refine at_fix (g := 17) rfl h7 ?_
            refine at_guard_no rfl rfl rfl rfl rfl ?_
            refine at_guard_no rfl rfl rfl rfl rfl ?_
            refine at_guard_yes rfl rfl rfl ?_
            refine at_val rfl rfl rfl (r_pick rfl rfl rfl) ?_
            refine at_guard_yes rfl rfl rfl ?_
            refine at_val rfl rfl rfl (r_move rfl) ?_
            refine at_guard_no rfl rfl rfl rfl rfl ?_
            refine at_guard_no rfl rfl rfl rfl rfl ?_
            refine at_guard_no rfl rfl rfl rfl rfl ?_
            refine at_guard_no rfl rfl rfl rfl rfl ?_
            refine at_guard_no rfl rfl rfl rfl rfl ?_
            refine at_guard_no rfl rfl rfl rfl rfl ?_
            refine at_guard_yes rfl rfl rfl ?_
            refine at_val rfl rfl rfl (r_pick rfl rfl rfl) ?_
            refine at_val rfl rfl rfl (r_pick rfl rfl rfl) ?_
            refine at_nil ?_
            refine at_weak [(0, _), (1, _), (5, _), (29, _)] ⟨rfl, rfl, rfl, rfl, trivial⟩ ?_
            refine at_then_normal ?_
            refine at_cond_false rfl rfl ?_
            refine at_skip ?_
            refine at_blk_normal (at_then_normal ?_)
            refine at_region ?_
            refine at_val rfl rfl rfl (r_move rfl) ?_
            refine at_val rfl rfl rfl (r_iadd rfl rfl) ?_
            refine at_val rfl rfl rfl (r_assign rfl) ?_
            refine at_nil ?_
            refine at_weak [(0, _), (1, _), (5, _)] ⟨rfl, rfl, rfl, trivial⟩ ?_
            refine at_then_normal ?_
            exact at_weak_k (ih _ _ hF K) ⟨rfl, rfl, rfl, trivial⟩
      · refine at_cond_false rfl h3 ?_
        refine at_exit ?_
        refine at_then_exit (at_then_exit ?_)
        obtain rfl := of_some hF
        exact at_weak_k K trivial
  · cases q1 with
    | ret r' => exact of_some hF
    | nx sq1 =>
      skip
      refine at_blk_same ?_
      refine at_then_normal ?_
      refine at_seq ?_
      refine at_region ?_
      refine at_val rfl rfl rfl (r_assign rfl) ?_
      refine at_nil ?_
      refine at_weak [(4, _)] ⟨rfl, trivial⟩ ?_
      refine at_then_normal ?_
      refine at_ret ?_
      have K := of_some hF
      subst K
      exact at_return1 rfl rfl (fun w1 hw => ⟨rfl, hw⟩)

def hexes_value (x0 : Int) : Option (Int × Bool) :=
  some (wr .u16 (Lib.indexByte (⟨#[48, 49, 50, 51, 52, 53, 54, 55, 56, 57, 97, 98, 99, 100, 101, 102]⟩ : ByteArray).data.toList (Nat.toUInt8 (Int.toNat x0))), decide (Lib.indexByte (⟨#[48, 49, 50, 51, 52, 53, 54, 55, 56, 57, 97, 98, 99, 100, 101, 102]⟩ : ByteArray).data.toList (Nat.toUInt8 (Int.toNat x0)) ≥ 0))
theorem hexes_value_ok (x0 : Int) (r : Int × Bool) (hF : hexes_value x0 = some r) (w : World) :
    Calls Try.prog 114 #[.int .u8 x0] w (fun e w' => e = .returned (.tuple #[.int .u16 r.1, .bool r.2]) ∧ w' = w) := by
  unfold hexes_value at hF
  refine calls_enter (l := [.int .u8 x0]) Try.func114 rfl rfl rfl ?_
  refine at_weak [(0, _)] ⟨rfl, trivial⟩ ?_
  refine at_seq ?_
  refine at_region ?_
  refine at_val rfl rfl rfl (r_assign rfl) ?_
  refine at_val rfl rfl rfl (r_assign rfl) ?_
  refine at_nil ?_
  refine at_weak [(0, _)] ⟨rfl, trivial⟩ ?_
  refine at_then_normal ?_
  refine at_seq ?_
  refine at_region ?_
  refine at_val rfl rfl rfl (r_move rfl) ?_
  refine at_call0 Try.func146 rfl (by kernel_rfl) rfl rfl (fun w => Try.strings_IndexByte _ _ w) ?_
  refine at_val rfl rfl rfl (r_assign rfl) ?_
  refine at_nil ?_
  refine at_weak [(4, _)] ⟨rfl, trivial⟩ ?_
  refine at_then_normal ?_
  refine at_seq ?_
  refine at_region ?_
  refine at_val rfl rfl rfl (r_move rfl) ?_
  refine at_val rfl rfl rfl (r_conv Try.underlying3 Try.underlying148 rfl) ?_
  refine at_val rfl rfl rfl (r_move rfl) ?_
  refine at_val rfl rfl rfl (r_igeq rfl rfl) ?_
  refine at_val rfl rfl rfl (r_assign rfl) ?_
  refine at_val rfl rfl rfl (r_assign rfl) ?_
  refine at_nil ?_
  refine at_weak [(2, _), (3, _)] ⟨rfl, rfl, trivial⟩ ?_
  refine at_then_normal ?_
  refine at_ret ?_
  have K := of_some hF
  subst K
  exact at_return2 rfl rfl rfl (fun w1 hw => ⟨rfl, hw⟩)

def crawlwayref05_Encode.l0 (x0 : List Int) (i2 : ByteArray) (i3 : Int) : Option (ByteArray) :=
  if (decide (i3 < (x0.length : Int))) = true then (if (0 : Int) ≤ i3 ∧ i3 < (x0.length : Int) then crawlwayref05_digit (wr .i64 (Int.tdiv (wr .i64 (lget x0 i3)) 16)) >>= fun t9 => if i2.size + t9.size ≤ 140737488355328 then if (0 : Int) ≤ i3 ∧ i3 < (x0.length : Int) then crawlwayref05_digit (Int.tmod (wr .i64 (lget x0 i3)) 16) >>= fun t15 => if (i2 ++ t9).size + t15.size ≤ 140737488355328 then crawlwayref05_Encode.l0 x0 ((i2 ++ t9) ++ t15) (wr .i64 (i3 + 1)) else none else none else none else none) else (some i2)
  partial_fixpoint
def crawlwayref05_Encode (x0 : List Int) : Option (ByteArray) :=
  crawlwayref05_Encode.l0 x0 (⟨#[]⟩) 0 >>= fun q1 => some q1
theorem crawlwayref05_Encode_ok (x0 : List Int) (p0_ : Option Addr) (c0_ : Nat) (r : ByteArray) (hF : crawlwayref05_Encode x0 = some r) (w : World) (hr0 : Row (cInt .u8) w p0_ c0_ x0) :
    Calls Try.prog 45 #[.slice p0_ x0.length c0_] w (fun e w' => e = .returned (.string r) ∧ Below w.heap.size w w') := by
  unfold crawlwayref05_Encode at hF
  refine calls_enter (l := [.slice p0_ x0.length c0_]) Try.func45 rfl rfl rfl ?_
  refine at_start ?_
  refine at_weak [(0, _)] ⟨rfl, trivial⟩ ?_
  refine at_seq ?_
  refine at_region ?_
  refine at_val rfl rfl rfl (r_assign rfl) ?_
  refine at_nil ?_
  refine at_weak [(0, _)] ⟨rfl, trivial⟩ ?_
  refine at_then_normal ?_
  refine at_seq ?_
  refine at_region ?_
  refine at_val rfl rfl rfl (r_assign rfl) ?_
  refine at_nil ?_
  refine at_weak [(0, _), (3, _)] ⟨rfl, rfl, trivial⟩ ?_
  refine at_then_normal ?_
  refine at_seq ?_
  refine at_seq ?_
  refine at_region ?_
  refine at_val rfl rfl rfl (r_assign rfl) ?_
  refine at_nil ?_
  refine at_weak [(0, _), (3, _), (4, _)] ⟨rfl, rfl, rfl, trivial⟩ ?_
  refine at_then_normal ?_
  refine at_block ?_
  obtain ⟨q1, hq1, hF⟩ := of_bindM hF
  refine at_weak [(0, _), (3, _), (4, _)] ⟨rfl, rfl, rfl, trivial⟩ ?_
  refine at_loop_n (B := 0) (A := fun Y => At 29 [(3, .string q1)] (Wd w []) Y) ?_ ?_
  · intro K
    refine crawlwayref05_Encode.l0.partial_correctness x0 (motive := fun i2 i3 x => KN (fun Y => At 29 [(3, .string x)] (Wd w []) Y) _ 0 → Round (fun Y => At 29 [(0, .slice p0_ x0.length c0_), (3, .string i2), (4, .int .i64 i3)] (Wd w []) Y) _ _ _) ?_ _ _ _ hq1 K
    · clear K hF
      intro g ih i2 i3 x hF K
      refine at_round ?_
      refine at_seq ?_
      refine at_seq ?_
      refine at_region ?_
      refine at_val rfl rfl rfl (r_move rfl) ?_
      refine at_val rfl rfl rfl (r_move rfl) ?_
      refine at_val rfl rfl rfl (r_len_sl Try.underlying79 rfl) ?_
      refine at_val rfl rfl rfl (r_ilss rfl rfl) ?_
      refine at_nil ?_
      refine at_weak [(0, _), (3, _), (4, _), (8, _)] ⟨rfl, rfl, rfl, rfl, trivial⟩ ?_
      refine at_then_normal ?_
      rcases of_ite hF with ⟨h4, hF⟩ | ⟨h4, hF⟩
      · refine at_cond_true rfl h4 ?_
        refine at_skip ?_
        refine at_then_normal ?_
        refine at_seq ?_
        refine at_block ?_
        refine at_draw (by kernel_rfl) (by kernel_rfl) (fun _ h => h.drew) ?_
        refine atq_val rfl rfl rfl (r_move rfl) ?_
        refine atq_val rfl rfl rfl (r_move rfl) ?_
        refine atq_val rfl rfl rfl (r_move rfl) ?_
        obtain ⟨h5, hF⟩ := of_guard hF
        obtain ⟨b7, o8, hp6⟩ := row_ptr hr0 h5
        refine atq_val rfl rfl rfl (r_idx Try.underlying79 Try.sizeOf5 rfl rfl h5 hp6) ?_
        refine atq_val rfl rfl rfl (r_load_cell Try.isAgg5 rfl (row_cell0 (fun _ h => h.below) hr0 h5 hp6 rfl)) ?_
        refine atq_val rfl rfl rfl (r_conv Try.underlying5 Try.underlying3 rfl) ?_
        refine atq_val rfl rfl rfl (r_iquo rfl rfl (by decide)) ?_
        obtain ⟨t9, ht9, hF⟩ := of_bindM hF
        refine atq_call Try.func89 rfl (by kernel_rfl) rfl rfl (fun w hw => (crawlwayref05_digit_ok _ _ ht9 w).mono fun _ _ h => ⟨h.1, h.2 ▸ hw⟩) ?_
        obtain ⟨h10, hF⟩ := of_guard hF
        refine atq_val rfl rfl rfl (r_concat rfl rfl h10) ?_
        refine atq_val rfl rfl rfl (r_move rfl) ?_
        refine atq_val rfl rfl rfl (r_move rfl) ?_
        obtain ⟨h11, hF⟩ := of_guard hF
        obtain ⟨b13, o14, hp12⟩ := row_ptr hr0 h11
        refine atq_val rfl rfl rfl (r_idx Try.underlying79 Try.sizeOf5 rfl rfl h11 hp12) ?_
        refine atq_val rfl rfl rfl (r_load_cell Try.isAgg5 rfl (row_cell0 (fun _ h => h.below) hr0 h11 hp12 rfl)) ?_
        refine atq_val rfl rfl rfl (r_conv Try.underlying5 Try.underlying3 rfl) ?_
        refine atq_val rfl rfl rfl (r_irem rfl rfl (by decide)) ?_
        obtain ⟨t15, ht15, hF⟩ := of_bindM hF
        refine atq_call Try.func89 rfl (by kernel_rfl) rfl rfl (fun w hw => (crawlwayref05_digit_ok _ _ ht15 w).mono fun _ _ h => ⟨h.1, h.2 ▸ hw⟩) ?_
        obtain ⟨h16, hF⟩ := of_guard hF
        refine atq_val rfl rfl rfl (r_concat rfl rfl h16) ?_
        refine atq_val rfl rfl rfl (r_assign rfl) ?_
        refine atq_nil ?_
        refine at_weak [(0, _), (3, _), (4, _)] ⟨rfl, rfl, rfl, trivial⟩ ?_
        refine at_blk_normal (at_then_normal ?_)
        refine at_region ?_
        refine at_val rfl rfl rfl (r_move rfl) ?_
        refine at_val rfl rfl rfl (r_iadd rfl rfl) ?_
        refine at_val rfl rfl rfl (r_assign rfl) ?_
        refine at_nil ?_
        refine at_weak [(0, _), (3, _), (4, _)] ⟨rfl, rfl, rfl, trivial⟩ ?_
        refine at_then_normal ?_
        exact at_weak_k (ih _ _ _ hF K) ⟨rfl, rfl, rfl, trivial⟩
      · refine at_cond_false rfl h4 ?_
        refine at_exit ?_
        refine at_then_exit (at_then_exit ?_)
        obtain rfl := of_some hF
        exact at_weak_k K ⟨rfl, trivial⟩
  · skip
    skip
    refine at_blk_same ?_
    refine at_then_normal ?_
    refine at_seq ?_
    refine at_region ?_
    refine at_val rfl rfl rfl (r_move rfl) ?_
    refine at_val rfl rfl rfl (r_assign rfl) ?_
    refine at_nil ?_
    refine at_weak [(2, _)] ⟨rfl, trivial⟩ ?_
    refine at_then_normal ?_
    refine at_ret ?_
    have K := of_some hF
    subst K
    exact at_return1 rfl rfl (fun w1 hw => ⟨rfl, hw.below⟩)

def crawlwayref05_Decode.l0 (x0 : ByteArray) (i5 : List Int) (i6 : Int) : Option (Ctl (List Int × Int) (List Int)) :=
  if (decide (i6 < (x0.size : Int))) = true then (if (0 : Int) ≤ i6 ∧ i6 < (x0.size : Int) then crawlwayref05_Value (bt x0 i6) false >>= fun t13 => if (0 : Int) ≤ wr .i64 (i6 + 1) ∧ wr .i64 (i6 + 1) < (x0.size : Int) then crawlwayref05_Value (bt x0 (wr .i64 (i6 + 1))) false >>= fun t15 => if (decide (t13 < 0)) = true then (some (.ret ([], 5))) else (if (decide (t15 < 0)) = true then (some (.ret ([], 5))) else (if (i5.length + 1) * 1 ≤ 140737488355328 then crawlwayref05_Decode.l0 x0 (i5 ++ [wr .u8 (wr .i64 ((wr .i64 (16 * t13)) + t15))]) (wr .i64 (i6 + 2)) else none)) else none else none) else (some (.nx i5))
  partial_fixpoint
def crawlwayref05_Decode (x0 : ByteArray) : Option (List Int × Int) :=
  if (Int.tmod (x0.size : Int) 2 != 0) = true then (some ([], 5)) else (crawlwayref05_Decode.l0 x0 ([] : List Int) 0 >>= fun q4 => match q4 with | .ret r' => some r' | .nx sq4 => (some (sq4, 0)))
theorem crawlwayref05_Decode_ok (x0 : ByteArray) (r : List Int × Int) (hF : crawlwayref05_Decode x0 = some r) (w : World) :
    Calls Try.prog 93 #[.string x0] w (fun e w' => ∃ p cap, e = .returned (.tuple #[.slice p r.1.length cap, .int .i64 r.2]) ∧ Own (cInt .u8) 5 w.heap.size w' p cap r.1 ∧ Below w.heap.size w w') := by
  unfold crawlwayref05_Decode at hF
  refine calls_enter (l := [.string x0]) Try.func93 rfl rfl rfl ?_
  refine at_start ?_
  refine at_weak [(0, _)] ⟨rfl, trivial⟩ ?_
  refine at_seq ?_
  refine at_region ?_
  refine at_val rfl rfl rfl (r_assign rfl) ?_
  refine at_val rfl rfl rfl (r_assign rfl) ?_
  refine at_nil ?_
  refine at_weak [(0, _)] ⟨rfl, trivial⟩ ?_
  refine at_then_normal ?_
  refine at_seq ?_
  refine at_seq ?_
  refine at_region ?_
  refine at_val rfl rfl rfl (r_move rfl) ?_
  refine at_val rfl rfl rfl (r_len_str Try.underlying9 rfl) ?_
  refine at_val rfl rfl rfl (r_irem rfl rfl (by decide)) ?_
  refine at_val rfl rfl rfl (r_ineq rfl rfl) ?_
  refine at_nil ?_
  refine at_weak [(0, _), (11, _)] ⟨rfl, rfl, trivial⟩ ?_
  refine at_then_normal ?_
  rcases of_ite hF with ⟨h1, hF⟩ | ⟨h1, hF⟩
  · refine at_cond_true rfl h1 ?_
    refine at_seq ?_
    refine at_region ?_
    refine at_val rfl rfl rfl (r_assign rfl) ?_
    refine at_val rfl rfl rfl (r_assign rfl) ?_
    refine at_nil ?_
    refine at_weak [(2, _), (3, _)] ⟨rfl, rfl, trivial⟩ ?_
    refine at_then_normal ?_
    refine at_ret ?_
    refine at_then_ret ?_
    have K := of_some hF
    subst K
    exact at_return2 rfl rfl rfl (fun w1 hw => ⟨none, 0, rfl, Own.nil _ _ _ _, hw.below⟩)
  · refine at_cond_false rfl h1 ?_
    refine at_skip ?_
    refine at_then_normal ?_
    refine at_seq ?_
    refine at_region ?_
    refine at_val rfl rfl rfl (r_assign rfl) ?_
    refine at_nil ?_
    refine at_weak [(0, _), (4, _)] ⟨rfl, rfl, trivial⟩ ?_
    refine at_then_normal ?_
    refine at_seq ?_
    refine at_seq ?_
    refine at_region ?_
    refine at_val rfl rfl rfl (r_assign rfl) ?_
    refine at_nil ?_
    refine at_weak [(0, _), (4, _), (5, _)] ⟨rfl, rfl, rfl, trivial⟩ ?_
    refine at_then_normal ?_
    refine at_block ?_
    refine at_own_nil (cInt .u8) 5 ?_
    refine at_weak [(0, _), (4, .slice none ([] : List Int).length 0), (5, _)] ⟨rfl, rfl, rfl, trivial⟩ ?_
    obtain ⟨q4, hq4, hF⟩ := of_bindM hF
    refine at_weak [(0, _), (4, _), (5, _)] ⟨rfl, rfl, rfl, trivial⟩ ?_
    refine at_loop_r (B := 0) (r := r) (q := q4) (A := fun sq4 Y => ∀ (p9 : Option Addr) (c10 : Nat), At 42 [(4, .slice p9 sq4.length c10)] (Wd w [rowE (cInt .u8) 5 p9 c10 sq4]) Y) ?_ ?_
    · intro K
      refine crawlwayref05_Decode.l0.partial_correctness x0 (motive := fun i5 i6 x => KR (fun sq4 Y => ∀ (p9 : Option Addr) (c10 : Nat), At 42 [(4, .slice p9 sq4.length c10)] (Wd w [rowE (cInt .u8) 5 p9 c10 sq4]) Y) _ 0 r x → Round (fun Y => ∀ (p7 : Option Addr) (c8 : Nat), At 42 [(0, .string x0), (4, .slice p7 i5.length c8), (5, .int .i64 i6)] (Wd w [rowE (cInt .u8) 5 p7 c8 i5]) Y) _ _ _) ?_ _ _ _ hq4 K none 0
      · clear K hF
        intro g ih i5 i6 x hF K p7 c8
        refine at_round ?_
        refine at_seq ?_
        refine at_seq ?_
        refine at_region ?_
        refine at_val rfl rfl rfl (r_move rfl) ?_
        refine at_val rfl rfl rfl (r_move rfl) ?_
        refine at_val rfl rfl rfl (r_len_str Try.underlying9 rfl) ?_
        refine at_val rfl rfl rfl (r_ilss rfl rfl) ?_
        refine at_nil ?_
        refine at_weak [(0, _), (4, _), (5, _), (15, _)] ⟨rfl, rfl, rfl, rfl, trivial⟩ ?_
        refine at_then_normal ?_
        rcases of_ite hF with ⟨h11, hF⟩ | ⟨h11, hF⟩
        · refine at_cond_true rfl h11 ?_
          refine at_skip ?_
          refine at_then_normal ?_
          refine at_seq ?_
          refine at_block ?_
          refine at_seq ?_
          refine at_draw (by kernel_rfl) (by kernel_rfl) (fun _ h => h.drew) ?_
          refine atq_val rfl rfl rfl (r_move rfl) ?_
          refine atq_val rfl rfl rfl (r_move rfl) ?_
          obtain ⟨h12, hF⟩ := of_guard hF
          refine atq_val rfl rfl rfl (r_index_str Try.underlying9 rfl rfl h12) ?_
          obtain ⟨t13, ht13, hF⟩ := of_bindM hF
          refine atq_call Try.func116 rfl (by kernel_rfl) rfl rfl (fun w hw => (crawlwayref05_Value_ok _ _ _ ht13 w).mono fun _ _ h => ⟨h.1, h.2 ▸ hw⟩) ?_
          refine atq_val rfl rfl rfl (r_move rfl) ?_
          refine atq_val rfl rfl rfl (r_move rfl) ?_
          refine atq_val rfl rfl rfl (r_iadd rfl rfl) ?_
          obtain ⟨h14, hF⟩ := of_guard hF
          refine atq_val rfl rfl rfl (r_index_str Try.underlying9 rfl rfl h14) ?_
          obtain ⟨t15, ht15, hF⟩ := of_bindM hF
          refine atq_call Try.func116 rfl (by kernel_rfl) rfl rfl (fun w hw => (crawlwayref05_Value_ok _ _ _ ht15 w).mono fun _ _ h => ⟨h.1, h.2 ▸ hw⟩) ?_
          refine atq_val rfl rfl rfl (r_assign rfl) ?_
          refine atq_val rfl rfl rfl (r_assign rfl) ?_
          refine atq_nil ?_
          refine at_weak [(0, _), (4, _), (5, _), (6, _), (7, _)] ⟨rfl, rfl, rfl, rfl, rfl, trivial⟩ ?_
          refine at_then_normal ?_
          refine at_seq ?_
          refine at_seq ?_
          refine at_region ?_
          refine at_val rfl rfl rfl (r_move rfl) ?_
          refine at_val rfl rfl rfl (r_ilss rfl rfl) ?_
          refine at_val rfl rfl rfl (r_move rfl) ?_
          rcases of_ite hF with ⟨h16, hF⟩ | ⟨h16, hF⟩
          · refine at_fix (g := 29) rfl h16 ?_
            refine at_guard_no rfl rfl rfl rfl rfl ?_
            refine at_guard_no rfl rfl rfl rfl rfl ?_
            refine at_val rfl rfl rfl (r_pick rfl rfl rfl) ?_
            refine at_nil ?_
            refine at_weak [(0, _), (4, _), (5, _), (6, _), (7, _), (32, _)] ⟨rfl, rfl, rfl, rfl, rfl, rfl, trivial⟩ ?_
            refine at_then_normal ?_
            refine at_cond_true rfl rfl ?_
            refine at_seq ?_
            refine at_region ?_
            refine at_val rfl rfl rfl (r_assign rfl) ?_
            refine at_val rfl rfl rfl (r_assign rfl) ?_
            refine at_nil ?_
            refine at_drop (H := _) .z ?_
            refine at_weak [(2, _), (3, _)] ⟨rfl, rfl, trivial⟩ ?_
            refine at_then_normal ?_
            refine at_ret ?_
            refine at_then_ret (at_blk_ret (at_then_ret (at_then_ret (at_blk_ret (at_then_ret ?_)))))
            obtain rfl := of_some hF
            subst K
            exact at_return2 rfl rfl rfl (fun w1 hw => ⟨none, 0, rfl, Own.nil _ _ _ _, hw.below⟩)
          · refine at_fix (g := 29) rfl h16 ?_
            refine at_guard_yes rfl rfl rfl ?_
            refine at_val rfl rfl rfl (r_move rfl) ?_
            refine at_guard_yes rfl rfl rfl ?_
            refine at_val rfl rfl rfl (r_ilss rfl rfl) ?_
            refine at_val rfl rfl rfl (r_pick rfl rfl rfl) ?_
            refine at_nil ?_
            refine at_weak [(0, _), (4, _), (5, _), (6, _), (7, _), (32, _)] ⟨rfl, rfl, rfl, rfl, rfl, rfl, trivial⟩ ?_
            refine at_then_normal ?_
            rcases of_ite hF with ⟨h17, hF⟩ | ⟨h17, hF⟩
            · refine at_cond_true rfl h17 ?_
              refine at_seq ?_
              refine at_region ?_
              refine at_val rfl rfl rfl (r_assign rfl) ?_
              refine at_val rfl rfl rfl (r_assign rfl) ?_
              refine at_nil ?_
              refine at_drop (H := _) .z ?_
              refine at_weak [(2, _), (3, _)] ⟨rfl, rfl, trivial⟩ ?_
              refine at_then_normal ?_
              refine at_ret ?_
              refine at_then_ret (at_blk_ret (at_then_ret (at_then_ret (at_blk_ret (at_then_ret ?_)))))
              obtain rfl := of_some hF
              subst K
              exact at_return2 rfl rfl rfl (fun w1 hw => ⟨none, 0, rfl, Own.nil _ _ _ _, hw.below⟩)
            · refine at_cond_false rfl h17 ?_
              refine at_skip ?_
              refine at_then_normal ?_
              refine at_region ?_
              refine at_val rfl rfl rfl (r_move rfl) ?_
              refine at_val rfl rfl rfl (r_move rfl) ?_
              refine at_val rfl rfl rfl (r_imul rfl rfl) ?_
              refine at_val rfl rfl rfl (r_move rfl) ?_
              refine at_val rfl rfl rfl (r_iadd rfl rfl) ?_
              refine at_val rfl rfl rfl (r_conv Try.underlying3 Try.underlying5 rfl) ?_
              refine at_lit (cs := (cInt .u8).all ([wr .u8 (wr .i64 ((wr .i64 (16 * t13)) + t15))] : List Int)) Try.underlying79 Try.sizeOf5 Try.zeroValue5 rfl rfl rfl (by kernel_rfl) rfl ?_
              intro b18
              obtain ⟨h19, hF⟩ := of_guard hF
              refine at_append (z := .int .u8 0) (c := (cInt .u8)) (ys := ([wr .u8 (wr .i64 ((wr .i64 (16 * t13)) + t15))] : List Int)) (.s .z) Try.underlying79 infoG15 (by kernel_rfl) (by kernel_rfl) rfl rfl rfl rfl (fun _ hw => cells_src (hw.ok (Upd.mem .z))) (by kernel_rfl) h19 (app_small h19) rfl ?_
              intro p20 c21
              refine at_val rfl rfl rfl (r_assign rfl) ?_
              refine at_nil ?_
              refine at_drop (H := _) .z ?_
              refine at_weak [(0, _), (4, _), (5, _)] ⟨rfl, rfl, rfl, trivial⟩ ?_
              refine at_blk_normal (at_then_normal ?_)
              refine at_region ?_
              refine at_val rfl rfl rfl (r_move rfl) ?_
              refine at_val rfl rfl rfl (r_iadd rfl rfl) ?_
              refine at_val rfl rfl rfl (r_assign rfl) ?_
              refine at_nil ?_
              refine at_weak [(0, _), (4, _), (5, _)] ⟨rfl, rfl, rfl, trivial⟩ ?_
              refine at_then_normal ?_
              exact at_weak_k (ih _ _ _ hF K p20 c21) ⟨rfl, rfl, rfl, trivial⟩
        · refine at_cond_false rfl h11 ?_
          refine at_exit ?_
          refine at_then_exit (at_then_exit ?_)
          obtain rfl := of_some hF
          exact at_weak_k (K p7 c8) ⟨rfl, trivial⟩
    · cases q4 with
      | ret r' => exact of_some hF
      | nx sq4 =>
        intro p9 c10
        refine at_blk_same ?_
        refine at_then_normal ?_
        refine at_seq ?_
        refine at_region ?_
        refine at_val rfl rfl rfl (r_move rfl) ?_
        refine at_val rfl rfl rfl (r_assign rfl) ?_
        refine at_val rfl rfl rfl (r_assign rfl) ?_
        refine at_nil ?_
        refine at_weak [(2, _), (3, _)] ⟨rfl, rfl, trivial⟩ ?_
        refine at_then_normal ?_
        refine at_ret ?_
        have K := of_some hF
        subst K
        exact at_return2 rfl rfl rfl (fun w1 hw => ⟨p9, c10, rfl, hw.own .z, hw.below⟩)

def hexes_Decode.l0 (x0 : ByteArray) (i5 : List Int) (i6 : Int) : Option (Ctl (List Int × Int) (List Int)) :=
  if (decide (i6 < (x0.size : Int))) = true then (if (0 : Int) ≤ i6 ∧ i6 < (x0.size : Int) then hexes_value (bt x0 i6) >>= fun t13 => if (0 : Int) ≤ wr .i64 (i6 + 1) ∧ wr .i64 (i6 + 1) < (x0.size : Int) then hexes_value (bt x0 (wr .i64 (i6 + 1))) >>= fun t15 => if (!t13.2) = true then (some (.ret ([], 5))) else (if (!t15.2) = true then (some (.ret ([], 5))) else (if (i5.length + 1) * 1 ≤ 140737488355328 then hexes_Decode.l0 x0 (i5 ++ [wr .u8 (ior .u16 (ishl .u16 t13.1 4) t15.1)]) (wr .i64 (i6 + 2)) else none)) else none else none) else (some (.nx i5))
  partial_fixpoint
def hexes_Decode (x0 : ByteArray) : Option (List Int × Int) :=
  if (Int.tmod (x0.size : Int) 2 != 0) = true then (some ([], 5)) else (hexes_Decode.l0 x0 ([] : List Int) 0 >>= fun q4 => match q4 with | .ret r' => some r' | .nx sq4 => (some (sq4, 0)))
theorem hexes_Decode_ok (x0 : ByteArray) (r : List Int × Int) (hF : hexes_Decode x0 = some r) (w : World) :
    Calls Try.prog 86 #[.string x0] w (fun e w' => ∃ p cap, e = .returned (.tuple #[.slice p r.1.length cap, .int .i64 r.2]) ∧ Own (cInt .u8) 5 w.heap.size w' p cap r.1 ∧ Below w.heap.size w w') := by
  unfold hexes_Decode at hF
  refine calls_enter (l := [.string x0]) Try.func86 rfl rfl rfl ?_
  refine at_start ?_
  refine at_weak [(0, _)] ⟨rfl, trivial⟩ ?_
  refine at_seq ?_
  refine at_region ?_
  refine at_val rfl rfl rfl (r_assign rfl) ?_
  refine at_val rfl rfl rfl (r_assign rfl) ?_
  refine at_nil ?_
  refine at_weak [(0, _)] ⟨rfl, trivial⟩ ?_
  refine at_then_normal ?_
  refine at_seq ?_
  refine at_seq ?_
  refine at_region ?_
  refine at_val rfl rfl rfl (r_move rfl) ?_
  refine at_val rfl rfl rfl (r_len_str Try.underlying9 rfl) ?_
  refine at_val rfl rfl rfl (r_irem rfl rfl (by decide)) ?_
  refine at_val rfl rfl rfl (r_ineq rfl rfl) ?_
  refine at_nil ?_
  refine at_weak [(0, _), (13, _)] ⟨rfl, rfl, trivial⟩ ?_
  refine at_then_normal ?_
  rcases of_ite hF with ⟨h1, hF⟩ | ⟨h1, hF⟩
  · refine at_cond_true rfl h1 ?_
    refine at_seq ?_
    refine at_region ?_
    refine at_val rfl rfl rfl (r_assign rfl) ?_
    refine at_val rfl rfl rfl (r_assign rfl) ?_
    refine at_nil ?_
    refine at_weak [(2, _), (3, _)] ⟨rfl, rfl, trivial⟩ ?_
    refine at_then_normal ?_
    refine at_ret ?_
    refine at_then_ret ?_
    have K := of_some hF
    subst K
    exact at_return2 rfl rfl rfl (fun w1 hw => ⟨none, 0, rfl, Own.nil _ _ _ _, hw.below⟩)
  · refine at_cond_false rfl h1 ?_
    refine at_skip ?_
    refine at_then_normal ?_
    refine at_seq ?_
    refine at_region ?_
    refine at_val rfl rfl rfl (r_assign rfl) ?_
    refine at_nil ?_
    refine at_weak [(0, _), (4, _)] ⟨rfl, rfl, trivial⟩ ?_
    refine at_then_normal ?_
    refine at_seq ?_
    refine at_seq ?_
    refine at_region ?_
    refine at_val rfl rfl rfl (r_assign rfl) ?_
    refine at_nil ?_
    refine at_weak [(0, _), (4, _), (5, _)] ⟨rfl, rfl, rfl, trivial⟩ ?_
    refine at_then_normal ?_
    refine at_block ?_
    refine at_own_nil (cInt .u8) 5 ?_
    refine at_weak [(0, _), (4, .slice none ([] : List Int).length 0), (5, _)] ⟨rfl, rfl, rfl, trivial⟩ ?_
    obtain ⟨q4, hq4, hF⟩ := of_bindM hF
    refine at_weak [(0, _), (4, _), (5, _)] ⟨rfl, rfl, rfl, trivial⟩ ?_
    refine at_loop_r (B := 0) (r := r) (q := q4) (A := fun sq4 Y => ∀ (p9 : Option Addr) (c10 : Nat), At 50 [(4, .slice p9 sq4.length c10)] (Wd w [rowE (cInt .u8) 5 p9 c10 sq4]) Y) ?_ ?_
    · intro K
      refine hexes_Decode.l0.partial_correctness x0 (motive := fun i5 i6 x => KR (fun sq4 Y => ∀ (p9 : Option Addr) (c10 : Nat), At 50 [(4, .slice p9 sq4.length c10)] (Wd w [rowE (cInt .u8) 5 p9 c10 sq4]) Y) _ 0 r x → Round (fun Y => ∀ (p7 : Option Addr) (c8 : Nat), At 50 [(0, .string x0), (4, .slice p7 i5.length c8), (5, .int .i64 i6)] (Wd w [rowE (cInt .u8) 5 p7 c8 i5]) Y) _ _ _) ?_ _ _ _ hq4 K none 0
      · clear K hF
        intro g ih i5 i6 x hF K p7 c8
        refine at_round ?_
        refine at_seq ?_
        refine at_seq ?_
        refine at_region ?_
        refine at_val rfl rfl rfl (r_move rfl) ?_
        refine at_val rfl rfl rfl (r_move rfl) ?_
        refine at_val rfl rfl rfl (r_len_str Try.underlying9 rfl) ?_
        refine at_val rfl rfl rfl (r_ilss rfl rfl) ?_
        refine at_nil ?_
        refine at_weak [(0, _), (4, _), (5, _), (17, _)] ⟨rfl, rfl, rfl, rfl, trivial⟩ ?_
        refine at_then_normal ?_
        rcases of_ite hF with ⟨h11, hF⟩ | ⟨h11, hF⟩
        · refine at_cond_true rfl h11 ?_
          refine at_skip ?_
          refine at_then_normal ?_
          refine at_seq ?_
          refine at_block ?_
          refine at_seq ?_
          refine at_region ?_
          refine at_val rfl rfl rfl (r_move rfl) ?_
          refine at_val rfl rfl rfl (r_move rfl) ?_
          obtain ⟨h12, hF⟩ := of_guard hF
          refine at_val rfl rfl rfl (r_index_str Try.underlying9 rfl rfl h12) ?_
          obtain ⟨t13, ht13, hF⟩ := of_bindM hF
          refine at_call0 Try.func114 rfl (by kernel_rfl) rfl rfl (fun w => hexes_value_ok _ _ ht13 w) ?_
          refine at_val rfl rfl rfl (r_move rfl) ?_
          refine at_val rfl rfl rfl (r_extract rfl rfl) ?_
          refine at_val rfl rfl rfl (r_extract rfl rfl) ?_
          refine at_val rfl rfl rfl (r_assign rfl) ?_
          refine at_val rfl rfl rfl (r_assign rfl) ?_
          refine at_nil ?_
          refine at_weak [(0, _), (4, _), (5, _), (6, _), (7, _)] ⟨rfl, rfl, rfl, rfl, rfl, trivial⟩ ?_
          refine at_then_normal ?_
          refine at_seq ?_
          refine at_region ?_
          refine at_val rfl rfl rfl (r_move rfl) ?_
          refine at_val rfl rfl rfl (r_move rfl) ?_
          refine at_val rfl rfl rfl (r_iadd rfl rfl) ?_
          obtain ⟨h14, hF⟩ := of_guard hF
          refine at_val rfl rfl rfl (r_index_str Try.underlying9 rfl rfl h14) ?_
          obtain ⟨t15, ht15, hF⟩ := of_bindM hF
          refine at_call0 Try.func114 rfl (by kernel_rfl) rfl rfl (fun w => hexes_value_ok _ _ ht15 w) ?_
          refine at_val rfl rfl rfl (r_move rfl) ?_
          refine at_val rfl rfl rfl (r_extract rfl rfl) ?_
          refine at_val rfl rfl rfl (r_extract rfl rfl) ?_
          refine at_val rfl rfl rfl (r_assign rfl) ?_
          refine at_val rfl rfl rfl (r_assign rfl) ?_
          refine at_nil ?_
          refine at_weak [(0, _), (4, _), (5, _), (6, _), (7, _), (8, _), (9, _)] ⟨rfl, rfl, rfl, rfl, rfl, rfl, rfl, trivial⟩ ?_
          refine at_then_normal ?_
          refine at_seq ?_
          refine at_seq ?_
          refine at_region ?_
          refine at_val rfl rfl rfl (r_move rfl) ?_
          refine at_val rfl rfl rfl (r_not rfl) ?_
          refine at_val rfl rfl rfl (r_move rfl) ?_
          rcases of_ite hF with ⟨h16, hF⟩ | ⟨h16, hF⟩
          · refine at_fix (g := 37) rfl h16 ?_
            refine at_guard_no rfl rfl rfl rfl rfl ?_
            refine at_guard_no rfl rfl rfl rfl rfl ?_
            refine at_val rfl rfl rfl (r_pick rfl rfl rfl) ?_
            refine at_nil ?_
            refine at_weak [(0, _), (4, _), (5, _), (6, _), (8, _), (40, _)] ⟨rfl, rfl, rfl, rfl, rfl, rfl, trivial⟩ ?_
            refine at_then_normal ?_
            refine at_cond_true rfl rfl ?_
            refine at_seq ?_
            refine at_region ?_
            refine at_val rfl rfl rfl (r_assign rfl) ?_
            refine at_val rfl rfl rfl (r_assign rfl) ?_
            refine at_nil ?_
            refine at_drop (H := _) .z ?_
            refine at_weak [(2, _), (3, _)] ⟨rfl, rfl, trivial⟩ ?_
            refine at_then_normal ?_
            refine at_ret ?_
            refine at_then_ret (at_blk_ret (at_then_ret (at_then_ret (at_blk_ret (at_then_ret ?_)))))
            obtain rfl := of_some hF
            subst K
            exact at_return2 rfl rfl rfl (fun w1 hw => ⟨none, 0, rfl, Own.nil _ _ _ _, hw.below⟩)
          · refine at_fix (g := 37) rfl h16 ?_
            refine at_guard_yes rfl rfl rfl ?_
            refine at_val rfl rfl rfl (r_move rfl) ?_
            refine at_guard_yes rfl rfl rfl ?_
            refine at_val rfl rfl rfl (r_not rfl) ?_
            refine at_val rfl rfl rfl (r_pick rfl rfl rfl) ?_
            refine at_nil ?_
            refine at_weak [(0, _), (4, _), (5, _), (6, _), (8, _), (40, _)] ⟨rfl, rfl, rfl, rfl, rfl, rfl, trivial⟩ ?_
            refine at_then_normal ?_
            rcases of_ite hF with ⟨h17, hF⟩ | ⟨h17, hF⟩
            · refine at_cond_true rfl h17 ?_
              refine at_seq ?_
              refine at_region ?_
              refine at_val rfl rfl rfl (r_assign rfl) ?_
              refine at_val rfl rfl rfl (r_assign rfl) ?_
              refine at_nil ?_
              refine at_drop (H := _) .z ?_
              refine at_weak [(2, _), (3, _)] ⟨rfl, rfl, trivial⟩ ?_
              refine at_then_normal ?_
              refine at_ret ?_
              refine at_then_ret (at_blk_ret (at_then_ret (at_then_ret (at_blk_ret (at_then_ret ?_)))))
              obtain rfl := of_some hF
              subst K
              exact at_return2 rfl rfl rfl (fun w1 hw => ⟨none, 0, rfl, Own.nil _ _ _ _, hw.below⟩)
            · refine at_cond_false rfl h17 ?_
              refine at_skip ?_
              refine at_then_normal ?_
              refine at_region ?_
              refine at_val rfl rfl rfl (r_move rfl) ?_
              refine at_val rfl rfl rfl (r_move rfl) ?_
              refine at_val rfl rfl rfl (r_ishl rfl rfl (by decide)) ?_
              refine at_val rfl rfl rfl (r_move rfl) ?_
              refine at_val rfl rfl rfl (r_ior rfl rfl) ?_
              refine at_val rfl rfl rfl (r_conv Try.underlying148 Try.underlying5 rfl) ?_
              refine at_lit (cs := (cInt .u8).all ([wr .u8 (ior .u16 (ishl .u16 t13.1 4) t15.1)] : List Int)) Try.underlying79 Try.sizeOf5 Try.zeroValue5 rfl rfl rfl (by kernel_rfl) rfl ?_
              intro b18
              obtain ⟨h19, hF⟩ := of_guard hF
              refine at_append (z := .int .u8 0) (c := (cInt .u8)) (ys := ([wr .u8 (ior .u16 (ishl .u16 t13.1 4) t15.1)] : List Int)) (.s .z) Try.underlying79 infoG15 (by kernel_rfl) (by kernel_rfl) rfl rfl rfl rfl (fun _ hw => cells_src (hw.ok (Upd.mem .z))) (by kernel_rfl) h19 (app_small h19) rfl ?_
              intro p20 c21
              refine at_val rfl rfl rfl (r_assign rfl) ?_
              refine at_nil ?_
              refine at_drop (H := _) .z ?_
              refine at_weak [(0, _), (4, _), (5, _)] ⟨rfl, rfl, rfl, trivial⟩ ?_
              refine at_blk_normal (at_then_normal ?_)
              refine at_region ?_
              refine at_val rfl rfl rfl (r_move rfl) ?_
              refine at_val rfl rfl rfl (r_iadd rfl rfl) ?_
              refine at_val rfl rfl rfl (r_assign rfl) ?_
              refine at_nil ?_
              refine at_weak [(0, _), (4, _), (5, _)] ⟨rfl, rfl, rfl, trivial⟩ ?_
              refine at_then_normal ?_
              exact at_weak_k (ih _ _ _ hF K p20 c21) ⟨rfl, rfl, rfl, trivial⟩
        · refine at_cond_false rfl h11 ?_
          refine at_exit ?_
          refine at_then_exit (at_then_exit ?_)
          obtain rfl := of_some hF
          exact at_weak_k (K p7 c8) ⟨rfl, trivial⟩
    · cases q4 with
      | ret r' => exact of_some hF
      | nx sq4 =>
        intro p9 c10
        refine at_blk_same ?_
        refine at_then_normal ?_
        refine at_seq ?_
        refine at_region ?_
        refine at_val rfl rfl rfl (r_move rfl) ?_
        refine at_val rfl rfl rfl (r_assign rfl) ?_
        refine at_val rfl rfl rfl (r_assign rfl) ?_
        refine at_nil ?_
        refine at_weak [(2, _), (3, _)] ⟨rfl, rfl, trivial⟩ ?_
        refine at_then_normal ?_
        refine at_ret ?_
        have K := of_some hF
        subst K
        exact at_return2 rfl rfl rfl (fun w1 hw => ⟨p9, c10, rfl, hw.own .z, hw.below⟩)

def hexes_Encode.l0 (x0 : List Int) (i4 : Int) (i5 : ByteArray) : Option (ByteArray) :=
  if (decide (i4 < (x0.length : Int))) = true then (if (0 : Int) ≤ i4 ∧ i4 < (x0.length : Int) then if (0 : Int) ≤ ishr .u8 (lget x0 i4) 4 ∧ ishr .u8 (lget x0 i4) 4 < ((⟨#[48, 49, 50, 51, 52, 53, 54, 55, 56, 57, 97, 98, 99, 100, 101, 102]⟩ : ByteArray).size : Int) then if (0 : Int) ≤ bt (⟨#[48, 49, 50, 51, 52, 53, 54, 55, 56, 57, 97, 98, 99, 100, 101, 102]⟩ : ByteArray) (ishr .u8 (lget x0 i4) 4) ∧ bt (⟨#[48, 49, 50, 51, 52, 53, 54, 55, 56, 57, 97, 98, 99, 100, 101, 102]⟩ : ByteArray) (ishr .u8 (lget x0 i4) 4) < 256 then if i5.size + 1 ≤ 140737488355328 then if (0 : Int) ≤ iand .u8 (lget x0 i4) 15 ∧ iand .u8 (lget x0 i4) 15 < ((⟨#[48, 49, 50, 51, 52, 53, 54, 55, 56, 57, 97, 98, 99, 100, 101, 102]⟩ : ByteArray).size : Int) then if (0 : Int) ≤ bt (⟨#[48, 49, 50, 51, 52, 53, 54, 55, 56, 57, 97, 98, 99, 100, 101, 102]⟩ : ByteArray) (iand .u8 (lget x0 i4) 15) ∧ bt (⟨#[48, 49, 50, 51, 52, 53, 54, 55, 56, 57, 97, 98, 99, 100, 101, 102]⟩ : ByteArray) (iand .u8 (lget x0 i4) 15) < 256 then if (i5.push (UInt8.ofNat (Int.toNat (bt (⟨#[48, 49, 50, 51, 52, 53, 54, 55, 56, 57, 97, 98, 99, 100, 101, 102]⟩ : ByteArray) (ishr .u8 (lget x0 i4) 4))))).size + 1 ≤ 140737488355328 then hexes_Encode.l0 x0 (wr .i64 (i4 + 1)) ((i5.push (UInt8.ofNat (Int.toNat (bt (⟨#[48, 49, 50, 51, 52, 53, 54, 55, 56, 57, 97, 98, 99, 100, 101, 102]⟩ : ByteArray) (ishr .u8 (lget x0 i4) 4))))).push (UInt8.ofNat (Int.toNat (bt (⟨#[48, 49, 50, 51, 52, 53, 54, 55, 56, 57, 97, 98, 99, 100, 101, 102]⟩ : ByteArray) (iand .u8 (lget x0 i4) 15))))) else none else none else none else none else none else none else none) else (some i5)
  partial_fixpoint
def hexes_Encode (x0 : List Int) : Option (ByteArray) :=
  hexes_Encode.l0 x0 0 ByteArray.empty >>= fun q3 => some q3
theorem hexes_Encode_ok (x0 : List Int) (p0_ : Option Addr) (c0_ : Nat) (r : ByteArray) (hF : hexes_Encode x0 = some r) (w : World) (hr0 : Row (cInt .u8) w p0_ c0_ x0) :
    Calls Try.prog 83 #[.slice p0_ x0.length c0_] w (fun e w' => e = .returned (.string r) ∧ Below w.heap.size w w') := by
  unfold hexes_Encode at hF
  refine calls_enter (l := [.slice p0_ x0.length c0_]) Try.func83 rfl rfl rfl ?_
  refine at_start ?_
  refine at_weak [(0, _)] ⟨rfl, trivial⟩ ?_
  refine at_seq ?_
  refine at_region ?_
  refine at_val rfl rfl rfl (r_assign rfl) ?_
  refine at_nil ?_
  refine at_weak [(0, _)] ⟨rfl, trivial⟩ ?_
  refine at_then_normal ?_
  refine at_seq ?_
  refine at_region ?_
  refine at_alloc_bld (e := 5) Try.zeroValue137 rfl ?_
  intro b1
  refine at_nil ?_
  refine at_weak [(0, _), (3, _)] ⟨rfl, rfl, trivial⟩ ?_
  refine at_then_normal ?_
  refine at_seq ?_
  refine at_seq ?_
  refine at_region ?_
  refine at_val rfl rfl rfl (r_move rfl) ?_
  refine at_val rfl rfl rfl (r_len_sl Try.underlying79 rfl) ?_
  refine at_val rfl rfl rfl (r_move rfl) ?_
  refine at_nil ?_
  refine at_weak [(3, _), (6, _), (7, _), (8, _)] ⟨rfl, rfl, rfl, rfl, trivial⟩ ?_
  refine at_then_normal ?_
  refine at_block ?_
  obtain ⟨q3, hq3, hF⟩ := of_bindM hF
  refine at_weak [(3, _), (6, _), (7, _), (8, _)] ⟨rfl, rfl, rfl, rfl, trivial⟩ ?_
  refine at_loop_n (B := 0) (A := fun Y => ∀ (g7 : Option Nat), At 22 [(3, .pointer (some ⟨b1, 0, none⟩))] (Wd w [bldE 137 5 b1 g7 q3]) Y) ?_ ?_
  · intro K
    refine hexes_Encode.l0.partial_correctness x0 (motive := fun i4 i5 x => KN (fun Y => ∀ (g7 : Option Nat), At 22 [(3, .pointer (some ⟨b1, 0, none⟩))] (Wd w [bldE 137 5 b1 g7 x]) Y) _ 0 → Round (fun Y => ∀ (g6 : Option Nat), At 22 [(3, .pointer (some ⟨b1, 0, none⟩)), (6, .slice p0_ x0.length c0_), (7, .int .i64 (x0.length : Int)), (8, .int .i64 i4)] (Wd w [bldE 137 5 b1 g6 i5]) Y) _ _ _) ?_ _ _ _ hq3 K none
    · clear K hF
      intro g ih i4 i5 x hF K g6
      refine at_round ?_
      refine at_seq ?_
      refine at_region ?_
      refine at_val rfl rfl rfl (r_ilss rfl rfl) ?_
      refine at_nil ?_
      refine at_weak [(3, _), (6, _), (7, _), (8, _), (9, _)] ⟨rfl, rfl, rfl, rfl, rfl, trivial⟩ ?_
      refine at_then_normal ?_
      refine at_seq ?_
      rcases of_ite hF with ⟨h8, hF⟩ | ⟨h8, hF⟩
      · refine at_cond_true rfl h8 ?_
        refine at_skip ?_
        refine at_then_normal ?_
        refine at_seq ?_
        refine at_block ?_
        refine at_seq ?_
        refine at_region ?_
        obtain ⟨h9, hF⟩ := of_guard hF
        obtain ⟨b11, o12, hp10⟩ := row_ptr hr0 h9
        refine at_val rfl rfl rfl (r_idx Try.underlying79 Try.sizeOf5 rfl rfl h9 hp10) ?_
        refine at_val rfl rfl rfl (r_load_cell Try.isAgg5 rfl (row_cell0 (fun _ h => h.below) hr0 h9 hp10 rfl)) ?_
        refine at_val rfl rfl rfl (r_assign rfl) ?_
        refine at_nil ?_
        refine at_weak [(3, _), (5, _), (6, _), (7, _), (8, _)] ⟨rfl, rfl, rfl, rfl, rfl, trivial⟩ ?_
        refine at_then_normal ?_
        refine at_seq ?_
        refine at_region ?_
        refine at_val rfl rfl rfl (r_move rfl) ?_
        refine at_val rfl rfl rfl (r_ishr rfl rfl (by decide)) ?_
        obtain ⟨h13, hF⟩ := of_guard hF
        refine at_val rfl rfl rfl (r_index_str Try.underlying9 rfl rfl h13) ?_
        obtain ⟨h15, hF⟩ := of_guard hF
        obtain ⟨h16, hF⟩ := of_guard hF
        refine at_bld_byte (c := bt (⟨#[48, 49, 50, 51, 52, 53, 54, 55, 56, 57, 97, 98, 99, 100, 101, 102]⟩ : ByteArray) (ishr .u8 (lget x0 i4) 4)) .z trivial Try.func108 rfl (by kernel_rfl) rfl rfl h15 h16 Try.Builder_WriteByte_k ?_
        intro g14
        refine at_nil ?_
        refine at_weak [(3, _), (5, _), (6, _), (7, _), (8, _)] ⟨rfl, rfl, rfl, rfl, rfl, trivial⟩ ?_
        refine at_then_normal ?_
        refine at_region ?_
        refine at_val rfl rfl rfl (r_move rfl) ?_
        refine at_val rfl rfl rfl (r_iand rfl rfl) ?_
        obtain ⟨h17, hF⟩ := of_guard hF
        refine at_val rfl rfl rfl (r_index_str Try.underlying9 rfl rfl h17) ?_
        obtain ⟨h19, hF⟩ := of_guard hF
        obtain ⟨h20, hF⟩ := of_guard hF
        refine at_bld_byte (c := bt (⟨#[48, 49, 50, 51, 52, 53, 54, 55, 56, 57, 97, 98, 99, 100, 101, 102]⟩ : ByteArray) (iand .u8 (lget x0 i4) 15)) .z trivial Try.func108 rfl (by kernel_rfl) rfl rfl h19 h20 Try.Builder_WriteByte_k ?_
        intro g18
        refine at_nil ?_
        refine at_weak [(3, _), (6, _), (7, _), (8, _)] ⟨rfl, rfl, rfl, rfl, trivial⟩ ?_
        refine at_blk_normal (at_then_normal ?_)
        refine at_region ?_
        refine at_val rfl rfl rfl (r_iadd rfl rfl) ?_
        refine at_val rfl rfl rfl (r_move rfl) ?_
        refine at_nil ?_
        refine at_weak [(3, _), (6, _), (7, _), (8, _)] ⟨rfl, rfl, rfl, rfl, trivial⟩ ?_
        refine at_then_normal ?_
        exact at_weak_k (ih _ _ _ hF K g18) ⟨rfl, rfl, rfl, rfl, trivial⟩
      · refine at_cond_false rfl h8 ?_
        refine at_exit ?_
        refine at_then_exit (at_then_exit ?_)
        obtain rfl := of_some hF
        exact at_weak_k (K g6) ⟨rfl, trivial⟩
  · skip
    intro g7
    refine at_blk_same ?_
    refine at_then_normal ?_
    refine at_seq ?_
    refine at_region ?_
    refine at_bld_string .z trivial Try.func111 rfl (by kernel_rfl) rfl rfl Try.Builder_String_any_k ?_
    intro g21
    refine at_val rfl rfl rfl (r_assign rfl) ?_
    refine at_nil ?_
    refine at_drop (H := _) .z ?_
    refine at_weak [(2, _)] ⟨rfl, trivial⟩ ?_
    refine at_then_normal ?_
    refine at_ret ?_
    have K := of_some hF
    subst K
    exact at_return1 rfl rfl (fun w1 hw => ⟨rfl, hw.below⟩)
end Go.Proofs.Ytdhkcjddjmgciaa
