/- Functions with the same answers as the Go functions that they are named for, and the proofs of it, by a program of this project (gen.py). -/
import Derived.Test.YtnojjenpggdadaaB
import Derived.Test.YtnojjenpggdadaaShelf
import Derived.Test.YtnojjenpggdadaaProg

set_option linter.unusedVariables false
set_option linter.unusedSimpArgs false
namespace Go.Proofs.Ytnojjenpggdadaa
open E Go.RowKit

theorem infoG15_is : (Try.prog.info? 5).isSome = true := by kernel_rfl
noncomputable def infoG15_v : TypeInfo := (Try.prog.info? 5).get infoG15_is
theorem infoG15 : Try.prog.info? 5 = some infoG15_v := (Option.some_get _).symm

def crawlwayref05_digit (x0 : Int) : Option (ByteArray) :=
  if (0 : Int) ≤ x0 ∧ x0 ≤ wr .i64 (x0 + 1) ∧ wr .i64 (x0 + 1) ≤ ((⟨#[48, 49, 50, 51, 52, 53, 54, 55, 56, 57, 97, 98, 99, 100, 101, 102]⟩ : ByteArray).size : Int) then some ((⟨#[48, 49, 50, 51, 52, 53, 54, 55, 56, 57, 97, 98, 99, 100, 101, 102]⟩ : ByteArray).extract (Int.toNat x0) (Int.toNat (wr .i64 (x0 + 1)))) else none
theorem crawlwayref05_digit_ok (x0 : Int) (r : ByteArray) (hF : crawlwayref05_digit x0 = some r) (w : World) :
    Calls Try.prog 33 #[.int .i64 x0] w (fun e w' => e = .returned (.string r) ∧ w' = w) := by
  unfold crawlwayref05_digit at hF
  refine calls_enter (l := [.int .i64 x0]) Try.func33 rfl rfl rfl ?_
  refine at_weak [(0, _)] ⟨rfl, trivial⟩ ?_
  refine at_seq ?_
  refine at_region ?_
  refine at_val rfl rfl rfl (r_assign rfl) ?_
  refine at_nil ?_
  refine at_weak [(0, _)] ⟨rfl, trivial⟩ ?_
  refine at_then_normal ?_
  refine at_seq ?_
  refine at_region ?_
  refine at_val rfl rfl rfl (r_move rfl) ?_
  refine at_val rfl rfl rfl (r_move rfl) ?_
  refine at_val rfl rfl rfl (r_iadd rfl rfl) ?_
  obtain ⟨h1, hF⟩ := of_guard hF
  refine at_val rfl rfl rfl (r_slice_str Try.underlying9 rfl ⟨_, rfl⟩ ⟨_, rfl⟩ h1) ?_
  refine at_val rfl rfl rfl (r_assign rfl) ?_
  refine at_nil ?_
  refine at_weak [(2, _)] ⟨rfl, trivial⟩ ?_
  refine at_then_normal ?_
  refine at_ret ?_
  have K := of_some hF
  subst K
  exact at_return1 rfl rfl (fun w1 hw => ⟨rfl, hw⟩)

def crawlwayref05_Value.l0 (x0 : Int) (x1 : Bool) (i2 : Int) : Option (Ctl (Int) (Unit)) :=
  if (decide (i2 < 16)) = true then (crawlwayref05_digit i2 >>= fun t4 => if (0 : Int) ≤ 0 ∧ 0 < (t4.size : Int) then if (bt t4 0 == x0) = true then (some (.ret i2)) else (if x1 = true then (if (decide (i2 > 9)) = true then (crawlwayref05_digit i2 >>= fun t9 => if (0 : Int) ≤ 0 ∧ 0 < (t9.size : Int) then if (bt t9 0 == wr .u8 (x0 + 32)) = true then (some (.ret i2)) else (crawlwayref05_Value.l0 x0 x1 (wr .i64 (i2 + 1))) else none) else (crawlwayref05_Value.l0 x0 x1 (wr .i64 (i2 + 1)))) else (crawlwayref05_Value.l0 x0 x1 (wr .i64 (i2 + 1)))) else none) else (some (.nx ()))
  partial_fixpoint
def crawlwayref05_Value (x0 : Int) (x1 : Bool) : Option (Int) :=
  crawlwayref05_Value.l0 x0 x1 0 >>= fun q1 => match q1 with | .ret r' => some r' | .nx sq1 => (some (-1))
theorem crawlwayref05_Value_ok (x0 : Int) (x1 : Bool) (r : Int) (hF : crawlwayref05_Value x0 x1 = some r) (w : World) :
    Calls Try.prog 34 #[.int .u8 x0, .bool x1] w (fun e w' => e = .returned (.int .i64 r) ∧ w' = w) := by
  unfold crawlwayref05_Value at hF
  refine calls_enter (l := [.int .u8 x0, .bool x1]) Try.func34 rfl rfl rfl ?_
  refine at_weak [(0, _), (1, _)] ⟨rfl, rfl, trivial⟩ ?_
  refine at_seq ?_
  refine at_region ?_
  refine at_val rfl rfl rfl (r_assign rfl) ?_
  refine at_nil ?_
  refine at_weak [(0, _), (1, _)] ⟨rfl, rfl, trivial⟩ ?_
  refine at_then_normal ?_
  refine at_seq ?_
  refine at_seq ?_
  refine at_region ?_
  refine at_val rfl rfl rfl (r_assign rfl) ?_
  refine at_nil ?_
  refine at_weak [(0, _), (1, _), (5, _)] ⟨rfl, rfl, rfl, trivial⟩ ?_
  refine at_then_normal ?_
  refine at_block ?_
  obtain ⟨q1, hq1, hF⟩ := of_bindM hF
  refine at_weak [(0, _), (1, _), (5, _)] ⟨rfl, rfl, rfl, trivial⟩ ?_
  refine at_loop_r (B := 0) (r := r) (q := q1) (A := fun (_ : Unit) Y => At 31 [] (fun w' => w' = w) Y) ?_ ?_
  · intro K
    refine crawlwayref05_Value.l0.partial_correctness x0 x1 (motive := fun i2 x => KR (fun (_ : Unit) Y => At 31 [] (fun w' => w' = w) Y) _ 0 r x → Round (fun Y => At 31 [(0, .int .u8 x0), (1, .bool x1), (5, .int .i64 i2)] (fun w' => w' = w) Y) _ _ _) ?_ _ _ hq1 K
    · clear K hF
      intro g ih i2 x hF K
      refine at_round ?_
      refine at_seq ?_
      refine at_seq ?_
      refine at_region ?_
      refine at_val rfl rfl rfl (r_move rfl) ?_
      refine at_val rfl rfl rfl (r_ilss rfl rfl) ?_
      refine at_nil ?_
      refine at_weak [(0, _), (1, _), (5, _), (7, _)] ⟨rfl, rfl, rfl, rfl, trivial⟩ ?_
      refine at_then_normal ?_
      rcases of_ite hF with ⟨h3, hF⟩ | ⟨h3, hF⟩
      · refine at_cond_true rfl h3 ?_
        refine at_skip ?_
        refine at_then_normal ?_
        refine at_seq ?_
        refine at_block ?_
        refine at_seq ?_
        refine at_region ?_
        refine at_val rfl rfl rfl (r_move rfl) ?_
        obtain ⟨t4, ht4, hF⟩ := of_bindM hF
        refine at_call0 Try.func33 rfl (by kernel_rfl) rfl rfl (fun w => crawlwayref05_digit_ok _ _ ht4 w) ?_
        obtain ⟨h5, hF⟩ := of_guard hF
        refine at_val rfl rfl rfl (r_index_str Try.underlying9 rfl rfl h5) ?_
        refine at_val rfl rfl rfl (r_move rfl) ?_
        refine at_val rfl rfl rfl (r_ieql rfl rfl) ?_
        refine at_val rfl rfl rfl (r_move rfl) ?_
        rcases of_ite hF with ⟨h6, hF⟩ | ⟨h6, hF⟩
        · refine at_fix (g := 15) rfl h6 ?_
          refine at_guard_no rfl rfl rfl rfl rfl ?_
          refine at_guard_no rfl rfl rfl rfl rfl ?_
          refine at_guard_undef rfl rfl rfl rfl ?_
          refine at_guard_undef rfl rfl rfl rfl ?_
          refine at_guard_no rfl rfl rfl rfl rfl ?_
          refine at_guard_no rfl rfl rfl rfl rfl ?_
          refine at_guard_undef rfl rfl rfl rfl ?_
          refine at_guard_undef rfl rfl rfl rfl ?_
          refine at_guard_undef rfl rfl rfl rfl ?_
          refine at_guard_undef rfl rfl rfl rfl ?_
          refine at_guard_undef rfl rfl rfl rfl ?_
          refine at_guard_undef rfl rfl rfl rfl ?_
          refine at_guard_no rfl rfl rfl rfl rfl ?_
          refine at_val rfl rfl rfl (r_pick rfl rfl rfl) ?_
          refine at_nil ?_
          refine at_weak [(0, _), (1, _), (5, _), (29, _)] ⟨rfl, rfl, rfl, rfl, trivial⟩ ?_
          refine at_then_normal ?_
          refine at_cond_true rfl rfl ?_
          refine at_seq ?_
          refine at_region ?_
          refine at_val rfl rfl rfl (r_move rfl) ?_
          refine at_val rfl rfl rfl (r_assign rfl) ?_
          refine at_nil ?_
          refine at_weak [(4, _)] ⟨rfl, trivial⟩ ?_
          refine at_then_normal ?_
          refine at_ret ?_
          refine at_blk_ret (at_then_ret (at_then_ret (at_blk_ret (at_then_ret ?_))))
          obtain rfl := of_some hF
          subst K
          exact at_return1 rfl rfl (fun w1 hw => ⟨rfl, hw⟩)
        · refine at_fix (g := 15) rfl h6 ?_
          refine at_guard_yes rfl rfl rfl ?_
          refine at_val rfl rfl rfl (r_move rfl) ?_
          refine at_guard_yes rfl rfl rfl ?_
          refine at_val rfl rfl rfl (r_move rfl) ?_
          rcases of_ite hF with ⟨h7, hF⟩ | ⟨h7, hF⟩
          · refine at_fix (g := 17) rfl h7 ?_
            refine at_guard_yes rfl rfl rfl ?_
            refine at_val rfl rfl rfl (r_move rfl) ?_
            refine at_guard_yes rfl rfl rfl ?_
            refine at_val rfl rfl rfl (r_igtr rfl rfl) ?_
            refine at_guard_yes rfl rfl rfl ?_
            refine at_val rfl rfl rfl (r_pick rfl rfl rfl) ?_
            refine at_guard_yes rfl rfl rfl ?_
            refine at_val rfl rfl rfl (r_move rfl) ?_
            rcases of_ite hF with ⟨h8, hF⟩ | ⟨h8, hF⟩
            · refine at_fix (g := 21) rfl h8 ?_
              refine at_guard_yes rfl rfl rfl ?_
              refine at_val rfl rfl rfl (r_move rfl) ?_
              refine at_guard_yes rfl rfl rfl ?_
              obtain ⟨t9, ht9, hF⟩ := of_bindM hF
              refine at_call0 Try.func33 rfl (by kernel_rfl) rfl rfl (fun w => crawlwayref05_digit_ok _ _ ht9 w) ?_
              refine at_guard_yes rfl rfl rfl ?_
              obtain ⟨h10, hF⟩ := of_guard hF
              refine at_val rfl rfl rfl (r_index_str Try.underlying9 rfl rfl h10) ?_
              refine at_guard_yes rfl rfl rfl ?_
              refine at_val rfl rfl rfl (r_move rfl) ?_
              refine at_guard_yes rfl rfl rfl ?_
              refine at_val rfl rfl rfl (r_iadd rfl rfl) ?_
              refine at_guard_yes rfl rfl rfl ?_
              refine at_val rfl rfl rfl (r_ieql rfl rfl) ?_
              refine at_guard_yes rfl rfl rfl ?_
              refine at_val rfl rfl rfl (r_pick rfl rfl rfl) ?_
              refine at_val rfl rfl rfl (r_pick rfl rfl rfl) ?_
              refine at_nil ?_
              refine at_weak [(0, _), (1, _), (5, _), (29, _)] ⟨rfl, rfl, rfl, rfl, trivial⟩ ?_
              refine at_then_normal ?_
              rcases of_ite hF with ⟨h11, hF⟩ | ⟨h11, hF⟩
              · refine at_cond_true rfl h11 ?_
                refine at_seq ?_
                refine at_region ?_
                refine at_val rfl rfl rfl (r_move rfl) ?_
                refine at_val rfl rfl rfl (r_assign rfl) ?_
                refine at_nil ?_
                refine at_weak [(4, _)] ⟨rfl, trivial⟩ ?_
                refine at_then_normal ?_
                refine at_ret ?_
                refine at_blk_ret (at_then_ret (at_then_ret (at_blk_ret (at_then_ret ?_))))
                obtain rfl := of_some hF
                subst K
                exact at_return1 rfl rfl (fun w1 hw => ⟨rfl, hw⟩)
              · refine at_cond_false rfl h11 ?_
                refine at_skip ?_
                refine at_blk_normal (at_then_normal ?_)
                refine at_region ?_
                refine at_val rfl rfl rfl (r_move rfl) ?_
                refine at_val rfl rfl rfl (r_iadd rfl rfl) ?_
                refine at_val rfl rfl rfl (r_assign rfl) ?_
                refine at_nil ?_
                refine at_weak [(0, _), (1, _), (5, _)] ⟨rfl, rfl, rfl, trivial⟩ ?_
                refine at_then_normal ?_
                exact at_weak_k (ih _ _ hF K) ⟨rfl, rfl, rfl, trivial⟩
            · refine at_fix (g := 21) rfl h8 ?_
              refine at_guard_no rfl rfl rfl rfl rfl ?_
              refine at_guard_no rfl rfl rfl rfl rfl ?_
              refine at_guard_no rfl rfl rfl rfl rfl ?_
              refine at_guard_no rfl rfl rfl rfl rfl ?_
              refine at_guard_no rfl rfl rfl rfl rfl ?_
              refine at_guard_no rfl rfl rfl rfl rfl ?_
              refine at_guard_yes rfl rfl rfl ?_
              refine at_val rfl rfl rfl (r_pick rfl rfl rfl) ?_
              refine at_val rfl rfl rfl (r_pick rfl rfl rfl) ?_
              refine at_nil ?_
              refine at_weak [(0, _), (1, _), (5, _), (29, _)] ⟨rfl, rfl, rfl, rfl, trivial⟩ ?_
              refine at_then_normal ?_
              refine at_cond_false rfl rfl ?_
              refine at_skip ?_
              refine at_blk_normal (at_then_normal ?_)
              refine at_region ?_
              refine at_val rfl rfl rfl (r_move rfl) ?_
              refine at_val rfl rfl rfl (r_iadd rfl rfl) ?_
              refine at_val rfl rfl rfl (r_assign rfl) ?_
              refine at_nil ?_
              refine at_weak [(0, _), (1, _), (5, _)] ⟨rfl, rfl, rfl, trivial⟩ ?_
              refine at_then_normal ?_
              exact at_weak_k (ih _ _ hF K) ⟨rfl, rfl, rfl, trivial⟩
          · refine at_fix (g := 17) rfl h7 ?_
            refine at_guard_no rfl rfl rfl rfl rfl ?_
            refine at_guard_no rfl rfl rfl rfl rfl ?_
            refine at_guard_yes rfl rfl rfl ?_
            refine at_val rfl rfl rfl (r_pick rfl rfl rfl) ?_
            refine at_guard_yes rfl rfl rfl ?_
            refine at_val rfl rfl rfl (r_move rfl) ?_
            refine at_guard_no rfl rfl rfl rfl rfl ?_
            refine at_guard_no rfl rfl rfl rfl rfl ?_
            refine at_guard_no rfl rfl rfl rfl rfl ?_
            refine at_guard_no rfl rfl rfl rfl rfl ?_
            refine at_guard_no rfl rfl rfl rfl rfl ?_
            refine at_guard_no rfl rfl rfl rfl rfl ?_
            refine at_guard_yes rfl rfl rfl ?_
            refine at_val rfl rfl rfl (r_pick rfl rfl rfl) ?_
            refine at_val rfl rfl rfl (r_pick rfl rfl rfl) ?_
            refine at_nil ?_
            refine at_weak [(0, _), (1, _), (5, _), (29, _)] ⟨rfl, rfl, rfl, rfl, trivial⟩ ?_
            refine at_then_normal ?_
            refine at_cond_false rfl rfl ?_
            refine at_skip ?_
            refine at_blk_normal (at_then_normal ?_)
            refine at_region ?_
            refine at_val rfl rfl rfl (r_move rfl) ?_
            refine at_val rfl rfl rfl (r_iadd rfl rfl) ?_
            refine at_val rfl rfl rfl (r_assign rfl) ?_
            refine at_nil ?_
            refine at_weak [(0, _), (1, _), (5, _)] ⟨rfl, rfl, rfl, trivial⟩ ?_
            refine at_then_normal ?_
            exact at_weak_k (ih _ _ hF K) ⟨rfl, rfl, rfl, trivial⟩
      · refine at_cond_false rfl h3 ?_
        refine at_exit ?_
        refine at_then_exit (at_then_exit ?_)
        obtain rfl := of_some hF
        exact at_weak_k K trivial
  · cases q1 with
    | ret r' => exact of_some hF
    | nx sq1 =>
      skip
      refine at_blk_same ?_
      refine at_then_normal ?_
      refine at_seq ?_
      refine at_region ?_
      refine at_val rfl rfl rfl (r_assign rfl) ?_
      refine at_nil ?_
      refine at_weak [(4, _)] ⟨rfl, trivial⟩ ?_
      refine at_then_normal ?_
      refine at_ret ?_
      have K := of_some hF
      subst K
      exact at_return1 rfl rfl (fun w1 hw => ⟨rfl, hw⟩)

def hexes_small (x0 : Int) : Option (Int) :=
  if (decide (x0 ≥ 65)) = true then (if (decide (x0 ≤ 70)) = true then (some (ior .u8 x0 32)) else (some x0)) else (some x0)
theorem hexes_small_ok (x0 : Int) (r : Int) (hF : hexes_small x0 = some r) (w : World) :
    Calls Try.prog 32 #[.int .u8 x0] w (fun e w' => e = .returned (.int .u8 r) ∧ w' = w) := by
  unfold hexes_small at hF
  refine calls_enter (l := [.int .u8 x0]) Try.func32 rfl rfl rfl ?_
  refine at_weak [(0, _)] ⟨rfl, trivial⟩ ?_
  refine at_seq ?_
  refine at_region ?_
  refine at_val rfl rfl rfl (r_assign rfl) ?_
  refine at_nil ?_
  refine at_weak [(0, _)] ⟨rfl, trivial⟩ ?_
  refine at_then_normal ?_
  refine at_seq ?_
  refine at_seq ?_
  refine at_region ?_
  refine at_val rfl rfl rfl (r_move rfl) ?_
  refine at_val rfl rfl rfl (r_igeq rfl rfl) ?_
  refine at_val rfl rfl rfl (r_move rfl) ?_
  rcases of_ite hF with ⟨h1, hF⟩ | ⟨h1, hF⟩
  · refine at_fix (g := 5) rfl h1 ?_
    refine at_guard_yes rfl rfl rfl ?_
    refine at_val rfl rfl rfl (r_move rfl) ?_
    refine at_guard_yes rfl rfl rfl ?_
    refine at_val rfl rfl rfl (r_ileq rfl rfl) ?_
    refine at_val rfl rfl rfl (r_pick rfl rfl rfl) ?_
    refine at_nil ?_
    refine at_weak [(0, _), (8, _)] ⟨rfl, rfl, trivial⟩ ?_
    refine at_then_normal ?_
    rcases of_ite hF with ⟨h2, hF⟩ | ⟨h2, hF⟩
    · refine at_cond_true rfl h2 ?_
      refine at_seq ?_
      refine at_region ?_
      refine at_val rfl rfl rfl (r_move rfl) ?_
      refine at_val rfl rfl rfl (r_ior rfl rfl) ?_
      refine at_val rfl rfl rfl (r_assign rfl) ?_
      refine at_nil ?_
      refine at_weak [(2, _)] ⟨rfl, trivial⟩ ?_
      refine at_then_normal ?_
      refine at_ret ?_
      refine at_then_ret ?_
      have K := of_some hF
      subst K
      exact at_return1 rfl rfl (fun w1 hw => ⟨rfl, hw⟩)
    · refine at_cond_false rfl h2 ?_
      refine at_skip ?_
      refine at_then_normal ?_
      refine at_seq ?_
      refine at_region ?_
      refine at_val rfl rfl rfl (r_move rfl) ?_
      refine at_val rfl rfl rfl (r_assign rfl) ?_
      refine at_nil ?_
      refine at_weak [(2, _)] ⟨rfl, trivial⟩ ?_
      refine at_then_normal ?_
      refine at_ret ?_
      have K := of_some hF
      subst K
      exact at_return1 rfl rfl (fun w1 hw => ⟨rfl, hw⟩)
  · refine at_fix (g := 5) rfl h1 ?_
    refine at_guard_no rfl rfl rfl rfl rfl ?_
    refine at_guard_no rfl rfl rfl rfl rfl ?_
    refine at_val rfl rfl rfl (r_pick rfl rfl rfl) ?_
    refine at_nil ?_
    refine at_weak [(0, _), (8, _)] ⟨rfl, rfl, trivial⟩ ?_
    refine at_then_normal ?_
    refine at_cond_false rfl rfl ?_
    refine at_skip ?_
    refine at_then_normal ?_
    refine at_seq ?_
    refine at_region ?_
    refine at_val rfl rfl rfl (r_move rfl) ?_
    refine at_val rfl rfl rfl (r_assign rfl) ?_
    refine at_nil ?_
    refine at_weak [(2, _)] ⟨rfl, trivial⟩ ?_
    refine at_then_normal ?_
    refine at_ret ?_
    have K := of_some hF
    subst K
    exact at_return1 rfl rfl (fun w1 hw => ⟨rfl, hw⟩)

def hexes_value (x0 : Int) : Option (Int × Bool) :=
  some (wr .u16 (Lib.indexByte (⟨#[48, 49, 50, 51, 52, 53, 54, 55, 56, 57, 97, 98, 99, 100, 101, 102]⟩ : ByteArray).data.toList (Nat.toUInt8 (Int.toNat x0))), decide (Lib.indexByte (⟨#[48, 49, 50, 51, 52, 53, 54, 55, 56, 57, 97, 98, 99, 100, 101, 102]⟩ : ByteArray).data.toList (Nat.toUInt8 (Int.toNat x0)) ≥ 0))
theorem hexes_value_ok (x0 : Int) (r : Int × Bool) (hF : hexes_value x0 = some r) (w : World) :
    Calls Try.prog 31 #[.int .u8 x0] w (fun e w' => e = .returned (.tuple #[.int .u16 r.1, .bool r.2]) ∧ w' = w) := by
  unfold hexes_value at hF
  refine calls_enter (l := [.int .u8 x0]) Try.func31 rfl rfl rfl ?_
  refine at_weak [(0, _)] ⟨rfl, trivial⟩ ?_
  refine at_seq ?_
  refine at_region ?_
  refine at_val rfl rfl rfl (r_assign rfl) ?_
  refine at_val rfl rfl rfl (r_assign rfl) ?_
  refine at_nil ?_
  refine at_weak [(0, _)] ⟨rfl, trivial⟩ ?_
  refine at_then_normal ?_
  refine at_seq ?_
  refine at_region ?_
  refine at_val rfl rfl rfl (r_move rfl) ?_
  refine at_call0 Try.func47 rfl (by kernel_rfl) rfl rfl (fun w => Try.strings_IndexByte _ _ w) ?_
  refine at_val rfl rfl rfl (r_assign rfl) ?_
  refine at_nil ?_
  refine at_weak [(4, _)] ⟨rfl, trivial⟩ ?_
  refine at_then_normal ?_
  refine at_seq ?_
  refine at_region ?_
  refine at_val rfl rfl rfl (r_move rfl) ?_
  refine at_val rfl rfl rfl (r_conv Try.underlying3 Try.underlying22 rfl) ?_
  refine at_val rfl rfl rfl (r_move rfl) ?_
  refine at_val rfl rfl rfl (r_igeq rfl rfl) ?_
  refine at_val rfl rfl rfl (r_assign rfl) ?_
  refine at_val rfl rfl rfl (r_assign rfl) ?_
  refine at_nil ?_
  refine at_weak [(2, _), (3, _)] ⟨rfl, rfl, trivial⟩ ?_
  refine at_then_normal ?_
  refine at_ret ?_
  have K := of_some hF
  subst K
  exact at_return2 rfl rfl rfl (fun w1 hw => ⟨rfl, hw⟩)

def hexes_Group.l0 (i2 : Int) (i3 : ByteArray) : Option (ByteArray) :=
  if (0 : Int) ≤ iand .u16 i2 15 ∧ iand .u16 i2 15 < ((⟨#[48, 49, 50, 51, 52, 53, 54, 55, 56, 57, 97, 98, 99, 100, 101, 102]⟩ : ByteArray).size : Int) then if (Utf8.encode (bt (⟨#[48, 49, 50, 51, 52, 53, 54, 55, 56, 57, 97, 98, 99, 100, 101, 102]⟩ : ByteArray) (iand .u16 i2 15))).size + i3.size ≤ 140737488355328 then if (ishr .u16 i2 4 == 0) = true then (some ((Utf8.encode (bt (⟨#[48, 49, 50, 51, 52, 53, 54, 55, 56, 57, 97, 98, 99, 100, 101, 102]⟩ : ByteArray) (iand .u16 i2 15))) ++ i3)) else (hexes_Group.l0 (ishr .u16 i2 4) ((Utf8.encode (bt (⟨#[48, 49, 50, 51, 52, 53, 54, 55, 56, 57, 97, 98, 99, 100, 101, 102]⟩ : ByteArray) (iand .u16 i2 15))) ++ i3)) else none else none
  partial_fixpoint
def hexes_Group (x0 : Int) : Option (ByteArray) :=
  hexes_Group.l0 x0 (⟨#[]⟩) >>= fun q1 => some q1
theorem hexes_Group_ok (x0 : Int) (r : ByteArray) (hF : hexes_Group x0 = some r) (w : World) :
    Calls Try.prog 10 #[.int .u16 x0] w (fun e w' => e = .returned (.string r) ∧ w' = w) := by
  unfold hexes_Group at hF
  refine calls_enter (l := [.int .u16 x0]) Try.func10 rfl rfl rfl ?_
  refine at_weak [(0, _)] ⟨rfl, trivial⟩ ?_
  refine at_seq ?_
  refine at_region ?_
  refine at_val rfl rfl rfl (r_assign rfl) ?_
  refine at_nil ?_
  refine at_weak [(0, _)] ⟨rfl, trivial⟩ ?_
  refine at_then_normal ?_
  refine at_seq ?_
  refine at_region ?_
  refine at_val rfl rfl rfl (r_assign rfl) ?_
  refine at_nil ?_
  refine at_weak [(0, _), (3, _)] ⟨rfl, rfl, trivial⟩ ?_
  refine at_then_normal ?_
  refine at_block ?_
  obtain ⟨q1, hq1, hF⟩ := of_bindM hF
  refine at_weak [(0, _), (3, _)] ⟨rfl, rfl, trivial⟩ ?_
  refine at_loop_only (r := r) (q := q1) ?_ ?_
  · intro K
    refine hexes_Group.l0.partial_correctness  (motive := fun i2 i3 x => x = r → Round (fun Y => At 15 [(0, .int .u16 i2), (3, .string i3)] (fun w' => w' = w) Y) _ _ _) ?_ _ _ _ hq1 K
    · clear K hF
      intro g ih i2 i3 x hF K
      refine at_round ?_
      refine at_block ?_
      refine at_seq ?_
      refine at_region ?_
      refine at_val rfl rfl rfl (r_move rfl) ?_
      refine at_val rfl rfl rfl (r_iand rfl rfl) ?_
      obtain ⟨h4, hF⟩ := of_guard hF
      refine at_val rfl rfl rfl (r_index_str Try.underlying9 rfl rfl h4) ?_
      refine at_val rfl rfl rfl (r_conv_str Try.underlying5 Try.underlying9 rfl) ?_
      refine at_val rfl rfl rfl (r_move rfl) ?_
      obtain ⟨h5, hF⟩ := of_guard hF
      refine at_val rfl rfl rfl (r_concat rfl rfl h5) ?_
      refine at_val rfl rfl rfl (r_assign rfl) ?_
      refine at_nil ?_
      refine at_weak [(0, _), (3, _)] ⟨rfl, rfl, trivial⟩ ?_
      refine at_then_normal ?_
      refine at_seq ?_
      refine at_region ?_
      refine at_val rfl rfl rfl (r_move rfl) ?_
      refine at_val rfl rfl rfl (r_ishr rfl rfl (by decide)) ?_
      refine at_val rfl rfl rfl (r_assign rfl) ?_
      refine at_nil ?_
      refine at_weak [(0, _), (3, _)] ⟨rfl, rfl, trivial⟩ ?_
      refine at_then_normal ?_
      refine at_seq ?_
      refine at_region ?_
      refine at_val rfl rfl rfl (r_move rfl) ?_
      refine at_val rfl rfl rfl (r_ieql rfl rfl) ?_
      refine at_nil ?_
      refine at_weak [(0, _), (3, _), (13, _)] ⟨rfl, rfl, rfl, trivial⟩ ?_
      refine at_then_normal ?_
      rcases of_ite hF with ⟨h6, hF⟩ | ⟨h6, hF⟩
      · refine at_cond_true rfl h6 ?_
        refine at_seq ?_
        refine at_region ?_
        refine at_val rfl rfl rfl (r_move rfl) ?_
        refine at_val rfl rfl rfl (r_assign rfl) ?_
        refine at_nil ?_
        refine at_weak [(2, _)] ⟨rfl, trivial⟩ ?_
        refine at_then_normal ?_
        refine at_ret ?_
        refine at_blk_ret (at_then_ret (at_blk_ret ?_))
        obtain rfl := of_some hF
        subst K
        exact at_return1 rfl rfl (fun w1 hw => ⟨rfl, hw⟩)
      · refine at_cond_false rfl h6 ?_
        refine at_skip ?_
        refine at_blk_normal (at_then_normal ?_)
        exact at_weak_k (ih _ _ _ hF K) ⟨rfl, rfl, trivial⟩
  · exact of_some hF

def hexes_ReadGroup.l0 (x0 : ByteArray) (i4 : Int) (i5 : Int) : Option (Ctl (Int × Int) (Int)) :=
  if (decide (i5 < (x0.size : Int))) = true then (if (0 : Int) ≤ i5 ∧ i5 < (x0.size : Int) then hexes_small (bt x0 i5) >>= fun t8 => hexes_value t8 >>= fun t9 => if (!t9.2) = true then (some (.ret (0, 5))) else (hexes_ReadGroup.l0 x0 (ior .u16 (ishl .u16 i4 4) t9.1) (wr .i64 (i5 + 1))) else none) else (some (.nx i4))
  partial_fixpoint
def hexes_ReadGroup (x0 : ByteArray) : Option (Int × Int) :=
  if (decide ((x0.size : Int) < 1)) = true then (some (0, 5)) else (if (decide ((x0.size : Int) > 4)) = true then (some (0, 5)) else (hexes_ReadGroup.l0 x0 0 0 >>= fun q3 => match q3 with | .ret r' => some r' | .nx sq3 => (some (sq3, 0))))
theorem hexes_ReadGroup_ok (x0 : ByteArray) (r : Int × Int) (hF : hexes_ReadGroup x0 = some r) (w : World) :
    Calls Try.prog 11 #[.string x0] w (fun e w' => e = .returned (.tuple #[.int .u16 r.1, .int .i64 r.2]) ∧ w' = w) := by
  unfold hexes_ReadGroup at hF
  refine calls_enter (l := [.string x0]) Try.func11 rfl rfl rfl ?_
  refine at_weak [(0, _)] ⟨rfl, trivial⟩ ?_
  refine at_seq ?_
  refine at_region ?_
  refine at_val rfl rfl rfl (r_assign rfl) ?_
  refine at_val rfl rfl rfl (r_assign rfl) ?_
  refine at_nil ?_
  refine at_weak [(0, _)] ⟨rfl, trivial⟩ ?_
  refine at_then_normal ?_
  refine at_seq ?_
  refine at_seq ?_
  refine at_region ?_
  refine at_val rfl rfl rfl (r_move rfl) ?_
  refine at_val rfl rfl rfl (r_len_str Try.underlying9 rfl) ?_
  refine at_val rfl rfl rfl (r_ilss rfl rfl) ?_
  refine at_val rfl rfl rfl (r_move rfl) ?_
  rcases of_ite hF with ⟨h1, hF⟩ | ⟨h1, hF⟩
  · refine at_fix (g := 11) rfl h1 ?_
    refine at_guard_no rfl rfl rfl rfl rfl ?_
    refine at_guard_no rfl rfl rfl rfl rfl ?_
    refine at_guard_no rfl rfl rfl rfl rfl ?_
    refine at_val rfl rfl rfl (r_pick rfl rfl rfl) ?_
    refine at_nil ?_
    refine at_weak [(0, _), (15, _)] ⟨rfl, rfl, trivial⟩ ?_
    refine at_then_normal ?_
    refine at_cond_true rfl rfl ?_
    refine at_seq ?_
    refine at_region ?_
    refine at_val rfl rfl rfl (r_assign rfl) ?_
    refine at_val rfl rfl rfl (r_assign rfl) ?_
    refine at_nil ?_
    refine at_weak [(2, _), (3, _)] ⟨rfl, rfl, trivial⟩ ?_
    refine at_then_normal ?_
    refine at_ret ?_
    refine at_then_ret ?_
    have K := of_some hF
    subst K
    exact at_return2 rfl rfl rfl (fun w1 hw => ⟨rfl, hw⟩)
  · refine at_fix (g := 11) rfl h1 ?_
    refine at_guard_yes rfl rfl rfl ?_
    refine at_val rfl rfl rfl (r_move rfl) ?_
    refine at_guard_yes rfl rfl rfl ?_
    refine at_val rfl rfl rfl (r_len_str Try.underlying9 rfl) ?_
    refine at_guard_yes rfl rfl rfl ?_
    refine at_val rfl rfl rfl (r_igtr rfl rfl) ?_
    refine at_val rfl rfl rfl (r_pick rfl rfl rfl) ?_
    refine at_nil ?_
    refine at_weak [(0, _), (15, _)] ⟨rfl, rfl, trivial⟩ ?_
    refine at_then_normal ?_
    rcases of_ite hF with ⟨h2, hF⟩ | ⟨h2, hF⟩
    · refine at_cond_true rfl h2 ?_
      refine at_seq ?_
      refine at_region ?_
      refine at_val rfl rfl rfl (r_assign rfl) ?_
      refine at_val rfl rfl rfl (r_assign rfl) ?_
      refine at_nil ?_
      refine at_weak [(2, _), (3, _)] ⟨rfl, rfl, trivial⟩ ?_
      refine at_then_normal ?_
      refine at_ret ?_
      refine at_then_ret ?_
      have K := of_some hF
      subst K
      exact at_return2 rfl rfl rfl (fun w1 hw => ⟨rfl, hw⟩)
    · refine at_cond_false rfl h2 ?_
      refine at_skip ?_
      refine at_then_normal ?_
      refine at_seq ?_
      refine at_region ?_
      refine at_val rfl rfl rfl (r_assign rfl) ?_
      refine at_nil ?_
      refine at_weak [(0, _), (4, _)] ⟨rfl, rfl, trivial⟩ ?_
      refine at_then_normal ?_
      refine at_seq ?_
      refine at_seq ?_
      refine at_region ?_
      refine at_val rfl rfl rfl (r_move rfl) ?_
      refine at_val rfl rfl rfl (r_len_str Try.underlying9 rfl) ?_
      refine at_val rfl rfl rfl (r_move rfl) ?_
      refine at_nil ?_
      refine at_weak [(0, _), (4, _), (17, _), (18, _)] ⟨rfl, rfl, rfl, rfl, trivial⟩ ?_
      refine at_then_normal ?_
      refine at_block ?_
      obtain ⟨q3, hq3, hF⟩ := of_bindM hF
      refine at_weak [(0, _), (4, _), (17, _), (18, _)] ⟨rfl, rfl, rfl, rfl, trivial⟩ ?_
      refine at_loop_r (B := 0) (r := r) (q := q3) (A := fun sq3 Y => At 37 [(4, .int .u16 sq3)] (fun w' => w' = w) Y) ?_ ?_
      · intro K
        refine hexes_ReadGroup.l0.partial_correctness x0 (motive := fun i4 i5 x => KR (fun sq3 Y => At 37 [(4, .int .u16 sq3)] (fun w' => w' = w) Y) _ 0 r x → Round (fun Y => At 37 [(0, .string x0), (4, .int .u16 i4), (17, .int .i64 (x0.size : Int)), (18, .int .i64 i5)] (fun w' => w' = w) Y) _ _ _) ?_ _ _ _ hq3 K
        · clear K hF
          intro g ih i4 i5 x hF K
          refine at_round ?_
          refine at_seq ?_
          refine at_region ?_
          refine at_val rfl rfl rfl (r_ilss rfl rfl) ?_
          refine at_nil ?_
          refine at_weak [(0, _), (4, _), (17, _), (18, _), (19, _)] ⟨rfl, rfl, rfl, rfl, rfl, trivial⟩ ?_
          refine at_then_normal ?_
          refine at_seq ?_
          rcases of_ite hF with ⟨h6, hF⟩ | ⟨h6, hF⟩
          · refine at_cond_true rfl h6 ?_
            refine at_skip ?_
            refine at_then_normal ?_
            refine at_seq ?_
            refine at_block ?_
            refine at_seq ?_
            refine at_region ?_
            refine at_val rfl rfl rfl (r_move rfl) ?_
            refine at_val rfl rfl rfl (r_assign rfl) ?_
            refine at_nil ?_
            refine at_weak [(0, _), (4, _), (5, _), (17, _), (18, _)] ⟨rfl, rfl, rfl, rfl, rfl, trivial⟩ ?_
            refine at_then_normal ?_
            refine at_seq ?_
            refine at_region ?_
            refine at_val rfl rfl rfl (r_move rfl) ?_
            refine at_val rfl rfl rfl (r_move rfl) ?_
            obtain ⟨h7, hF⟩ := of_guard hF
            refine at_val rfl rfl rfl (r_index_str Try.underlying9 rfl rfl h7) ?_
            obtain ⟨t8, ht8, hF⟩ := of_bindM hF
            refine at_call0 Try.func32 rfl (by kernel_rfl) rfl rfl (fun w => hexes_small_ok _ _ ht8 w) ?_
            obtain ⟨t9, ht9, hF⟩ := of_bindM hF
            refine at_call0 Try.func31 rfl (by kernel_rfl) rfl rfl (fun w => hexes_value_ok _ _ ht9 w) ?_
            refine at_val rfl rfl rfl (r_move rfl) ?_
            refine at_val rfl rfl rfl (r_extract rfl rfl) ?_
            refine at_val rfl rfl rfl (r_extract rfl rfl) ?_
            refine at_val rfl rfl rfl (r_assign rfl) ?_
            refine at_val rfl rfl rfl (r_assign rfl) ?_
            refine at_nil ?_
            refine at_weak [(0, _), (4, _), (6, _), (7, _), (17, _), (18, _)] ⟨rfl, rfl, rfl, rfl, rfl, rfl, trivial⟩ ?_
            refine at_then_normal ?_
            refine at_seq ?_
            refine at_seq ?_
            refine at_region ?_
            refine at_val rfl rfl rfl (r_move rfl) ?_
            refine at_val rfl rfl rfl (r_not rfl) ?_
            refine at_nil ?_
            refine at_weak [(0, _), (4, _), (6, _), (17, _), (18, _), (30, _)] ⟨rfl, rfl, rfl, rfl, rfl, rfl, trivial⟩ ?_
            refine at_then_normal ?_
            rcases of_ite hF with ⟨h10, hF⟩ | ⟨h10, hF⟩
            · refine at_cond_true rfl h10 ?_
              refine at_seq ?_
              refine at_region ?_
              refine at_val rfl rfl rfl (r_assign rfl) ?_
              refine at_val rfl rfl rfl (r_assign rfl) ?_
              refine at_nil ?_
              refine at_weak [(2, _), (3, _)] ⟨rfl, rfl, trivial⟩ ?_
              refine at_then_normal ?_
              refine at_ret ?_
              refine at_then_ret (at_blk_ret (at_then_ret (at_then_ret (at_blk_ret (at_then_ret ?_)))))
              obtain rfl := of_some hF
              subst K
              exact at_return2 rfl rfl rfl (fun w1 hw => ⟨rfl, hw⟩)
            · refine at_cond_false rfl h10 ?_
              refine at_skip ?_
              refine at_then_normal ?_
              refine at_region ?_
              refine at_val rfl rfl rfl (r_move rfl) ?_
              refine at_val rfl rfl rfl (r_ishl rfl rfl (by decide)) ?_
              refine at_val rfl rfl rfl (r_move rfl) ?_
              refine at_val rfl rfl rfl (r_ior rfl rfl) ?_
              refine at_val rfl rfl rfl (r_assign rfl) ?_
              refine at_nil ?_
              refine at_weak [(0, _), (4, _), (17, _), (18, _)] ⟨rfl, rfl, rfl, rfl, trivial⟩ ?_
              refine at_blk_normal (at_then_normal ?_)
              refine at_region ?_
              refine at_val rfl rfl rfl (r_iadd rfl rfl) ?_
              refine at_val rfl rfl rfl (r_move rfl) ?_
              refine at_nil ?_
              refine at_weak [(0, _), (4, _), (17, _), (18, _)] ⟨rfl, rfl, rfl, rfl, trivial⟩ ?_
              refine at_then_normal ?_
              exact at_weak_k (ih _ _ _ hF K) ⟨rfl, rfl, rfl, rfl, trivial⟩
          · refine at_cond_false rfl h6 ?_
            refine at_exit ?_
            refine at_then_exit (at_then_exit ?_)
            obtain rfl := of_some hF
            exact at_weak_k K ⟨rfl, trivial⟩
      · cases q3 with
        | ret r' => exact of_some hF
        | nx sq3 =>
          skip
          refine at_blk_same ?_
          refine at_then_normal ?_
          refine at_seq ?_
          refine at_region ?_
          refine at_val rfl rfl rfl (r_move rfl) ?_
          refine at_val rfl rfl rfl (r_assign rfl) ?_
          refine at_val rfl rfl rfl (r_assign rfl) ?_
          refine at_nil ?_
          refine at_weak [(2, _), (3, _)] ⟨rfl, rfl, trivial⟩ ?_
          refine at_then_normal ?_
          refine at_ret ?_
          have K := of_some hF
          subst K
          exact at_return2 rfl rfl rfl (fun w1 hw => ⟨rfl, hw⟩)

def crawlwayref05_Group (x0 : Int) : Option (ByteArray) :=
  if (decide (x0 < 16)) = true then (crawlwayref05_digit x0 >>= fun t2 => some t2) else (crawlwayref05_Group (wr .i64 (Int.tdiv x0 16)) >>= fun t3 => crawlwayref05_digit (Int.tmod x0 16) >>= fun t4 => if t3.size + t4.size ≤ 140737488355328 then some (t3 ++ t4) else none)
  partial_fixpoint
theorem crawlwayref05_Group_ok (x0 : Int) (r : ByteArray) (hF : crawlwayref05_Group x0 = some r) (w : World) :
    Calls Try.prog 12 #[.int .i64 x0] w (fun e w' => e = .returned (.string r) ∧ w' = w) := by
  refine crawlwayref05_Group.partial_correctness (motive := fun x0 r => ∀ (w : World), Calls Try.prog 12 #[.int .i64 x0] w (fun e w' => e = .returned (.string r) ∧ w' = w)) ?_ _ _ hF w
  clear hF
  intro g ihf0 x0 r hF w
  have ihf : ∀ (x0 : Int) (r : ByteArray) (hF : g x0 = some r) (w : World), Calls Try.prog 12 #[.int .i64 x0] w (fun e w' => e = .returned (.string r) ∧ w' = w) := fun x0 r hF w => ihf0 x0 r hF w
  refine calls_enter (l := [.int .i64 x0]) Try.func12 rfl rfl rfl ?_
  refine at_weak [(0, _)] ⟨rfl, trivial⟩ ?_
  refine at_seq ?_
  refine at_region ?_
  refine at_val rfl rfl rfl (r_assign rfl) ?_
  refine at_nil ?_
  refine at_weak [(0, _)] ⟨rfl, trivial⟩ ?_
  refine at_then_normal ?_
  refine at_seq ?_
  refine at_seq ?_
  refine at_region ?_
  refine at_val rfl rfl rfl (r_move rfl) ?_
  refine at_val rfl rfl rfl (r_ilss rfl rfl) ?_
  refine at_nil ?_
  refine at_weak [(0, _), (4, _)] ⟨rfl, rfl, trivial⟩ ?_
  refine at_then_normal ?_
  rcases of_ite hF with ⟨h1, hF⟩ | ⟨h1, hF⟩
  · refine at_cond_true rfl h1 ?_
    refine at_seq ?_
    refine at_region ?_
    refine at_val rfl rfl rfl (r_move rfl) ?_
    obtain ⟨t2, ht2, hF⟩ := of_bindM hF
    refine at_call0 Try.func33 rfl (by kernel_rfl) rfl rfl (fun w => crawlwayref05_digit_ok _ _ ht2 w) ?_
    refine at_val rfl rfl rfl (r_assign rfl) ?_
    refine at_nil ?_
    refine at_weak [(2, _)] ⟨rfl, trivial⟩ ?_
    refine at_then_normal ?_
    refine at_ret ?_
    refine at_then_ret ?_
    have K := of_some hF
    subst K
    exact at_return1 rfl rfl (fun w1 hw => ⟨rfl, hw⟩)
  · refine at_cond_false rfl h1 ?_
    refine at_skip ?_
    refine at_then_normal ?_
    refine at_seq ?_
    refine at_region ?_
    refine at_val rfl rfl rfl (r_move rfl) ?_
    refine at_val rfl rfl rfl (r_iquo rfl rfl (by decide)) ?_
    obtain ⟨t3, ht3, hF⟩ := of_bindM hF
    refine at_call0 Try.func12 rfl (by kernel_rfl) rfl rfl (fun w => ihf _ _ ht3 w) ?_
    refine at_val rfl rfl rfl (r_move rfl) ?_
    refine at_val rfl rfl rfl (r_irem rfl rfl (by decide)) ?_
    obtain ⟨t4, ht4, hF⟩ := of_bindM hF
    refine at_call0 Try.func33 rfl (by kernel_rfl) rfl rfl (fun w => crawlwayref05_digit_ok _ _ ht4 w) ?_
    obtain ⟨h5, hF⟩ := of_guard hF
    refine at_val rfl rfl rfl (r_concat rfl rfl h5) ?_
    refine at_val rfl rfl rfl (r_assign rfl) ?_
    refine at_nil ?_
    refine at_weak [(2, _)] ⟨rfl, trivial⟩ ?_
    refine at_then_normal ?_
    refine at_ret ?_
    have K := of_some hF
    subst K
    exact at_return1 rfl rfl (fun w1 hw => ⟨rfl, hw⟩)

def crawlwayref05_ReadGroup.l0 (x0 : ByteArray) (i4 : Int) (i5 : Int) : Option (Ctl (Int) (Int)) :=
  if (decide (i5 < (x0.size : Int))) = true then (if (0 : Int) ≤ i5 ∧ i5 < (x0.size : Int) then crawlwayref05_Value (bt x0 i5) true >>= fun t8 => if (decide (t8 < 0)) = true then (some (.ret (-1))) else (crawlwayref05_ReadGroup.l0 x0 (wr .i64 ((wr .i64 (16 * i4)) + t8)) (wr .i64 (i5 + 1))) else none) else (some (.nx i4))
  partial_fixpoint
def crawlwayref05_ReadGroup (x0 : ByteArray) : Option (Int) :=
  if (decide ((x0.size : Int) < 1)) = true then (some (-1)) else (if (decide ((x0.size : Int) > 4)) = true then (some (-1)) else (crawlwayref05_ReadGroup.l0 x0 0 0 >>= fun q3 => match q3 with | .ret r' => some r' | .nx sq3 => (some sq3)))
theorem crawlwayref05_ReadGroup_ok (x0 : ByteArray) (r : Int) (hF : crawlwayref05_ReadGroup x0 = some r) (w : World) :
    Calls Try.prog 13 #[.string x0] w (fun e w' => e = .returned (.int .i64 r) ∧ w' = w) := by
  unfold crawlwayref05_ReadGroup at hF
  refine calls_enter (l := [.string x0]) Try.func13 rfl rfl rfl ?_
  refine at_weak [(0, _)] ⟨rfl, trivial⟩ ?_
  refine at_seq ?_
  refine at_region ?_
  refine at_val rfl rfl rfl (r_assign rfl) ?_
  refine at_nil ?_
  refine at_weak [(0, _)] ⟨rfl, trivial⟩ ?_
  refine at_then_normal ?_
  refine at_seq ?_
  refine at_seq ?_
  refine at_region ?_
  refine at_val rfl rfl rfl (r_move rfl) ?_
  refine at_val rfl rfl rfl (r_len_str Try.underlying9 rfl) ?_
  refine at_val rfl rfl rfl (r_ilss rfl rfl) ?_
  refine at_val rfl rfl rfl (r_move rfl) ?_
  rcases of_ite hF with ⟨h1, hF⟩ | ⟨h1, hF⟩
  · refine at_fix (g := 9) rfl h1 ?_
    refine at_guard_no rfl rfl rfl rfl rfl ?_
    refine at_guard_no rfl rfl rfl rfl rfl ?_
    refine at_guard_no rfl rfl rfl rfl rfl ?_
    refine at_val rfl rfl rfl (r_pick rfl rfl rfl) ?_
    refine at_nil ?_
    refine at_weak [(0, _), (13, _)] ⟨rfl, rfl, trivial⟩ ?_
    refine at_then_normal ?_
    refine at_cond_true rfl rfl ?_
    refine at_seq ?_
    refine at_region ?_
    refine at_val rfl rfl rfl (r_assign rfl) ?_
    refine at_nil ?_
    refine at_weak [(2, _)] ⟨rfl, trivial⟩ ?_
    refine at_then_normal ?_
    refine at_ret ?_
    refine at_then_ret ?_
    have K := of_some hF
    subst K
    exact at_return1 rfl rfl (fun w1 hw => ⟨rfl, hw⟩)
  · refine at_fix (g := 9) rfl h1 ?_
    refine at_guard_yes rfl rfl rfl ?_
    refine at_val rfl rfl rfl (r_move rfl) ?_
    refine at_guard_yes rfl rfl rfl ?_
    refine at_val rfl rfl rfl (r_len_str Try.underlying9 rfl) ?_
    refine at_guard_yes rfl rfl rfl ?_
    refine at_val rfl rfl rfl (r_igtr rfl rfl) ?_
    refine at_val rfl rfl rfl (r_pick rfl rfl rfl) ?_
    refine at_nil ?_
    refine at_weak [(0, _), (13, _)] ⟨rfl, rfl, trivial⟩ ?_
    refine at_then_normal ?_
    rcases of_ite hF with ⟨h2, hF⟩ | ⟨h2, hF⟩
    · refine at_cond_true rfl h2 ?_
      refine at_seq ?_
      refine at_region ?_
      refine at_val rfl rfl rfl (r_assign rfl) ?_
      refine at_nil ?_
      refine at_weak [(2, _)] ⟨rfl, trivial⟩ ?_
      refine at_then_normal ?_
      refine at_ret ?_
      refine at_then_ret ?_
      have K := of_some hF
      subst K
      exact at_return1 rfl rfl (fun w1 hw => ⟨rfl, hw⟩)
    · refine at_cond_false rfl h2 ?_
      refine at_skip ?_
      refine at_then_normal ?_
      refine at_seq ?_
      refine at_region ?_
      refine at_val rfl rfl rfl (r_assign rfl) ?_
      refine at_nil ?_
      refine at_weak [(0, _), (3, _)] ⟨rfl, rfl, trivial⟩ ?_
      refine at_then_normal ?_
      refine at_seq ?_
      refine at_seq ?_
      refine at_region ?_
      refine at_val rfl rfl rfl (r_assign rfl) ?_
      refine at_nil ?_
      refine at_weak [(0, _), (3, _), (4, _)] ⟨rfl, rfl, rfl, trivial⟩ ?_
      refine at_then_normal ?_
      refine at_block ?_
      obtain ⟨q3, hq3, hF⟩ := of_bindM hF
      refine at_weak [(0, _), (3, _), (4, _)] ⟨rfl, rfl, rfl, trivial⟩ ?_
      refine at_loop_r (B := 0) (r := r) (q := q3) (A := fun sq3 Y => At 31 [(3, .int .i64 sq3)] (fun w' => w' = w) Y) ?_ ?_
      · intro K
        refine crawlwayref05_ReadGroup.l0.partial_correctness x0 (motive := fun i4 i5 x => KR (fun sq3 Y => At 31 [(3, .int .i64 sq3)] (fun w' => w' = w) Y) _ 0 r x → Round (fun Y => At 31 [(0, .string x0), (3, .int .i64 i4), (4, .int .i64 i5)] (fun w' => w' = w) Y) _ _ _) ?_ _ _ _ hq3 K
        · clear K hF
          intro g ih i4 i5 x hF K
          refine at_round ?_
          refine at_seq ?_
          refine at_seq ?_
          refine at_region ?_
          refine at_val rfl rfl rfl (r_move rfl) ?_
          refine at_val rfl rfl rfl (r_move rfl) ?_
          refine at_val rfl rfl rfl (r_len_str Try.underlying9 rfl) ?_
          refine at_val rfl rfl rfl (r_ilss rfl rfl) ?_
          refine at_nil ?_
          refine at_weak [(0, _), (3, _), (4, _), (17, _)] ⟨rfl, rfl, rfl, rfl, trivial⟩ ?_
          refine at_then_normal ?_
          rcases of_ite hF with ⟨h6, hF⟩ | ⟨h6, hF⟩
          · refine at_cond_true rfl h6 ?_
            refine at_skip ?_
            refine at_then_normal ?_
            refine at_seq ?_
            refine at_block ?_
            refine at_seq ?_
            refine at_region ?_
            refine at_val rfl rfl rfl (r_move rfl) ?_
            refine at_val rfl rfl rfl (r_move rfl) ?_
            obtain ⟨h7, hF⟩ := of_guard hF
            refine at_val rfl rfl rfl (r_index_str Try.underlying9 rfl rfl h7) ?_
            obtain ⟨t8, ht8, hF⟩ := of_bindM hF
            refine at_call0 Try.func34 rfl (by kernel_rfl) rfl rfl (fun w => crawlwayref05_Value_ok _ _ _ ht8 w) ?_
            refine at_val rfl rfl rfl (r_assign rfl) ?_
            refine at_nil ?_
            refine at_weak [(0, _), (3, _), (4, _), (5, _)] ⟨rfl, rfl, rfl, rfl, trivial⟩ ?_
            refine at_then_normal ?_
            refine at_seq ?_
            refine at_seq ?_
            refine at_region ?_
            refine at_val rfl rfl rfl (r_move rfl) ?_
            refine at_val rfl rfl rfl (r_ilss rfl rfl) ?_
            refine at_nil ?_
            refine at_weak [(0, _), (3, _), (4, _), (5, _), (25, _)] ⟨rfl, rfl, rfl, rfl, rfl, trivial⟩ ?_
            refine at_then_normal ?_
            rcases of_ite hF with ⟨h9, hF⟩ | ⟨h9, hF⟩
            · refine at_cond_true rfl h9 ?_
              refine at_seq ?_
              refine at_region ?_
              refine at_val rfl rfl rfl (r_assign rfl) ?_
              refine at_nil ?_
              refine at_weak [(2, _)] ⟨rfl, trivial⟩ ?_
              refine at_then_normal ?_
              refine at_ret ?_
              refine at_then_ret (at_blk_ret (at_then_ret (at_then_ret (at_blk_ret (at_then_ret ?_)))))
              obtain rfl := of_some hF
              subst K
              exact at_return1 rfl rfl (fun w1 hw => ⟨rfl, hw⟩)
            · refine at_cond_false rfl h9 ?_
              refine at_skip ?_
              refine at_then_normal ?_
              refine at_region ?_
              refine at_val rfl rfl rfl (r_move rfl) ?_
              refine at_val rfl rfl rfl (r_imul rfl rfl) ?_
              refine at_val rfl rfl rfl (r_move rfl) ?_
              refine at_val rfl rfl rfl (r_iadd rfl rfl) ?_
              refine at_val rfl rfl rfl (r_assign rfl) ?_
              refine at_nil ?_
              refine at_weak [(0, _), (3, _), (4, _)] ⟨rfl, rfl, rfl, trivial⟩ ?_
              refine at_blk_normal (at_then_normal ?_)
              refine at_region ?_
              refine at_val rfl rfl rfl (r_move rfl) ?_
              refine at_val rfl rfl rfl (r_iadd rfl rfl) ?_
              refine at_val rfl rfl rfl (r_assign rfl) ?_
              refine at_nil ?_
              refine at_weak [(0, _), (3, _), (4, _)] ⟨rfl, rfl, rfl, trivial⟩ ?_
              refine at_then_normal ?_
              exact at_weak_k (ih _ _ _ hF K) ⟨rfl, rfl, rfl, trivial⟩
          · refine at_cond_false rfl h6 ?_
            refine at_exit ?_
            refine at_then_exit (at_then_exit ?_)
            obtain rfl := of_some hF
            exact at_weak_k K ⟨rfl, trivial⟩
      · cases q3 with
        | ret r' => exact of_some hF
        | nx sq3 =>
          skip
          refine at_blk_same ?_
          refine at_then_normal ?_
          refine at_seq ?_
          refine at_region ?_
          refine at_val rfl rfl rfl (r_move rfl) ?_
          refine at_val rfl rfl rfl (r_assign rfl) ?_
          refine at_nil ?_
          refine at_weak [(2, _)] ⟨rfl, trivial⟩ ?_
          refine at_then_normal ?_
          refine at_ret ?_
          have K := of_some hF
          subst K
          exact at_return1 rfl rfl (fun w1 hw => ⟨rfl, hw⟩)

def crawlwayref01_Same.l0 (x0 : List Int) (x1 : List Int) (i3 : Int) : Option (Ctl (Bool) (Unit)) :=
  if (decide (i3 < (x0.length : Int))) = true then (if (0 : Int) ≤ i3 ∧ i3 < (x0.length : Int) then if (0 : Int) ≤ i3 ∧ i3 < (x1.length : Int) then if (lget x0 i3 != lget x1 i3) = true then (some (.ret false)) else (crawlwayref01_Same.l0 x0 x1 (wr .i64 (i3 + 1))) else none else none) else (some (.nx ()))
  partial_fixpoint
def crawlwayref01_Same (x0 : List Int) (x1 : List Int) : Option (Bool) :=
  if ((x0.length : Int) != (x1.length : Int)) = true then (some false) else (crawlwayref01_Same.l0 x0 x1 0 >>= fun q2 => match q2 with | .ret r' => some r' | .nx sq2 => (some true))
theorem crawlwayref01_Same_ok (x0 : List Int) (p0_ : Option Addr) (c0_ : Nat) (x1 : List Int) (p1_ : Option Addr) (c1_ : Nat) (r : Bool) (hF : crawlwayref01_Same x0 x1 = some r) (w : World) (hr0 : Row (cInt .u8) w p0_ c0_ x0) (hr1 : Row (cInt .u8) w p1_ c1_ x1) :
    Calls Try.prog 17 #[.slice p0_ x0.length c0_, .slice p1_ x1.length c1_] w (fun e w' => e = .returned (.bool r) ∧ Below w.heap.size w w') := by
  unfold crawlwayref01_Same at hF
  refine calls_enter (l := [.slice p0_ x0.length c0_, .slice p1_ x1.length c1_]) Try.func17 rfl rfl rfl ?_
  refine at_start ?_
  refine at_weak [(0, _), (1, _)] ⟨rfl, rfl, trivial⟩ ?_
  refine at_seq ?_
  refine at_region ?_
  refine at_val rfl rfl rfl (r_assign rfl) ?_
  refine at_nil ?_
  refine at_weak [(0, _), (1, _)] ⟨rfl, rfl, trivial⟩ ?_
  refine at_then_normal ?_
  refine at_seq ?_
  refine at_seq ?_
  refine at_region ?_
  refine at_val rfl rfl rfl (r_move rfl) ?_
  refine at_val rfl rfl rfl (r_len_sl Try.underlying31 rfl) ?_
  refine at_val rfl rfl rfl (r_move rfl) ?_
  refine at_val rfl rfl rfl (r_len_sl Try.underlying31 rfl) ?_
  refine at_val rfl rfl rfl (r_ineq rfl rfl) ?_
  refine at_nil ?_
  refine at_weak [(0, _), (1, _), (10, _)] ⟨rfl, rfl, rfl, trivial⟩ ?_
  refine at_then_normal ?_
  rcases of_ite hF with ⟨h1, hF⟩ | ⟨h1, hF⟩
  · refine at_cond_true rfl h1 ?_
    refine at_seq ?_
    refine at_region ?_
    refine at_val rfl rfl rfl (r_assign rfl) ?_
    refine at_nil ?_
    refine at_weak [(4, _)] ⟨rfl, trivial⟩ ?_
    refine at_then_normal ?_
    refine at_ret ?_
    refine at_then_ret ?_
    have K := of_some hF
    subst K
    exact at_return1 rfl rfl (fun w1 hw => ⟨rfl, hw.below⟩)
  · refine at_cond_false rfl h1 ?_
    refine at_skip ?_
    refine at_then_normal ?_
    refine at_seq ?_
    refine at_seq ?_
    refine at_region ?_
    refine at_val rfl rfl rfl (r_assign rfl) ?_
    refine at_nil ?_
    refine at_weak [(0, _), (1, _), (5, _)] ⟨rfl, rfl, rfl, trivial⟩ ?_
    refine at_then_normal ?_
    refine at_block ?_
    obtain ⟨q2, hq2, hF⟩ := of_bindM hF
    refine at_weak [(0, _), (1, _), (5, _)] ⟨rfl, rfl, rfl, trivial⟩ ?_
    refine at_loop_r (B := 0) (r := r) (q := q2) (A := fun (_ : Unit) Y => At 26 [] (Wd w []) Y) ?_ ?_
    · intro K
      refine crawlwayref01_Same.l0.partial_correctness x0 x1 (motive := fun i3 x => KR (fun (_ : Unit) Y => At 26 [] (Wd w []) Y) _ 0 r x → Round (fun Y => At 26 [(0, .slice p0_ x0.length c0_), (1, .slice p1_ x1.length c1_), (5, .int .i64 i3)] (Wd w []) Y) _ _ _) ?_ _ _ hq2 K
      · clear K hF
        intro g ih i3 x hF K
        refine at_round ?_
        refine at_seq ?_
        refine at_seq ?_
        refine at_region ?_
        refine at_val rfl rfl rfl (r_move rfl) ?_
        refine at_val rfl rfl rfl (r_move rfl) ?_
        refine at_val rfl rfl rfl (r_len_sl Try.underlying31 rfl) ?_
        refine at_val rfl rfl rfl (r_ilss rfl rfl) ?_
        refine at_nil ?_
        refine at_weak [(0, _), (1, _), (5, _), (14, _)] ⟨rfl, rfl, rfl, rfl, trivial⟩ ?_
        refine at_then_normal ?_
        rcases of_ite hF with ⟨h4, hF⟩ | ⟨h4, hF⟩
        · refine at_cond_true rfl h4 ?_
          refine at_skip ?_
          refine at_then_normal ?_
          refine at_seq ?_
          refine at_block ?_
          refine at_seq ?_
          refine at_draw (by kernel_rfl) (by kernel_rfl) (fun _ h => h.drew) ?_
          refine atq_val rfl rfl rfl (r_move rfl) ?_
          refine atq_val rfl rfl rfl (r_move rfl) ?_
          obtain ⟨h5, hF⟩ := of_guard hF
          obtain ⟨b7, o8, hp6⟩ := row_ptr hr0 h5
          refine atq_val rfl rfl rfl (r_idx Try.underlying31 Try.sizeOf5 rfl rfl h5 hp6) ?_
          refine atq_val rfl rfl rfl (r_load_cell Try.isAgg5 rfl (row_cell0 (fun _ h => h.below) hr0 h5 hp6 rfl)) ?_
          refine atq_val rfl rfl rfl (r_move rfl) ?_
          refine atq_val rfl rfl rfl (r_move rfl) ?_
          obtain ⟨h9, hF⟩ := of_guard hF
          obtain ⟨b11, o12, hp10⟩ := row_ptr hr1 h9
          refine atq_val rfl rfl rfl (r_idx Try.underlying31 Try.sizeOf5 rfl rfl h9 hp10) ?_
          refine atq_val rfl rfl rfl (r_load_cell Try.isAgg5 rfl (row_cell0 (fun _ h => h.below) hr1 h9 hp10 rfl)) ?_
          refine atq_val rfl rfl rfl (r_ineq rfl rfl) ?_
          refine atq_nil ?_
          refine at_weak [(0, _), (1, _), (5, _), (25, _)] ⟨rfl, rfl, rfl, rfl, trivial⟩ ?_
          refine at_then_normal ?_
          rcases of_ite hF with ⟨h13, hF⟩ | ⟨h13, hF⟩
          · refine at_cond_true rfl h13 ?_
            refine at_seq ?_
            refine at_region ?_
            refine at_val rfl rfl rfl (r_assign rfl) ?_
            refine at_nil ?_
            refine at_weak [(4, _)] ⟨rfl, trivial⟩ ?_
            refine at_then_normal ?_
            refine at_ret ?_
            refine at_blk_ret (at_then_ret (at_then_ret (at_blk_ret (at_then_ret ?_))))
            obtain rfl := of_some hF
            subst K
            exact at_return1 rfl rfl (fun w1 hw => ⟨rfl, hw.below⟩)
          · refine at_cond_false rfl h13 ?_
            refine at_skip ?_
            refine at_blk_normal (at_then_normal ?_)
            refine at_region ?_
            refine at_val rfl rfl rfl (r_move rfl) ?_
            refine at_val rfl rfl rfl (r_iadd rfl rfl) ?_
            refine at_val rfl rfl rfl (r_assign rfl) ?_
            refine at_nil ?_
            refine at_weak [(0, _), (1, _), (5, _)] ⟨rfl, rfl, rfl, trivial⟩ ?_
            refine at_then_normal ?_
            exact at_weak_k (ih _ _ hF K) ⟨rfl, rfl, rfl, trivial⟩
        · refine at_cond_false rfl h4 ?_
          refine at_exit ?_
          refine at_then_exit (at_then_exit ?_)
          obtain rfl := of_some hF
          exact at_weak_k K trivial
    · cases q2 with
      | ret r' => exact of_some hF
      | nx sq2 =>
        skip
        refine at_blk_same ?_
        refine at_then_normal ?_
        refine at_seq ?_
        refine at_region ?_
        refine at_val rfl rfl rfl (r_assign rfl) ?_
        refine at_nil ?_
        refine at_weak [(4, _)] ⟨rfl, trivial⟩ ?_
        refine at_then_normal ?_
        refine at_ret ?_
        have K := of_some hF
        subst K
        exact at_return1 rfl rfl (fun w1 hw => ⟨rfl, hw.below⟩)

def crawlwayref05_Encode.l0 (x0 : List Int) (i2 : ByteArray) (i3 : Int) : Option (ByteArray) :=
  if (decide (i3 < (x0.length : Int))) = true then (if (0 : Int) ≤ i3 ∧ i3 < (x0.length : Int) then crawlwayref05_digit (wr .i64 (Int.tdiv (wr .i64 (lget x0 i3)) 16)) >>= fun t9 => if i2.size + t9.size ≤ 140737488355328 then if (0 : Int) ≤ i3 ∧ i3 < (x0.length : Int) then crawlwayref05_digit (Int.tmod (wr .i64 (lget x0 i3)) 16) >>= fun t15 => if (i2 ++ t9).size + t15.size ≤ 140737488355328 then crawlwayref05_Encode.l0 x0 ((i2 ++ t9) ++ t15) (wr .i64 (i3 + 1)) else none else none else none else none) else (some i2)
  partial_fixpoint
def crawlwayref05_Encode (x0 : List Int) : Option (ByteArray) :=
  crawlwayref05_Encode.l0 x0 (⟨#[]⟩) 0 >>= fun q1 => some q1
theorem crawlwayref05_Encode_ok (x0 : List Int) (p0_ : Option Addr) (c0_ : Nat) (r : ByteArray) (hF : crawlwayref05_Encode x0 = some r) (w : World) (hr0 : Row (cInt .u8) w p0_ c0_ x0) :
    Calls Try.prog 16 #[.slice p0_ x0.length c0_] w (fun e w' => e = .returned (.string r) ∧ Below w.heap.size w w') := by
  unfold crawlwayref05_Encode at hF
  refine calls_enter (l := [.slice p0_ x0.length c0_]) Try.func16 rfl rfl rfl ?_
  refine at_start ?_
  refine at_weak [(0, _)] ⟨rfl, trivial⟩ ?_
  refine at_seq ?_
  refine at_region ?_
  refine at_val rfl rfl rfl (r_assign rfl) ?_
  refine at_nil ?_
  refine at_weak [(0, _)] ⟨rfl, trivial⟩ ?_
  refine at_then_normal ?_
  refine at_seq ?_
  refine at_region ?_
  refine at_val rfl rfl rfl (r_assign rfl) ?_
  refine at_nil ?_
  refine at_weak [(0, _), (3, _)] ⟨rfl, rfl, trivial⟩ ?_
  refine at_then_normal ?_
  refine at_seq ?_
  refine at_seq ?_
  refine at_region ?_
  refine at_val rfl rfl rfl (r_assign rfl) ?_
  refine at_nil ?_
  refine at_weak [(0, _), (3, _), (4, _)] ⟨rfl, rfl, rfl, trivial⟩ ?_
  refine at_then_normal ?_
  refine at_block ?_
  obtain ⟨q1, hq1, hF⟩ := of_bindM hF
  refine at_weak [(0, _), (3, _), (4, _)] ⟨rfl, rfl, rfl, trivial⟩ ?_
  refine at_loop_n (B := 0) (A := fun Y => At 29 [(3, .string q1)] (Wd w []) Y) ?_ ?_
  · intro K
    refine crawlwayref05_Encode.l0.partial_correctness x0 (motive := fun i2 i3 x => KN (fun Y => At 29 [(3, .string x)] (Wd w []) Y) _ 0 → Round (fun Y => At 29 [(0, .slice p0_ x0.length c0_), (3, .string i2), (4, .int .i64 i3)] (Wd w []) Y) _ _ _) ?_ _ _ _ hq1 K
    · clear K hF
      intro g ih i2 i3 x hF K
      refine at_round ?_
      refine at_seq ?_
      refine at_seq ?_
      refine at_region ?_
      refine at_val rfl rfl rfl (r_move rfl) ?_
      refine at_val rfl rfl rfl (r_move rfl) ?_
      refine at_val rfl rfl rfl (r_len_sl Try.underlying31 rfl) ?_
      refine at_val rfl rfl rfl (r_ilss rfl rfl) ?_
      refine at_nil ?_
      refine at_weak [(0, _), (3, _), (4, _), (8, _)] ⟨rfl, rfl, rfl, rfl, trivial⟩ ?_
      refine at_then_normal ?_
      rcases of_ite hF with ⟨h4, hF⟩ | ⟨h4, hF⟩
      · refine at_cond_true rfl h4 ?_
        refine at_skip ?_
        refine at_then_normal ?_
        refine at_seq ?_
        refine at_block ?_
        refine at_draw (by kernel_rfl) (by kernel_rfl) (fun _ h => h.drew) ?_
        refine atq_val rfl rfl rfl (r_move rfl) ?_
        refine atq_val rfl rfl rfl (r_move rfl) ?_
        refine atq_val rfl rfl rfl (r_move rfl) ?_
        obtain ⟨h5, hF⟩ := of_guard hF
        obtain ⟨b7, o8, hp6⟩ := row_ptr hr0 h5
        refine atq_val rfl rfl rfl (r_idx Try.underlying31 Try.sizeOf5 rfl rfl h5 hp6) ?_
        refine atq_val rfl rfl rfl (r_load_cell Try.isAgg5 rfl (row_cell0 (fun _ h => h.below) hr0 h5 hp6 rfl)) ?_
        refine atq_val rfl rfl rfl (r_conv Try.underlying5 Try.underlying3 rfl) ?_
        refine atq_val rfl rfl rfl (r_iquo rfl rfl (by decide)) ?_
        obtain ⟨t9, ht9, hF⟩ := of_bindM hF
        refine atq_call Try.func33 rfl (by kernel_rfl) rfl rfl (fun w hw => (crawlwayref05_digit_ok _ _ ht9 w).mono fun _ _ h => ⟨h.1, h.2 ▸ hw⟩) ?_
        obtain ⟨h10, hF⟩ := of_guard hF
        refine atq_val rfl rfl rfl (r_concat rfl rfl h10) ?_
        refine atq_val rfl rfl rfl (r_move rfl) ?_
        refine atq_val rfl rfl rfl (r_move rfl) ?_
        obtain ⟨h11, hF⟩ := of_guard hF
        obtain ⟨b13, o14, hp12⟩ := row_ptr hr0 h11
        refine atq_val rfl rfl rfl (r_idx Try.underlying31 Try.sizeOf5 rfl rfl h11 hp12) ?_
        refine atq_val rfl rfl rfl (r_load_cell Try.isAgg5 rfl (row_cell0 (fun _ h => h.below) hr0 h11 hp12 rfl)) ?_
        refine atq_val rfl rfl rfl (r_conv Try.underlying5 Try.underlying3 rfl) ?_
        refine atq_val rfl rfl rfl (r_irem rfl rfl (by decide)) ?_
        obtain ⟨t15, ht15, hF⟩ := of_bindM hF
        refine atq_call Try.func33 rfl (by kernel_rfl) rfl rfl (fun w hw => (crawlwayref05_digit_ok _ _ ht15 w).mono fun _ _ h => ⟨h.1, h.2 ▸ hw⟩) ?_
        obtain ⟨h16, hF⟩ := of_guard hF
        refine atq_val rfl rfl rfl (r_concat rfl rfl h16) ?_
        refine atq_val rfl rfl rfl (r_assign rfl) ?_
        refine atq_nil ?_
        refine at_weak [(0, _), (3, _), (4, _)] ⟨rfl, rfl, rfl, trivial⟩ ?_
        refine at_blk_normal (at_then_normal ?_)
        refine at_region ?_
        refine at_val rfl rfl rfl (r_move rfl) ?_
        refine at_val rfl rfl rfl (r_iadd rfl rfl) ?_
        refine at_val rfl rfl rfl (r_assign rfl) ?_
        refine at_nil ?_
        refine at_weak [(0, _), (3, _), (4, _)] ⟨rfl, rfl, rfl, trivial⟩ ?_
        refine at_then_normal ?_
        exact at_weak_k (ih _ _ _ hF K) ⟨rfl, rfl, rfl, trivial⟩
      · refine at_cond_false rfl h4 ?_
        refine at_exit ?_
        refine at_then_exit (at_then_exit ?_)
        obtain rfl := of_some hF
        exact at_weak_k K ⟨rfl, trivial⟩
  · skip
    skip
    refine at_blk_same ?_
    refine at_then_normal ?_
    refine at_seq ?_
    refine at_region ?_
    refine at_val rfl rfl rfl (r_move rfl) ?_
    refine at_val rfl rfl rfl (r_assign rfl) ?_
    refine at_nil ?_
    refine at_weak [(2, _)] ⟨rfl, trivial⟩ ?_
    refine at_then_normal ?_
    refine at_ret ?_
    have K := of_some hF
    subst K
    exact at_return1 rfl rfl (fun w1 hw => ⟨rfl, hw.below⟩)

def crawlwayref05_Decode.l0 (x0 : ByteArray) (i5 : List Int) (i6 : Int) : Option (Ctl (List Int × Int) (List Int)) :=
  if (decide (i6 < (x0.size : Int))) = true then (if (0 : Int) ≤ i6 ∧ i6 < (x0.size : Int) then crawlwayref05_Value (bt x0 i6) false >>= fun t13 => if (0 : Int) ≤ wr .i64 (i6 + 1) ∧ wr .i64 (i6 + 1) < (x0.size : Int) then crawlwayref05_Value (bt x0 (wr .i64 (i6 + 1))) false >>= fun t15 => if (decide (t13 < 0)) = true then (some (.ret ([], 5))) else (if (decide (t15 < 0)) = true then (some (.ret ([], 5))) else (if (i5.length + 1) * 1 ≤ 140737488355328 then crawlwayref05_Decode.l0 x0 (i5 ++ [wr .u8 (wr .i64 ((wr .i64 (16 * t13)) + t15))]) (wr .i64 (i6 + 2)) else none)) else none else none) else (some (.nx i5))
  partial_fixpoint
def crawlwayref05_Decode (x0 : ByteArray) : Option (List Int × Int) :=
  if (Int.tmod (x0.size : Int) 2 != 0) = true then (some ([], 5)) else (crawlwayref05_Decode.l0 x0 ([] : List Int) 0 >>= fun q4 => match q4 with | .ret r' => some r' | .nx sq4 => (some (sq4, 0)))
theorem crawlwayref05_Decode_ok (x0 : ByteArray) (r : List Int × Int) (hF : crawlwayref05_Decode x0 = some r) (w : World) :
    Calls Try.prog 18 #[.string x0] w (fun e w' => ∃ p cap, e = .returned (.tuple #[.slice p r.1.length cap, .int .i64 r.2]) ∧ Own (cInt .u8) 5 w.heap.size w' p cap r.1 ∧ Below w.heap.size w w') := by
  unfold crawlwayref05_Decode at hF
  refine calls_enter (l := [.string x0]) Try.func18 rfl rfl rfl ?_
  refine at_start ?_
  refine at_weak [(0, _)] ⟨rfl, trivial⟩ ?_
  refine at_seq ?_
  refine at_region ?_
  refine at_val rfl rfl rfl (r_assign rfl) ?_
  refine at_val rfl rfl rfl (r_assign rfl) ?_
  refine at_nil ?_
  refine at_weak [(0, _)] ⟨rfl, trivial⟩ ?_
  refine at_then_normal ?_
  refine at_seq ?_
  refine at_seq ?_
  refine at_region ?_
  refine at_val rfl rfl rfl (r_move rfl) ?_
  refine at_val rfl rfl rfl (r_len_str Try.underlying9 rfl) ?_
  refine at_val rfl rfl rfl (r_irem rfl rfl (by decide)) ?_
  refine at_val rfl rfl rfl (r_ineq rfl rfl) ?_
  refine at_nil ?_
  refine at_weak [(0, _), (11, _)] ⟨rfl, rfl, trivial⟩ ?_
  refine at_then_normal ?_
  rcases of_ite hF with ⟨h1, hF⟩ | ⟨h1, hF⟩
  · refine at_cond_true rfl h1 ?_
    refine at_seq ?_
    refine at_region ?_
    refine at_val rfl rfl rfl (r_assign rfl) ?_
    refine at_val rfl rfl rfl (r_assign rfl) ?_
    refine at_nil ?_
    refine at_weak [(2, _), (3, _)] ⟨rfl, rfl, trivial⟩ ?_
    refine at_then_normal ?_
    refine at_ret ?_
    refine at_then_ret ?_
    have K := of_some hF
    subst K
    exact at_return2 rfl rfl rfl (fun w1 hw => ⟨none, 0, rfl, Own.nil _ _ _ _, hw.below⟩)
  · refine at_cond_false rfl h1 ?_
    refine at_skip ?_
    refine at_then_normal ?_
    refine at_seq ?_
    refine at_region ?_
    refine at_val rfl rfl rfl (r_assign rfl) ?_
    refine at_nil ?_
    refine at_weak [(0, _), (4, _)] ⟨rfl, rfl, trivial⟩ ?_
    refine at_then_normal ?_
    refine at_seq ?_
    refine at_seq ?_
    refine at_region ?_
    refine at_val rfl rfl rfl (r_assign rfl) ?_
    refine at_nil ?_
    refine at_weak [(0, _), (4, _), (5, _)] ⟨rfl, rfl, rfl, trivial⟩ ?_
    refine at_then_normal ?_
    refine at_block ?_
    refine at_own_nil (cInt .u8) 5 ?_
    refine at_weak [(0, _), (4, .slice none ([] : List Int).length 0), (5, _)] ⟨rfl, rfl, rfl, trivial⟩ ?_
    obtain ⟨q4, hq4, hF⟩ := of_bindM hF
    refine at_weak [(0, _), (4, _), (5, _)] ⟨rfl, rfl, rfl, trivial⟩ ?_
    refine at_loop_r (B := 0) (r := r) (q := q4) (A := fun sq4 Y => ∀ (p9 : Option Addr) (c10 : Nat), At 42 [(4, .slice p9 sq4.length c10)] (Wd w [rowE (cInt .u8) 5 p9 c10 sq4]) Y) ?_ ?_
    · intro K
      refine crawlwayref05_Decode.l0.partial_correctness x0 (motive := fun i5 i6 x => KR (fun sq4 Y => ∀ (p9 : Option Addr) (c10 : Nat), At 42 [(4, .slice p9 sq4.length c10)] (Wd w [rowE (cInt .u8) 5 p9 c10 sq4]) Y) _ 0 r x → Round (fun Y => ∀ (p7 : Option Addr) (c8 : Nat), At 42 [(0, .string x0), (4, .slice p7 i5.length c8), (5, .int .i64 i6)] (Wd w [rowE (cInt .u8) 5 p7 c8 i5]) Y) _ _ _) ?_ _ _ _ hq4 K none 0
      · clear K hF
        intro g ih i5 i6 x hF K p7 c8
        refine at_round ?_
        refine at_seq ?_
        refine at_seq ?_
        refine at_region ?_
        refine at_val rfl rfl rfl (r_move rfl) ?_
        refine at_val rfl rfl rfl (r_move rfl) ?_
        refine at_val rfl rfl rfl (r_len_str Try.underlying9 rfl) ?_
        refine at_val rfl rfl rfl (r_ilss rfl rfl) ?_
        refine at_nil ?_
        refine at_weak [(0, _), (4, _), (5, _), (15, _)] ⟨rfl, rfl, rfl, rfl, trivial⟩ ?_
        refine at_then_normal ?_
        rcases of_ite hF with ⟨h11, hF⟩ | ⟨h11, hF⟩
        · refine at_cond_true rfl h11 ?_
          refine at_skip ?_
          refine at_then_normal ?_
          refine at_seq ?_
          refine at_block ?_
          refine at_seq ?_
          refine at_draw (by kernel_rfl) (by kernel_rfl) (fun _ h => h.drew) ?_
          refine atq_val rfl rfl rfl (r_move rfl) ?_
          refine atq_val rfl rfl rfl (r_move rfl) ?_
          obtain ⟨h12, hF⟩ := of_guard hF
          refine atq_val rfl rfl rfl (r_index_str Try.underlying9 rfl rfl h12) ?_
          obtain ⟨t13, ht13, hF⟩ := of_bindM hF
          refine atq_call Try.func34 rfl (by kernel_rfl) rfl rfl (fun w hw => (crawlwayref05_Value_ok _ _ _ ht13 w).mono fun _ _ h => ⟨h.1, h.2 ▸ hw⟩) ?_
          refine atq_val rfl rfl rfl (r_move rfl) ?_
          refine atq_val rfl rfl rfl (r_move rfl) ?_
          refine atq_val rfl rfl rfl (r_iadd rfl rfl) ?_
          obtain ⟨h14, hF⟩ := of_guard hF
          refine atq_val rfl rfl rfl (r_index_str Try.underlying9 rfl rfl h14) ?_
          obtain ⟨t15, ht15, hF⟩ := of_bindM hF
          refine atq_call Try.func34 rfl (by kernel_rfl) rfl rfl (fun w hw => (crawlwayref05_Value_ok _ _ _ ht15 w).mono fun _ _ h => ⟨h.1, h.2 ▸ hw⟩) ?_
          refine atq_val rfl rfl rfl (r_assign rfl) ?_
          refine atq_val rfl rfl rfl (r_assign rfl) ?_
          refine atq_nil ?_
          refine at_weak [(0, _), (4, _), (5, _), (6, _), (7, _)] ⟨rfl, rfl, rfl, rfl, rfl, trivial⟩ ?_
          refine at_then_normal ?_
          refine at_seq ?_
          refine at_seq ?_
          refine at_region ?_
          refine at_val rfl rfl rfl (r_move rfl) ?_
          refine at_val rfl rfl rfl (r_ilss rfl rfl) ?_
          refine at_val rfl rfl rfl (r_move rfl) ?_
          rcases of_ite hF with ⟨h16, hF⟩ | ⟨h16, hF⟩
          · refine at_fix (g := 29) rfl h16 ?_
            refine at_guard_no rfl rfl rfl rfl rfl ?_
            refine at_guard_no rfl rfl rfl rfl rfl ?_
            refine at_val rfl rfl rfl (r_pick rfl rfl rfl) ?_
            refine at_nil ?_
            refine at_weak [(0, _), (4, _), (5, _), (6, _), (7, _), (32, _)] ⟨rfl, rfl, rfl, rfl, rfl, rfl, trivial⟩ ?_
            refine at_then_normal ?_
            refine at_cond_true rfl rfl ?_
            refine at_seq ?_
            refine at_region ?_
            refine at_val rfl rfl rfl (r_assign rfl) ?_
            refine at_val rfl rfl rfl (r_assign rfl) ?_
            refine at_nil ?_
            refine at_drop (H := _) .z ?_
            refine at_weak [(2, _), (3, _)] ⟨rfl, rfl, trivial⟩ ?_
            refine at_then_normal ?_
            refine at_ret ?_
            refine at_then_ret (at_blk_ret (at_then_ret (at_then_ret (at_blk_ret (at_then_ret ?_)))))
            obtain rfl := of_some hF
            subst K
            exact at_return2 rfl rfl rfl (fun w1 hw => ⟨none, 0, rfl, Own.nil _ _ _ _, hw.below⟩)
          · refine at_fix (g := 29) rfl h16 ?_
            refine at_guard_yes rfl rfl rfl ?_
            refine at_val rfl rfl rfl (r_move rfl) ?_
            refine at_guard_yes rfl rfl rfl ?_
            refine at_val rfl rfl rfl (r_ilss rfl rfl) ?_
            refine at_val rfl rfl rfl (r_pick rfl rfl rfl) ?_
            refine at_nil ?_
            refine at_weak [(0, _), (4, _), (5, _), (6, _), (7, _), (32, _)] ⟨rfl, rfl, rfl, rfl, rfl, rfl, trivial⟩ ?_
            refine at_then_normal ?_
            rcases of_ite hF with ⟨h17, hF⟩ | ⟨h17, hF⟩
            · refine at_cond_true rfl h17 ?_
              refine at_seq ?_
              refine at_region ?_
              refine at_val rfl rfl rfl (r_assign rfl) ?_
              refine at_val rfl rfl rfl (r_assign rfl) ?_
              refine at_nil ?_
              refine at_drop (H := _) .z ?_
              refine at_weak [(2, _), (3, _)] ⟨rfl, rfl, trivial⟩ ?_
              refine at_then_normal ?_
              refine at_ret ?_
              refine at_then_ret (at_blk_ret (at_then_ret (at_then_ret (at_blk_ret (at_then_ret ?_)))))
              obtain rfl := of_some hF
              subst K
              exact at_return2 rfl rfl rfl (fun w1 hw => ⟨none, 0, rfl, Own.nil _ _ _ _, hw.below⟩)
            · refine at_cond_false rfl h17 ?_
              refine at_skip ?_
              refine at_then_normal ?_
              refine at_region ?_
              refine at_val rfl rfl rfl (r_move rfl) ?_
              refine at_val rfl rfl rfl (r_move rfl) ?_
              refine at_val rfl rfl rfl (r_imul rfl rfl) ?_
              refine at_val rfl rfl rfl (r_move rfl) ?_
              refine at_val rfl rfl rfl (r_iadd rfl rfl) ?_
              refine at_val rfl rfl rfl (r_conv Try.underlying3 Try.underlying5 rfl) ?_
              refine at_lit (cs := (cInt .u8).all ([wr .u8 (wr .i64 ((wr .i64 (16 * t13)) + t15))] : List Int)) Try.underlying31 Try.sizeOf5 Try.zeroValue5 rfl rfl rfl (by kernel_rfl) rfl ?_
              intro b18
              obtain ⟨h19, hF⟩ := of_guard hF
              refine at_append (z := .int .u8 0) (c := (cInt .u8)) (ys := ([wr .u8 (wr .i64 ((wr .i64 (16 * t13)) + t15))] : List Int)) (.s .z) Try.underlying31 infoG15 (by kernel_rfl) (by kernel_rfl) rfl rfl rfl rfl (fun _ hw => cells_src (hw.ok (Upd.mem .z))) (by kernel_rfl) h19 (app_small h19) rfl ?_
              intro p20 c21
              refine at_val rfl rfl rfl (r_assign rfl) ?_
              refine at_nil ?_
              refine at_drop (H := _) .z ?_
              refine at_weak [(0, _), (4, _), (5, _)] ⟨rfl, rfl, rfl, trivial⟩ ?_
              refine at_blk_normal (at_then_normal ?_)
              refine at_region ?_
              refine at_val rfl rfl rfl (r_move rfl) ?_
              refine at_val rfl rfl rfl (r_iadd rfl rfl) ?_
              refine at_val rfl rfl rfl (r_assign rfl) ?_
              refine at_nil ?_
              refine at_weak [(0, _), (4, _), (5, _)] ⟨rfl, rfl, rfl, trivial⟩ ?_
              refine at_then_normal ?_
              exact at_weak_k (ih _ _ _ hF K p20 c21) ⟨rfl, rfl, rfl, trivial⟩
        · refine at_cond_false rfl h11 ?_
          refine at_exit ?_
          refine at_then_exit (at_then_exit ?_)
          obtain rfl := of_some hF
          exact at_weak_k (K p7 c8) ⟨rfl, trivial⟩
    · cases q4 with
      | ret r' => exact of_some hF
      | nx sq4 =>
        intro p9 c10
        refine at_blk_same ?_
        refine at_then_normal ?_
        refine at_seq ?_
        refine at_region ?_
        refine at_val rfl rfl rfl (r_move rfl) ?_
        refine at_val rfl rfl rfl (r_assign rfl) ?_
        refine at_val rfl rfl rfl (r_assign rfl) ?_
        refine at_nil ?_
        refine at_weak [(2, _), (3, _)] ⟨rfl, rfl, trivial⟩ ?_
        refine at_then_normal ?_
        refine at_ret ?_
        have K := of_some hF
        subst K
        exact at_return2 rfl rfl rfl (fun w1 hw => ⟨p9, c10, rfl, hw.own .z, hw.below⟩)

def hexes_Decode.l0 (x0 : ByteArray) (i5 : List Int) (i6 : Int) : Option (Ctl (List Int × Int) (List Int)) :=
  if (decide (i6 < (x0.size : Int))) = true then (if (0 : Int) ≤ i6 ∧ i6 < (x0.size : Int) then hexes_value (bt x0 i6) >>= fun t13 => if (0 : Int) ≤ wr .i64 (i6 + 1) ∧ wr .i64 (i6 + 1) < (x0.size : Int) then hexes_value (bt x0 (wr .i64 (i6 + 1))) >>= fun t15 => if (!t13.2) = true then (some (.ret ([], 5))) else (if (!t15.2) = true then (some (.ret ([], 5))) else (if (i5.length + 1) * 1 ≤ 140737488355328 then hexes_Decode.l0 x0 (i5 ++ [wr .u8 (ior .u16 (ishl .u16 t13.1 4) t15.1)]) (wr .i64 (i6 + 2)) else none)) else none else none) else (some (.nx i5))
  partial_fixpoint
def hexes_Decode (x0 : ByteArray) : Option (List Int × Int) :=
  if (Int.tmod (x0.size : Int) 2 != 0) = true then (some ([], 5)) else (hexes_Decode.l0 x0 ([] : List Int) 0 >>= fun q4 => match q4 with | .ret r' => some r' | .nx sq4 => (some (sq4, 0)))
theorem hexes_Decode_ok (x0 : ByteArray) (r : List Int × Int) (hF : hexes_Decode x0 = some r) (w : World) :
    Calls Try.prog 15 #[.string x0] w (fun e w' => ∃ p cap, e = .returned (.tuple #[.slice p r.1.length cap, .int .i64 r.2]) ∧ Own (cInt .u8) 5 w.heap.size w' p cap r.1 ∧ Below w.heap.size w w') := by
  unfold hexes_Decode at hF
  refine calls_enter (l := [.string x0]) Try.func15 rfl rfl rfl ?_
  refine at_start ?_
  refine at_weak [(0, _)] ⟨rfl, trivial⟩ ?_
  refine at_seq ?_
  refine at_region ?_
  refine at_val rfl rfl rfl (r_assign rfl) ?_
  refine at_val rfl rfl rfl (r_assign rfl) ?_
  refine at_nil ?_
  refine at_weak [(0, _)] ⟨rfl, trivial⟩ ?_
  refine at_then_normal ?_
  refine at_seq ?_
  refine at_seq ?_
  refine at_region ?_
  refine at_val rfl rfl rfl (r_move rfl) ?_
  refine at_val rfl rfl rfl (r_len_str Try.underlying9 rfl) ?_
  refine at_val rfl rfl rfl (r_irem rfl rfl (by decide)) ?_
  refine at_val rfl rfl rfl (r_ineq rfl rfl) ?_
  refine at_nil ?_
  refine at_weak [(0, _), (13, _)] ⟨rfl, rfl, trivial⟩ ?_
  refine at_then_normal ?_
  rcases of_ite hF with ⟨h1, hF⟩ | ⟨h1, hF⟩
  · refine at_cond_true rfl h1 ?_
    refine at_seq ?_
    refine at_region ?_
    refine at_val rfl rfl rfl (r_assign rfl) ?_
    refine at_val rfl rfl rfl (r_assign rfl) ?_
    refine at_nil ?_
    refine at_weak [(2, _), (3, _)] ⟨rfl, rfl, trivial⟩ ?_
    refine at_then_normal ?_
    refine at_ret ?_
    refine at_then_ret ?_
    have K := of_some hF
    subst K
    exact at_return2 rfl rfl rfl (fun w1 hw => ⟨none, 0, rfl, Own.nil _ _ _ _, hw.below⟩)
  · refine at_cond_false rfl h1 ?_
    refine at_skip ?_
    refine at_then_normal ?_
    refine at_seq ?_
    refine at_region ?_
    refine at_val rfl rfl rfl (r_assign rfl) ?_
    refine at_nil ?_
    refine at_weak [(0, _), (4, _)] ⟨rfl, rfl, trivial⟩ ?_
    refine at_then_normal ?_
    refine at_seq ?_
    refine at_seq ?_
    refine at_region ?_
    refine at_val rfl rfl rfl (r_assign rfl) ?_
    refine at_nil ?_
    refine at_weak [(0, _), (4, _), (5, _)] ⟨rfl, rfl, rfl, trivial⟩ ?_
    refine at_then_normal ?_
    refine at_block ?_
    refine at_own_nil (cInt .u8) 5 ?_
    refine at_weak [(0, _), (4, .slice none ([] : List Int).length 0), (5, _)] ⟨rfl, rfl, rfl, trivial⟩ ?_
    obtain ⟨q4, hq4, hF⟩ := of_bindM hF
    refine at_weak [(0, _), (4, _), (5, _)] ⟨rfl, rfl, rfl, trivial⟩ ?_
    refine at_loop_r (B := 0) (r := r) (q := q4) (A := fun sq4 Y => ∀ (p9 : Option Addr) (c10 : Nat), At 50 [(4, .slice p9 sq4.length c10)] (Wd w [rowE (cInt .u8) 5 p9 c10 sq4]) Y) ?_ ?_
    · intro K
      refine hexes_Decode.l0.partial_correctness x0 (motive := fun i5 i6 x => KR (fun sq4 Y => ∀ (p9 : Option Addr) (c10 : Nat), At 50 [(4, .slice p9 sq4.length c10)] (Wd w [rowE (cInt .u8) 5 p9 c10 sq4]) Y) _ 0 r x → Round (fun Y => ∀ (p7 : Option Addr) (c8 : Nat), At 50 [(0, .string x0), (4, .slice p7 i5.length c8), (5, .int .i64 i6)] (Wd w [rowE (cInt .u8) 5 p7 c8 i5]) Y) _ _ _) ?_ _ _ _ hq4 K none 0
      · clear K hF
        intro g ih i5 i6 x hF K p7 c8
        refine at_round ?_
        refine at_seq ?_
        refine at_seq ?_
        refine at_region ?_
        refine at_val rfl rfl rfl (r_move rfl) ?_
        refine at_val rfl rfl rfl (r_move rfl) ?_
        refine at_val rfl rfl rfl (r_len_str Try.underlying9 rfl) ?_
        refine at_val rfl rfl rfl (r_ilss rfl rfl) ?_
        refine at_nil ?_
        refine at_weak [(0, _), (4, _), (5, _), (17, _)] ⟨rfl, rfl, rfl, rfl, trivial⟩ ?_
        refine at_then_normal ?_
        rcases of_ite hF with ⟨h11, hF⟩ | ⟨h11, hF⟩
        · refine at_cond_true rfl h11 ?_
          refine at_skip ?_
          refine at_then_normal ?_
          refine at_seq ?_
          refine at_block ?_
          refine at_seq ?_
          refine at_region ?_
          refine at_val rfl rfl rfl (r_move rfl) ?_
          refine at_val rfl rfl rfl (r_move rfl) ?_
          obtain ⟨h12, hF⟩ := of_guard hF
          refine at_val rfl rfl rfl (r_index_str Try.underlying9 rfl rfl h12) ?_
          obtain ⟨t13, ht13, hF⟩ := of_bindM hF
          refine at_call0 Try.func31 rfl (by kernel_rfl) rfl rfl (fun w => hexes_value_ok _ _ ht13 w) ?_
          refine at_val rfl rfl rfl (r_move rfl) ?_
          refine at_val rfl rfl rfl (r_extract rfl rfl) ?_
          refine at_val rfl rfl rfl (r_extract rfl rfl) ?_
          refine at_val rfl rfl rfl (r_assign rfl) ?_
          refine at_val rfl rfl rfl (r_assign rfl) ?_
          refine at_nil ?_
          refine at_weak [(0, _), (4, _), (5, _), (6, _), (7, _)] ⟨rfl, rfl, rfl, rfl, rfl, trivial⟩ ?_
          refine at_then_normal ?_
          refine at_seq ?_
          refine at_region ?_
          refine at_val rfl rfl rfl (r_move rfl) ?_
          refine at_val rfl rfl rfl (r_move rfl) ?_
          refine at_val rfl rfl rfl (r_iadd rfl rfl) ?_
          obtain ⟨h14, hF⟩ := of_guard hF
          refine at_val rfl rfl rfl (r_index_str Try.underlying9 rfl rfl h14) ?_
          obtain ⟨t15, ht15, hF⟩ := of_bindM hF
          refine at_call0 Try.func31 rfl (by kernel_rfl) rfl rfl (fun w => hexes_value_ok _ _ ht15 w) ?_
          refine at_val rfl rfl rfl (r_move rfl) ?_
          refine at_val rfl rfl rfl (r_extract rfl rfl) ?_
          refine at_val rfl rfl rfl (r_extract rfl rfl) ?_
          refine at_val rfl rfl rfl (r_assign rfl) ?_
          refine at_val rfl rfl rfl (r_assign rfl) ?_
          refine at_nil ?_
          refine at_weak [(0, _), (4, _), (5, _), (6, _), (7, _), (8, _), (9, _)] ⟨rfl, rfl, rfl, rfl, rfl, rfl, rfl, trivial⟩ ?_
          refine at_then_normal ?_
          refine at_seq ?_
          refine at_seq ?_
          refine at_region ?_
          refine at_val rfl rfl rfl (r_move rfl) ?_
          refine at_val rfl rfl rfl (r_not rfl) ?_
          refine at_val rfl rfl rfl (r_move rfl) ?_
          rcases of_ite hF with ⟨h16, hF⟩ | ⟨h16, hF⟩
          · refine at_fix (g := 37) rfl h16 ?_
            refine at_guard_no rfl rfl rfl rfl rfl ?_
            refine at_guard_no rfl rfl rfl rfl rfl ?_
            refine at_val rfl rfl rfl (r_pick rfl rfl rfl) ?_
            refine at_nil ?_
            refine at_weak [(0, _), (4, _), (5, _), (6, _), (8, _), (40, _)] ⟨rfl, rfl, rfl, rfl, rfl, rfl, trivial⟩ ?_
            refine at_then_normal ?_
            refine at_cond_true rfl rfl ?_
            refine at_seq ?_
            refine at_region ?_
            refine at_val rfl rfl rfl (r_assign rfl) ?_
            refine at_val rfl rfl rfl (r_assign rfl) ?_
            refine at_nil ?_
            refine at_drop (H := _) .z ?_
            refine at_weak [(2, _), (3, _)] ⟨rfl, rfl, trivial⟩ ?_
            refine at_then_normal ?_
            refine at_ret ?_
            refine at_then_ret (at_blk_ret (at_then_ret (at_then_ret (at_blk_ret (at_then_ret ?_)))))
            obtain rfl := of_some hF
            subst K
            exact at_return2 rfl rfl rfl (fun w1 hw => ⟨none, 0, rfl, Own.nil _ _ _ _, hw.below⟩)
          · refine at_fix (g := 37) rfl h16 ?_
            refine at_guard_yes rfl rfl rfl ?_
            refine at_val rfl rfl rfl (r_move rfl) ?_
            refine at_guard_yes rfl rfl rfl ?_
            refine at_val rfl rfl rfl (r_not rfl) ?_
            refine at_val rfl rfl rfl (r_pick rfl rfl rfl) ?_
            refine at_nil ?_
            refine at_weak [(0, _), (4, _), (5, _), (6, _), (8, _), (40, _)] ⟨rfl, rfl, rfl, rfl, rfl, rfl, trivial⟩ ?_
            refine at_then_normal ?_
            rcases of_ite hF with ⟨h17, hF⟩ | ⟨h17, hF⟩
            · refine at_cond_true rfl h17 ?_
              refine at_seq ?_
              refine at_region ?_
              refine at_val rfl rfl rfl (r_assign rfl) ?_
              refine at_val rfl rfl rfl (r_assign rfl) ?_
              refine at_nil ?_
              refine at_drop (H := _) .z ?_
              refine at_weak [(2, _), (3, _)] ⟨rfl, rfl, trivial⟩ ?_
              refine at_then_normal ?_
              refine at_ret ?_
              refine at_then_ret (at_blk_ret (at_then_ret (at_then_ret (at_blk_ret (at_then_ret ?_)))))
              obtain rfl := of_some hF
              subst K
              exact at_return2 rfl rfl rfl (fun w1 hw => ⟨none, 0, rfl, Own.nil _ _ _ _, hw.below⟩)
            · refine at_cond_false rfl h17 ?_
              refine at_skip ?_
              refine at_then_normal ?_
              refine at_region ?_
              refine at_val rfl rfl rfl (r_move rfl) ?_
              refine at_val rfl rfl rfl (r_move rfl) ?_
              refine at_val rfl rfl rfl (r_ishl rfl rfl (by decide)) ?_
              refine at_val rfl rfl rfl (r_move rfl) ?_
              refine at_val rfl rfl rfl (r_ior rfl rfl) ?_
              refine at_val rfl rfl rfl (r_conv Try.underlying22 Try.underlying5 rfl) ?_
              refine at_lit (cs := (cInt .u8).all ([wr .u8 (ior .u16 (ishl .u16 t13.1 4) t15.1)] : List Int)) Try.underlying31 Try.sizeOf5 Try.zeroValue5 rfl rfl rfl (by kernel_rfl) rfl ?_
              intro b18
              obtain ⟨h19, hF⟩ := of_guard hF
              refine at_append (z := .int .u8 0) (c := (cInt .u8)) (ys := ([wr .u8 (ior .u16 (ishl .u16 t13.1 4) t15.1)] : List Int)) (.s .z) Try.underlying31 infoG15 (by kernel_rfl) (by kernel_rfl) rfl rfl rfl rfl (fun _ hw => cells_src (hw.ok (Upd.mem .z))) (by kernel_rfl) h19 (app_small h19) rfl ?_
              intro p20 c21
              refine at_val rfl rfl rfl (r_assign rfl) ?_
              refine at_nil ?_
              refine at_drop (H := _) .z ?_
              refine at_weak [(0, _), (4, _), (5, _)] ⟨rfl, rfl, rfl, trivial⟩ ?_
              refine at_blk_normal (at_then_normal ?_)
              refine at_region ?_
              refine at_val rfl rfl rfl (r_move rfl) ?_
              refine at_val rfl rfl rfl (r_iadd rfl rfl) ?_
              refine at_val rfl rfl rfl (r_assign rfl) ?_
              refine at_nil ?_
              refine at_weak [(0, _), (4, _), (5, _)] ⟨rfl, rfl, rfl, trivial⟩ ?_
              refine at_then_normal ?_
              exact at_weak_k (ih _ _ _ hF K p20 c21) ⟨rfl, rfl, rfl, trivial⟩
        · refine at_cond_false rfl h11 ?_
          refine at_exit ?_
          refine at_then_exit (at_then_exit ?_)
          obtain rfl := of_some hF
          exact at_weak_k (K p7 c8) ⟨rfl, trivial⟩
    · cases q4 with
      | ret r' => exact of_some hF
      | nx sq4 =>
        intro p9 c10
        refine at_blk_same ?_
        refine at_then_normal ?_
        refine at_seq ?_
        refine at_region ?_
        refine at_val rfl rfl rfl (r_move rfl) ?_
        refine at_val rfl rfl rfl (r_assign rfl) ?_
        refine at_val rfl rfl rfl (r_assign rfl) ?_
        refine at_nil ?_
        refine at_weak [(2, _), (3, _)] ⟨rfl, rfl, trivial⟩ ?_
        refine at_then_normal ?_
        refine at_ret ?_
        have K := of_some hF
        subst K
        exact at_return2 rfl rfl rfl (fun w1 hw => ⟨p9, c10, rfl, hw.own .z, hw.below⟩)

def hexes_Encode.l0 (x0 : List Int) (i4 : Int) (i5 : ByteArray) : Option (ByteArray) :=
  if (decide (i4 < (x0.length : Int))) = true then (if (0 : Int) ≤ i4 ∧ i4 < (x0.length : Int) then if (0 : Int) ≤ ishr .u8 (lget x0 i4) 4 ∧ ishr .u8 (lget x0 i4) 4 < ((⟨#[48, 49, 50, 51, 52, 53, 54, 55, 56, 57, 97, 98, 99, 100, 101, 102]⟩ : ByteArray).size : Int) then if (0 : Int) ≤ bt (⟨#[48, 49, 50, 51, 52, 53, 54, 55, 56, 57, 97, 98, 99, 100, 101, 102]⟩ : ByteArray) (ishr .u8 (lget x0 i4) 4) ∧ bt (⟨#[48, 49, 50, 51, 52, 53, 54, 55, 56, 57, 97, 98, 99, 100, 101, 102]⟩ : ByteArray) (ishr .u8 (lget x0 i4) 4) < 256 then if i5.size + 1 ≤ 140737488355328 then if (0 : Int) ≤ iand .u8 (lget x0 i4) 15 ∧ iand .u8 (lget x0 i4) 15 < ((⟨#[48, 49, 50, 51, 52, 53, 54, 55, 56, 57, 97, 98, 99, 100, 101, 102]⟩ : ByteArray).size : Int) then if (0 : Int) ≤ bt (⟨#[48, 49, 50, 51, 52, 53, 54, 55, 56, 57, 97, 98, 99, 100, 101, 102]⟩ : ByteArray) (iand .u8 (lget x0 i4) 15) ∧ bt (⟨#[48, 49, 50, 51, 52, 53, 54, 55, 56, 57, 97, 98, 99, 100, 101, 102]⟩ : ByteArray) (iand .u8 (lget x0 i4) 15) < 256 then if (i5.push (UInt8.ofNat (Int.toNat (bt (⟨#[48, 49, 50, 51, 52, 53, 54, 55, 56, 57, 97, 98, 99, 100, 101, 102]⟩ : ByteArray) (ishr .u8 (lget x0 i4) 4))))).size + 1 ≤ 140737488355328 then hexes_Encode.l0 x0 (wr .i64 (i4 + 1)) ((i5.push (UInt8.ofNat (Int.toNat (bt (⟨#[48, 49, 50, 51, 52, 53, 54, 55, 56, 57, 97, 98, 99, 100, 101, 102]⟩ : ByteArray) (ishr .u8 (lget x0 i4) 4))))).push (UInt8.ofNat (Int.toNat (bt (⟨#[48, 49, 50, 51, 52, 53, 54, 55, 56, 57, 97, 98, 99, 100, 101, 102]⟩ : ByteArray) (iand .u8 (lget x0 i4) 15))))) else none else none else none else none else none else none else none) else (some i5)
  partial_fixpoint
def hexes_Encode (x0 : List Int) : Option (ByteArray) :=
  hexes_Encode.l0 x0 0 ByteArray.empty >>= fun q3 => some q3
theorem hexes_Encode_ok (x0 : List Int) (p0_ : Option Addr) (c0_ : Nat) (r : ByteArray) (hF : hexes_Encode x0 = some r) (w : World) (hr0 : Row (cInt .u8) w p0_ c0_ x0) :
    Calls Try.prog 14 #[.slice p0_ x0.length c0_] w (fun e w' => e = .returned (.string r) ∧ Below w.heap.size w w') := by
  unfold hexes_Encode at hF
  refine calls_enter (l := [.slice p0_ x0.length c0_]) Try.func14 rfl rfl rfl ?_
  refine at_start ?_
  refine at_weak [(0, _)] ⟨rfl, trivial⟩ ?_
  refine at_seq ?_
  refine at_region ?_
  refine at_val rfl rfl rfl (r_assign rfl) ?_
  refine at_nil ?_
  refine at_weak [(0, _)] ⟨rfl, trivial⟩ ?_
  refine at_then_normal ?_
  refine at_seq ?_
  refine at_region ?_
  refine at_alloc_bld (e := 5) Try.zeroValue52 rfl ?_
  intro b1
  refine at_nil ?_
  refine at_weak [(0, _), (3, _)] ⟨rfl, rfl, trivial⟩ ?_
  refine at_then_normal ?_
  refine at_seq ?_
  refine at_seq ?_
  refine at_region ?_
  refine at_val rfl rfl rfl (r_move rfl) ?_
  refine at_val rfl rfl rfl (r_len_sl Try.underlying31 rfl) ?_
  refine at_val rfl rfl rfl (r_move rfl) ?_
  refine at_nil ?_
  refine at_weak [(3, _), (6, _), (7, _), (8, _)] ⟨rfl, rfl, rfl, rfl, trivial⟩ ?_
  refine at_then_normal ?_
  refine at_block ?_
  obtain ⟨q3, hq3, hF⟩ := of_bindM hF
  refine at_weak [(3, _), (6, _), (7, _), (8, _)] ⟨rfl, rfl, rfl, rfl, trivial⟩ ?_
  refine at_loop_n (B := 0) (A := fun Y => ∀ (g7 : Option Nat), At 22 [(3, .pointer (some ⟨b1, 0, none⟩))] (Wd w [bldE 52 5 b1 g7 q3]) Y) ?_ ?_
  · intro K
    refine hexes_Encode.l0.partial_correctness x0 (motive := fun i4 i5 x => KN (fun Y => ∀ (g7 : Option Nat), At 22 [(3, .pointer (some ⟨b1, 0, none⟩))] (Wd w [bldE 52 5 b1 g7 x]) Y) _ 0 → Round (fun Y => ∀ (g6 : Option Nat), At 22 [(3, .pointer (some ⟨b1, 0, none⟩)), (6, .slice p0_ x0.length c0_), (7, .int .i64 (x0.length : Int)), (8, .int .i64 i4)] (Wd w [bldE 52 5 b1 g6 i5]) Y) _ _ _) ?_ _ _ _ hq3 K none
    · clear K hF
      intro g ih i4 i5 x hF K g6
      refine at_round ?_
      refine at_seq ?_
      refine at_region ?_
      refine at_val rfl rfl rfl (r_ilss rfl rfl) ?_
      refine at_nil ?_
      refine at_weak [(3, _), (6, _), (7, _), (8, _), (9, _)] ⟨rfl, rfl, rfl, rfl, rfl, trivial⟩ ?_
      refine at_then_normal ?_
      refine at_seq ?_
      rcases of_ite hF with ⟨h8, hF⟩ | ⟨h8, hF⟩
      · refine at_cond_true rfl h8 ?_
        refine at_skip ?_
        refine at_then_normal ?_
        refine at_seq ?_
        refine at_block ?_
        refine at_seq ?_
        refine at_region ?_
        obtain ⟨h9, hF⟩ := of_guard hF
        obtain ⟨b11, o12, hp10⟩ := row_ptr hr0 h9
        refine at_val rfl rfl rfl (r_idx Try.underlying31 Try.sizeOf5 rfl rfl h9 hp10) ?_
        refine at_val rfl rfl rfl (r_load_cell Try.isAgg5 rfl (row_cell0 (fun _ h => h.below) hr0 h9 hp10 rfl)) ?_
        refine at_val rfl rfl rfl (r_assign rfl) ?_
        refine at_nil ?_
        refine at_weak [(3, _), (5, _), (6, _), (7, _), (8, _)] ⟨rfl, rfl, rfl, rfl, rfl, trivial⟩ ?_
        refine at_then_normal ?_
        refine at_seq ?_
        refine at_region ?_
        refine at_val rfl rfl rfl (r_move rfl) ?_
        refine at_val rfl rfl rfl (r_ishr rfl rfl (by decide)) ?_
        obtain ⟨h13, hF⟩ := of_guard hF
        refine at_val rfl rfl rfl (r_index_str Try.underlying9 rfl rfl h13) ?_
        obtain ⟨h15, hF⟩ := of_guard hF
        obtain ⟨h16, hF⟩ := of_guard hF
        refine at_bld_byte (c := bt (⟨#[48, 49, 50, 51, 52, 53, 54, 55, 56, 57, 97, 98, 99, 100, 101, 102]⟩ : ByteArray) (ishr .u8 (lget x0 i4) 4)) .z trivial Try.func35 rfl (by kernel_rfl) rfl rfl h15 h16 Try.Builder_WriteByte_k ?_
        intro g14
        refine at_nil ?_
        refine at_weak [(3, _), (5, _), (6, _), (7, _), (8, _)] ⟨rfl, rfl, rfl, rfl, rfl, trivial⟩ ?_
        refine at_then_normal ?_
        refine at_region ?_
        refine at_val rfl rfl rfl (r_move rfl) ?_
        refine at_val rfl rfl rfl (r_iand rfl rfl) ?_
        obtain ⟨h17, hF⟩ := of_guard hF
        refine at_val rfl rfl rfl (r_index_str Try.underlying9 rfl rfl h17) ?_
        obtain ⟨h19, hF⟩ := of_guard hF
        obtain ⟨h20, hF⟩ := of_guard hF
        refine at_bld_byte (c := bt (⟨#[48, 49, 50, 51, 52, 53, 54, 55, 56, 57, 97, 98, 99, 100, 101, 102]⟩ : ByteArray) (iand .u8 (lget x0 i4) 15)) .z trivial Try.func35 rfl (by kernel_rfl) rfl rfl h19 h20 Try.Builder_WriteByte_k ?_
        intro g18
        refine at_nil ?_
        refine at_weak [(3, _), (6, _), (7, _), (8, _)] ⟨rfl, rfl, rfl, rfl, trivial⟩ ?_
        refine at_blk_normal (at_then_normal ?_)
        refine at_region ?_
        refine at_val rfl rfl rfl (r_iadd rfl rfl) ?_
        refine at_val rfl rfl rfl (r_move rfl) ?_
        refine at_nil ?_
        refine at_weak [(3, _), (6, _), (7, _), (8, _)] ⟨rfl, rfl, rfl, rfl, trivial⟩ ?_
        refine at_then_normal ?_
        exact at_weak_k (ih _ _ _ hF K g18) ⟨rfl, rfl, rfl, rfl, trivial⟩
      · refine at_cond_false rfl h8 ?_
        refine at_exit ?_
        refine at_then_exit (at_then_exit ?_)
        obtain rfl := of_some hF
        exact at_weak_k (K g6) ⟨rfl, trivial⟩
  · skip
    intro g7
    refine at_blk_same ?_
    refine at_then_normal ?_
    refine at_seq ?_
    refine at_region ?_
    refine at_bld_string .z trivial Try.func36 rfl (by kernel_rfl) rfl rfl Try.Builder_String_any_k ?_
    intro g21
    refine at_val rfl rfl rfl (r_assign rfl) ?_
    refine at_nil ?_
    refine at_drop (H := _) .z ?_
    refine at_weak [(2, _)] ⟨rfl, trivial⟩ ?_
    refine at_then_normal ?_
    refine at_ret ?_
    have K := of_some hF
    subst K
    exact at_return1 rfl rfl (fun w1 hw => ⟨rfl, hw.below⟩)

def crawlwaylaw05_alive : Option (Bool) :=
  hexes_ReadGroup (⟨#[48, 102, 70]⟩ : ByteArray) >>= fun t1 => hexes_Encode ([10, 255]) >>= fun t3 => if (seq t3 (⟨#[48, 97, 102, 102]⟩ : ByteArray)) = true then (hexes_Group 255 >>= fun t5 => if (seq t5 (⟨#[102, 102]⟩ : ByteArray)) = true then (if (t1.1 == 255) = true then (some (t1.2 == 0)) else (some false)) else (some false)) else (some false)
theorem crawlwaylaw05_alive_ok (r : Bool) (hF : crawlwaylaw05_alive  = some r) (w : World) :
    Calls Try.prog 9 #[] w (fun e w' => e = .returned (.bool r) ∧ Below w.heap.size w w') := by
  unfold crawlwaylaw05_alive at hF
  refine calls_enter (l := []) Try.func9 rfl rfl rfl ?_
  refine at_start ?_
  refine at_weak [] trivial ?_
  refine at_seq ?_
  refine at_region ?_
  refine at_val rfl rfl rfl (r_assign rfl) ?_
  refine at_nil ?_
  refine at_weak [] trivial ?_
  refine at_then_normal ?_
  refine at_seq ?_
  refine at_region ?_
  obtain ⟨t1, ht1, hF⟩ := of_bindM hF
  refine at_call0 Try.func11 rfl (by kernel_rfl) rfl rfl (fun w => hexes_ReadGroup_ok _ _ ht1 w) ?_
  refine at_val rfl rfl rfl (r_move rfl) ?_
  refine at_val rfl rfl rfl (r_extract rfl rfl) ?_
  refine at_val rfl rfl rfl (r_extract rfl rfl) ?_
  refine at_val rfl rfl rfl (r_assign rfl) ?_
  refine at_val rfl rfl rfl (r_assign rfl) ?_
  refine at_nil ?_
  refine at_weak [(1, _), (2, _)] ⟨rfl, rfl, trivial⟩ ?_
  refine at_then_normal ?_
  refine at_seq ?_
  refine at_region ?_
  refine at_lit (cs := (cInt .u8).all ([10, 255] : List Int)) Try.underlying31 Try.sizeOf5 Try.zeroValue5 rfl rfl rfl (by kernel_rfl) rfl ?_
  intro b2
  obtain ⟨t3, ht3, hF⟩ := of_bindM hF
  refine at_callB Try.func14 rfl (by kernel_rfl) rfl rfl (fun w hw => hexes_Encode_ok _ _ _ _ ht3 w (cells_row (hw.ok (Upd.mem .z)))) ?_
  refine at_val rfl rfl rfl (r_seql rfl rfl) ?_
  refine at_val rfl rfl rfl (r_move rfl) ?_
  rcases of_ite hF with ⟨h4, hF⟩ | ⟨h4, hF⟩
  · refine at_fix (g := 10) rfl h4 ?_
    refine at_guard_yes rfl rfl rfl ?_
    obtain ⟨t5, ht5, hF⟩ := of_bindM hF
    refine at_call0 Try.func10 rfl (by kernel_rfl) rfl rfl (fun w => hexes_Group_ok _ _ ht5 w) ?_
    refine at_guard_yes rfl rfl rfl ?_
    refine at_val rfl rfl rfl (r_seql rfl rfl) ?_
    refine at_val rfl rfl rfl (r_pick rfl rfl rfl) ?_
    refine at_val rfl rfl rfl (r_move rfl) ?_
    rcases of_ite hF with ⟨h6, hF⟩ | ⟨h6, hF⟩
    · refine at_fix (g := 14) rfl h6 ?_
      refine at_guard_yes rfl rfl rfl ?_
      refine at_val rfl rfl rfl (r_move rfl) ?_
      refine at_guard_yes rfl rfl rfl ?_
      refine at_val rfl rfl rfl (r_ieql rfl rfl) ?_
      refine at_val rfl rfl rfl (r_pick rfl rfl rfl) ?_
      refine at_val rfl rfl rfl (r_move rfl) ?_
      rcases of_ite hF with ⟨h7, hF⟩ | ⟨h7, hF⟩
      · refine at_fix (g := 18) rfl h7 ?_
        refine at_guard_yes rfl rfl rfl ?_
        refine at_val rfl rfl rfl (r_move rfl) ?_
        refine at_guard_yes rfl rfl rfl ?_
        refine at_val rfl rfl rfl (r_ieql rfl rfl) ?_
        refine at_val rfl rfl rfl (r_pick rfl rfl rfl) ?_
        refine at_val rfl rfl rfl (r_assign rfl) ?_
        refine at_nil ?_
        refine at_drop (H := _) .z ?_
        refine at_weak [(0, _)] ⟨rfl, trivial⟩ ?_
        refine at_then_normal ?_
        refine at_ret ?_
        have K := of_some hF
        subst K
        exact at_return1 rfl rfl (fun w1 hw => ⟨rfl, hw.below⟩)
      · refine at_fix (g := 18) rfl h7 ?_
        refine at_guard_no rfl rfl rfl rfl rfl ?_
        refine at_guard_no rfl rfl rfl rfl rfl ?_
        refine at_val rfl rfl rfl (r_pick rfl rfl rfl) ?_
        refine at_val rfl rfl rfl (r_assign rfl) ?_
        refine at_nil ?_
        refine at_drop (H := _) .z ?_
        refine at_weak [(0, _)] ⟨rfl, trivial⟩ ?_
        refine at_then_normal ?_
        refine at_ret ?_
        have K := of_some hF
        subst K
        exact at_return1 rfl rfl (fun w1 hw => ⟨rfl, hw.below⟩)
    · refine at_fix (g := 14) rfl h6 ?_
      refine at_guard_no rfl rfl rfl rfl rfl ?_
      refine at_guard_no rfl rfl rfl rfl rfl ?_
      refine at_val rfl rfl rfl (r_pick rfl rfl rfl) ?_
      refine at_val rfl rfl rfl (r_move rfl) ?_
      refine at_guard_no rfl rfl rfl rfl rfl ?_
      refine at_guard_no rfl rfl rfl rfl rfl ?_
      refine at_val rfl rfl rfl (r_pick rfl rfl rfl) ?_
      refine at_val rfl rfl rfl (r_assign rfl) ?_
      refine at_nil ?_
      refine at_drop (H := _) .z ?_
      refine at_weak [(0, _)] ⟨rfl, trivial⟩ ?_
      refine at_then_normal ?_
      refine at_ret ?_
      have K := of_some hF
      subst K
      exact at_return1 rfl rfl (fun w1 hw => ⟨rfl, hw.below⟩)
  · refine at_fix (g := 10) rfl h4 ?_
    refine at_guard_no rfl rfl rfl rfl rfl ?_
    refine at_guard_no rfl rfl rfl rfl rfl ?_
    refine at_val rfl rfl rfl (r_pick rfl rfl rfl) ?_
    refine at_val rfl rfl rfl (r_move rfl) ?_
    refine at_guard_no rfl rfl rfl rfl rfl ?_
    refine at_guard_no rfl rfl rfl rfl rfl ?_
    refine at_val rfl rfl rfl (r_pick rfl rfl rfl) ?_
    refine at_val rfl rfl rfl (r_move rfl) ?_
    refine at_guard_no rfl rfl rfl rfl rfl ?_
    refine at_guard_no rfl rfl rfl rfl rfl ?_
    refine at_val rfl rfl rfl (r_pick rfl rfl rfl) ?_
    refine at_val rfl rfl rfl (r_assign rfl) ?_
    refine at_nil ?_
    refine at_drop (H := _) .z ?_
    refine at_weak [(0, _)] ⟨rfl, trivial⟩ ?_
    refine at_then_normal ?_
    refine at_ret ?_
    have K := of_some hF
    subst K
    exact at_return1 rfl rfl (fun w1 hw => ⟨rfl, hw.below⟩)

def crawlwaylaw05_HexesGroups (x0 : Int) (x1 : ByteArray) : Option (Bool) :=
  if (decide ((x1.size : Int) > 20)) = true then (crawlwaylaw05_alive >>= fun t2 => some t2) else (hexes_Group x0 >>= fun t3 => hexes_ReadGroup t3 >>= fun t4 => crawlwayref05_Group (wr .i64 x0) >>= fun t5 => if (!seq t3 t5) = true then (some false) else (if (t4.1 != x0) = true then (some false) else (if (t4.2 != 0) = true then (some false) else (hexes_ReadGroup x1 >>= fun t9 => crawlwayref05_ReadGroup x1 >>= fun t10 => if (decide (t10 < 0)) = true then (if (t9.1 == 0) = true then (if (t9.2 == 5) = true then (crawlwaylaw05_alive >>= fun t14 => some t14) else (some false)) else (some false)) else (if (wr .i64 t9.1 == t10) = true then (if (t9.2 == 0) = true then (crawlwaylaw05_alive >>= fun t17 => some t17) else (some false)) else (some false))))))
theorem crawlwaylaw05_HexesGroups_ok (x0 : Int) (x1 : ByteArray) (r : Bool) (hF : crawlwaylaw05_HexesGroups x0 x1 = some r) (w : World) :
    Calls Try.prog 3 #[.int .u16 x0, .string x1] w (fun e w' => e = .returned (.bool r) ∧ Below w.heap.size w w') := by
  unfold crawlwaylaw05_HexesGroups at hF
  refine calls_enter (l := [.int .u16 x0, .string x1]) Try.func3 rfl rfl rfl ?_
  refine at_start ?_
  refine at_weak [(0, _), (1, _)] ⟨rfl, rfl, trivial⟩ ?_
  refine at_seq ?_
  refine at_region ?_
  refine at_val rfl rfl rfl (r_assign rfl) ?_
  refine at_nil ?_
  refine at_weak [(0, _), (1, _)] ⟨rfl, rfl, trivial⟩ ?_
  refine at_then_normal ?_
  refine at_seq ?_
  refine at_seq ?_
  refine at_region ?_
  refine at_val rfl rfl rfl (r_move rfl) ?_
  refine at_val rfl rfl rfl (r_len_str Try.underlying9 rfl) ?_
  refine at_val rfl rfl rfl (r_igtr rfl rfl) ?_
  refine at_nil ?_
  refine at_weak [(0, _), (1, _), (13, _)] ⟨rfl, rfl, rfl, trivial⟩ ?_
  refine at_then_normal ?_
  rcases of_ite hF with ⟨h1, hF⟩ | ⟨h1, hF⟩
  · refine at_cond_true rfl h1 ?_
    refine at_seq ?_
    refine at_region ?_
    obtain ⟨t2, ht2, hF⟩ := of_bindM hF
    refine at_callB Try.func9 rfl (by kernel_rfl) rfl rfl (fun w hw => crawlwaylaw05_alive_ok  _ ht2 w) ?_
    refine at_val rfl rfl rfl (r_assign rfl) ?_
    refine at_nil ?_
    refine at_weak [(4, _)] ⟨rfl, trivial⟩ ?_
    refine at_then_normal ?_
    refine at_ret ?_
    refine at_then_ret ?_
    have K := of_some hF
    subst K
    exact at_return1 rfl rfl (fun w1 hw => ⟨rfl, hw.below⟩)
  · refine at_cond_false rfl h1 ?_
    refine at_skip ?_
    refine at_then_normal ?_
    refine at_seq ?_
    refine at_region ?_
    refine at_val rfl rfl rfl (r_move rfl) ?_
    obtain ⟨t3, ht3, hF⟩ := of_bindM hF
    refine at_call0 Try.func10 rfl (by kernel_rfl) rfl rfl (fun w => hexes_Group_ok _ _ ht3 w) ?_
    refine at_val rfl rfl rfl (r_assign rfl) ?_
    refine at_nil ?_
    refine at_weak [(0, _), (1, _), (5, _)] ⟨rfl, rfl, rfl, trivial⟩ ?_
    refine at_then_normal ?_
    refine at_seq ?_
    refine at_region ?_
    refine at_val rfl rfl rfl (r_move rfl) ?_
    obtain ⟨t4, ht4, hF⟩ := of_bindM hF
    refine at_call0 Try.func11 rfl (by kernel_rfl) rfl rfl (fun w => hexes_ReadGroup_ok _ _ ht4 w) ?_
    refine at_val rfl rfl rfl (r_move rfl) ?_
    refine at_val rfl rfl rfl (r_extract rfl rfl) ?_
    refine at_val rfl rfl rfl (r_extract rfl rfl) ?_
    refine at_val rfl rfl rfl (r_assign rfl) ?_
    refine at_val rfl rfl rfl (r_assign rfl) ?_
    refine at_nil ?_
    refine at_weak [(0, _), (1, _), (5, _), (6, _), (7, _)] ⟨rfl, rfl, rfl, rfl, rfl, trivial⟩ ?_
    refine at_then_normal ?_
    refine at_seq ?_
    refine at_seq ?_
    refine at_region ?_
    refine at_val rfl rfl rfl (r_move rfl) ?_
    refine at_val rfl rfl rfl (r_move rfl) ?_
    refine at_val rfl rfl rfl (r_conv Try.underlying22 Try.underlying3 rfl) ?_
    obtain ⟨t5, ht5, hF⟩ := of_bindM hF
    refine at_call0 Try.func12 rfl (by kernel_rfl) rfl rfl (fun w => crawlwayref05_Group_ok _ _ ht5 w) ?_
    refine at_val rfl rfl rfl (r_sneq rfl rfl) ?_
    refine at_val rfl rfl rfl (r_move rfl) ?_
    rcases of_ite hF with ⟨h6, hF⟩ | ⟨h6, hF⟩
    · refine at_fix (g := 27) rfl h6 ?_
      refine at_guard_no rfl rfl rfl rfl rfl ?_
      refine at_guard_no rfl rfl rfl rfl rfl ?_
      refine at_guard_no rfl rfl rfl rfl rfl ?_
      refine at_val rfl rfl rfl (r_pick rfl rfl rfl) ?_
      refine at_val rfl rfl rfl (r_move rfl) ?_
      refine at_guard_no rfl rfl rfl rfl rfl ?_
      refine at_guard_no rfl rfl rfl rfl rfl ?_
      refine at_val rfl rfl rfl (r_pick rfl rfl rfl) ?_
      refine at_nil ?_
      refine at_weak [(1, _), (35, _)] ⟨rfl, rfl, trivial⟩ ?_
      refine at_then_normal ?_
      refine at_cond_true rfl rfl ?_
      refine at_seq ?_
      refine at_region ?_
      refine at_val rfl rfl rfl (r_assign rfl) ?_
      refine at_nil ?_
      refine at_weak [(4, _)] ⟨rfl, trivial⟩ ?_
      refine at_then_normal ?_
      refine at_ret ?_
      refine at_then_ret ?_
      have K := of_some hF
      subst K
      exact at_return1 rfl rfl (fun w1 hw => ⟨rfl, hw.below⟩)
    · refine at_fix (g := 27) rfl h6 ?_
      refine at_guard_yes rfl rfl rfl ?_
      refine at_val rfl rfl rfl (r_move rfl) ?_
      refine at_guard_yes rfl rfl rfl ?_
      refine at_val rfl rfl rfl (r_move rfl) ?_
      refine at_guard_yes rfl rfl rfl ?_
      refine at_val rfl rfl rfl (r_ineq rfl rfl) ?_
      refine at_val rfl rfl rfl (r_pick rfl rfl rfl) ?_
      refine at_val rfl rfl rfl (r_move rfl) ?_
      rcases of_ite hF with ⟨h7, hF⟩ | ⟨h7, hF⟩
      · refine at_fix (g := 32) rfl h7 ?_
        refine at_guard_no rfl rfl rfl rfl rfl ?_
        refine at_guard_no rfl rfl rfl rfl rfl ?_
        refine at_val rfl rfl rfl (r_pick rfl rfl rfl) ?_
        refine at_nil ?_
        refine at_weak [(1, _), (35, _)] ⟨rfl, rfl, trivial⟩ ?_
        refine at_then_normal ?_
        refine at_cond_true rfl rfl ?_
        refine at_seq ?_
        refine at_region ?_
        refine at_val rfl rfl rfl (r_assign rfl) ?_
        refine at_nil ?_
        refine at_weak [(4, _)] ⟨rfl, trivial⟩ ?_
        refine at_then_normal ?_
        refine at_ret ?_
        refine at_then_ret ?_
        have K := of_some hF
        subst K
        exact at_return1 rfl rfl (fun w1 hw => ⟨rfl, hw.below⟩)
      · refine at_fix (g := 32) rfl h7 ?_
        refine at_guard_yes rfl rfl rfl ?_
        refine at_val rfl rfl rfl (r_move rfl) ?_
        refine at_guard_yes rfl rfl rfl ?_
        refine at_val rfl rfl rfl (r_ineq rfl rfl) ?_
        refine at_val rfl rfl rfl (r_pick rfl rfl rfl) ?_
        refine at_nil ?_
        refine at_weak [(1, _), (35, _)] ⟨rfl, rfl, trivial⟩ ?_
        refine at_then_normal ?_
        rcases of_ite hF with ⟨h8, hF⟩ | ⟨h8, hF⟩
        · refine at_cond_true rfl h8 ?_
          refine at_seq ?_
          refine at_region ?_
          refine at_val rfl rfl rfl (r_assign rfl) ?_
          refine at_nil ?_
          refine at_weak [(4, _)] ⟨rfl, trivial⟩ ?_
          refine at_then_normal ?_
          refine at_ret ?_
          refine at_then_ret ?_
          have K := of_some hF
          subst K
          exact at_return1 rfl rfl (fun w1 hw => ⟨rfl, hw.below⟩)
        · refine at_cond_false rfl h8 ?_
          refine at_skip ?_
          refine at_then_normal ?_
          refine at_seq ?_
          refine at_region ?_
          refine at_val rfl rfl rfl (r_move rfl) ?_
          obtain ⟨t9, ht9, hF⟩ := of_bindM hF
          refine at_call0 Try.func11 rfl (by kernel_rfl) rfl rfl (fun w => hexes_ReadGroup_ok _ _ ht9 w) ?_
          refine at_val rfl rfl rfl (r_move rfl) ?_
          refine at_val rfl rfl rfl (r_extract rfl rfl) ?_
          refine at_val rfl rfl rfl (r_extract rfl rfl) ?_
          refine at_val rfl rfl rfl (r_assign rfl) ?_
          refine at_val rfl rfl rfl (r_assign rfl) ?_
          refine at_nil ?_
          refine at_weak [(1, _), (8, _), (9, _)] ⟨rfl, rfl, rfl, trivial⟩ ?_
          refine at_then_normal ?_
          refine at_seq ?_
          refine at_region ?_
          refine at_val rfl rfl rfl (r_move rfl) ?_
          obtain ⟨t10, ht10, hF⟩ := of_bindM hF
          refine at_call0 Try.func13 rfl (by kernel_rfl) rfl rfl (fun w => crawlwayref05_ReadGroup_ok _ _ ht10 w) ?_
          refine at_val rfl rfl rfl (r_assign rfl) ?_
          refine at_nil ?_
          refine at_weak [(8, _), (9, _), (10, _)] ⟨rfl, rfl, rfl, trivial⟩ ?_
          refine at_then_normal ?_
          refine at_seq ?_
          refine at_seq ?_
          refine at_region ?_
          refine at_val rfl rfl rfl (r_move rfl) ?_
          refine at_val rfl rfl rfl (r_ilss rfl rfl) ?_
          refine at_nil ?_
          refine at_weak [(8, _), (9, _), (10, _), (44, _)] ⟨rfl, rfl, rfl, rfl, trivial⟩ ?_
          refine at_then_normal ?_
          rcases of_ite hF with ⟨h11, hF⟩ | ⟨h11, hF⟩
          · refine at_cond_true rfl h11 ?_
            refine at_seq ?_
            refine at_region ?_
            refine at_val rfl rfl rfl (r_move rfl) ?_
            refine at_val rfl rfl rfl (r_ieql rfl rfl) ?_
            refine at_val rfl rfl rfl (r_move rfl) ?_
            rcases of_ite hF with ⟨h12, hF⟩ | ⟨h12, hF⟩
            · refine at_fix (g := 47) rfl h12 ?_
              refine at_guard_yes rfl rfl rfl ?_
              refine at_val rfl rfl rfl (r_move rfl) ?_
              refine at_guard_yes rfl rfl rfl ?_
              refine at_val rfl rfl rfl (r_ieql rfl rfl) ?_
              refine at_val rfl rfl rfl (r_pick rfl rfl rfl) ?_
              refine at_val rfl rfl rfl (r_move rfl) ?_
              rcases of_ite hF with ⟨h13, hF⟩ | ⟨h13, hF⟩
              · refine at_fix (g := 51) rfl h13 ?_
                refine at_guard_yes rfl rfl rfl ?_
                obtain ⟨t14, ht14, hF⟩ := of_bindM hF
                refine at_callB Try.func9 rfl (by kernel_rfl) rfl rfl (fun w hw => crawlwaylaw05_alive_ok  _ ht14 w) ?_
                refine at_val rfl rfl rfl (r_pick rfl rfl rfl) ?_
                refine at_val rfl rfl rfl (r_assign rfl) ?_
                refine at_nil ?_
                refine at_weak [(4, _)] ⟨rfl, trivial⟩ ?_
                refine at_then_normal ?_
                refine at_ret ?_
                refine at_then_ret ?_
                have K := of_some hF
                subst K
                exact at_return1 rfl rfl (fun w1 hw => ⟨rfl, hw.below⟩)
              · refine at_fix (g := 51) rfl h13 ?_
                refine at_guard_no rfl rfl rfl rfl rfl ?_
                refine at_val rfl rfl rfl (r_pick rfl rfl rfl) ?_
                refine at_val rfl rfl rfl (r_assign rfl) ?_
                refine at_nil ?_
                refine at_weak [(4, _)] ⟨rfl, trivial⟩ ?_
                refine at_then_normal ?_
                refine at_ret ?_
                refine at_then_ret ?_
                have K := of_some hF
                subst K
                exact at_return1 rfl rfl (fun w1 hw => ⟨rfl, hw.below⟩)
            · refine at_fix (g := 47) rfl h12 ?_
              refine at_guard_no rfl rfl rfl rfl rfl ?_
              refine at_guard_no rfl rfl rfl rfl rfl ?_
              refine at_val rfl rfl rfl (r_pick rfl rfl rfl) ?_
              refine at_val rfl rfl rfl (r_move rfl) ?_
              refine at_guard_no rfl rfl rfl rfl rfl ?_
              refine at_val rfl rfl rfl (r_pick rfl rfl rfl) ?_
              refine at_val rfl rfl rfl (r_assign rfl) ?_
              refine at_nil ?_
              refine at_weak [(4, _)] ⟨rfl, trivial⟩ ?_
              refine at_then_normal ?_
              refine at_ret ?_
              refine at_then_ret ?_
              have K := of_some hF
              subst K
              exact at_return1 rfl rfl (fun w1 hw => ⟨rfl, hw.below⟩)
          · refine at_cond_false rfl h11 ?_
            refine at_skip ?_
            refine at_then_normal ?_
            refine at_seq ?_
            refine at_region ?_
            refine at_val rfl rfl rfl (r_move rfl) ?_
            refine at_val rfl rfl rfl (r_conv Try.underlying22 Try.underlying3 rfl) ?_
            refine at_val rfl rfl rfl (r_move rfl) ?_
            refine at_val rfl rfl rfl (r_ieql rfl rfl) ?_
            refine at_val rfl rfl rfl (r_move rfl) ?_
            rcases of_ite hF with ⟨h15, hF⟩ | ⟨h15, hF⟩
            · refine at_fix (g := 58) rfl h15 ?_
              refine at_guard_yes rfl rfl rfl ?_
              refine at_val rfl rfl rfl (r_move rfl) ?_
              refine at_guard_yes rfl rfl rfl ?_
              refine at_val rfl rfl rfl (r_ieql rfl rfl) ?_
              refine at_val rfl rfl rfl (r_pick rfl rfl rfl) ?_
              refine at_val rfl rfl rfl (r_move rfl) ?_
              rcases of_ite hF with ⟨h16, hF⟩ | ⟨h16, hF⟩
              · refine at_fix (g := 62) rfl h16 ?_
                refine at_guard_yes rfl rfl rfl ?_
                obtain ⟨t17, ht17, hF⟩ := of_bindM hF
                refine at_callB Try.func9 rfl (by kernel_rfl) rfl rfl (fun w hw => crawlwaylaw05_alive_ok  _ ht17 w) ?_
                refine at_val rfl rfl rfl (r_pick rfl rfl rfl) ?_
                refine at_val rfl rfl rfl (r_assign rfl) ?_
                refine at_nil ?_
                refine at_weak [(4, _)] ⟨rfl, trivial⟩ ?_
                refine at_then_normal ?_
                refine at_ret ?_
                have K := of_some hF
                subst K
                exact at_return1 rfl rfl (fun w1 hw => ⟨rfl, hw.below⟩)
              · refine at_fix (g := 62) rfl h16 ?_
                refine at_guard_no rfl rfl rfl rfl rfl ?_
                refine at_val rfl rfl rfl (r_pick rfl rfl rfl) ?_
                refine at_val rfl rfl rfl (r_assign rfl) ?_
                refine at_nil ?_
                refine at_weak [(4, _)] ⟨rfl, trivial⟩ ?_
                refine at_then_normal ?_
                refine at_ret ?_
                have K := of_some hF
                subst K
                exact at_return1 rfl rfl (fun w1 hw => ⟨rfl, hw.below⟩)
            · refine at_fix (g := 58) rfl h15 ?_
              refine at_guard_no rfl rfl rfl rfl rfl ?_
              refine at_guard_no rfl rfl rfl rfl rfl ?_
              refine at_val rfl rfl rfl (r_pick rfl rfl rfl) ?_
              refine at_val rfl rfl rfl (r_move rfl) ?_
              refine at_guard_no rfl rfl rfl rfl rfl ?_
              refine at_val rfl rfl rfl (r_pick rfl rfl rfl) ?_
              refine at_val rfl rfl rfl (r_assign rfl) ?_
              refine at_nil ?_
              refine at_weak [(4, _)] ⟨rfl, trivial⟩ ?_
              refine at_then_normal ?_
              refine at_ret ?_
              have K := of_some hF
              subst K
              exact at_return1 rfl rfl (fun w1 hw => ⟨rfl, hw.below⟩)

def crawlwaylaw05_HexesBack (x0 : List Int) : Option (Bool) :=
  if (decide ((x0.length : Int) > 200)) = true then (crawlwaylaw05_alive >>= fun t2 => some t2) else (hexes_Encode x0 >>= fun t3 => hexes_Decode t3 >>= fun t4 => crawlwayref05_Encode x0 >>= fun t7 => if (seq t3 t7) = true then (crawlwayref01_Same t4.1 x0 >>= fun t9 => if t9 = true then (if (t4.2 == 0) = true then (crawlwaylaw05_alive >>= fun t12 => some t12) else (some false)) else (some false)) else (some false))
theorem crawlwaylaw05_HexesBack_ok (x0 : List Int) (p0_ : Option Addr) (c0_ : Nat) (r : Bool) (hF : crawlwaylaw05_HexesBack x0 = some r) (w : World) (hr0 : Row (cInt .u8) w p0_ c0_ x0) :
    Calls Try.prog 4 #[.slice p0_ x0.length c0_] w (fun e w' => e = .returned (.bool r) ∧ Below w.heap.size w w') := by
  unfold crawlwaylaw05_HexesBack at hF
  refine calls_enter (l := [.slice p0_ x0.length c0_]) Try.func4 rfl rfl rfl ?_
  refine at_start ?_
  refine at_weak [(0, _)] ⟨rfl, trivial⟩ ?_
  refine at_seq ?_
  refine at_region ?_
  refine at_val rfl rfl rfl (r_assign rfl) ?_
  refine at_nil ?_
  refine at_weak [(0, _)] ⟨rfl, trivial⟩ ?_
  refine at_then_normal ?_
  refine at_seq ?_
  refine at_seq ?_
  refine at_region ?_
  refine at_val rfl rfl rfl (r_move rfl) ?_
  refine at_val rfl rfl rfl (r_len_sl Try.underlying31 rfl) ?_
  refine at_val rfl rfl rfl (r_igtr rfl rfl) ?_
  refine at_nil ?_
  refine at_weak [(0, _), (8, _)] ⟨rfl, rfl, trivial⟩ ?_
  refine at_then_normal ?_
  rcases of_ite hF with ⟨h1, hF⟩ | ⟨h1, hF⟩
  · refine at_cond_true rfl h1 ?_
    refine at_seq ?_
    refine at_region ?_
    obtain ⟨t2, ht2, hF⟩ := of_bindM hF
    refine at_callB Try.func9 rfl (by kernel_rfl) rfl rfl (fun w hw => crawlwaylaw05_alive_ok  _ ht2 w) ?_
    refine at_val rfl rfl rfl (r_assign rfl) ?_
    refine at_nil ?_
    refine at_weak [(2, _)] ⟨rfl, trivial⟩ ?_
    refine at_then_normal ?_
    refine at_ret ?_
    refine at_then_ret ?_
    have K := of_some hF
    subst K
    exact at_return1 rfl rfl (fun w1 hw => ⟨rfl, hw.below⟩)
  · refine at_cond_false rfl h1 ?_
    refine at_skip ?_
    refine at_then_normal ?_
    refine at_seq ?_
    refine at_region ?_
    refine at_val rfl rfl rfl (r_move rfl) ?_
    obtain ⟨t3, ht3, hF⟩ := of_bindM hF
    refine at_callB Try.func14 rfl (by kernel_rfl) rfl rfl (fun w hw => hexes_Encode_ok _ _ _ _ ht3 w (hr0.below hw.below)) ?_
    refine at_val rfl rfl rfl (r_assign rfl) ?_
    refine at_nil ?_
    refine at_weak [(0, _), (3, _)] ⟨rfl, rfl, trivial⟩ ?_
    refine at_then_normal ?_
    refine at_seq ?_
    refine at_region ?_
    refine at_val rfl rfl rfl (r_move rfl) ?_
    obtain ⟨t4, ht4, hF⟩ := of_bindM hF
    refine at_callO (c := (cInt .u8)) (e := 5) (ys := t4.1) (V := fun p cap => .tuple #[.slice p t4.1.length cap, .int .i64 t4.2]) Try.func15 rfl (by kernel_rfl) rfl rfl (fun w hw => hexes_Decode_ok _ _ ht4 w) ?_
    intro p5 c6
    refine at_val rfl rfl rfl (r_move rfl) ?_
    refine at_val rfl rfl rfl (r_extract rfl rfl) ?_
    refine at_val rfl rfl rfl (r_extract rfl rfl) ?_
    refine at_val rfl rfl rfl (r_assign rfl) ?_
    refine at_val rfl rfl rfl (r_assign rfl) ?_
    refine at_nil ?_
    refine at_weak [(0, _), (3, _), (4, _), (5, _)] ⟨rfl, rfl, rfl, rfl, trivial⟩ ?_
    refine at_then_normal ?_
    refine at_seq ?_
    refine at_region ?_
    refine at_val rfl rfl rfl (r_move rfl) ?_
    refine at_val rfl rfl rfl (r_move rfl) ?_
    obtain ⟨t7, ht7, hF⟩ := of_bindM hF
    refine at_callB Try.func16 rfl (by kernel_rfl) rfl rfl (fun w hw => crawlwayref05_Encode_ok _ _ _ _ ht7 w (hr0.below hw.below)) ?_
    refine at_val rfl rfl rfl (r_seql rfl rfl) ?_
    refine at_val rfl rfl rfl (r_move rfl) ?_
    rcases of_ite hF with ⟨h8, hF⟩ | ⟨h8, hF⟩
    · refine at_fix (g := 21) rfl h8 ?_
      refine at_guard_yes rfl rfl rfl ?_
      refine at_val rfl rfl rfl (r_move rfl) ?_
      refine at_guard_yes rfl rfl rfl ?_
      refine at_val rfl rfl rfl (r_move rfl) ?_
      refine at_guard_yes rfl rfl rfl ?_
      obtain ⟨t9, ht9, hF⟩ := of_bindM hF
      refine at_callB Try.func17 rfl (by kernel_rfl) rfl rfl (fun w hw => crawlwayref01_Same_ok _ _ _ _ _ _ _ ht9 w (hw.own .z).row (hr0.below hw.below)) ?_
      refine at_val rfl rfl rfl (r_pick rfl rfl rfl) ?_
      refine at_val rfl rfl rfl (r_move rfl) ?_
      rcases of_ite hF with ⟨h10, hF⟩ | ⟨h10, hF⟩
      · refine at_fix (g := 26) rfl h10 ?_
        refine at_guard_yes rfl rfl rfl ?_
        refine at_val rfl rfl rfl (r_move rfl) ?_
        refine at_guard_yes rfl rfl rfl ?_
        refine at_val rfl rfl rfl (r_ieql rfl rfl) ?_
        refine at_val rfl rfl rfl (r_pick rfl rfl rfl) ?_
        refine at_val rfl rfl rfl (r_move rfl) ?_
        rcases of_ite hF with ⟨h11, hF⟩ | ⟨h11, hF⟩
        · refine at_fix (g := 30) rfl h11 ?_
          refine at_guard_yes rfl rfl rfl ?_
          obtain ⟨t12, ht12, hF⟩ := of_bindM hF
          refine at_callB Try.func9 rfl (by kernel_rfl) rfl rfl (fun w hw => crawlwaylaw05_alive_ok  _ ht12 w) ?_
          refine at_val rfl rfl rfl (r_pick rfl rfl rfl) ?_
          refine at_val rfl rfl rfl (r_assign rfl) ?_
          refine at_nil ?_
          refine at_drop (H := _) .z ?_
          refine at_weak [(2, _)] ⟨rfl, trivial⟩ ?_
          refine at_then_normal ?_
          refine at_ret ?_
          have K := of_some hF
          subst K
          exact at_return1 rfl rfl (fun w1 hw => ⟨rfl, hw.below⟩)
        · refine at_fix (g := 30) rfl h11 ?_
          refine at_guard_no rfl rfl rfl rfl rfl ?_
          refine at_val rfl rfl rfl (r_pick rfl rfl rfl) ?_
          refine at_val rfl rfl rfl (r_assign rfl) ?_
          refine at_nil ?_
          refine at_drop (H := _) .z ?_
          refine at_weak [(2, _)] ⟨rfl, trivial⟩ ?_
          refine at_then_normal ?_
          refine at_ret ?_
          have K := of_some hF
          subst K
          exact at_return1 rfl rfl (fun w1 hw => ⟨rfl, hw.below⟩)
      · refine at_fix (g := 26) rfl h10 ?_
        refine at_guard_no rfl rfl rfl rfl rfl ?_
        refine at_guard_no rfl rfl rfl rfl rfl ?_
        refine at_val rfl rfl rfl (r_pick rfl rfl rfl) ?_
        refine at_val rfl rfl rfl (r_move rfl) ?_
        refine at_guard_no rfl rfl rfl rfl rfl ?_
        refine at_val rfl rfl rfl (r_pick rfl rfl rfl) ?_
        refine at_val rfl rfl rfl (r_assign rfl) ?_
        refine at_nil ?_
        refine at_drop (H := _) .z ?_
        refine at_weak [(2, _)] ⟨rfl, trivial⟩ ?_
        refine at_then_normal ?_
        refine at_ret ?_
        have K := of_some hF
        subst K
        exact at_return1 rfl rfl (fun w1 hw => ⟨rfl, hw.below⟩)
    · refine at_fix (g := 21) rfl h8 ?_
      refine at_guard_no rfl rfl rfl rfl rfl ?_
      refine at_guard_no rfl rfl rfl rfl rfl ?_
      refine at_guard_no rfl rfl rfl rfl rfl ?_
      refine at_val rfl rfl rfl (r_pick rfl rfl rfl) ?_
      refine at_val rfl rfl rfl (r_move rfl) ?_
      refine at_guard_no rfl rfl rfl rfl rfl ?_
      refine at_guard_no rfl rfl rfl rfl rfl ?_
      refine at_val rfl rfl rfl (r_pick rfl rfl rfl) ?_
      refine at_val rfl rfl rfl (r_move rfl) ?_
      refine at_guard_no rfl rfl rfl rfl rfl ?_
      refine at_val rfl rfl rfl (r_pick rfl rfl rfl) ?_
      refine at_val rfl rfl rfl (r_assign rfl) ?_
      refine at_nil ?_
      refine at_drop (H := _) .z ?_
      refine at_weak [(2, _)] ⟨rfl, trivial⟩ ?_
      refine at_then_normal ?_
      refine at_ret ?_
      have K := of_some hF
      subst K
      exact at_return1 rfl rfl (fun w1 hw => ⟨rfl, hw.below⟩)

def crawlwaylaw05_HexesReads (x0 : ByteArray) : Option (Bool) :=
  if (decide ((x0.size : Int) > 200)) = true then (crawlwaylaw05_alive >>= fun t2 => some t2) else (hexes_Decode x0 >>= fun t3 => crawlwayref05_Decode x0 >>= fun t6 => crawlwayref01_Same t3.1 t6.1 >>= fun t9 => if t9 = true then (if (t3.2 == t6.2) = true then (if (t6.2 != 0) = true then (crawlwaylaw05_alive >>= fun t13 => some t13) else (hexes_Encode t3.1 >>= fun t14 => if (seq t14 x0) = true then (crawlwaylaw05_alive >>= fun t16 => some t16) else (some false))) else (some false)) else (some false))
theorem crawlwaylaw05_HexesReads_ok (x0 : ByteArray) (r : Bool) (hF : crawlwaylaw05_HexesReads x0 = some r) (w : World) :
    Calls Try.prog 5 #[.string x0] w (fun e w' => e = .returned (.bool r) ∧ Below w.heap.size w w') := by
  unfold crawlwaylaw05_HexesReads at hF
  refine calls_enter (l := [.string x0]) Try.func5 rfl rfl rfl ?_
  refine at_start ?_
  refine at_weak [(0, _)] ⟨rfl, trivial⟩ ?_
  refine at_seq ?_
  refine at_region ?_
  refine at_val rfl rfl rfl (r_assign rfl) ?_
  refine at_nil ?_
  refine at_weak [(0, _)] ⟨rfl, trivial⟩ ?_
  refine at_then_normal ?_
  refine at_seq ?_
  refine at_seq ?_
  refine at_region ?_
  refine at_val rfl rfl rfl (r_move rfl) ?_
  refine at_val rfl rfl rfl (r_len_str Try.underlying9 rfl) ?_
  refine at_val rfl rfl rfl (r_igtr rfl rfl) ?_
  refine at_nil ?_
  refine at_weak [(0, _), (9, _)] ⟨rfl, rfl, trivial⟩ ?_
  refine at_then_normal ?_
  rcases of_ite hF with ⟨h1, hF⟩ | ⟨h1, hF⟩
  · refine at_cond_true rfl h1 ?_
    refine at_seq ?_
    refine at_region ?_
    obtain ⟨t2, ht2, hF⟩ := of_bindM hF
    refine at_callB Try.func9 rfl (by kernel_rfl) rfl rfl (fun w hw => crawlwaylaw05_alive_ok  _ ht2 w) ?_
    refine at_val rfl rfl rfl (r_assign rfl) ?_
    refine at_nil ?_
    refine at_weak [(2, _)] ⟨rfl, trivial⟩ ?_
    refine at_then_normal ?_
    refine at_ret ?_
    refine at_then_ret ?_
    have K := of_some hF
    subst K
    exact at_return1 rfl rfl (fun w1 hw => ⟨rfl, hw.below⟩)
  · refine at_cond_false rfl h1 ?_
    refine at_skip ?_
    refine at_then_normal ?_
    refine at_seq ?_
    refine at_region ?_
    refine at_val rfl rfl rfl (r_move rfl) ?_
    obtain ⟨t3, ht3, hF⟩ := of_bindM hF
    refine at_callO (c := (cInt .u8)) (e := 5) (ys := t3.1) (V := fun p cap => .tuple #[.slice p t3.1.length cap, .int .i64 t3.2]) Try.func15 rfl (by kernel_rfl) rfl rfl (fun w hw => hexes_Decode_ok _ _ ht3 w) ?_
    intro p4 c5
    refine at_val rfl rfl rfl (r_move rfl) ?_
    refine at_val rfl rfl rfl (r_extract rfl rfl) ?_
    refine at_val rfl rfl rfl (r_extract rfl rfl) ?_
    refine at_val rfl rfl rfl (r_assign rfl) ?_
    refine at_val rfl rfl rfl (r_assign rfl) ?_
    refine at_nil ?_
    refine at_weak [(0, _), (3, _), (4, _)] ⟨rfl, rfl, rfl, trivial⟩ ?_
    refine at_then_normal ?_
    refine at_seq ?_
    refine at_region ?_
    refine at_val rfl rfl rfl (r_move rfl) ?_
    obtain ⟨t6, ht6, hF⟩ := of_bindM hF
    refine at_callO (c := (cInt .u8)) (e := 5) (ys := t6.1) (V := fun p cap => .tuple #[.slice p t6.1.length cap, .int .i64 t6.2]) Try.func18 rfl (by kernel_rfl) rfl rfl (fun w hw => crawlwayref05_Decode_ok _ _ ht6 w) ?_
    intro p7 c8
    refine at_val rfl rfl rfl (r_move rfl) ?_
    refine at_val rfl rfl rfl (r_extract rfl rfl) ?_
    refine at_val rfl rfl rfl (r_extract rfl rfl) ?_
    refine at_val rfl rfl rfl (r_assign rfl) ?_
    refine at_val rfl rfl rfl (r_assign rfl) ?_
    refine at_nil ?_
    refine at_weak [(0, _), (3, _), (4, _), (5, _), (6, _)] ⟨rfl, rfl, rfl, rfl, rfl, trivial⟩ ?_
    refine at_then_normal ?_
    refine at_seq ?_
    refine at_region ?_
    refine at_val rfl rfl rfl (r_move rfl) ?_
    refine at_val rfl rfl rfl (r_move rfl) ?_
    obtain ⟨t9, ht9, hF⟩ := of_bindM hF
    refine at_callB Try.func17 rfl (by kernel_rfl) rfl rfl (fun w hw => crawlwayref01_Same_ok _ _ _ _ _ _ _ ht9 w (hw.own (.s .z)).row (hw.own .z).row) ?_
    refine at_val rfl rfl rfl (r_move rfl) ?_
    rcases of_ite hF with ⟨h10, hF⟩ | ⟨h10, hF⟩
    · refine at_fix (g := 24) rfl h10 ?_
      refine at_guard_yes rfl rfl rfl ?_
      refine at_val rfl rfl rfl (r_move rfl) ?_
      refine at_guard_yes rfl rfl rfl ?_
      refine at_val rfl rfl rfl (r_move rfl) ?_
      refine at_guard_yes rfl rfl rfl ?_
      refine at_val rfl rfl rfl (r_ieql rfl rfl) ?_
      refine at_val rfl rfl rfl (r_pick rfl rfl rfl) ?_
      refine at_val rfl rfl rfl (r_move rfl) ?_
      rcases of_ite hF with ⟨h11, hF⟩ | ⟨h11, hF⟩
      · refine at_fix (g := 29) rfl h11 ?_
        refine at_guard_yes rfl rfl rfl ?_
        refine at_val rfl rfl rfl (r_move rfl) ?_
        refine at_guard_yes rfl rfl rfl ?_
        refine at_val rfl rfl rfl (r_ineq rfl rfl) ?_
        refine at_guard_yes rfl rfl rfl ?_
        refine at_val rfl rfl rfl (r_move rfl) ?_
        rcases of_ite hF with ⟨h12, hF⟩ | ⟨h12, hF⟩
        · refine at_fix (g := 32) rfl h12 ?_
          refine at_guard_no rfl rfl rfl rfl rfl ?_
          refine at_guard_no rfl rfl rfl rfl rfl ?_
          refine at_guard_no rfl rfl rfl rfl rfl ?_
          refine at_guard_no rfl rfl rfl rfl rfl ?_
          refine at_guard_yes rfl rfl rfl ?_
          refine at_val rfl rfl rfl (r_pick rfl rfl rfl) ?_
          refine at_val rfl rfl rfl (r_pick rfl rfl rfl) ?_
          refine at_val rfl rfl rfl (r_move rfl) ?_
          refine at_guard_yes rfl rfl rfl ?_
          obtain ⟨t13, ht13, hF⟩ := of_bindM hF
          refine at_callB Try.func9 rfl (by kernel_rfl) rfl rfl (fun w hw => crawlwaylaw05_alive_ok  _ ht13 w) ?_
          refine at_val rfl rfl rfl (r_pick rfl rfl rfl) ?_
          refine at_val rfl rfl rfl (r_assign rfl) ?_
          refine at_nil ?_
          refine at_drop (H := _) .z ?_
          refine at_drop (H := _) .z ?_
          refine at_weak [(2, _)] ⟨rfl, trivial⟩ ?_
          refine at_then_normal ?_
          refine at_ret ?_
          have K := of_some hF
          subst K
          exact at_return1 rfl rfl (fun w1 hw => ⟨rfl, hw.below⟩)
        · refine at_fix (g := 32) rfl h12 ?_
          refine at_guard_yes rfl rfl rfl ?_
          refine at_val rfl rfl rfl (r_move rfl) ?_
          refine at_guard_yes rfl rfl rfl ?_
          obtain ⟨t14, ht14, hF⟩ := of_bindM hF
          refine at_callB Try.func14 rfl (by kernel_rfl) rfl rfl (fun w hw => hexes_Encode_ok _ _ _ _ ht14 w (hw.own (.s .z)).row) ?_
          refine at_guard_yes rfl rfl rfl ?_
          refine at_val rfl rfl rfl (r_move rfl) ?_
          refine at_guard_yes rfl rfl rfl ?_
          refine at_val rfl rfl rfl (r_seql rfl rfl) ?_
          refine at_guard_yes rfl rfl rfl ?_
          refine at_val rfl rfl rfl (r_pick rfl rfl rfl) ?_
          refine at_val rfl rfl rfl (r_pick rfl rfl rfl) ?_
          refine at_val rfl rfl rfl (r_move rfl) ?_
          rcases of_ite hF with ⟨h15, hF⟩ | ⟨h15, hF⟩
          · refine at_fix (g := 39) rfl h15 ?_
            refine at_guard_yes rfl rfl rfl ?_
            obtain ⟨t16, ht16, hF⟩ := of_bindM hF
            refine at_callB Try.func9 rfl (by kernel_rfl) rfl rfl (fun w hw => crawlwaylaw05_alive_ok  _ ht16 w) ?_
            refine at_val rfl rfl rfl (r_pick rfl rfl rfl) ?_
            refine at_val rfl rfl rfl (r_assign rfl) ?_
            refine at_nil ?_
            refine at_drop (H := _) .z ?_
            refine at_drop (H := _) .z ?_
            refine at_weak [(2, _)] ⟨rfl, trivial⟩ ?_
            refine at_then_normal ?_
            refine at_ret ?_
            have K := of_some hF
            subst K
            exact at_return1 rfl rfl (fun w1 hw => ⟨rfl, hw.below⟩)
          · refine at_fix (g := 39) rfl h15 ?_
            refine at_guard_no rfl rfl rfl rfl rfl ?_
            refine at_val rfl rfl rfl (r_pick rfl rfl rfl) ?_
            refine at_val rfl rfl rfl (r_assign rfl) ?_
            refine at_nil ?_
            refine at_drop (H := _) .z ?_
            refine at_drop (H := _) .z ?_
            refine at_weak [(2, _)] ⟨rfl, trivial⟩ ?_
            refine at_then_normal ?_
            refine at_ret ?_
            have K := of_some hF
            subst K
            exact at_return1 rfl rfl (fun w1 hw => ⟨rfl, hw.below⟩)
      · refine at_fix (g := 29) rfl h11 ?_
        refine at_guard_no rfl rfl rfl rfl rfl ?_
        refine at_guard_no rfl rfl rfl rfl rfl ?_
        refine at_guard_no rfl rfl rfl rfl rfl ?_
        refine at_guard_undef rfl rfl rfl rfl ?_
        refine at_guard_undef rfl rfl rfl rfl ?_
        refine at_guard_undef rfl rfl rfl rfl ?_
        refine at_guard_undef rfl rfl rfl rfl ?_
        refine at_guard_no rfl rfl rfl rfl rfl ?_
        refine at_val rfl rfl rfl (r_pick rfl rfl rfl) ?_
        refine at_val rfl rfl rfl (r_move rfl) ?_
        refine at_guard_no rfl rfl rfl rfl rfl ?_
        refine at_val rfl rfl rfl (r_pick rfl rfl rfl) ?_
        refine at_val rfl rfl rfl (r_assign rfl) ?_
        refine at_nil ?_
        refine at_drop (H := _) .z ?_
        refine at_drop (H := _) .z ?_
        refine at_weak [(2, _)] ⟨rfl, trivial⟩ ?_
        refine at_then_normal ?_
        refine at_ret ?_
        have K := of_some hF
        subst K
        exact at_return1 rfl rfl (fun w1 hw => ⟨rfl, hw.below⟩)
    · refine at_fix (g := 24) rfl h10 ?_
      refine at_guard_no rfl rfl rfl rfl rfl ?_
      refine at_guard_no rfl rfl rfl rfl rfl ?_
      refine at_guard_no rfl rfl rfl rfl rfl ?_
      refine at_val rfl rfl rfl (r_pick rfl rfl rfl) ?_
      refine at_val rfl rfl rfl (r_move rfl) ?_
      refine at_guard_no rfl rfl rfl rfl rfl ?_
      refine at_guard_no rfl rfl rfl rfl rfl ?_
      refine at_guard_no rfl rfl rfl rfl rfl ?_
      refine at_guard_undef rfl rfl rfl rfl ?_
      refine at_guard_undef rfl rfl rfl rfl ?_
      refine at_guard_undef rfl rfl rfl rfl ?_
      refine at_guard_undef rfl rfl rfl rfl ?_
      refine at_guard_no rfl rfl rfl rfl rfl ?_
      refine at_val rfl rfl rfl (r_pick rfl rfl rfl) ?_
      refine at_val rfl rfl rfl (r_move rfl) ?_
      refine at_guard_no rfl rfl rfl rfl rfl ?_
      refine at_val rfl rfl rfl (r_pick rfl rfl rfl) ?_
      refine at_val rfl rfl rfl (r_assign rfl) ?_
      refine at_nil ?_
      refine at_drop (H := _) .z ?_
      refine at_drop (H := _) .z ?_
      refine at_weak [(2, _)] ⟨rfl, trivial⟩ ?_
      refine at_then_normal ?_
      refine at_ret ?_
      have K := of_some hF
      subst K
      exact at_return1 rfl rfl (fun w1 hw => ⟨rfl, hw.below⟩)
end Go.Proofs.Ytnojjenpggdadaa
