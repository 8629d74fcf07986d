/- Texts of this claim, those in one that belong together; printed by a program of this project. -/
import Derived.Test.YtkkmmpofdcccmaaGreatDoorProg
import Derived.Test.YtkkmmpofdcccmaaGreatDoorKFieldReads1
set_option linter.unusedVariables false
set_option linter.unusedSimpArgs false
namespace Go.Proofs.YtkkmmpofdcccmaaGreatDoor
open E Go.RowKit
theorem infoG43_is : (Tryz.prog.info? 3).isSome = true := by kernel_rfl
noncomputable def infoG43_v : TypeInfo := (Tryz.prog.info? 3).get infoG43_is
theorem infoG43 : Tryz.prog.info? 3 = some infoG43_v := (Option.some_get _).symm
def crawlwayref09_gap.l0 (x0 : ByteArray) (i2 : Int) : Option (Ctl (Int) (Unit)) :=
  if (decide (wr .i64 (i2 + 1) < (x0.size : Int))) = true then (if (0 : Int) ≤ i2 ∧ i2 < (x0.size : Int) then if (bt x0 i2 == 58) = true then (if (0 : Int) ≤ wr .i64 (i2 + 1) ∧ wr .i64 (i2 + 1) < (x0.size : Int) then if (bt x0 (wr .i64 (i2 + 1)) == 58) = true then (some (.ret i2)) else (crawlwayref09_gap.l0 x0 (wr .i64 (i2 + 1))) else none) else (crawlwayref09_gap.l0 x0 (wr .i64 (i2 + 1))) else none) else (some (.nx ()))
  partial_fixpoint
def crawlwayref09_gap (x0 : ByteArray) : Option (Int) :=
  crawlwayref09_gap.l0 x0 0 >>= fun q1 => match q1 with | .ret r' => some r' | .nx sq1 => (some (-1))
theorem crawlwayref09_gap_ok (x0 : ByteArray) (r : Int) (hF : crawlwayref09_gap x0 = some r) (w : World) :
    Calls Tryz.prog 164 #[.string x0] w (fun e w' => e = .returned (.int .i64 r) ∧ w' = w) := by
 unfold crawlwayref09_gap at hF
 refine calls_enter (l := [.string x0]) Tryz.func164 rfl rfl rfl ?_
 refine at_weak [(0, _)] ⟨rfl, trivial⟩ ?_
 refine sr ?_
 refine av rfl (r_assign rfl) ?_
 refine nwt [(0, _)] ⟨rfl, trivial⟩ ?_
 refine at_seq ?_
 refine sr ?_
 refine av rfl (r_assign rfl) ?_
 refine nwt [(0, _), (3, _)] ⟨rfl, rfl, trivial⟩ ?_
 refine at_block ?_
 obtain ⟨q1, hq1, hF⟩ := of_bindM hF
 refine at_weak [(0, _), (3, _)] ⟨rfl, rfl, trivial⟩ ?_
 refine at_loop_r (B := 0) (r := r) (q := q1) (A := fun (_ : Unit) Y => At 23 [] (fun w' => w' = w) Y) ?_ ?_
 ·intro K
  refine crawlwayref09_gap.l0.partial_correctness x0 (motive := fun i2 x => KR (fun (_ : Unit) Y => At 23 [] (fun w' => w' = w) Y) _ 0 r x → Round (fun Y => At 23 [(0, .string x0), (3, .int .i64 i2)] (fun w' => w' = w) Y) _ _ _) ?_ _ _ hq1 K
  ·clear K hF
   intro g ih i2 x hF K
   refine at_round ?_
   refine at_seq ?_
   refine sr ?_
   refine av rfl (r_move rfl) ?_
   refine av rfl (r_iadd rfl rfl) ?_
   refine av rfl (r_move rfl) ?_
   refine av rfl (r_len_str Tryz.underlying9 rfl) ?_
   refine av rfl (r_ilss rfl rfl) ?_
   refine nwt [(0, _), (3, _), (8, _)] ⟨rfl, rfl, rfl, trivial⟩ ?_
   rcases of_ite hF with ⟨h3, hF⟩ | ⟨h3, hF⟩
   ·refine at_cond_true rfl h3 ?_
    refine sn ?_
    refine at_seq ?_
    refine at_block ?_
    refine sr ?_
    refine av rfl (r_move rfl) ?_
    refine av rfl (r_move rfl) ?_
    obtain ⟨h4, hF⟩ := of_guard hF
    refine av rfl (r_index_str Tryz.underlying9 rfl rfl h4) ?_
    refine av rfl (r_ieql rfl rfl) ?_
    refine av rfl (r_move rfl) ?_
    rcases of_ite hF with ⟨h5, hF⟩ | ⟨h5, hF⟩
    ·refine at_fix (g := 15) rfl h5 ?_
     refine at_guard_yes rfl rfl rfl ?_
     refine av rfl (r_move rfl) ?_
     refine at_guard_yes rfl rfl rfl ?_
     refine av rfl (r_move rfl) ?_
     refine at_guard_yes rfl rfl rfl ?_
     refine av rfl (r_iadd rfl rfl) ?_
     refine at_guard_yes rfl rfl rfl ?_
     obtain ⟨h6, hF⟩ := of_guard hF
     refine av rfl (r_index_str Tryz.underlying9 rfl rfl h6) ?_
     refine at_guard_yes rfl rfl rfl ?_
     refine av rfl (r_ieql rfl rfl) ?_
     refine av rfl (r_pick rfl rfl rfl) ?_
     refine nwt [(0, _), (3, _), (21, _)] ⟨rfl, rfl, rfl, trivial⟩ ?_
     rcases of_ite hF with ⟨h7, hF⟩ | ⟨h7, hF⟩
     ·refine at_cond_true rfl h7 ?_
      refine sr ?_
      refine av rfl (r_move rfl) ?_
      refine av rfl (r_assign rfl) ?_
      refine nwt [(2, _)] ⟨rfl, trivial⟩ ?_
      refine at_ret ?_
      refine at_blk_ret (at_then_ret (at_then_ret (at_blk_ret (at_then_ret ?_))))
      obtain rfl := of_some hF
      subst K
      exact at_return1 rfl rfl (fun w1 hw => ⟨rfl, hw⟩)
     ·refine at_cond_false rfl h7 ?_
      refine at_skip ?_
      refine at_blk_normal (at_then_normal ?_)
      refine at_region ?_
      refine av rfl (r_move rfl) ?_
      refine av rfl (r_iadd rfl rfl) ?_
      refine av rfl (r_assign rfl) ?_
      refine nwt [(0, _), (3, _)] ⟨rfl, rfl, trivial⟩ ?_
      exact at_weak_k (ih _ _ hF K) ⟨rfl, rfl, trivial⟩
    ·refine at_fix (g := 15) rfl h5 ?_
     refine at_guard_no rfl rfl rfl rfl rfl ?_
     refine at_guard_no rfl rfl rfl rfl rfl ?_
     refine at_guard_no rfl rfl rfl rfl rfl ?_
     refine at_guard_no rfl rfl rfl rfl rfl ?_
     refine at_guard_no rfl rfl rfl rfl rfl ?_
     refine av rfl (r_pick rfl rfl rfl) ?_
     refine nwt [(0, _), (3, _), (21, _)] ⟨rfl, rfl, rfl, trivial⟩ ?_
     refine at_cond_false rfl rfl ?_
     refine at_skip ?_
     refine at_blk_normal (at_then_normal ?_)
     refine at_region ?_
     refine av rfl (r_move rfl) ?_
     refine av rfl (r_iadd rfl rfl) ?_
     refine av rfl (r_assign rfl) ?_
     refine nwt [(0, _), (3, _)] ⟨rfl, rfl, trivial⟩ ?_
     exact at_weak_k (ih _ _ hF K) ⟨rfl, rfl, trivial⟩
   ·refine at_cond_false rfl h3 ?_
    refine at_exit ?_
    refine at_then_exit (at_then_exit ?_)
    obtain rfl := of_some hF
    exact at_weak_k K trivial
 ·cases q1 with
  | ret r' => exact of_some hF
  | nx sq1 =>
   skip
   refine at_blk_same ?_
   refine at_then_normal ?_
   refine sr ?_
   refine av rfl (r_assign rfl) ?_
   refine nwt [(2, _)] ⟨rfl, trivial⟩ ?_
   refine at_ret ?_
   have K := of_some hF
   subst K
   exact at_return1 rfl rfl (fun w1 hw => ⟨rfl, hw⟩)
def crawlwayref05_digit (x0 : Int) : Option (ByteArray) :=
  if (0 : Int) ≤ x0 ∧ x0 ≤ wr .i64 (x0 + 1) ∧ wr .i64 (x0 + 1) ≤ ((⟨#[48, 49, 50, 51, 52, 53, 54, 55, 56, 57, 97, 98, 99, 100, 101, 102]⟩ : ByteArray).size : Int) then some ((⟨#[48, 49, 50, 51, 52, 53, 54, 55, 56, 57, 97, 98, 99, 100, 101, 102]⟩ : ByteArray).extract (Int.toNat x0) (Int.toNat (wr .i64 (x0 + 1)))) else none
theorem crawlwayref05_digit_ok (x0 : Int) (r : ByteArray) (hF : crawlwayref05_digit x0 = some r) (w : World) :
    Calls Tryz.prog 88 #[.int .i64 x0] w (fun e w' => e = .returned (.string r) ∧ w' = w) := by
 unfold crawlwayref05_digit at hF
 refine calls_enter (l := [.int .i64 x0]) Tryz.func88 rfl rfl rfl ?_
 refine at_weak [(0, _)] ⟨rfl, trivial⟩ ?_
 refine sr ?_
 refine av rfl (r_assign rfl) ?_
 refine nws [(0, _)] ⟨rfl, trivial⟩ ?_
 refine av rfl (r_move rfl) ?_
 refine av rfl (r_move rfl) ?_
 refine av rfl (r_iadd rfl rfl) ?_
 obtain ⟨h1, hF⟩ := of_guard hF
 refine av rfl (r_slice_str Tryz.underlying9 rfl ⟨_, rfl⟩ ⟨_, rfl⟩ h1) ?_
 refine av rfl (r_assign rfl) ?_
 refine nwt [(2, _)] ⟨rfl, trivial⟩ ?_
 refine at_ret ?_
 have K := of_some hF
 subst K
 exact at_return1 rfl rfl (fun w1 hw => ⟨rfl, hw⟩)
def crawlwayref05_Value.l0 (x0 : Int) (x1 : Bool) (i2 : Int) : Option (Ctl (Int) (Unit)) :=
  if (decide (i2 < 16)) = true then (crawlwayref05_digit i2 >>= fun t4 => if (0 : Int) ≤ 0 ∧ 0 < (t4.size : Int) then if (bt t4 0 == x0) = true then (some (.ret i2)) else (if x1 = true then (if (decide (i2 > 9)) = true then (crawlwayref05_digit i2 >>= fun t9 => if (0 : Int) ≤ 0 ∧ 0 < (t9.size : Int) then if (bt t9 0 == wr .u8 (x0 + 32)) = true then (some (.ret i2)) else (crawlwayref05_Value.l0 x0 x1 (wr .i64 (i2 + 1))) else none) else (crawlwayref05_Value.l0 x0 x1 (wr .i64 (i2 + 1)))) else (crawlwayref05_Value.l0 x0 x1 (wr .i64 (i2 + 1)))) else none) else (some (.nx ()))
  partial_fixpoint
def crawlwayref05_Value (x0 : Int) (x1 : Bool) : Option (Int) :=
  crawlwayref05_Value.l0 x0 x1 0 >>= fun q1 => match q1 with | .ret r' => some r' | .nx sq1 => (some (-1))
theorem crawlwayref05_Value_ok (x0 : Int) (x1 : Bool) (r : Int) (hF : crawlwayref05_Value x0 x1 = some r) (w : World) :
    Calls Tryz.prog 118 #[.int .u8 x0, .bool x1] w (fun e w' => e = .returned (.int .i64 r) ∧ w' = w) := by
 unfold crawlwayref05_Value at hF
 refine calls_enter (l := [.int .u8 x0, .bool x1]) Tryz.func118 rfl rfl rfl ?_
 refine at_weak [(0, _), (1, _)] ⟨rfl, rfl, trivial⟩ ?_
 refine sr ?_
 refine av rfl (r_assign rfl) ?_
 refine nwt [(0, _), (1, _)] ⟨rfl, rfl, trivial⟩ ?_
 refine at_seq ?_
 refine sr ?_
 refine av rfl (r_assign rfl) ?_
 refine nwt [(0, _), (1, _), (5, _)] ⟨rfl, rfl, rfl, trivial⟩ ?_
 refine at_block ?_
 obtain ⟨q1, hq1, hF⟩ := of_bindM hF
 refine at_weak [(0, _), (1, _), (5, _)] ⟨rfl, rfl, rfl, trivial⟩ ?_
 refine at_loop_r (B := 0) (r := r) (q := q1) (A := fun (_ : Unit) Y => At 31 [] (fun w' => w' = w) Y) ?_ ?_
 ·intro K
  refine crawlwayref05_Value.l0.partial_correctness x0 x1 (motive := fun i2 x => KR (fun (_ : Unit) Y => At 31 [] (fun w' => w' = w) Y) _ 0 r x → Round (fun Y => At 31 [(0, .int .u8 x0), (1, .bool x1), (5, .int .i64 i2)] (fun w' => w' = w) Y) _ _ _) ?_ _ _ hq1 K
  ·clear K hF
   intro g ih i2 x hF K
   refine at_round ?_
   refine at_seq ?_
   refine sr ?_
   refine av rfl (r_move rfl) ?_
   refine av rfl (r_ilss rfl rfl) ?_
   refine nwt [(0, _), (1, _), (5, _), (7, _)] ⟨rfl, rfl, rfl, rfl, trivial⟩ ?_
   rcases of_ite hF with ⟨h3, hF⟩ | ⟨h3, hF⟩
   ·refine at_cond_true rfl h3 ?_
    refine sn ?_
    refine at_seq ?_
    refine at_block ?_
    refine sr ?_
    refine av rfl (r_move rfl) ?_
    obtain ⟨t4, ht4, hF⟩ := of_bindM hF
    refine at_call0 Tryz.func88 rfl (by kernel_rfl) rfl rfl (fun w => crawlwayref05_digit_ok _ _ ht4 w) ?_
    obtain ⟨h5, hF⟩ := of_guard hF
    refine av rfl (r_index_str Tryz.underlying9 rfl rfl h5) ?_
    refine av rfl (r_move rfl) ?_
    refine av rfl (r_ieql rfl rfl) ?_
    refine av rfl (r_move rfl) ?_
    rcases of_ite hF with ⟨h6, hF⟩ | ⟨h6, hF⟩
    ·refine at_fix (g := 15) rfl h6 ?_
     refine at_guard_no rfl rfl rfl rfl rfl ?_
     refine at_guard_no rfl rfl rfl rfl rfl ?_
     refine at_guard_undef rfl rfl rfl rfl ?_
     refine at_guard_undef rfl rfl rfl rfl ?_
     refine at_guard_no rfl rfl rfl rfl rfl ?_
     refine at_guard_no rfl rfl rfl rfl rfl ?_
     refine at_guard_undef rfl rfl rfl rfl ?_
     refine at_guard_undef rfl rfl rfl rfl ?_
     refine at_guard_undef rfl rfl rfl rfl ?_
     refine at_guard_undef rfl rfl rfl rfl ?_
     refine at_guard_undef rfl rfl rfl rfl ?_
     refine at_guard_undef rfl rfl rfl rfl ?_
     refine at_guard_no rfl rfl rfl rfl rfl ?_
     refine av rfl (r_pick rfl rfl rfl) ?_
     refine nwt [(0, _), (1, _), (5, _), (29, _)] ⟨rfl, rfl, rfl, rfl, trivial⟩ ?_
     refine at_cond_true rfl rfl ?_
     refine sr ?_
     refine av rfl (r_move rfl) ?_
     refine av rfl (r_assign rfl) ?_
     refine nwt [(4, _)] ⟨rfl, trivial⟩ ?_
     refine at_ret ?_
     refine at_blk_ret (at_then_ret (at_then_ret (at_blk_ret (at_then_ret ?_))))
     obtain rfl := of_some hF
     subst K
     exact at_return1 rfl rfl (fun w1 hw => ⟨rfl, hw⟩)
    ·refine at_fix (g := 15) rfl h6 ?_
     refine at_guard_yes rfl rfl rfl ?_
     refine av rfl (r_move rfl) ?_
     refine at_guard_yes rfl rfl rfl ?_
     refine av rfl (r_move rfl) ?_
     rcases of_ite hF with ⟨h7, hF⟩ | ⟨h7, hF⟩
     ·refine at_fix (g := 17) rfl h7 ?_
      refine at_guard_yes rfl rfl rfl ?_
      refine av rfl (r_move rfl) ?_
      refine at_guard_yes rfl rfl rfl ?_
      refine av rfl (r_igtr rfl rfl) ?_
      refine at_guard_yes rfl rfl rfl ?_
      refine av rfl (r_pick rfl rfl rfl) ?_
      refine at_guard_yes rfl rfl rfl ?_
      refine av rfl (r_move rfl) ?_
      rcases of_ite hF with ⟨h8, hF⟩ | ⟨h8, hF⟩
      ·refine at_fix (g := 21) rfl h8 ?_
       refine at_guard_yes rfl rfl rfl ?_
       refine av rfl (r_move rfl) ?_
       refine at_guard_yes rfl rfl rfl ?_
       obtain ⟨t9, ht9, hF⟩ := of_bindM hF
       refine at_call0 Tryz.func88 rfl (by kernel_rfl) rfl rfl (fun w => crawlwayref05_digit_ok _ _ ht9 w) ?_
       refine at_guard_yes rfl rfl rfl ?_
       obtain ⟨h10, hF⟩ := of_guard hF
       refine av rfl (r_index_str Tryz.underlying9 rfl rfl h10) ?_
       refine at_guard_yes rfl rfl rfl ?_
       refine av rfl (r_move rfl) ?_
       refine at_guard_yes rfl rfl rfl ?_
       refine av rfl (r_iadd rfl rfl) ?_
       refine at_guard_yes rfl rfl rfl ?_
       refine av rfl (r_ieql rfl rfl) ?_
       refine at_guard_yes rfl rfl rfl ?_
       refine av rfl (r_pick rfl rfl rfl) ?_
       refine av rfl (r_pick rfl rfl rfl) ?_
       refine nwt [(0, _), (1, _), (5, _), (29, _)] ⟨rfl, rfl, rfl, rfl, trivial⟩ ?_
       rcases of_ite hF with ⟨h11, hF⟩ | ⟨h11, hF⟩
       ·refine at_cond_true rfl h11 ?_
        refine sr ?_
        refine av rfl (r_move rfl) ?_
        refine av rfl (r_assign rfl) ?_
        refine nwt [(4, _)] ⟨rfl, trivial⟩ ?_
        refine at_ret ?_
        refine at_blk_ret (at_then_ret (at_then_ret (at_blk_ret (at_then_ret ?_))))
        obtain rfl := of_some hF
        subst K
        exact at_return1 rfl rfl (fun w1 hw => ⟨rfl, hw⟩)
       ·refine at_cond_false rfl h11 ?_
        refine at_skip ?_
        refine at_blk_normal (at_then_normal ?_)
        refine at_region ?_
        refine av rfl (r_move rfl) ?_
        refine av rfl (r_iadd rfl rfl) ?_
        refine av rfl (r_assign rfl) ?_
        refine nwt [(0, _), (1, _), (5, _)] ⟨rfl, rfl, rfl, trivial⟩ ?_
        exact at_weak_k (ih _ _ hF K) ⟨rfl, rfl, rfl, trivial⟩
      ·refine at_fix (g := 21) rfl h8 ?_
       refine at_guard_no rfl rfl rfl rfl rfl ?_
       refine at_guard_no rfl rfl rfl rfl rfl ?_
       refine at_guard_no rfl rfl rfl rfl rfl ?_
       refine at_guard_no rfl rfl rfl rfl rfl ?_
       refine at_guard_no rfl rfl rfl rfl rfl ?_
       refine at_guard_no rfl rfl rfl rfl rfl ?_
       refine at_guard_yes rfl rfl rfl ?_
       refine av rfl (r_pick rfl rfl rfl) ?_
       refine av rfl (r_pick rfl rfl rfl) ?_
       refine nwt [(0, _), (1, _), (5, _), (29, _)] ⟨rfl, rfl, rfl, rfl, trivial⟩ ?_
       refine at_cond_false rfl rfl ?_
       refine at_skip ?_
       refine at_blk_normal (at_then_normal ?_)
       refine at_region ?_
       refine av rfl (r_move rfl) ?_
       refine av rfl (r_iadd rfl rfl) ?_
       refine av rfl (r_assign rfl) ?_
       refine nwt [(0, _), (1, _), (5, _)] ⟨rfl, rfl, rfl, trivial⟩ ?_
       exact at_weak_k (ih _ _ hF K) ⟨rfl, rfl, rfl, trivial⟩
     ·refine at_fix (g := 17) rfl h7 ?_
      refine at_guard_no rfl rfl rfl rfl rfl ?_
      refine at_guard_no rfl rfl rfl rfl rfl ?_
      refine at_guard_yes rfl rfl rfl ?_
      refine av rfl (r_pick rfl rfl rfl) ?_
      refine at_guard_yes rfl rfl rfl ?_
      refine av rfl (r_move rfl) ?_
      refine at_guard_no rfl rfl rfl rfl rfl ?_
      refine at_guard_no rfl rfl rfl rfl rfl ?_
      refine at_guard_no rfl rfl rfl rfl rfl ?_
      refine at_guard_no rfl rfl rfl rfl rfl ?_
      refine at_guard_no rfl rfl rfl rfl rfl ?_
      refine at_guard_no rfl rfl rfl rfl rfl ?_
      refine at_guard_yes rfl rfl rfl ?_
      refine av rfl (r_pick rfl rfl rfl) ?_
      refine av rfl (r_pick rfl rfl rfl) ?_
      refine nwt [(0, _), (1, _), (5, _), (29, _)] ⟨rfl, rfl, rfl, rfl, trivial⟩ ?_
      refine at_cond_false rfl rfl ?_
      refine at_skip ?_
      refine at_blk_normal (at_then_normal ?_)
      refine at_region ?_
      refine av rfl (r_move rfl) ?_
      refine av rfl (r_iadd rfl rfl) ?_
      refine av rfl (r_assign rfl) ?_
      refine nwt [(0, _), (1, _), (5, _)] ⟨rfl, rfl, rfl, trivial⟩ ?_
      exact at_weak_k (ih _ _ hF K) ⟨rfl, rfl, rfl, trivial⟩
   ·refine at_cond_false rfl h3 ?_
    refine at_exit ?_
    refine at_then_exit (at_then_exit ?_)
    obtain rfl := of_some hF
    exact at_weak_k K trivial
 ·cases q1 with
  | ret r' => exact of_some hF
  | nx sq1 =>
   skip
   refine at_blk_same ?_
   refine at_then_normal ?_
   refine sr ?_
   refine av rfl (r_assign rfl) ?_
   refine nwt [(4, _)] ⟨rfl, trivial⟩ ?_
   refine at_ret ?_
   have K := of_some hF
   subst K
   exact at_return1 rfl rfl (fun w1 hw => ⟨rfl, hw⟩)
def crawlwayref05_ReadGroup.l0 (x0 : ByteArray) (i4 : Int) (i5 : Int) : Option (Ctl (Int) (Int)) :=
  if (decide (i5 < (x0.size : Int))) = true then (if (0 : Int) ≤ i5 ∧ i5 < (x0.size : Int) then crawlwayref05_Value (bt x0 i5) true >>= fun t8 => if (decide (t8 < 0)) = true then (some (.ret (-1))) else (crawlwayref05_ReadGroup.l0 x0 (wr .i64 ((wr .i64 (16 * i4)) + t8)) (wr .i64 (i5 + 1))) else none) else (some (.nx i4))
  partial_fixpoint
def crawlwayref05_ReadGroup (x0 : ByteArray) : Option (Int) :=
  if (decide ((x0.size : Int) < 1)) = true then (some (-1)) else (if (decide ((x0.size : Int) > 4)) = true then (some (-1)) else (crawlwayref05_ReadGroup.l0 x0 0 0 >>= fun q3 => match q3 with | .ret r' => some r' | .nx sq3 => (some sq3)))
theorem crawlwayref05_ReadGroup_ok (x0 : ByteArray) (r : Int) (hF : crawlwayref05_ReadGroup x0 = some r) (w : World) :
    Calls Tryz.prog 189 #[.string x0] w (fun e w' => e = .returned (.int .i64 r) ∧ w' = w) := by
 unfold crawlwayref05_ReadGroup at hF
 refine calls_enter (l := [.string x0]) Tryz.func189 rfl rfl rfl ?_
 refine at_weak [(0, _)] ⟨rfl, trivial⟩ ?_
 refine sr ?_
 refine av rfl (r_assign rfl) ?_
 refine nwt [(0, _)] ⟨rfl, trivial⟩ ?_
 refine at_seq ?_
 refine sr ?_
 refine av rfl (r_move rfl) ?_
 refine av rfl (r_len_str Tryz.underlying9 rfl) ?_
 refine av rfl (r_ilss rfl rfl) ?_
 refine av rfl (r_move rfl) ?_
 rcases of_ite hF with ⟨h1, hF⟩ | ⟨h1, hF⟩
 ·refine at_fix (g := 9) rfl h1 ?_
  refine at_guard_no rfl rfl rfl rfl rfl ?_
  refine at_guard_no rfl rfl rfl rfl rfl ?_
  refine at_guard_no rfl rfl rfl rfl rfl ?_
  refine av rfl (r_pick rfl rfl rfl) ?_
  refine nwt [(0, _), (13, _)] ⟨rfl, rfl, trivial⟩ ?_
  refine at_cond_true rfl rfl ?_
  refine sr ?_
  refine av rfl (r_assign rfl) ?_
  refine nwt [(2, _)] ⟨rfl, trivial⟩ ?_
  refine rt ?_
  have K := of_some hF
  subst K
  exact at_return1 rfl rfl (fun w1 hw => ⟨rfl, hw⟩)
 ·refine at_fix (g := 9) rfl h1 ?_
  refine at_guard_yes rfl rfl rfl ?_
  refine av rfl (r_move rfl) ?_
  refine at_guard_yes rfl rfl rfl ?_
  refine av rfl (r_len_str Tryz.underlying9 rfl) ?_
  refine at_guard_yes rfl rfl rfl ?_
  refine av rfl (r_igtr rfl rfl) ?_
  refine av rfl (r_pick rfl rfl rfl) ?_
  refine nwt [(0, _), (13, _)] ⟨rfl, rfl, trivial⟩ ?_
  rcases of_ite hF with ⟨h2, hF⟩ | ⟨h2, hF⟩
  ·refine at_cond_true rfl h2 ?_
   refine sr ?_
   refine av rfl (r_assign rfl) ?_
   refine nwt [(2, _)] ⟨rfl, trivial⟩ ?_
   refine rt ?_
   have K := of_some hF
   subst K
   exact at_return1 rfl rfl (fun w1 hw => ⟨rfl, hw⟩)
  ·refine at_cond_false rfl h2 ?_
   refine sns ?_
   refine av rfl (r_assign rfl) ?_
   refine nwt [(0, _), (3, _)] ⟨rfl, rfl, trivial⟩ ?_
   refine at_seq ?_
   refine sr ?_
   refine av rfl (r_assign rfl) ?_
   refine nwt [(0, _), (3, _), (4, _)] ⟨rfl, rfl, rfl, trivial⟩ ?_
   refine at_block ?_
   obtain ⟨q3, hq3, hF⟩ := of_bindM hF
   refine at_weak [(0, _), (3, _), (4, _)] ⟨rfl, rfl, rfl, trivial⟩ ?_
   refine at_loop_r (B := 0) (r := r) (q := q3) (A := fun sq3 Y => At 31 [(3, .int .i64 sq3)] (fun w' => w' = w) Y) ?_ ?_
   ·intro K
    refine crawlwayref05_ReadGroup.l0.partial_correctness x0 (motive := fun i4 i5 x => KR (fun sq3 Y => At 31 [(3, .int .i64 sq3)] (fun w' => w' = w) Y) _ 0 r x → Round (fun Y => At 31 [(0, .string x0), (3, .int .i64 i4), (4, .int .i64 i5)] (fun w' => w' = w) Y) _ _ _) ?_ _ _ _ hq3 K
    ·clear K hF
     intro g ih i4 i5 x hF K
     refine at_round ?_
     refine at_seq ?_
     refine sr ?_
     refine av rfl (r_move rfl) ?_
     refine av rfl (r_move rfl) ?_
     refine av rfl (r_len_str Tryz.underlying9 rfl) ?_
     refine av rfl (r_ilss rfl rfl) ?_
     refine nwt [(0, _), (3, _), (4, _), (17, _)] ⟨rfl, rfl, rfl, rfl, trivial⟩ ?_
     rcases of_ite hF with ⟨h6, hF⟩ | ⟨h6, hF⟩
     ·refine at_cond_true rfl h6 ?_
      refine sn ?_
      refine at_seq ?_
      refine at_block ?_
      refine sr ?_
      refine av rfl (r_move rfl) ?_
      refine av rfl (r_move rfl) ?_
      obtain ⟨h7, hF⟩ := of_guard hF
      refine av rfl (r_index_str Tryz.underlying9 rfl rfl h7) ?_
      obtain ⟨t8, ht8, hF⟩ := of_bindM hF
      refine at_call0 Tryz.func118 rfl (by kernel_rfl) rfl rfl (fun w => crawlwayref05_Value_ok _ _ _ ht8 w) ?_
      refine av rfl (r_assign rfl) ?_
      refine nwt [(0, _), (3, _), (4, _), (5, _)] ⟨rfl, rfl, rfl, rfl, trivial⟩ ?_
      refine at_seq ?_
      refine sr ?_
      refine av rfl (r_move rfl) ?_
      refine av rfl (r_ilss rfl rfl) ?_
      refine nwt [(0, _), (3, _), (4, _), (5, _), (25, _)] ⟨rfl, rfl, rfl, rfl, rfl, trivial⟩ ?_
      rcases of_ite hF with ⟨h9, hF⟩ | ⟨h9, hF⟩
      ·refine at_cond_true rfl h9 ?_
       refine sr ?_
       refine av rfl (r_assign rfl) ?_
       refine nwt [(2, _)] ⟨rfl, trivial⟩ ?_
       refine at_ret ?_
       refine at_then_ret (at_blk_ret (at_then_ret (at_then_ret (at_blk_ret (at_then_ret ?_)))))
       obtain rfl := of_some hF
       subst K
       exact at_return1 rfl rfl (fun w1 hw => ⟨rfl, hw⟩)
      ·refine at_cond_false rfl h9 ?_
       refine sn ?_
       refine at_region ?_
       refine av rfl (r_move rfl) ?_
       refine av rfl (r_imul rfl rfl) ?_
       refine av rfl (r_move rfl) ?_
       refine av rfl (r_iadd rfl rfl) ?_
       refine av rfl (r_assign rfl) ?_
       refine at_nil ?_
       refine at_weak [(0, _), (3, _), (4, _)] ⟨rfl, rfl, rfl, trivial⟩ ?_
       refine at_blk_normal (at_then_normal ?_)
       refine at_region ?_
       refine av rfl (r_move rfl) ?_
       refine av rfl (r_iadd rfl rfl) ?_
       refine av rfl (r_assign rfl) ?_
       refine nwt [(0, _), (3, _), (4, _)] ⟨rfl, rfl, rfl, trivial⟩ ?_
       exact at_weak_k (ih _ _ _ hF K) ⟨rfl, rfl, rfl, trivial⟩
     ·refine at_cond_false rfl h6 ?_
      refine at_exit ?_
      refine at_then_exit (at_then_exit ?_)
      obtain rfl := of_some hF
      exact at_weak_k K ⟨rfl, trivial⟩
   ·cases q3 with
    | ret r' => exact of_some hF
    | nx sq3 =>
     skip
     refine at_blk_same ?_
     refine at_then_normal ?_
     refine sr ?_
     refine av rfl (r_move rfl) ?_
     refine av rfl (r_assign rfl) ?_
     refine nwt [(2, _)] ⟨rfl, trivial⟩ ?_
     refine at_ret ?_
     have K := of_some hF
     subst K
     exact at_return1 rfl rfl (fun w1 hw => ⟨rfl, hw⟩)
def crawlwayref09_list.l0 (x1 : Bool) (t2 : List ByteArray) (i8 : List Int) (i9 : Int) : Option (Ctl (List Int × Bool) (List Int)) :=
  if (decide (i9 < (t2.length : Int))) = true then (if (0 : Int) ≤ i9 ∧ i9 < (t2.length : Int) then crawlwayref05_ReadGroup (lget t2 i9) >>= fun t19 => if (decide (t19 ≥ 0)) = true then (if (i8.length + 1) * 8 ≤ 140737488355328 then crawlwayref09_list.l0 x1 t2 (i8 ++ [t19]) (wr .i64 (i9 + 1)) else none) else (if (0 : Int) ≤ i9 ∧ i9 < (t2.length : Int) then crawlwayref08_Parse (lget t2 i9) >>= fun t29 => if (t29.2 != 0) = true then (some (.ret ([], false))) else (if (!x1) = true then (some (.ret ([], false))) else (if (decide (i9 < wr .i64 ((t2.length : Int) - 1))) = true then (some (.ret ([], false))) else (if (i8.length + 2) * 8 ≤ 140737488355328 then crawlwayref09_list.l0 x1 t2 (i8 ++ [wr .i64 ((wr .i64 (256 * (wr .i64 (vget t29.1 0)))) + (wr .i64 (vget t29.1 1))), wr .i64 ((wr .i64 (256 * (wr .i64 (vget t29.1 2)))) + (wr .i64 (vget t29.1 3)))]) (wr .i64 (i9 + 1)) else none))) else none) else none) else (some (.nx i8))
  partial_fixpoint
def crawlwayref09_list (x0 : ByteArray) (x1 : Bool) : Option (List Int × Bool) :=
  if (seq x0 (⟨#[]⟩ : ByteArray)) = true then (some ([], true)) else (crawlwayref06_Parts x0 58 >>= fun t2 => crawlwayref09_list.l0 x1 t2 ([] : List Int) 0 >>= fun q7 => match q7 with | .ret r' => some r' | .nx sq7 => (some (sq7, true)))
theorem crawlwayref09_list_ok (x0 : ByteArray) (x1 : Bool) (r : List Int × Bool) (hF : crawlwayref09_list x0 x1 = some r) (w : World) :
    Calls Tryz.prog 165 #[.string x0, .bool x1] w (fun e w' => ∃ p cap, e = .returned (.tuple #[.slice p r.1.length cap, .bool r.2]) ∧ Own (cInt .i64) 3 w.heap.size w' p cap r.1 ∧ Below w.heap.size w w') := by
 unfold crawlwayref09_list at hF
 refine calls_enter (l := [.string x0, .bool x1]) Tryz.func165 rfl rfl rfl ?_
 refine at_start ?_
 refine at_weak [(0, _), (1, _)] ⟨rfl, rfl, trivial⟩ ?_
 refine sr ?_
 refine av rfl (r_assign rfl) ?_
 refine av rfl (r_assign rfl) ?_
 refine nwt [(0, _), (1, _)] ⟨rfl, rfl, trivial⟩ ?_
 refine at_seq ?_
 refine sr ?_
 refine av rfl (r_move rfl) ?_
 refine av rfl (r_seql rfl rfl) ?_
 refine nwt [(0, _), (1, _), (13, _)] ⟨rfl, rfl, rfl, trivial⟩ ?_
 rcases of_ite hF with ⟨h1, hF⟩ | ⟨h1, hF⟩
 ·refine at_cond_true rfl h1 ?_
  refine sr ?_
  refine av rfl (r_assign rfl) ?_
  refine av rfl (r_assign rfl) ?_
  refine nwt [(4, _), (5, _)] ⟨rfl, rfl, trivial⟩ ?_
  refine rt ?_
  have K := of_some hF
  subst K
  exact at_return2 rfl rfl rfl (fun w1 hw => ⟨none, 0, rfl, Own.nil _ _ _ _, hw.below⟩)
 ·refine at_cond_false rfl h1 ?_
  refine sns ?_
  refine av rfl (r_assign rfl) ?_
  refine nws [(0, _), (1, _), (6, _)] ⟨rfl, rfl, rfl, trivial⟩ ?_
  refine av rfl (r_move rfl) ?_
  obtain ⟨t2, ht2, hF⟩ := of_bindM hF
  refine at_callO (c := cStr) (e := 9) (ys := t2) (V := fun p cap => .slice p t2.length cap) Tryz.func56 rfl (by kernel_rfl) rfl rfl (fun w hw => crawlwayref06_Parts_ok _ _ _ ht2 w) ?_
  intro p3 c4
  refine av rfl (r_assign rfl) ?_
  refine nwt [(1, _), (6, _), (7, _)] ⟨rfl, rfl, rfl, trivial⟩ ?_
  refine at_seq ?_
  refine sr ?_
  refine av rfl (r_assign rfl) ?_
  refine nwt [(1, _), (6, _), (7, _), (8, _)] ⟨rfl, rfl, rfl, rfl, trivial⟩ ?_
  refine at_block ?_
  refine at_own_nil (cInt .i64) 3 ?_
  refine at_weak [(1, _), (6, .slice none ([] : List Int).length 0), (7, _), (8, _)] ⟨rfl, rfl, rfl, rfl, trivial⟩ ?_
  obtain ⟨q7, hq7, hF⟩ := of_bindM hF
  refine at_weak [(1, _), (6, _), (7, _), (8, _)] ⟨rfl, rfl, rfl, rfl, trivial⟩ ?_
  refine at_loop_r (B := 0) (r := r) (q := q7) (A := fun sq7 Y => ∀ (p12 : Option Addr) (c13 : Nat), At 74 [(6, .slice p12 sq7.length c13)] (Wd w [rowE (cInt .i64) 3 p12 c13 sq7]) Y) ?_ ?_
  ·intro K
   refine crawlwayref09_list.l0.partial_correctness x1 t2 (motive := fun i8 i9 x => KR (fun sq7 Y => ∀ (p12 : Option Addr) (c13 : Nat), At 74 [(6, .slice p12 sq7.length c13)] (Wd w [rowE (cInt .i64) 3 p12 c13 sq7]) Y) _ 0 r x → Round (fun Y => ∀ (p10 : Option Addr) (c11 : Nat), At 74 [(1, .bool x1), (6, .slice p10 i8.length c11), (7, .slice p3 t2.length c4), (8, .int .i64 i9)] (Wd w [rowE (cInt .i64) 3 p10 c11 i8, rowE cStr 9 p3 c4 t2]) Y) _ _ _) ?_ _ _ _ hq7 K none 0
   ·clear K hF
    intro g ih i8 i9 x hF K p10 c11
    refine at_round ?_
    refine at_seq ?_
    refine sr ?_
    refine av rfl (r_move rfl) ?_
    refine av rfl (r_move rfl) ?_
    refine av rfl (r_len_sl Tryz.underlying38 rfl) ?_
    refine av rfl (r_ilss rfl rfl) ?_
    refine nwt [(1, _), (6, _), (7, _), (8, _), (19, _)] ⟨rfl, rfl, rfl, rfl, rfl, trivial⟩ ?_
    rcases of_ite hF with ⟨h14, hF⟩ | ⟨h14, hF⟩
    ·refine at_cond_true rfl h14 ?_
     refine sn ?_
     refine at_seq ?_
     refine at_block ?_
     refine sr ?_
     refine av rfl (r_move rfl) ?_
     refine av rfl (r_move rfl) ?_
     obtain ⟨h15, hF⟩ := of_guard hF
     refine at_pure (φ := ∃ b o, p3 = some ⟨b, o, none⟩) (fun _ hw => row_ptr (hw.own (.s .z)).row h15) ?_
     rintro ⟨b17, o18, hp16⟩
     refine av rfl (r_idx Tryz.underlying38 Tryz.sizeOf9 rfl rfl h15 hp16) ?_
     refine av rfl (r_load_cell Tryz.isAgg9 rfl (fun _ hw => row_cell0 (W := fun w1 => w1 = _) (fun w1 h => by subst h; exact Below.refl _ _) (hw.own (.s .z)).row h15 hp16 rfl _ rfl)) ?_
     obtain ⟨t19, ht19, hF⟩ := of_bindM hF
     refine at_call0 Tryz.func189 rfl (by kernel_rfl) rfl rfl (fun w => crawlwayref05_ReadGroup_ok _ _ ht19 w) ?_
     refine av rfl (r_assign rfl) ?_
     refine nwt [(1, _), (6, _), (7, _), (8, _), (9, _)] ⟨rfl, rfl, rfl, rfl, rfl, trivial⟩ ?_
     refine at_seq ?_
     refine sr ?_
     refine av rfl (r_move rfl) ?_
     refine av rfl (r_igeq rfl rfl) ?_
     refine nwt [(1, _), (6, _), (7, _), (8, _), (9, _), (28, _)] ⟨rfl, rfl, rfl, rfl, rfl, rfl, trivial⟩ ?_
     rcases of_ite hF with ⟨h20, hF⟩ | ⟨h20, hF⟩
     ·refine at_cond_true rfl h20 ?_
      refine sr ?_
      refine av rfl (r_move rfl) ?_
      refine av rfl (r_move rfl) ?_
      refine at_lit (cs := (cInt .i64).all ([t19] : List Int)) Tryz.underlying112 Tryz.sizeOf3 Tryz.zeroValue3 rfl rfl rfl (by kernel_rfl) rfl ?_
      intro b21
      obtain ⟨h22, hF⟩ := of_guard hF
      refine at_append (z := .int .i64 0) (c := (cInt .i64)) (ys := ([t19] : List Int)) (.s .z) Tryz.underlying112 infoG43 (by kernel_rfl) (by kernel_rfl) rfl rfl rfl rfl (fun _ hw => cells_src (hw.ok (Upd.mem .z))) (by kernel_rfl) h22 (app_small h22) rfl ?_
      intro p23 c24
      refine av rfl (r_assign rfl) ?_
      refine at_nil ?_
      refine at_drop (H := _) .z ?_
      refine at_weak [(1, _), (6, _), (7, _), (8, _)] ⟨rfl, rfl, rfl, rfl, trivial⟩ ?_
      refine at_then_normal ?_
      refine at_exit ?_
      refine at_then_exit (at_blk_same (at_then_normal ?_))
      refine at_region ?_
      refine av rfl (r_move rfl) ?_
      refine av rfl (r_iadd rfl rfl) ?_
      refine av rfl (r_assign rfl) ?_
      refine nwt [(1, _), (6, _), (7, _), (8, _)] ⟨rfl, rfl, rfl, rfl, trivial⟩ ?_
      exact at_weak_k (ih _ _ _ hF K p23 c24) ⟨rfl, rfl, rfl, rfl, trivial⟩
     ·refine at_cond_false rfl h20 ?_
      refine sns ?_
      refine av rfl (r_move rfl) ?_
      refine av rfl (r_move rfl) ?_
      obtain ⟨h25, hF⟩ := of_guard hF
      refine at_pure (φ := ∃ b o, p3 = some ⟨b, o, none⟩) (fun _ hw => row_ptr (hw.own (.s .z)).row h25) ?_
      rintro ⟨b27, o28, hp26⟩
      refine av rfl (r_idx Tryz.underlying38 Tryz.sizeOf9 rfl rfl h25 hp26) ?_
      refine av rfl (r_load_cell Tryz.isAgg9 rfl (fun _ hw => row_cell0 (W := fun w1 => w1 = _) (fun w1 h => by subst h; exact Below.refl _ _) (hw.own (.s .z)).row h25 hp26 rfl _ rfl)) ?_
      obtain ⟨t29, ht29, hF⟩ := of_bindM hF
      refine at_callB Tryz.func120 rfl (by kernel_rfl) rfl rfl (fun w hw => crawlwayref08_Parse_ok _ _ ht29 w) ?_
      refine av rfl (r_move rfl) ?_
      refine av rfl (r_extract rfl rfl) ?_
      refine av rfl (r_extract rfl rfl) ?_
      refine at_alloc (cs := Cd.cs (cVec (cInt .u8) 4 (by decide)) (Vector.replicate 4 (0 : Int) : (Vector Int 4))) Tryz.zeroValue159 rfl rfl ?_
      intro b30
      refine at_store (c := (cVec (cInt .u8) 4 (by decide))) (z := t29.1) .z (Lens.whole _ _) Tryz.sizeOf159 rfl rfl rfl ?_
      refine av rfl (r_assign rfl) ?_
      refine nwt [(1, _), (6, _), (7, _), (8, _), (10, _), (11, _)] ⟨rfl, rfl, rfl, rfl, rfl, rfl, trivial⟩ ?_
      refine at_seq ?_
      refine sr ?_
      refine av rfl (r_move rfl) ?_
      refine av rfl (r_ineq rfl rfl) ?_
      refine av rfl (r_move rfl) ?_
      rcases of_ite hF with ⟨h31, hF⟩ | ⟨h31, hF⟩
      ·refine at_fix (g := 43) rfl h31 ?_
       refine at_guard_no rfl rfl rfl rfl rfl ?_
       refine at_guard_no rfl rfl rfl rfl rfl ?_
       refine av rfl (r_pick rfl rfl rfl) ?_
       refine av rfl (r_move rfl) ?_
       refine at_guard_no rfl rfl rfl rfl rfl ?_
       refine at_guard_no rfl rfl rfl rfl rfl ?_
       refine at_guard_no rfl rfl rfl rfl rfl ?_
       refine at_guard_no rfl rfl rfl rfl rfl ?_
       refine at_guard_no rfl rfl rfl rfl rfl ?_
       refine av rfl (r_pick rfl rfl rfl) ?_
       refine nwt [(1, _), (6, _), (7, _), (8, _), (10, _), (53, _)] ⟨rfl, rfl, rfl, rfl, rfl, rfl, trivial⟩ ?_
       refine at_cond_true rfl rfl ?_
       refine sr ?_
       refine av rfl (r_assign rfl) ?_
       refine av rfl (r_assign rfl) ?_
       refine at_nil ?_
       refine at_drop (H := _) .z ?_
       refine at_drop (H := _) .z ?_
       refine at_drop (H := _) .z ?_
       refine at_weak [(4, _), (5, _)] ⟨rfl, rfl, trivial⟩ ?_
       refine at_then_normal ?_
       refine at_ret ?_
       refine at_then_ret (at_blk_ret (at_then_ret (at_then_ret (at_blk_ret (at_then_ret ?_)))))
       obtain rfl := of_some hF
       subst K
       exact at_return2 rfl rfl rfl (fun w1 hw => ⟨none, 0, rfl, Own.nil _ _ _ _, hw.below⟩)
      ·refine at_fix (g := 43) rfl h31 ?_
       refine at_guard_yes rfl rfl rfl ?_
       refine av rfl (r_move rfl) ?_
       refine at_guard_yes rfl rfl rfl ?_
       refine av rfl (r_not rfl) ?_
       refine av rfl (r_pick rfl rfl rfl) ?_
       refine av rfl (r_move rfl) ?_
       rcases of_ite hF with ⟨h32, hF⟩ | ⟨h32, hF⟩
       ·refine at_fix (g := 47) rfl h32 ?_
        refine at_guard_no rfl rfl rfl rfl rfl ?_
        refine at_guard_no rfl rfl rfl rfl rfl ?_
        refine at_guard_no rfl rfl rfl rfl rfl ?_
        refine at_guard_no rfl rfl rfl rfl rfl ?_
        refine at_guard_no rfl rfl rfl rfl rfl ?_
        refine av rfl (r_pick rfl rfl rfl) ?_
        refine nwt [(1, _), (6, _), (7, _), (8, _), (10, _), (53, _)] ⟨rfl, rfl, rfl, rfl, rfl, rfl, trivial⟩ ?_
        refine at_cond_true rfl rfl ?_
        refine sr ?_
        refine av rfl (r_assign rfl) ?_
        refine av rfl (r_assign rfl) ?_
        refine at_nil ?_
        refine at_drop (H := _) .z ?_
        refine at_drop (H := _) .z ?_
        refine at_drop (H := _) .z ?_
        refine at_weak [(4, _), (5, _)] ⟨rfl, rfl, trivial⟩ ?_
        refine at_then_normal ?_
        refine at_ret ?_
        refine at_then_ret (at_blk_ret (at_then_ret (at_then_ret (at_blk_ret (at_then_ret ?_)))))
        obtain rfl := of_some hF
        subst K
        exact at_return2 rfl rfl rfl (fun w1 hw => ⟨none, 0, rfl, Own.nil _ _ _ _, hw.below⟩)
       ·refine at_fix (g := 47) rfl h32 ?_
        refine at_guard_yes rfl rfl rfl ?_
        refine av rfl (r_move rfl) ?_
        refine at_guard_yes rfl rfl rfl ?_
        refine av rfl (r_move rfl) ?_
        refine at_guard_yes rfl rfl rfl ?_
        refine av rfl (r_len_sl Tryz.underlying38 rfl) ?_
        refine at_guard_yes rfl rfl rfl ?_
        refine av rfl (r_isub rfl rfl) ?_
        refine at_guard_yes rfl rfl rfl ?_
        refine av rfl (r_ilss rfl rfl) ?_
        refine av rfl (r_pick rfl rfl rfl) ?_
        refine nwt [(1, _), (6, _), (7, _), (8, _), (10, _), (53, _)] ⟨rfl, rfl, rfl, rfl, rfl, rfl, trivial⟩ ?_
        rcases of_ite hF with ⟨h33, hF⟩ | ⟨h33, hF⟩
        ·refine at_cond_true rfl h33 ?_
         refine sr ?_
         refine av rfl (r_assign rfl) ?_
         refine av rfl (r_assign rfl) ?_
         refine at_nil ?_
         refine at_drop (H := _) .z ?_
         refine at_drop (H := _) .z ?_
         refine at_drop (H := _) .z ?_
         refine at_weak [(4, _), (5, _)] ⟨rfl, rfl, trivial⟩ ?_
         refine at_then_normal ?_
         refine at_ret ?_
         refine at_then_ret (at_blk_ret (at_then_ret (at_then_ret (at_blk_ret (at_then_ret ?_)))))
         obtain rfl := of_some hF
         subst K
         exact at_return2 rfl rfl rfl (fun w1 hw => ⟨none, 0, rfl, Own.nil _ _ _ _, hw.below⟩)
        ·refine at_cond_false rfl h33 ?_
         refine sn ?_
         refine at_region ?_
         refine av rfl (r_move rfl) ?_
         refine av rfl (r_idxArr Tryz.underlying159 Tryz.sizeOf5 rfl rfl (by decide)) ?_
         refine av rfl (r_load_cell Tryz.isAgg5 rfl (lens_cell0 (c := (cInt .u8)) (y := vget t29.1 0) .z (Lens.comp (Lens.whole _ _) (fun z => vset t29.1 0 z) (Lens.vec (cInt .u8) (by decide) t29.1 0 (by decide))) rfl)) ?_
         refine av rfl (r_conv Tryz.underlying5 Tryz.underlying3 rfl) ?_
         refine av rfl (r_imul rfl rfl) ?_
         refine av rfl (r_idxArr Tryz.underlying159 Tryz.sizeOf5 rfl rfl (by decide)) ?_
         refine av rfl (r_load_cell Tryz.isAgg5 rfl (lens_cell0 (c := (cInt .u8)) (y := vget t29.1 1) .z (Lens.comp (Lens.whole _ _) (fun z => vset t29.1 1 z) (Lens.vec (cInt .u8) (by decide) t29.1 1 (by decide))) rfl)) ?_
         refine av rfl (r_conv Tryz.underlying5 Tryz.underlying3 rfl) ?_
         refine av rfl (r_iadd rfl rfl) ?_
         refine av rfl (r_idxArr Tryz.underlying159 Tryz.sizeOf5 rfl rfl (by decide)) ?_
         refine av rfl (r_load_cell Tryz.isAgg5 rfl (lens_cell0 (c := (cInt .u8)) (y := vget t29.1 2) .z (Lens.comp (Lens.whole _ _) (fun z => vset t29.1 2 z) (Lens.vec (cInt .u8) (by decide) t29.1 2 (by decide))) rfl)) ?_
         refine av rfl (r_conv Tryz.underlying5 Tryz.underlying3 rfl) ?_
         refine av rfl (r_imul rfl rfl) ?_
         refine av rfl (r_idxArr Tryz.underlying159 Tryz.sizeOf5 rfl rfl (by decide)) ?_
         refine av rfl (r_load_cell Tryz.isAgg5 rfl (lens_cell0 (c := (cInt .u8)) (y := vget t29.1 3) .z (Lens.comp (Lens.whole _ _) (fun z => vset t29.1 3 z) (Lens.vec (cInt .u8) (by decide) t29.1 3 (by decide))) rfl)) ?_
         refine av rfl (r_conv Tryz.underlying5 Tryz.underlying3 rfl) ?_
         refine av rfl (r_iadd rfl rfl) ?_
         refine at_lit (cs := (cInt .i64).all ([wr .i64 ((wr .i64 (256 * (wr .i64 (vget t29.1 0)))) + (wr .i64 (vget t29.1 1))), wr .i64 ((wr .i64 (256 * (wr .i64 (vget t29.1 2)))) + (wr .i64 (vget t29.1 3)))] : List Int)) Tryz.underlying112 Tryz.sizeOf3 Tryz.zeroValue3 rfl rfl rfl (by kernel_rfl) rfl ?_
         intro b34
         obtain ⟨h35, hF⟩ := of_guard hF
         refine at_append (z := .int .i64 0) (c := (cInt .i64)) (ys := ([wr .i64 ((wr .i64 (256 * (wr .i64 (vget t29.1 0)))) + (wr .i64 (vget t29.1 1))), wr .i64 ((wr .i64 (256 * (wr .i64 (vget t29.1 2)))) + (wr .i64 (vget t29.1 3)))] : List Int)) (.s (.s .z)) Tryz.underlying112 infoG43 (by kernel_rfl) (by kernel_rfl) rfl rfl rfl rfl (fun _ hw => cells_src (hw.ok (Upd.mem .z))) (by kernel_rfl) h35 (app_small h35) rfl ?_
         intro p36 c37
         refine av rfl (r_assign rfl) ?_
         refine at_nil ?_
         refine at_drop (H := _) .z ?_
         refine at_drop (H := _) .z ?_
         refine at_weak [(1, _), (6, _), (7, _), (8, _)] ⟨rfl, rfl, rfl, rfl, trivial⟩ ?_
         refine at_blk_normal (at_then_normal ?_)
         refine at_region ?_
         refine av rfl (r_move rfl) ?_
         refine av rfl (r_iadd rfl rfl) ?_
         refine av rfl (r_assign rfl) ?_
         refine nwt [(1, _), (6, _), (7, _), (8, _)] ⟨rfl, rfl, rfl, rfl, trivial⟩ ?_
         exact at_weak_k (ih _ _ _ hF K p36 c37) ⟨rfl, rfl, rfl, rfl, trivial⟩
    ·refine at_cond_false rfl h14 ?_
     refine at_exit ?_
     refine at_then_exit (at_then_exit ?_)
     refine at_drop (H := _) (.s .z) ?_
     obtain rfl := of_some hF
     exact at_weak_k (K p10 c11) ⟨rfl, trivial⟩
  ·cases q7 with
   | ret r' => exact of_some hF
   | nx sq7 =>
    intro p12 c13
    refine at_blk_same ?_
    refine at_then_normal ?_
    refine sr ?_
    refine av rfl (r_move rfl) ?_
    refine av rfl (r_assign rfl) ?_
    refine av rfl (r_assign rfl) ?_
    refine nwt [(4, _), (5, _)] ⟨rfl, rfl, trivial⟩ ?_
    refine at_ret ?_
    have K := of_some hF
    subst K
    exact at_return2 rfl rfl rfl (fun w1 hw => ⟨p12, c13, rfl, hw.own .z, hw.below⟩)
def crawlwayref09_Parse.l0 (t5 : List Int × Bool) (i11 : Int) (i12 : (Vector Int 16)) : Option ((Vector Int 16)) :=
  if (decide (i11 < 8)) = true then (if (0 : Int) ≤ i11 ∧ i11 < (t5.1.length : Int) then if (0 : Int) ≤ wr .i64 (2 * i11) ∧ wr .i64 (2 * i11) < 16 then if (0 : Int) ≤ i11 ∧ i11 < (t5.1.length : Int) then if (0 : Int) ≤ wr .i64 ((wr .i64 (2 * i11)) + 1) ∧ wr .i64 ((wr .i64 (2 * i11)) + 1) < 16 then crawlwayref09_Parse.l0 t5 (wr .i64 (i11 + 1)) (vset (vset i12 (wr .i64 (2 * i11)) (wr .u8 (wr .i64 (Int.tdiv (lget t5.1 i11) 256)))) (wr .i64 ((wr .i64 (2 * i11)) + 1)) (wr .u8 (Int.tmod (lget t5.1 i11) 256))) else none else none else none else none) else (some i12)
  partial_fixpoint
def crawlwayref09_Parse.l1 (t25 : List Int × Bool) (i38 : List Int) (i39 : Int) : Option (List Int) :=
  if (decide (i39 < (t25.1.length : Int))) = true then (if (0 : Int) ≤ i39 ∧ i39 < (t25.1.length : Int) then if (i38.length + 1) * 8 ≤ 140737488355328 then crawlwayref09_Parse.l1 t25 (i38 ++ [lget t25.1 i39]) (wr .i64 (i39 + 1)) else none else none) else (some i38)
  partial_fixpoint
def crawlwayref09_Parse.l2 (t29 : List Int × Bool) (i56 : List Int) : Option (List Int) :=
  if (decide (wr .i64 ((i56.length : Int) + (t29.1.length : Int)) < 8)) = true then (if (i56.length + 1) * 8 ≤ 140737488355328 then crawlwayref09_Parse.l2 t29 (i56 ++ [0]) else none) else (some i56)
  partial_fixpoint
def crawlwayref09_Parse.l3 (t29 : List Int × Bool) (q55 : List Int) (i70 : Int) (i71 : (Vector Int 16)) : Option ((Vector Int 16)) :=
  if (decide (i70 < 8)) = true then (if (0 : Int) ≤ i70 ∧ i70 < ((q55 ++ t29.1).length : Int) then if (0 : Int) ≤ wr .i64 (2 * i70) ∧ wr .i64 (2 * i70) < 16 then if (0 : Int) ≤ i70 ∧ i70 < ((q55 ++ t29.1).length : Int) then if (0 : Int) ≤ wr .i64 ((wr .i64 (2 * i70)) + 1) ∧ wr .i64 ((wr .i64 (2 * i70)) + 1) < 16 then crawlwayref09_Parse.l3 t29 q55 (wr .i64 (i70 + 1)) (vset (vset i71 (wr .i64 (2 * i70)) (wr .u8 (wr .i64 (Int.tdiv (lget (q55 ++ t29.1) i70) 256)))) (wr .i64 ((wr .i64 (2 * i70)) + 1)) (wr .u8 (Int.tmod (lget (q55 ++ t29.1) i70) 256))) else none else none else none else none) else (some i71)
  partial_fixpoint
def crawlwayref09_Parse (x0 : ByteArray) : Option ((Vector Int 16) × Bool) :=
  crawlwayref09_gap x0 >>= fun t3 => if (decide (t3 < 0)) = true then (crawlwayref09_list x0 true >>= fun t5 => if (!t5.2) = true then (some ((Vector.replicate 16 (0 : Int) : (Vector Int 16)), false)) else (if ((t5.1.length : Int) != 8) = true then (some ((Vector.replicate 16 (0 : Int) : (Vector Int 16)), false)) else (crawlwayref09_Parse.l0 t5 0 (Vector.replicate 16 (0 : Int) : (Vector Int 16)) >>= fun q10 => some (q10, true)))) else (if (0 : Int) ≤ 0 ∧ 0 ≤ t3 ∧ t3 ≤ (x0.size : Int) then crawlwayref09_list (x0.extract (Int.toNat 0) (Int.toNat t3)) false >>= fun t25 => if (0 : Int) ≤ wr .i64 (t3 + 2) ∧ wr .i64 (t3 + 2) ≤ (x0.size : Int) ∧ (x0.size : Int) ≤ (x0.size : Int) then crawlwayref09_list (x0.extract (Int.toNat (wr .i64 (t3 + 2))) (Int.toNat (x0.size : Int))) true >>= fun t29 => if (!t25.2) = true then (some ((Vector.replicate 16 (0 : Int) : (Vector Int 16)), false)) else (if (!t29.2) = true then (some ((Vector.replicate 16 (0 : Int) : (Vector Int 16)), false)) else (if (decide (wr .i64 ((t25.1.length : Int) + (t29.1.length : Int)) > 7)) = true then (some ((Vector.replicate 16 (0 : Int) : (Vector Int 16)), false)) else (crawlwayref09_Parse.l1 t25 ([] : List Int) 0 >>= fun q37 => crawlwayref09_Parse.l2 t29 q37 >>= fun q55 => if (q55.length + t29.1.length) * 8 ≤ 140737488355328 then crawlwayref09_Parse.l3 t29 q55 0 (Vector.replicate 16 (0 : Int) : (Vector Int 16)) >>= fun q69 => some (q69, true) else none))) else none else none)
theorem crawlwayref09_Parse_ok (x0 : ByteArray) (r : (Vector Int 16) × Bool) (hF : crawlwayref09_Parse x0 = some r) (w : World) :
    Calls Tryz.prog 119 #[.string x0] w (fun e w' => e = .returned (.tuple #[.agg (Cd.cs (cVec (cInt .u8) 16 (by decide)) r.1).toArray, .bool r.2]) ∧ Below w.heap.size w w') := by
 unfold crawlwayref09_Parse at hF
 refine calls_enter (l := [.string x0]) Tryz.func119 rfl rfl rfl ?_
 refine at_start ?_
 refine at_weak [(0, _)] ⟨rfl, trivial⟩ ?_
 refine sr ?_
 refine at_alloc (cs := Cd.cs (cVec (cInt .u8) 16 (by decide)) (Vector.replicate 16 (0 : Int) : (Vector Int 16))) Tryz.zeroValue23 rfl rfl ?_
 intro b1
 refine av rfl (r_assign rfl) ?_
 refine nws [(0, _), (2, _)] ⟨rfl, rfl, trivial⟩ ?_
 refine at_alloc (cs := Cd.cs (cVec (cInt .u8) 16 (by decide)) (Vector.replicate 16 (0 : Int) : (Vector Int 16))) Tryz.zeroValue23 rfl rfl ?_
 intro b2
 refine nws [(0, _), (2, _), (4, _)] ⟨rfl, rfl, rfl, trivial⟩ ?_
 refine av rfl (r_assign rfl) ?_
 refine nws [(0, _), (2, _), (4, _), (5, _)] ⟨rfl, rfl, rfl, rfl, trivial⟩ ?_
 refine av rfl (r_move rfl) ?_
 obtain ⟨t3, ht3, hF⟩ := of_bindM hF
 refine at_call0 Tryz.func164 rfl (by kernel_rfl) rfl rfl (fun w => crawlwayref09_gap_ok _ _ ht3 w) ?_
 refine av rfl (r_assign rfl) ?_
 refine nwt [(0, _), (2, _), (4, _), (5, _), (6, _)] ⟨rfl, rfl, rfl, rfl, rfl, trivial⟩ ?_
 refine at_seq ?_
 refine sr ?_
 refine av rfl (r_move rfl) ?_
 refine av rfl (r_ilss rfl rfl) ?_
 refine nwt [(0, _), (2, _), (4, _), (5, _), (6, _), (18, _)] ⟨rfl, rfl, rfl, rfl, rfl, rfl, trivial⟩ ?_
 rcases of_ite hF with ⟨h4, hF⟩ | ⟨h4, hF⟩
 ·refine at_cond_true rfl h4 ?_
  refine sr ?_
  refine av rfl (r_move rfl) ?_
  obtain ⟨t5, ht5, hF⟩ := of_bindM hF
  refine at_callO (c := (cInt .i64)) (e := 3) (ys := t5.1) (V := fun p cap => .tuple #[.slice p t5.1.length cap, .bool t5.2]) Tryz.func165 rfl (by kernel_rfl) rfl rfl (fun w hw => crawlwayref09_list_ok _ _ _ ht5 w) ?_
  intro p6 c7
  refine av rfl (r_move rfl) ?_
  refine av rfl (r_extract rfl rfl) ?_
  refine av rfl (r_extract rfl rfl) ?_
  refine av rfl (r_assign rfl) ?_
  refine av rfl (r_assign rfl) ?_
  refine nwt [(2, _), (4, _), (7, _), (8, _)] ⟨rfl, rfl, rfl, rfl, trivial⟩ ?_
  refine at_seq ?_
  refine sr ?_
  refine av rfl (r_move rfl) ?_
  refine av rfl (r_not rfl) ?_
  refine av rfl (r_move rfl) ?_
  rcases of_ite hF with ⟨h8, hF⟩ | ⟨h8, hF⟩
  ·refine at_fix (g := 26) rfl h8 ?_
   refine at_guard_no rfl rfl rfl rfl rfl ?_
   refine at_guard_no rfl rfl rfl rfl rfl ?_
   refine at_guard_no rfl rfl rfl rfl rfl ?_
   refine av rfl (r_pick rfl rfl rfl) ?_
   refine nwt [(2, _), (4, _), (7, _), (30, _)] ⟨rfl, rfl, rfl, rfl, trivial⟩ ?_
   refine at_cond_true rfl rfl ?_
   refine sr ?_
   refine av rfl (r_load_aggc (c := (cVec (cInt .u8) 16 (by decide))) (z := (Vector.replicate 16 (0 : Int) : (Vector Int 16))) Tryz.isAgg23 Tryz.sizeOf23 rfl (lens_cell (.s .z) (Lens.whole _ _))) ?_
   refine at_store (c := (cVec (cInt .u8) 16 (by decide))) (z := (Vector.replicate 16 (0 : Int) : (Vector Int 16))) (.s (.s .z)) (Lens.whole _ _) Tryz.sizeOf23 rfl rfl rfl ?_
   refine av rfl (r_assign rfl) ?_
   refine at_nil ?_
   refine at_drop (H := _) .z ?_
   refine at_drop (H := _) .z ?_
   refine at_weak [(2, _), (3, _)] ⟨rfl, rfl, trivial⟩ ?_
   refine at_then_normal ?_
   refine at_ret ?_
   refine at_then_ret (at_then_ret ?_)
   have K := of_some hF
   subst K
   exact at_res2 rfl (res_cell (c := (cVec (cInt .u8) 16 (by decide))) (y := (Vector.replicate 16 (0 : Int) : (Vector Int 16))) rfl .z (Lens.whole _ _) Tryz.isAgg23 Tryz.sizeOf23 (.inl rfl)) (res_tmp rfl) (fun w1 hw => ⟨rfl, hw.below⟩)
  ·refine at_fix (g := 26) rfl h8 ?_
   refine at_guard_yes rfl rfl rfl ?_
   refine av rfl (r_move rfl) ?_
   refine at_guard_yes rfl rfl rfl ?_
   refine av rfl (r_len_sl Tryz.underlying112 rfl) ?_
   refine at_guard_yes rfl rfl rfl ?_
   refine av rfl (r_ineq rfl rfl) ?_
   refine av rfl (r_pick rfl rfl rfl) ?_
   refine nwt [(2, _), (4, _), (7, _), (30, _)] ⟨rfl, rfl, rfl, rfl, trivial⟩ ?_
   rcases of_ite hF with ⟨h9, hF⟩ | ⟨h9, hF⟩
   ·refine at_cond_true rfl h9 ?_
    refine sr ?_
    refine av rfl (r_load_aggc (c := (cVec (cInt .u8) 16 (by decide))) (z := (Vector.replicate 16 (0 : Int) : (Vector Int 16))) Tryz.isAgg23 Tryz.sizeOf23 rfl (lens_cell (.s .z) (Lens.whole _ _))) ?_
    refine at_store (c := (cVec (cInt .u8) 16 (by decide))) (z := (Vector.replicate 16 (0 : Int) : (Vector Int 16))) (.s (.s .z)) (Lens.whole _ _) Tryz.sizeOf23 rfl rfl rfl ?_
    refine av rfl (r_assign rfl) ?_
    refine at_nil ?_
    refine at_drop (H := _) .z ?_
    refine at_drop (H := _) .z ?_
    refine at_weak [(2, _), (3, _)] ⟨rfl, rfl, trivial⟩ ?_
    refine at_then_normal ?_
    refine at_ret ?_
    refine at_then_ret (at_then_ret ?_)
    have K := of_some hF
    subst K
    exact at_res2 rfl (res_cell (c := (cVec (cInt .u8) 16 (by decide))) (y := (Vector.replicate 16 (0 : Int) : (Vector Int 16))) rfl .z (Lens.whole _ _) Tryz.isAgg23 Tryz.sizeOf23 (.inl rfl)) (res_tmp rfl) (fun w1 hw => ⟨rfl, hw.below⟩)
   ·refine at_cond_false rfl h9 ?_
    refine sn ?_
    refine at_region ?_
    refine av rfl (r_move rfl) ?_
    refine av rfl (r_assign rfl) ?_
    refine nwt [(2, _), (4, _), (5, _)] ⟨rfl, rfl, rfl, trivial⟩ ?_
    refine at_seq ?_
    refine sr ?_
    refine av rfl (r_assign rfl) ?_
    refine nwt [(2, _), (4, _), (5, _), (14, _)] ⟨rfl, rfl, rfl, rfl, trivial⟩ ?_
    refine at_block ?_
    obtain ⟨q10, hq10, hF⟩ := of_bindM hF
    refine at_weak [(2, _), (4, _), (5, _), (14, _)] ⟨rfl, rfl, rfl, rfl, trivial⟩ ?_
    refine at_loop_n (B := 4) (A := fun Y => At 112 [(2, .pointer (some ⟨b1, 0, none⟩)), (4, .pointer (some ⟨b2, 0, none⟩))] (Wd w [cellsE b2 (Cd.cs (cVec (cInt .u8) 16 (by decide)) q10) 23, cellsE b1 (Cd.cs (cVec (cInt .u8) 16 (by decide)) (Vector.replicate 16 (0 : Int) : (Vector Int 16))) 23]) Y) ?_ ?_
    ·intro K
     refine crawlwayref09_Parse.l0.partial_correctness t5 (motive := fun i11 i12 x => KN (fun Y => At 112 [(2, .pointer (some ⟨b1, 0, none⟩)), (4, .pointer (some ⟨b2, 0, none⟩))] (Wd w [cellsE b2 (Cd.cs (cVec (cInt .u8) 16 (by decide)) x) 23, cellsE b1 (Cd.cs (cVec (cInt .u8) 16 (by decide)) (Vector.replicate 16 (0 : Int) : (Vector Int 16))) 23]) Y) _ 4 → Round (fun Y => At 112 [(2, .pointer (some ⟨b1, 0, none⟩)), (4, .pointer (some ⟨b2, 0, none⟩)), (5, .slice p6 t5.1.length c7), (14, .int .i64 i11)] (Wd w [rowE (cInt .i64) 3 p6 c7 t5.1, cellsE b2 (Cd.cs (cVec (cInt .u8) 16 (by decide)) i12) 23, cellsE b1 (Cd.cs (cVec (cInt .u8) 16 (by decide)) (Vector.replicate 16 (0 : Int) : (Vector Int 16))) 23]) Y) _ _ _) ?_ _ _ _ hq10 K
     ·clear K hF
      intro g ih i11 i12 x hF K
      refine at_round ?_
      refine at_seq ?_
      refine sr ?_
      refine av rfl (r_move rfl) ?_
      refine av rfl (r_ilss rfl rfl) ?_
      refine nwt [(2, _), (4, _), (5, _), (14, _), (89, _)] ⟨rfl, rfl, rfl, rfl, rfl, trivial⟩ ?_
      rcases of_ite hF with ⟨h13, hF⟩ | ⟨h13, hF⟩
      ·refine at_cond_true rfl h13 ?_
       refine sn ?_
       refine at_seq ?_
       refine at_block ?_
       refine sr ?_
       refine av rfl (r_move rfl) ?_
       refine av rfl (r_imul rfl rfl) ?_
       refine av rfl (r_move rfl) ?_
       refine av rfl (r_move rfl) ?_
       obtain ⟨h14, hF⟩ := of_guard hF
       refine at_pure (φ := ∃ b o, p6 = some ⟨b, o, none⟩) (fun _ hw => row_ptr (hw.own .z).row h14) ?_
       rintro ⟨b16, o17, hp15⟩
       refine av rfl (r_idx Tryz.underlying112 Tryz.sizeOf3 rfl rfl h14 hp15) ?_
       refine av rfl (r_load_cell Tryz.isAgg3 rfl (fun _ hw => row_cell0 (W := fun w1 => w1 = _) (fun w1 h => by subst h; exact Below.refl _ _) (hw.own .z).row h14 hp15 rfl _ rfl)) ?_
       refine av rfl (r_iquo rfl rfl (by decide)) ?_
       refine av rfl (r_conv Tryz.underlying3 Tryz.underlying5 rfl) ?_
       obtain ⟨h18, hF⟩ := of_guard hF
       refine av rfl (r_idxArr Tryz.underlying23 Tryz.sizeOf5 rfl rfl h18) ?_
       refine at_store (c := (cInt .u8)) (z := wr .u8 (wr .i64 (Int.tdiv (lget t5.1 i11) 256))) (.s .z) (Lens.comp (Lens.whole _ _) (fun z => vset i12 (wr .i64 (2 * i11)) z) (Lens.vec (cInt .u8) (by decide) i12 (wr .i64 (2 * i11)) h18)) Tryz.sizeOf5 rfl rfl rfl ?_
       refine nwt [(2, _), (4, _), (5, _), (14, _)] ⟨rfl, rfl, rfl, rfl, trivial⟩ ?_
       refine at_region ?_
       refine av rfl (r_move rfl) ?_
       refine av rfl (r_imul rfl rfl) ?_
       refine av rfl (r_iadd rfl rfl) ?_
       refine av rfl (r_move rfl) ?_
       refine av rfl (r_move rfl) ?_
       obtain ⟨h19, hF⟩ := of_guard hF
       refine at_pure (φ := ∃ b o, p6 = some ⟨b, o, none⟩) (fun _ hw => row_ptr (hw.own .z).row h19) ?_
       rintro ⟨b21, o22, hp20⟩
       refine av rfl (r_idx Tryz.underlying112 Tryz.sizeOf3 rfl rfl h19 hp20) ?_
       refine av rfl (r_load_cell Tryz.isAgg3 rfl (fun _ hw => row_cell0 (W := fun w1 => w1 = _) (fun w1 h => by subst h; exact Below.refl _ _) (hw.own .z).row h19 hp20 rfl _ rfl)) ?_
       refine av rfl (r_irem rfl rfl (by decide)) ?_
       refine av rfl (r_conv Tryz.underlying3 Tryz.underlying5 rfl) ?_
       obtain ⟨h23, hF⟩ := of_guard hF
       refine av rfl (r_idxArr Tryz.underlying23 Tryz.sizeOf5 rfl rfl h23) ?_
       refine at_store (c := (cInt .u8)) (z := wr .u8 (Int.tmod (lget t5.1 i11) 256)) (.s .z) (Lens.comp (Lens.whole _ _) (fun z => vset (vset i12 (wr .i64 (2 * i11)) (wr .u8 (wr .i64 (Int.tdiv (lget t5.1 i11) 256)))) (wr .i64 ((wr .i64 (2 * i11)) + 1)) z) (Lens.vec (cInt .u8) (by decide) (vset i12 (wr .i64 (2 * i11)) (wr .u8 (wr .i64 (Int.tdiv (lget t5.1 i11) 256)))) (wr .i64 ((wr .i64 (2 * i11)) + 1)) h23)) Tryz.sizeOf5 rfl rfl rfl ?_
       refine at_nil ?_
       refine at_weak [(2, _), (4, _), (5, _), (14, _)] ⟨rfl, rfl, rfl, rfl, trivial⟩ ?_
       refine at_blk_normal (at_then_normal ?_)
       refine at_region ?_
       refine av rfl (r_move rfl) ?_
       refine av rfl (r_iadd rfl rfl) ?_
       refine av rfl (r_assign rfl) ?_
       refine nwt [(2, _), (4, _), (5, _), (14, _)] ⟨rfl, rfl, rfl, rfl, trivial⟩ ?_
       exact at_weak_k (ih _ _ _ hF K) ⟨rfl, rfl, rfl, rfl, trivial⟩
      ·refine at_cond_false rfl h13 ?_
       refine at_exit ?_
       refine at_then_exit (at_then_exit ?_)
       refine at_drop (H := _) .z ?_
       obtain rfl := of_some hF
       exact at_weak_k K ⟨rfl, rfl, trivial⟩
    ·skip
     skip
     refine at_blk_same ?_
     refine at_then_normal ?_
     refine sr ?_
     refine av rfl (r_load_aggc (c := (cVec (cInt .u8) 16 (by decide))) (z := q10) Tryz.isAgg23 Tryz.sizeOf23 rfl (lens_cell .z (Lens.whole _ _))) ?_
     refine at_store (c := (cVec (cInt .u8) 16 (by decide))) (z := q10) (.s .z) (Lens.whole _ _) Tryz.sizeOf23 rfl rfl rfl ?_
     refine av rfl (r_assign rfl) ?_
     refine at_nil ?_
     refine at_drop (H := _) .z ?_
     refine at_weak [(2, _), (3, _)] ⟨rfl, rfl, trivial⟩ ?_
     refine at_then_normal ?_
     refine at_ret ?_
     have K := of_some hF
     subst K
     exact at_res2 rfl (res_cell (c := (cVec (cInt .u8) 16 (by decide))) (y := q10) rfl .z (Lens.whole _ _) Tryz.isAgg23 Tryz.sizeOf23 (.inl rfl)) (res_tmp rfl) (fun w1 hw => ⟨rfl, hw.below⟩)
 ·refine at_cond_false rfl h4 ?_
  refine sr ?_
  refine av rfl (r_move rfl) ?_
  refine av rfl (r_move rfl) ?_
  obtain ⟨h24, hF⟩ := of_guard hF
  refine av rfl (r_slice_str Tryz.underlying9 rfl rfl ⟨_, rfl⟩ h24) ?_
  obtain ⟨t25, ht25, hF⟩ := of_bindM hF
  refine at_callO (c := (cInt .i64)) (e := 3) (ys := t25.1) (V := fun p cap => .tuple #[.slice p t25.1.length cap, .bool t25.2]) Tryz.func165 rfl (by kernel_rfl) rfl rfl (fun w hw => crawlwayref09_list_ok _ _ _ ht25 w) ?_
  intro p26 c27
  refine av rfl (r_move rfl) ?_
  refine av rfl (r_extract rfl rfl) ?_
  refine av rfl (r_extract rfl rfl) ?_
  refine av rfl (r_assign rfl) ?_
  refine av rfl (r_assign rfl) ?_
  refine nws [(0, _), (2, _), (4, _), (5, _), (6, _), (9, _), (10, _)] ⟨rfl, rfl, rfl, rfl, rfl, rfl, rfl, trivial⟩ ?_
  refine av rfl (r_move rfl) ?_
  refine av rfl (r_move rfl) ?_
  refine av rfl (r_iadd rfl rfl) ?_
  obtain ⟨h28, hF⟩ := of_guard hF
  refine av rfl (r_slice_str Tryz.underlying9 rfl ⟨_, rfl⟩ rfl h28) ?_
  obtain ⟨t29, ht29, hF⟩ := of_bindM hF
  refine at_callO (c := (cInt .i64)) (e := 3) (ys := t29.1) (V := fun p cap => .tuple #[.slice p t29.1.length cap, .bool t29.2]) Tryz.func165 rfl (by kernel_rfl) rfl rfl (fun w hw => crawlwayref09_list_ok _ _ _ ht29 w) ?_
  intro p30 c31
  refine av rfl (r_move rfl) ?_
  refine av rfl (r_extract rfl rfl) ?_
  refine av rfl (r_extract rfl rfl) ?_
  refine av rfl (r_assign rfl) ?_
  refine av rfl (r_assign rfl) ?_
  refine nwt [(2, _), (4, _), (5, _), (9, _), (10, _), (11, _), (12, _)] ⟨rfl, rfl, rfl, rfl, rfl, rfl, rfl, trivial⟩ ?_
  refine at_seq ?_
  refine sr ?_
  refine av rfl (r_move rfl) ?_
  refine av rfl (r_not rfl) ?_
  refine av rfl (r_move rfl) ?_
  rcases of_ite hF with ⟨h32, hF⟩ | ⟨h32, hF⟩
  ·refine at_fix (g := 50) rfl h32 ?_
   refine at_guard_no rfl rfl rfl rfl rfl ?_
   refine at_guard_no rfl rfl rfl rfl rfl ?_
   refine av rfl (r_pick rfl rfl rfl) ?_
   refine av rfl (r_move rfl) ?_
   refine at_guard_no rfl rfl rfl rfl rfl ?_
   refine at_guard_no rfl rfl rfl rfl rfl ?_
   refine at_guard_no rfl rfl rfl rfl rfl ?_
   refine at_guard_no rfl rfl rfl rfl rfl ?_
   refine at_guard_no rfl rfl rfl rfl rfl ?_
   refine at_guard_no rfl rfl rfl rfl rfl ?_
   refine av rfl (r_pick rfl rfl rfl) ?_
   refine nwt [(2, _), (4, _), (5, _), (9, _), (11, _), (61, _)] ⟨rfl, rfl, rfl, rfl, rfl, rfl, trivial⟩ ?_
   refine at_cond_true rfl rfl ?_
   refine sr ?_
   refine av rfl (r_load_aggc (c := (cVec (cInt .u8) 16 (by decide))) (z := (Vector.replicate 16 (0 : Int) : (Vector Int 16))) Tryz.isAgg23 Tryz.sizeOf23 rfl (lens_cell (.s (.s .z)) (Lens.whole _ _))) ?_
   refine at_store (c := (cVec (cInt .u8) 16 (by decide))) (z := (Vector.replicate 16 (0 : Int) : (Vector Int 16))) (.s (.s (.s .z))) (Lens.whole _ _) Tryz.sizeOf23 rfl rfl rfl ?_
   refine av rfl (r_assign rfl) ?_
   refine at_nil ?_
   refine at_drop (H := _) .z ?_
   refine at_drop (H := _) .z ?_
   refine at_drop (H := _) .z ?_
   refine at_weak [(2, _), (3, _)] ⟨rfl, rfl, trivial⟩ ?_
   refine at_then_normal ?_
   refine at_ret ?_
   refine at_then_ret (at_then_ret ?_)
   have K := of_some hF
   subst K
   exact at_res2 rfl (res_cell (c := (cVec (cInt .u8) 16 (by decide))) (y := (Vector.replicate 16 (0 : Int) : (Vector Int 16))) rfl .z (Lens.whole _ _) Tryz.isAgg23 Tryz.sizeOf23 (.inl rfl)) (res_tmp rfl) (fun w1 hw => ⟨rfl, hw.below⟩)
  ·refine at_fix (g := 50) rfl h32 ?_
   refine at_guard_yes rfl rfl rfl ?_
   refine av rfl (r_move rfl) ?_
   refine at_guard_yes rfl rfl rfl ?_
   refine av rfl (r_not rfl) ?_
   refine av rfl (r_pick rfl rfl rfl) ?_
   refine av rfl (r_move rfl) ?_
   rcases of_ite hF with ⟨h33, hF⟩ | ⟨h33, hF⟩
   ·refine at_fix (g := 54) rfl h33 ?_
    refine at_guard_no rfl rfl rfl rfl rfl ?_
    refine at_guard_no rfl rfl rfl rfl rfl ?_
    refine at_guard_no rfl rfl rfl rfl rfl ?_
    refine at_guard_no rfl rfl rfl rfl rfl ?_
    refine at_guard_no rfl rfl rfl rfl rfl ?_
    refine at_guard_no rfl rfl rfl rfl rfl ?_
    refine av rfl (r_pick rfl rfl rfl) ?_
    refine nwt [(2, _), (4, _), (5, _), (9, _), (11, _), (61, _)] ⟨rfl, rfl, rfl, rfl, rfl, rfl, trivial⟩ ?_
    refine at_cond_true rfl rfl ?_
    refine sr ?_
    refine av rfl (r_load_aggc (c := (cVec (cInt .u8) 16 (by decide))) (z := (Vector.replicate 16 (0 : Int) : (Vector Int 16))) Tryz.isAgg23 Tryz.sizeOf23 rfl (lens_cell (.s (.s .z)) (Lens.whole _ _))) ?_
    refine at_store (c := (cVec (cInt .u8) 16 (by decide))) (z := (Vector.replicate 16 (0 : Int) : (Vector Int 16))) (.s (.s (.s .z))) (Lens.whole _ _) Tryz.sizeOf23 rfl rfl rfl ?_
    refine av rfl (r_assign rfl) ?_
    refine at_nil ?_
    refine at_drop (H := _) .z ?_
    refine at_drop (H := _) .z ?_
    refine at_drop (H := _) .z ?_
    refine at_weak [(2, _), (3, _)] ⟨rfl, rfl, trivial⟩ ?_
    refine at_then_normal ?_
    refine at_ret ?_
    refine at_then_ret (at_then_ret ?_)
    have K := of_some hF
    subst K
    exact at_res2 rfl (res_cell (c := (cVec (cInt .u8) 16 (by decide))) (y := (Vector.replicate 16 (0 : Int) : (Vector Int 16))) rfl .z (Lens.whole _ _) Tryz.isAgg23 Tryz.sizeOf23 (.inl rfl)) (res_tmp rfl) (fun w1 hw => ⟨rfl, hw.below⟩)
   ·refine at_fix (g := 54) rfl h33 ?_
    refine at_guard_yes rfl rfl rfl ?_
    refine av rfl (r_move rfl) ?_
    refine at_guard_yes rfl rfl rfl ?_
    refine av rfl (r_len_sl Tryz.underlying112 rfl) ?_
    refine at_guard_yes rfl rfl rfl ?_
    refine av rfl (r_move rfl) ?_
    refine at_guard_yes rfl rfl rfl ?_
    refine av rfl (r_len_sl Tryz.underlying112 rfl) ?_
    refine at_guard_yes rfl rfl rfl ?_
    refine av rfl (r_iadd rfl rfl) ?_
    refine at_guard_yes rfl rfl rfl ?_
    refine av rfl (r_igtr rfl rfl) ?_
    refine av rfl (r_pick rfl rfl rfl) ?_
    refine nwt [(2, _), (4, _), (5, _), (9, _), (11, _), (61, _)] ⟨rfl, rfl, rfl, rfl, rfl, rfl, trivial⟩ ?_
    rcases of_ite hF with ⟨h34, hF⟩ | ⟨h34, hF⟩
    ·refine at_cond_true rfl h34 ?_
     refine sr ?_
     refine av rfl (r_load_aggc (c := (cVec (cInt .u8) 16 (by decide))) (z := (Vector.replicate 16 (0 : Int) : (Vector Int 16))) Tryz.isAgg23 Tryz.sizeOf23 rfl (lens_cell (.s (.s .z)) (Lens.whole _ _))) ?_
     refine at_store (c := (cVec (cInt .u8) 16 (by decide))) (z := (Vector.replicate 16 (0 : Int) : (Vector Int 16))) (.s (.s (.s .z))) (Lens.whole _ _) Tryz.sizeOf23 rfl rfl rfl ?_
     refine av rfl (r_assign rfl) ?_
     refine at_nil ?_
     refine at_drop (H := _) .z ?_
     refine at_drop (H := _) .z ?_
     refine at_drop (H := _) .z ?_
     refine at_weak [(2, _), (3, _)] ⟨rfl, rfl, trivial⟩ ?_
     refine at_then_normal ?_
     refine at_ret ?_
     refine at_then_ret (at_then_ret ?_)
     have K := of_some hF
     subst K
     exact at_res2 rfl (res_cell (c := (cVec (cInt .u8) 16 (by decide))) (y := (Vector.replicate 16 (0 : Int) : (Vector Int 16))) rfl .z (Lens.whole _ _) Tryz.isAgg23 Tryz.sizeOf23 (.inl rfl)) (res_tmp rfl) (fun w1 hw => ⟨rfl, hw.below⟩)
    ·refine at_cond_false rfl h34 ?_
     refine sn ?_
     refine at_seq ?_
     refine sr ?_
     refine av rfl (r_assign rfl) ?_
     refine nwt [(2, _), (4, _), (5, _), (9, _), (11, _), (13, _)] ⟨rfl, rfl, rfl, rfl, rfl, rfl, trivial⟩ ?_
     refine at_block ?_
     refine at_own_nil (cInt .i64) 3 ?_
     refine at_weak [(2, _), (4, _), (5, .slice none ([] : List Int).length 0), (9, _), (11, _), (13, _)] ⟨rfl, rfl, rfl, rfl, rfl, rfl, trivial⟩ ?_
     obtain ⟨q37, hq37, hF⟩ := of_bindM hF
     refine at_weak [(2, _), (4, _), (5, _), (9, _), (11, _), (13, _)] ⟨rfl, rfl, rfl, rfl, rfl, rfl, trivial⟩ ?_
     refine at_loop_n (B := 0) (A := fun Y => ∀ (p42 : Option Addr) (c43 : Nat), At 112 [(2, .pointer (some ⟨b1, 0, none⟩)), (4, .pointer (some ⟨b2, 0, none⟩)), (5, .slice p42 q37.length c43), (11, .slice p30 t29.1.length c31)] (Wd w [rowE (cInt .i64) 3 p42 c43 q37, rowE (cInt .i64) 3 p30 c31 t29.1, cellsE b2 (Cd.cs (cVec (cInt .u8) 16 (by decide)) (Vector.replicate 16 (0 : Int) : (Vector Int 16))) 23, cellsE b1 (Cd.cs (cVec (cInt .u8) 16 (by decide)) (Vector.replicate 16 (0 : Int) : (Vector Int 16))) 23]) Y) ?_ ?_
     ·intro K
      refine crawlwayref09_Parse.l1.partial_correctness t25 (motive := fun i38 i39 x => KN (fun Y => ∀ (p42 : Option Addr) (c43 : Nat), At 112 [(2, .pointer (some ⟨b1, 0, none⟩)), (4, .pointer (some ⟨b2, 0, none⟩)), (5, .slice p42 x.length c43), (11, .slice p30 t29.1.length c31)] (Wd w [rowE (cInt .i64) 3 p42 c43 x, rowE (cInt .i64) 3 p30 c31 t29.1, cellsE b2 (Cd.cs (cVec (cInt .u8) 16 (by decide)) (Vector.replicate 16 (0 : Int) : (Vector Int 16))) 23, cellsE b1 (Cd.cs (cVec (cInt .u8) 16 (by decide)) (Vector.replicate 16 (0 : Int) : (Vector Int 16))) 23]) Y) _ 0 → Round (fun Y => ∀ (p40 : Option Addr) (c41 : Nat), At 112 [(2, .pointer (some ⟨b1, 0, none⟩)), (4, .pointer (some ⟨b2, 0, none⟩)), (5, .slice p40 i38.length c41), (9, .slice p26 t25.1.length c27), (11, .slice p30 t29.1.length c31), (13, .int .i64 i39)] (Wd w [rowE (cInt .i64) 3 p40 c41 i38, rowE (cInt .i64) 3 p30 c31 t29.1, rowE (cInt .i64) 3 p26 c27 t25.1, cellsE b2 (Cd.cs (cVec (cInt .u8) 16 (by decide)) (Vector.replicate 16 (0 : Int) : (Vector Int 16))) 23, cellsE b1 (Cd.cs (cVec (cInt .u8) 16 (by decide)) (Vector.replicate 16 (0 : Int) : (Vector Int 16))) 23]) Y) _ _ _) ?_ _ _ _ hq37 K none 0
      ·clear K hF
       intro g ih i38 i39 x hF K p40 c41
       refine at_round ?_
       refine at_seq ?_
       refine sr ?_
       refine av rfl (r_move rfl) ?_
       refine av rfl (r_move rfl) ?_
       refine av rfl (r_len_sl Tryz.underlying112 rfl) ?_
       refine av rfl (r_ilss rfl rfl) ?_
       refine nwt [(2, _), (4, _), (5, _), (9, _), (11, _), (13, _), (66, _)] ⟨rfl, rfl, rfl, rfl, rfl, rfl, rfl, trivial⟩ ?_
       rcases of_ite hF with ⟨h44, hF⟩ | ⟨h44, hF⟩
       ·refine at_cond_true rfl h44 ?_
        refine sn ?_
        refine at_seq ?_
        refine at_block ?_
        refine at_region ?_
        refine av rfl (r_move rfl) ?_
        refine av rfl (r_move rfl) ?_
        refine av rfl (r_move rfl) ?_
        obtain ⟨h45, hF⟩ := of_guard hF
        refine at_pure (φ := ∃ b o, p26 = some ⟨b, o, none⟩) (fun _ hw => row_ptr (hw.own (.s (.s .z))).row h45) ?_
        rintro ⟨b47, o48, hp46⟩
        refine av rfl (r_idx Tryz.underlying112 Tryz.sizeOf3 rfl rfl h45 hp46) ?_
        refine av rfl (r_load_cell Tryz.isAgg3 rfl (fun _ hw => row_cell0 (W := fun w1 => w1 = _) (fun w1 h => by subst h; exact Below.refl _ _) (hw.own (.s (.s .z))).row h45 hp46 rfl _ rfl)) ?_
        refine at_lit (cs := (cInt .i64).all ([lget t25.1 i39] : List Int)) Tryz.underlying112 Tryz.sizeOf3 Tryz.zeroValue3 rfl rfl rfl (by kernel_rfl) rfl ?_
        intro b49
        obtain ⟨h50, hF⟩ := of_guard hF
        refine at_append (z := .int .i64 0) (c := (cInt .i64)) (ys := ([lget t25.1 i39] : List Int)) (.s .z) Tryz.underlying112 infoG43 (by kernel_rfl) (by kernel_rfl) rfl rfl rfl rfl (fun _ hw => cells_src (hw.ok (Upd.mem .z))) (by kernel_rfl) h50 (app_small h50) rfl ?_
        intro p51 c52
        refine av rfl (r_assign rfl) ?_
        refine at_nil ?_
        refine at_drop (H := _) .z ?_
        refine at_weak [(2, _), (4, _), (5, _), (9, _), (11, _), (13, _)] ⟨rfl, rfl, rfl, rfl, rfl, rfl, trivial⟩ ?_
        refine at_blk_normal (at_then_normal ?_)
        refine at_region ?_
        refine av rfl (r_move rfl) ?_
        refine av rfl (r_iadd rfl rfl) ?_
        refine av rfl (r_assign rfl) ?_
        refine nwt [(2, _), (4, _), (5, _), (9, _), (11, _), (13, _)] ⟨rfl, rfl, rfl, rfl, rfl, rfl, trivial⟩ ?_
        exact at_weak_k (ih _ _ _ hF K p51 c52) ⟨rfl, rfl, rfl, rfl, rfl, rfl, trivial⟩
       ·refine at_cond_false rfl h44 ?_
        refine at_exit ?_
        refine at_then_exit (at_then_exit ?_)
        refine at_drop (H := _) (.s (.s .z)) ?_
        obtain rfl := of_some hF
        exact at_weak_k (K p40 c41) ⟨rfl, rfl, rfl, rfl, trivial⟩
     ·skip
      intro p42 c43
      refine at_blk_same ?_
      refine at_then_normal ?_
      refine at_seq ?_
      refine at_block ?_
      obtain ⟨q55, hq55, hF⟩ := of_bindM hF
      refine at_weak [(2, _), (4, _), (5, _), (11, _)] ⟨rfl, rfl, rfl, rfl, trivial⟩ ?_
      refine at_loop_n (B := 2) (A := fun Y => ∀ (p59 : Option Addr) (c60 : Nat), At 112 [(2, .pointer (some ⟨b1, 0, none⟩)), (4, .pointer (some ⟨b2, 0, none⟩)), (5, .slice p59 q55.length c60), (11, .slice p30 t29.1.length c31)] (Wd w [rowE (cInt .i64) 3 p59 c60 q55, rowE (cInt .i64) 3 p30 c31 t29.1, cellsE b2 (Cd.cs (cVec (cInt .u8) 16 (by decide)) (Vector.replicate 16 (0 : Int) : (Vector Int 16))) 23, cellsE b1 (Cd.cs (cVec (cInt .u8) 16 (by decide)) (Vector.replicate 16 (0 : Int) : (Vector Int 16))) 23]) Y) ?_ ?_
      ·intro K
       refine crawlwayref09_Parse.l2.partial_correctness t29 (motive := fun i56 x => KN (fun Y => ∀ (p59 : Option Addr) (c60 : Nat), At 112 [(2, .pointer (some ⟨b1, 0, none⟩)), (4, .pointer (some ⟨b2, 0, none⟩)), (5, .slice p59 x.length c60), (11, .slice p30 t29.1.length c31)] (Wd w [rowE (cInt .i64) 3 p59 c60 x, rowE (cInt .i64) 3 p30 c31 t29.1, cellsE b2 (Cd.cs (cVec (cInt .u8) 16 (by decide)) (Vector.replicate 16 (0 : Int) : (Vector Int 16))) 23, cellsE b1 (Cd.cs (cVec (cInt .u8) 16 (by decide)) (Vector.replicate 16 (0 : Int) : (Vector Int 16))) 23]) Y) _ 2 → Round (fun Y => ∀ (p57 : Option Addr) (c58 : Nat), At 112 [(2, .pointer (some ⟨b1, 0, none⟩)), (4, .pointer (some ⟨b2, 0, none⟩)), (5, .slice p57 i56.length c58), (11, .slice p30 t29.1.length c31)] (Wd w [rowE (cInt .i64) 3 p57 c58 i56, rowE (cInt .i64) 3 p30 c31 t29.1, cellsE b2 (Cd.cs (cVec (cInt .u8) 16 (by decide)) (Vector.replicate 16 (0 : Int) : (Vector Int 16))) 23, cellsE b1 (Cd.cs (cVec (cInt .u8) 16 (by decide)) (Vector.replicate 16 (0 : Int) : (Vector Int 16))) 23]) Y) _ _ _) ?_ _ _ hq55 K p42 c43
       ·clear K hF
        intro g ih i56 x hF K p57 c58
        refine at_round ?_
        refine at_seq ?_
        refine sr ?_
        refine av rfl (r_move rfl) ?_
        refine av rfl (r_len_sl Tryz.underlying112 rfl) ?_
        refine av rfl (r_move rfl) ?_
        refine av rfl (r_len_sl Tryz.underlying112 rfl) ?_
        refine av rfl (r_iadd rfl rfl) ?_
        refine av rfl (r_ilss rfl rfl) ?_
        refine nwt [(2, _), (4, _), (5, _), (11, _), (81, _)] ⟨rfl, rfl, rfl, rfl, rfl, trivial⟩ ?_
        rcases of_ite hF with ⟨h61, hF⟩ | ⟨h61, hF⟩
        ·refine at_cond_true rfl h61 ?_
         refine sn ?_
         refine at_block ?_
         refine at_region ?_
         refine av rfl (r_move rfl) ?_
         refine at_lit (cs := (cInt .i64).all ([0] : List Int)) Tryz.underlying112 Tryz.sizeOf3 Tryz.zeroValue3 rfl rfl rfl (by kernel_rfl) rfl ?_
         intro b62
         obtain ⟨h63, hF⟩ := of_guard hF
         refine at_append (z := .int .i64 0) (c := (cInt .i64)) (ys := ([0] : List Int)) (.s .z) Tryz.underlying112 infoG43 (by kernel_rfl) (by kernel_rfl) rfl rfl rfl rfl (fun _ hw => cells_src (hw.ok (Upd.mem .z))) (by kernel_rfl) h63 (app_small h63) rfl ?_
         intro p64 c65
         refine av rfl (r_assign rfl) ?_
         refine at_nil ?_
         refine at_drop (H := _) .z ?_
         refine at_weak [(2, _), (4, _), (5, _), (11, _)] ⟨rfl, rfl, rfl, rfl, trivial⟩ ?_
         refine at_blk_normal (at_then_normal ?_)
         exact at_weak_k (ih _ _ hF K p64 c65) ⟨rfl, rfl, rfl, rfl, trivial⟩
        ·refine at_cond_false rfl h61 ?_
         refine at_exit ?_
         refine at_then_exit (at_then_exit ?_)
         obtain rfl := of_some hF
         exact at_weak_k (K p57 c58) ⟨rfl, rfl, rfl, rfl, trivial⟩
      ·skip
       intro p59 c60
       refine at_blk_same ?_
       refine at_then_normal ?_
       refine at_region ?_
       refine av rfl (r_move rfl) ?_
       refine av rfl (r_move rfl) ?_
       obtain ⟨h66, hF⟩ := of_guard hF
       refine at_append_row (z := .int .i64 0) (c := (cInt .i64)) (ys := t29.1) .z Tryz.underlying112 infoG43 (by kernel_rfl) (by kernel_rfl) rfl rfl rfl (fun w1 hw => (hw.own (.s .z)).row) (by kernel_rfl) h66 (app_small h66) rfl ?_
       intro p67 c68
       refine av rfl (r_assign rfl) ?_
       refine at_nil ?_
       refine at_drop (H := _) (.s .z) ?_
       refine at_weak [(2, _), (4, _), (5, _)] ⟨rfl, rfl, rfl, trivial⟩ ?_
       refine at_then_normal ?_
       refine at_seq ?_
       refine sr ?_
       refine av rfl (r_assign rfl) ?_
       refine nwt [(2, _), (4, _), (5, _), (14, _)] ⟨rfl, rfl, rfl, rfl, trivial⟩ ?_
       refine at_block ?_
       obtain ⟨q69, hq69, hF⟩ := of_bindM hF
       refine at_weak [(2, _), (4, _), (5, _), (14, _)] ⟨rfl, rfl, rfl, rfl, trivial⟩ ?_
       refine at_loop_n (B := 4) (A := fun Y => At 112 [(2, .pointer (some ⟨b1, 0, none⟩)), (4, .pointer (some ⟨b2, 0, none⟩))] (Wd w [cellsE b2 (Cd.cs (cVec (cInt .u8) 16 (by decide)) q69) 23, cellsE b1 (Cd.cs (cVec (cInt .u8) 16 (by decide)) (Vector.replicate 16 (0 : Int) : (Vector Int 16))) 23]) Y) ?_ ?_
       ·intro K
        refine crawlwayref09_Parse.l3.partial_correctness t29 q55 (motive := fun i70 i71 x => KN (fun Y => At 112 [(2, .pointer (some ⟨b1, 0, none⟩)), (4, .pointer (some ⟨b2, 0, none⟩))] (Wd w [cellsE b2 (Cd.cs (cVec (cInt .u8) 16 (by decide)) x) 23, cellsE b1 (Cd.cs (cVec (cInt .u8) 16 (by decide)) (Vector.replicate 16 (0 : Int) : (Vector Int 16))) 23]) Y) _ 4 → Round (fun Y => At 112 [(2, .pointer (some ⟨b1, 0, none⟩)), (4, .pointer (some ⟨b2, 0, none⟩)), (5, .slice p67 (q55 ++ t29.1).length c68), (14, .int .i64 i70)] (Wd w [rowE (cInt .i64) 3 p67 c68 (q55 ++ t29.1), cellsE b2 (Cd.cs (cVec (cInt .u8) 16 (by decide)) i71) 23, cellsE b1 (Cd.cs (cVec (cInt .u8) 16 (by decide)) (Vector.replicate 16 (0 : Int) : (Vector Int 16))) 23]) Y) _ _ _) ?_ _ _ _ hq69 K
        ·clear K hF
         intro g ih i70 i71 x hF K
         refine at_round ?_
         refine at_seq ?_
         refine sr ?_
         refine av rfl (r_move rfl) ?_
         refine av rfl (r_ilss rfl rfl) ?_
         refine nwt [(2, _), (4, _), (5, _), (14, _), (89, _)] ⟨rfl, rfl, rfl, rfl, rfl, trivial⟩ ?_
         rcases of_ite hF with ⟨h72, hF⟩ | ⟨h72, hF⟩
         ·refine at_cond_true rfl h72 ?_
          refine sn ?_
          refine at_seq ?_
          refine at_block ?_
          refine sr ?_
          refine av rfl (r_move rfl) ?_
          refine av rfl (r_imul rfl rfl) ?_
          refine av rfl (r_move rfl) ?_
          refine av rfl (r_move rfl) ?_
          obtain ⟨h73, hF⟩ := of_guard hF
          refine at_pure (φ := ∃ b o, p67 = some ⟨b, o, none⟩) (fun _ hw => row_ptr (hw.own .z).row h73) ?_
          rintro ⟨b75, o76, hp74⟩
          refine av rfl (r_idx Tryz.underlying112 Tryz.sizeOf3 rfl rfl h73 hp74) ?_
          refine av rfl (r_load_cell Tryz.isAgg3 rfl (fun _ hw => row_cell0 (W := fun w1 => w1 = _) (fun w1 h => by subst h; exact Below.refl _ _) (hw.own .z).row h73 hp74 rfl _ rfl)) ?_
          refine av rfl (r_iquo rfl rfl (by decide)) ?_
          refine av rfl (r_conv Tryz.underlying3 Tryz.underlying5 rfl) ?_
          obtain ⟨h77, hF⟩ := of_guard hF
          refine av rfl (r_idxArr Tryz.underlying23 Tryz.sizeOf5 rfl rfl h77) ?_
          refine at_store (c := (cInt .u8)) (z := wr .u8 (wr .i64 (Int.tdiv (lget (q55 ++ t29.1) i70) 256))) (.s .z) (Lens.comp (Lens.whole _ _) (fun z => vset i71 (wr .i64 (2 * i70)) z) (Lens.vec (cInt .u8) (by decide) i71 (wr .i64 (2 * i70)) h77)) Tryz.sizeOf5 rfl rfl rfl ?_
          refine nwt [(2, _), (4, _), (5, _), (14, _)] ⟨rfl, rfl, rfl, rfl, trivial⟩ ?_
          refine at_region ?_
          refine av rfl (r_move rfl) ?_
          refine av rfl (r_imul rfl rfl) ?_
          refine av rfl (r_iadd rfl rfl) ?_
          refine av rfl (r_move rfl) ?_
          refine av rfl (r_move rfl) ?_
          obtain ⟨h78, hF⟩ := of_guard hF
          refine at_pure (φ := ∃ b o, p67 = some ⟨b, o, none⟩) (fun _ hw => row_ptr (hw.own .z).row h78) ?_
          rintro ⟨b80, o81, hp79⟩
          refine av rfl (r_idx Tryz.underlying112 Tryz.sizeOf3 rfl rfl h78 hp79) ?_
          refine av rfl (r_load_cell Tryz.isAgg3 rfl (fun _ hw => row_cell0 (W := fun w1 => w1 = _) (fun w1 h => by subst h; exact Below.refl _ _) (hw.own .z).row h78 hp79 rfl _ rfl)) ?_
          refine av rfl (r_irem rfl rfl (by decide)) ?_
          refine av rfl (r_conv Tryz.underlying3 Tryz.underlying5 rfl) ?_
          obtain ⟨h82, hF⟩ := of_guard hF
          refine av rfl (r_idxArr Tryz.underlying23 Tryz.sizeOf5 rfl rfl h82) ?_
          refine at_store (c := (cInt .u8)) (z := wr .u8 (Int.tmod (lget (q55 ++ t29.1) i70) 256)) (.s .z) (Lens.comp (Lens.whole _ _) (fun z => vset (vset i71 (wr .i64 (2 * i70)) (wr .u8 (wr .i64 (Int.tdiv (lget (q55 ++ t29.1) i70) 256)))) (wr .i64 ((wr .i64 (2 * i70)) + 1)) z) (Lens.vec (cInt .u8) (by decide) (vset i71 (wr .i64 (2 * i70)) (wr .u8 (wr .i64 (Int.tdiv (lget (q55 ++ t29.1) i70) 256)))) (wr .i64 ((wr .i64 (2 * i70)) + 1)) h82)) Tryz.sizeOf5 rfl rfl rfl ?_
          refine at_nil ?_
          refine at_weak [(2, _), (4, _), (5, _), (14, _)] ⟨rfl, rfl, rfl, rfl, trivial⟩ ?_
          refine at_blk_normal (at_then_normal ?_)
          refine at_region ?_
          refine av rfl (r_move rfl) ?_
          refine av rfl (r_iadd rfl rfl) ?_
          refine av rfl (r_assign rfl) ?_
          refine nwt [(2, _), (4, _), (5, _), (14, _)] ⟨rfl, rfl, rfl, rfl, trivial⟩ ?_
          exact at_weak_k (ih _ _ _ hF K) ⟨rfl, rfl, rfl, rfl, trivial⟩
         ·refine at_cond_false rfl h72 ?_
          refine at_exit ?_
          refine at_then_exit (at_then_exit ?_)
          refine at_drop (H := _) .z ?_
          obtain rfl := of_some hF
          exact at_weak_k K ⟨rfl, rfl, trivial⟩
       ·skip
        skip
        refine at_blk_same ?_
        refine at_then_normal ?_
        refine sr ?_
        refine av rfl (r_load_aggc (c := (cVec (cInt .u8) 16 (by decide))) (z := q69) Tryz.isAgg23 Tryz.sizeOf23 rfl (lens_cell .z (Lens.whole _ _))) ?_
        refine at_store (c := (cVec (cInt .u8) 16 (by decide))) (z := q69) (.s .z) (Lens.whole _ _) Tryz.sizeOf23 rfl rfl rfl ?_
        refine av rfl (r_assign rfl) ?_
        refine at_nil ?_
        refine at_drop (H := _) .z ?_
        refine at_weak [(2, _), (3, _)] ⟨rfl, rfl, trivial⟩ ?_
        refine at_then_normal ?_
        refine at_ret ?_
        have K := of_some hF
        subst K
        exact at_res2 rfl (res_cell (c := (cVec (cInt .u8) 16 (by decide))) (y := q69) rfl .z (Lens.whole _ _) Tryz.isAgg23 Tryz.sizeOf23 (.inl rfl)) (res_tmp rfl) (fun w1 hw => ⟨rfl, hw.below⟩)
end Go.Proofs.YtkkmmpofdcccmaaGreatDoor
namespace Go.Proofs.YtkkmmpofdcccmaaGreatDoor
open E Go.RowKit
abbrev zqG5_0 : S_api_Addr := ({ f_V := (0 : Int), f_B := (Vector.replicate 16 (0 : Int) : (Vector Int 16)) } : S_api_Addr)
def addr_Four (x0 : (Vector Int 4)) : Option (S_api_Addr) :=
  some ({ { ({ f_V := (0 : Int), f_B := (Vector.replicate 16 (0 : Int) : (Vector Int 16)) } : S_api_Addr) with f_V := 4 } with f_B := vcopy (({ ({ f_V := (0 : Int), f_B := (Vector.replicate 16 (0 : Int) : (Vector Int 16)) } : S_api_Addr) with f_V := 4 }).f_B) (Int.toNat 0) (List.take (Int.toNat (16 - 0)) (Vector.toList x0)) })
set_option maxHeartbeats 3200000 in
theorem addr_Four_ok (x0 : (Vector Int 4)) (r : S_api_Addr) (hF : addr_Four x0 = some r) (w : World) :
    Calls Tryz.prog 182 #[.agg (Cd.cs (cVec (cInt .u8) 4 (by decide)) x0).toArray] w (fun e w' => e = .returned (.agg (Cd.cs c_api_Addr r).toArray) ∧ Below w.heap.size w w') := by
 unfold addr_Four at hF
 refine calls_enter (l := [.agg (Cd.cs (cVec (cInt .u8) 4 (by decide)) x0).toArray]) Tryz.func182 rfl rfl rfl ?_
 refine at_start ?_
 refine at_weak [(0, _)] ⟨rfl, trivial⟩ ?_
 refine sr ?_
 refine at_box (cs := Cd.cs (cVec (cInt .u8) 4 (by decide)) x0) rfl rfl rfl ?_
 intro b1
 refine at_alloc (cs := Cd.cs c_api_Addr zqG5_0) Tryz.zeroValue25 rfl rfl ?_
 intro b2
 refine nws [(1, _), (2, _)] ⟨rfl, rfl, trivial⟩ ?_
 refine av rfl (r_build_struct (zs := Cd.cs c_api_Addr zqG5_0) (cs := Cd.cs c_api_Addr ({ zqG5_0 with f_V := 4 })) Tryz.underlying25 Tryz.zeroValue25 rfl (places_api_Addr_25) rfl (fill_step (c := (cInt .i64)) (z := 4) rfl (c_api_Addr_f_V zqG5_0) rfl rfl)) ?_
 refine at_alloc (cs := Cd.cs c_api_Addr zqG5_0) Tryz.zeroValue25 rfl rfl ?_
 intro b3
 refine at_store (c := c_api_Addr) (z := { zqG5_0 with f_V := 4 }) .z (Lens.whole _ _) Tryz.sizeOf25 rfl rfl rfl ?_
 refine nwt [(1, _), (2, _), (3, _)] ⟨rfl, rfl, rfl, trivial⟩ ?_
 refine at_seq ?_
 refine at_weak [(1, _), (2, _), (3, _)] ⟨rfl, rfl, rfl, trivial⟩ ?_
 refine at_inv [.q 5 (fun g4 => .pointer (some ⟨b3, 0 + 1, none⟩)) [] 0 0, .q 6 (fun g4 => .slice (some ⟨b3, 0 + 1, none⟩) (Vector.toList (({ zqG5_0 with f_V := 4 }).f_B)).length 16) [0] 0 0, .q 7 (fun g4 => .slice (some ⟨b1, 0, none⟩) (Vector.toList x0).length 4) [] 0 0, .st 0 (some (8, fun g4 => .int .i64 (min (List.length (Vector.toList x0)) (Int.toNat (16 - 0)) : Nat))) [1, 2]] (fun g4 s => match s with | 0 => (Wd w [cellsE b3 (Cd.cs c_api_Addr ({ zqG5_0 with f_V := 4 })) 25, cellsE b2 (Cd.cs c_api_Addr zqG5_0) 25, cellsE b1 (Cd.cs (cVec (cInt .u8) 4 (by decide)) x0) 159]) | _ => (Wd w [cellsE b3 (Cd.cs c_api_Addr ({ { zqG5_0 with f_V := 4 } with f_B := vcopy (({ zqG5_0 with f_V := 4 }).f_B) (Int.toNat 0) (List.take (Int.toNat (16 - 0)) (Vector.toList x0)) })) 25, cellsE b2 (Cd.cs c_api_Addr zqG5_0) 25, cellsE b1 (Cd.cs (cVec (cInt .u8) 4 (by decide)) x0) 159])) 1 (by kernel_rfl) (by kernel_rfl) (by kernel_rfl) (by kernel_rfl) (by kernel_rfl) ⟨fun _ _ _ => rfl, fun _ _ _ => rfl, fun _ _ _ => rfl, fun _ _ _ => rfl, trivial⟩ (by kernel_rfl) (fun _ h => ⟨fun _ => (0, none, 0, none), h.drew⟩) ⟨?_, ?_, ?_, ?_, trivial⟩ ?_
 ·intro Lx g4 s K hl hh k
  show At 10 ((1, _) :: (2, _) :: (3, _) :: Lx) _ _
  refine av rfl (r_fieldAddr (fo := 1) Tryz.underlying25 rfl rfl (fun w => ⟨_, Tryz.sizeOf23 w⟩) rfl) ?_
  exact at_nil k
 ·intro Lx g4 s K hl hh k
  show At 10 ((5, _) :: (1, _) :: (2, _) :: (3, _) :: Lx) _ _
  obtain rfl : s = 0 := by omega
  refine av rfl (r_view_all (c := (cInt .u8)) (({ zqG5_0 with f_V := 4 }).f_B) (by decide) Tryz.underlying23 Tryz.sizeOf5 rfl) ?_
  exact at_nil k
 ·intro Lx g4 s K hl hh k
  show At 10 ((1, _) :: (2, _) :: (3, _) :: Lx) _ _
  obtain rfl : s = 0 := by omega
  refine av rfl (r_slice_vec x0 Tryz.underlying159 Tryz.sizeOf5 rfl) ?_
  exact at_nil k
 ·intro Lx g4 K k
  show At 10 ((6, _) :: (7, _) :: (1, _) :: (2, _) :: (3, _) :: Lx) _ _
  refine at_copy (lo := 0) (hi := 16) (xs := Vector.toList x0) .z (Lens.comp (Lens.whole _ _) (fun z => { { zqG5_0 with f_V := 4 } with f_B := z }) (c_api_Addr_f_B ({ zqG5_0 with f_V := 4 }))) rfl (by decide) Tryz.underlying22 (by kernel_rfl) rfl (rsp_zero (by decide)) (by simp) rfl ⟨_, rfl⟩ (fun w1 hw => (vec_row (hw.ok (Upd.mem (.s (.s .z)))))) rfl ?_
  exact at_nil k
 intro g4
 show At 10 [(5, _), (6, _), (7, _), (8, _), (1, _), (2, _), (3, _)] _ _
 refine at_drop (H := _) (.s (.s .z)) ?_
 refine at_weak [(2, _), (3, _)] ⟨rfl, rfl, trivial⟩ ?_
 refine at_then_normal ?_
 refine sr ?_
 refine av rfl (r_load_aggc (c := c_api_Addr) (z := { { zqG5_0 with f_V := 4 } with f_B := vcopy (({ zqG5_0 with f_V := 4 }).f_B) (Int.toNat 0) (List.take (Int.toNat (16 - 0)) (Vector.toList x0)) }) Tryz.isAgg25 Tryz.sizeOf25 rfl (lens_cell .z (Lens.whole _ _))) ?_
 refine at_store (c := c_api_Addr) (z := { { zqG5_0 with f_V := 4 } with f_B := vcopy (({ zqG5_0 with f_V := 4 }).f_B) (Int.toNat 0) (List.take (Int.toNat (16 - 0)) (Vector.toList x0)) }) (.s .z) (Lens.whole _ _) Tryz.sizeOf25 rfl rfl rfl ?_
 refine at_nil ?_
 refine at_drop (H := _) .z ?_
 refine at_weak [(2, _)] ⟨rfl, trivial⟩ ?_
 refine at_then_normal ?_
 refine at_ret ?_
 have K := of_some hF
 subst K
 exact at_res1 rfl (res_cell (c := c_api_Addr) (y := { { zqG5_0 with f_V := 4 } with f_B := vcopy (({ zqG5_0 with f_V := 4 }).f_B) (Int.toNat 0) (List.take (Int.toNat (16 - 0)) (Vector.toList x0)) }) rfl .z (Lens.whole _ _) Tryz.isAgg25 Tryz.sizeOf25 (.inl rfl)) (fun w1 hw => ⟨rfl, hw.below⟩)
def addr_Six (x0 : (Vector Int 16)) : Option (S_api_Addr) :=
  some ({ { ({ f_V := (0 : Int), f_B := (Vector.replicate 16 (0 : Int) : (Vector Int 16)) } : S_api_Addr) with f_V := 6 } with f_B := x0 })
theorem addr_Six_ok (x0 : (Vector Int 16)) (r : S_api_Addr) (hF : addr_Six x0 = some r) (w : World) :
    Calls Tryz.prog 180 #[.agg (Cd.cs (cVec (cInt .u8) 16 (by decide)) x0).toArray] w (fun e w' => e = .returned (.agg (Cd.cs c_api_Addr r).toArray) ∧ Below w.heap.size w w') := by
 unfold addr_Six at hF
 refine calls_enter (l := [.agg (Cd.cs (cVec (cInt .u8) 16 (by decide)) x0).toArray]) Tryz.func180 rfl rfl rfl ?_
 refine at_start ?_
 refine at_weak [(0, _)] ⟨rfl, trivial⟩ ?_
 refine sr ?_
 refine at_box (cs := Cd.cs (cVec (cInt .u8) 16 (by decide)) x0) rfl rfl rfl ?_
 intro b1
 refine at_alloc (cs := Cd.cs c_api_Addr zqG5_0) Tryz.zeroValue25 rfl rfl ?_
 intro b2
 refine nws [(1, _), (2, _)] ⟨rfl, rfl, trivial⟩ ?_
 refine av rfl (r_load_aggc (c := (cVec (cInt .u8) 16 (by decide))) (z := x0) Tryz.isAgg23 Tryz.sizeOf23 rfl (lens_cell (.s .z) (Lens.whole _ _))) ?_
 refine av rfl (r_build_struct (zs := Cd.cs c_api_Addr zqG5_0) (cs := Cd.cs c_api_Addr ({ { zqG5_0 with f_V := 6 } with f_B := x0 })) Tryz.underlying25 Tryz.zeroValue25 rfl (places_api_Addr_25) rfl (fill_step (c := (cInt .i64)) (z := 6) rfl (c_api_Addr_f_V zqG5_0) rfl (fill_step (c := (cVec (cInt .u8) 16 (by decide))) (z := x0) rfl (c_api_Addr_f_B ({ zqG5_0 with f_V := 6 })) rfl rfl))) ?_
 refine at_store (c := c_api_Addr) (z := { { zqG5_0 with f_V := 6 } with f_B := x0 }) .z (Lens.whole _ _) Tryz.sizeOf25 rfl rfl rfl ?_
 refine at_nil ?_
 refine at_drop (H := _) (.s .z) ?_
 refine at_weak [(2, _)] ⟨rfl, trivial⟩ ?_
 refine at_then_normal ?_
 refine at_ret ?_
 have K := of_some hF
 subst K
 exact at_res1 rfl (res_cell (c := c_api_Addr) (y := { { zqG5_0 with f_V := 6 } with f_B := x0 }) rfl .z (Lens.whole _ _) Tryz.isAgg25 Tryz.sizeOf25 (.inl rfl)) (fun w1 hw => ⟨rfl, hw.below⟩)
def addr_Right (x0 : S_api_Addr) : Option (Bool) :=
  if (x0.f_V == 6) = true then (some true) else (if (x0.f_V == 4) = true then (if 4 ≤ (lsub (Vector.toList x0.f_B) 0 4).length then addr_Four (lvec 4 (lsub (Vector.toList x0.f_B) 0 4)) >>= fun t8 => some (decide (x0 = t8)) else none) else (some false))
theorem addr_Right_ok (x0 : S_api_Addr) (r : Bool) (hF : addr_Right x0 = some r) (w : World) :
    Calls Tryz.prog 158 #[.agg (Cd.cs c_api_Addr x0).toArray] w (fun e w' => e = .returned (.bool r) ∧ Below w.heap.size w w') := by
 unfold addr_Right at hF
 refine calls_enter (l := [.agg (Cd.cs c_api_Addr x0).toArray]) Tryz.func158 rfl rfl rfl ?_
 refine at_start ?_
 refine at_weak [(0, _)] ⟨rfl, trivial⟩ ?_
 refine sr ?_
 refine at_box (cs := Cd.cs c_api_Addr x0) rfl rfl rfl ?_
 intro b1
 refine av rfl (r_assign rfl) ?_
 refine nwt [(1, _)] ⟨rfl, trivial⟩ ?_
 refine at_seq ?_
 refine at_draw (by kernel_rfl) (by kernel_rfl) (fun _ h => h.drew) ?_
 refine atq_val rfl rfl rfl (r_fieldAddr (fo := 0) Tryz.underlying25 rfl rfl (fun w => ⟨_, Tryz.sizeOf3 w⟩) rfl) ?_
 refine atq_val rfl rfl rfl (r_load_cell Tryz.isAgg3 rfl (lens_cell0 (c := (cInt .i64)) (y := x0.f_V) .z (Lens.comp (Lens.whole _ _) (fun z => { x0 with f_V := z }) (c_api_Addr_f_V x0)) rfl)) ?_
 refine atq_val rfl rfl rfl (r_ieql rfl rfl) ?_
 refine atq_val rfl rfl rfl (r_move rfl) ?_
 rcases of_ite hF with ⟨h2, hF⟩ | ⟨h2, hF⟩
 ·refine atq_fix (g := 6) rfl h2 ?_
  refine atq_guard_no rfl rfl rfl rfl rfl ?_
  refine atq_guard_no rfl rfl rfl rfl rfl ?_
  refine atq_guard_no rfl rfl rfl rfl rfl ?_
  refine atq_guard_no rfl rfl rfl rfl rfl ?_
  refine atq_guard_undef rfl rfl rfl rfl ?_
  refine atq_guard_undef rfl rfl rfl rfl ?_
  refine atq_guard_undef rfl rfl rfl rfl ?_
  refine atq_guard_undef rfl rfl rfl rfl ?_
  refine atq_guard_undef rfl rfl rfl rfl ?_
  refine atq_guard_undef rfl rfl rfl rfl ?_
  refine atq_guard_undef rfl rfl rfl rfl ?_
  refine atq_guard_no rfl rfl rfl rfl rfl ?_
  refine atq_val rfl rfl rfl (r_pick rfl rfl rfl) ?_
  refine atq_val rfl rfl rfl (r_assign rfl) ?_
  refine atq_nil ?_
  refine at_drop (H := _) .z ?_
  refine at_weak [(2, _)] ⟨rfl, trivial⟩ ?_
  refine at_then_normal ?_
  refine at_ret ?_
  have K := of_some hF
  subst K
  exact at_return1 rfl rfl (fun w1 hw => ⟨rfl, hw.below⟩)
 ·refine atq_fix (g := 6) rfl h2 ?_
  refine atq_guard_yes rfl rfl rfl ?_
  refine atq_val rfl rfl rfl (r_fieldAddr (fo := 0) Tryz.underlying25 rfl rfl (fun w => ⟨_, Tryz.sizeOf3 w⟩) rfl) ?_
  refine atq_guard_yes rfl rfl rfl ?_
  refine atq_val rfl rfl rfl (r_load_cell Tryz.isAgg3 rfl (lens_cell0 (c := (cInt .i64)) (y := x0.f_V) .z (Lens.comp (Lens.whole _ _) (fun z => { x0 with f_V := z }) (c_api_Addr_f_V x0)) rfl)) ?_
  refine atq_guard_yes rfl rfl rfl ?_
  refine atq_val rfl rfl rfl (r_ieql rfl rfl) ?_
  refine atq_guard_yes rfl rfl rfl ?_
  refine atq_val rfl rfl rfl (r_move rfl) ?_
  rcases of_ite hF with ⟨h3, hF⟩ | ⟨h3, hF⟩
  ·refine atq_fix (g := 10) rfl h3 ?_
   refine atq_guard_yes rfl rfl rfl ?_
   refine atq_val rfl rfl rfl (r_load_aggc (c := c_api_Addr) (z := x0) Tryz.isAgg25 Tryz.sizeOf25 rfl (lens_cell .z (Lens.whole _ _))) ?_
   refine atq_guard_yes rfl rfl rfl ?_
   refine atq_val rfl rfl rfl (r_fieldAddr (fo := 1) Tryz.underlying25 rfl rfl (fun w => ⟨_, Tryz.sizeOf23 w⟩) rfl) ?_
   refine atq_guard_yes rfl rfl rfl ?_
   refine atq_val rfl rfl rfl (r_view (c := (cInt .u8)) (v := x0.f_B) (l := 0) (h := 4) Tryz.underlying23 Tryz.sizeOf5 rfl rfl ⟨_, rfl⟩ (by decide)) ?_
   refine atq_guard_yes rfl rfl rfl ?_
   obtain ⟨h4, hF⟩ := of_guard hF
   refine atq_val rfl rfl rfl (r_arrptr Tryz.underlying159 rfl h4) ?_
   refine atq_guard_yes rfl rfl rfl ?_
   obtain ⟨b5, o6, hp7⟩ : ∃ b o, rsp (some ⟨b1, 0 + 1, none⟩) 16 0 (Cd.sz (cInt .u8)) = some ⟨b, o, none⟩ := rsp_plain
   refine atq_val rfl rfl rfl (r_load_aggc (c := (cVec (cInt .u8) 4 (by decide))) (z := lvec 4 (lsub (Vector.toList x0.f_B) 0 4)) Tryz.isAgg159 Tryz.sizeOf159 (by rw [← hp7]; rfl) (fun w1 hw => row_lvec (Row.sub (lens_row .z (Lens.comp (Lens.whole _ _) (fun z => { x0 with f_B := z }) (c_api_Addr_f_B x0)) hw) (vbnd (by decide))) h4 hp7)) ?_
   refine atq_guard_yes rfl rfl rfl ?_
   obtain ⟨t8, ht8, hF⟩ := of_bindM hF
   refine atq_call Tryz.func182 rfl (by kernel_rfl) rfl rfl (fun w hw => (addr_Four_ok _ _ ht8 w).mono fun _ _ h => ⟨h.1, hw.call h.2⟩) ?_
   refine atq_guard_yes rfl rfl rfl ?_
   refine atq_val rfl rfl rfl (r_eqagg (c := c_api_Addr) (a := x0) (b := t8) (eq_api_Addr_25) rfl Tryz.eqGuardType25 rfl rfl (.inl rfl) rfl) ?_
   refine atq_guard_yes rfl rfl rfl ?_
   refine atq_val rfl rfl rfl (r_pick rfl rfl rfl) ?_
   refine atq_val rfl rfl rfl (r_pick rfl rfl rfl) ?_
   refine atq_val rfl rfl rfl (r_assign rfl) ?_
   refine atq_nil ?_
   refine at_drop (H := _) .z ?_
   refine at_weak [(2, _)] ⟨rfl, trivial⟩ ?_
   refine at_then_normal ?_
   refine at_ret ?_
   have K := of_some hF
   subst K
   exact at_return1 rfl rfl (fun w1 hw => ⟨rfl, hw.below⟩)
  ·refine atq_fix (g := 10) rfl h3 ?_
   refine atq_guard_no rfl rfl rfl rfl rfl ?_
   refine atq_guard_no rfl rfl rfl rfl rfl ?_
   refine atq_guard_no rfl rfl rfl rfl rfl ?_
   refine atq_guard_no rfl rfl rfl rfl rfl ?_
   refine atq_guard_no rfl rfl rfl rfl rfl ?_
   refine atq_guard_no rfl rfl rfl rfl rfl ?_
   refine atq_guard_no rfl rfl rfl rfl rfl ?_
   refine atq_guard_yes rfl rfl rfl ?_
   refine atq_val rfl rfl rfl (r_pick rfl rfl rfl) ?_
   refine atq_val rfl rfl rfl (r_pick rfl rfl rfl) ?_
   refine atq_val rfl rfl rfl (r_assign rfl) ?_
   refine atq_nil ?_
   refine at_drop (H := _) .z ?_
   refine at_weak [(2, _)] ⟨rfl, trivial⟩ ?_
   refine at_then_normal ?_
   refine at_ret ?_
   have K := of_some hF
   subst K
   exact at_return1 rfl rfl (fun w1 hw => ⟨rfl, hw.below⟩)
def addr_Width (x0 : S_api_Addr) : Option (Int) :=
  addr_Right x0 >>= fun t2 => if (!t2) = true then (some 0) else (if (x0.f_V == 4) = true then (some 32) else (some 128))
theorem addr_Width_ok (x0 : S_api_Addr) (r : Int) (hF : addr_Width x0 = some r) (w : World) :
    Calls Tryz.prog 156 #[.agg (Cd.cs c_api_Addr x0).toArray] w (fun e w' => e = .returned (.int .i64 r) ∧ Below w.heap.size w w') := by
 unfold addr_Width at hF
 refine calls_enter (l := [.agg (Cd.cs c_api_Addr x0).toArray]) Tryz.func156 rfl rfl rfl ?_
 refine at_start ?_
 refine at_weak [(0, _)] ⟨rfl, trivial⟩ ?_
 refine sr ?_
 refine at_box (cs := Cd.cs c_api_Addr x0) rfl rfl rfl ?_
 intro b1
 refine av rfl (r_assign rfl) ?_
 refine nwt [(1, _)] ⟨rfl, trivial⟩ ?_
 refine at_seq ?_
 refine at_block ?_
 refine sr ?_
 refine av rfl (r_load_aggc (c := c_api_Addr) (z := x0) Tryz.isAgg25 Tryz.sizeOf25 rfl (lens_cell .z (Lens.whole _ _))) ?_
 obtain ⟨t2, ht2, hF⟩ := of_bindM hF
 refine at_callB Tryz.func158 rfl (by kernel_rfl) rfl rfl (fun w hw => addr_Right_ok _ _ ht2 w) ?_
 refine av rfl (r_not rfl) ?_
 refine av rfl (r_assign rfl) ?_
 refine nwt [(1, _), (3, _)] ⟨rfl, rfl, trivial⟩ ?_
 rcases of_ite hF with ⟨h3, hF⟩ | ⟨h3, hF⟩
 ·refine at_cond_true rfl h3 ?_
  refine sr ?_
  refine av rfl (r_assign rfl) ?_
  refine at_nil ?_
  refine at_drop (H := _) .z ?_
  refine at_weak [(2, _)] ⟨rfl, trivial⟩ ?_
  refine at_then_normal ?_
  refine at_ret ?_
  refine at_blk_ret (at_then_ret ?_)
  have K := of_some hF
  subst K
  exact at_return1 rfl rfl (fun w1 hw => ⟨rfl, hw.below⟩)
 ·refine at_cond_false rfl h3 ?_
  refine sr ?_
  refine av rfl (r_fieldAddr (fo := 0) Tryz.underlying25 rfl rfl (fun w => ⟨_, Tryz.sizeOf3 w⟩) rfl) ?_
  refine av rfl (r_load_cell Tryz.isAgg3 rfl (lens_cell0 (c := (cInt .i64)) (y := x0.f_V) .z (Lens.comp (Lens.whole _ _) (fun z => { x0 with f_V := z }) (c_api_Addr_f_V x0)) rfl)) ?_
  refine av rfl (r_ieql rfl rfl) ?_
  refine av rfl (r_assign rfl) ?_
  refine at_nil ?_
  refine at_drop (H := _) .z ?_
  refine at_weak [(7, _)] ⟨rfl, trivial⟩ ?_
  refine at_then_normal ?_
  rcases of_ite hF with ⟨h4, hF⟩ | ⟨h4, hF⟩
  ·refine at_cond_true rfl h4 ?_
   refine sr ?_
   refine av rfl (r_assign rfl) ?_
   refine nwt [(2, _)] ⟨rfl, trivial⟩ ?_
   refine at_ret ?_
   refine at_blk_ret (at_then_ret ?_)
   have K := of_some hF
   subst K
   exact at_return1 rfl rfl (fun w1 hw => ⟨rfl, hw.below⟩)
  ·refine at_cond_false rfl h4 ?_
   refine at_skip ?_
   refine at_blk_normal (at_then_normal ?_)
   refine sr ?_
   refine av rfl (r_assign rfl) ?_
   refine nwt [(2, _)] ⟨rfl, trivial⟩ ?_
   refine at_ret ?_
   have K := of_some hF
   subst K
   exact at_return1 rfl rfl (fun w1 hw => ⟨rfl, hw.below⟩)
def addr_Text (x0 : S_api_Addr) : Option (ByteArray) :=
  addr_Right x0 >>= fun t2 => if (!t2) = true then (some (⟨#[]⟩)) else (if (x0.f_V == 4) = true then (if 4 ≤ (lsub (Vector.toList x0.f_B) 0 4).length then quad_Text (lvec 4 (lsub (Vector.toList x0.f_B) 0 4)) >>= fun t9 => some t9 else none) else (colon_Text x0.f_B >>= fun t10 => some t10))
theorem addr_Text_ok (x0 : S_api_Addr) (r : ByteArray) (hF : addr_Text x0 = some r) (w : World) (hg_strconv_uint64pow10 : GV_strconv_uint64pow10 w) :
    Calls Tryz.prog 157 #[.agg (Cd.cs c_api_Addr x0).toArray] w (fun e w' => e = .returned (.string r) ∧ Below w.heap.size w w') := by
 unfold addr_Text at hF
 refine calls_enter (l := [.agg (Cd.cs c_api_Addr x0).toArray]) Tryz.func157 rfl rfl rfl ?_
 refine at_start ?_
 refine at_weak [(0, _)] ⟨rfl, trivial⟩ ?_
 refine sr ?_
 refine at_box (cs := Cd.cs c_api_Addr x0) rfl rfl rfl ?_
 intro b1
 refine av rfl (r_assign rfl) ?_
 refine nwt [(1, _)] ⟨rfl, trivial⟩ ?_
 refine at_seq ?_
 refine at_block ?_
 refine sr ?_
 refine av rfl (r_load_aggc (c := c_api_Addr) (z := x0) Tryz.isAgg25 Tryz.sizeOf25 rfl (lens_cell .z (Lens.whole _ _))) ?_
 obtain ⟨t2, ht2, hF⟩ := of_bindM hF
 refine at_callB Tryz.func158 rfl (by kernel_rfl) rfl rfl (fun w hw => addr_Right_ok _ _ ht2 w) ?_
 refine av rfl (r_not rfl) ?_
 refine av rfl (r_assign rfl) ?_
 refine nwt [(1, _), (3, _)] ⟨rfl, rfl, trivial⟩ ?_
 rcases of_ite hF with ⟨h3, hF⟩ | ⟨h3, hF⟩
 ·refine at_cond_true rfl h3 ?_
  refine sr ?_
  refine av rfl (r_assign rfl) ?_
  refine at_nil ?_
  refine at_drop (H := _) .z ?_
  refine at_weak [(2, _)] ⟨rfl, trivial⟩ ?_
  refine at_then_normal ?_
  refine at_ret ?_
  refine at_blk_ret (at_then_ret ?_)
  have K := of_some hF
  subst K
  exact at_return1 rfl rfl (fun w1 hw => ⟨rfl, hw.below⟩)
 ·refine at_cond_false rfl h3 ?_
  refine sr ?_
  refine av rfl (r_fieldAddr (fo := 0) Tryz.underlying25 rfl rfl (fun w => ⟨_, Tryz.sizeOf3 w⟩) rfl) ?_
  refine av rfl (r_load_cell Tryz.isAgg3 rfl (lens_cell0 (c := (cInt .i64)) (y := x0.f_V) .z (Lens.comp (Lens.whole _ _) (fun z => { x0 with f_V := z }) (c_api_Addr_f_V x0)) rfl)) ?_
  refine av rfl (r_ieql rfl rfl) ?_
  refine av rfl (r_assign rfl) ?_
  refine nwt [(1, _), (7, _)] ⟨rfl, rfl, trivial⟩ ?_
  rcases of_ite hF with ⟨h4, hF⟩ | ⟨h4, hF⟩
  ·refine at_cond_true rfl h4 ?_
   refine sr ?_
   refine av rfl (r_fieldAddr (fo := 1) Tryz.underlying25 rfl rfl (fun w => ⟨_, Tryz.sizeOf23 w⟩) rfl) ?_
   refine av rfl (r_view (c := (cInt .u8)) (v := x0.f_B) (l := 0) (h := 4) Tryz.underlying23 Tryz.sizeOf5 rfl rfl ⟨_, rfl⟩ (by decide)) ?_
   obtain ⟨h5, hF⟩ := of_guard hF
   refine av rfl (r_arrptr Tryz.underlying159 rfl h5) ?_
   obtain ⟨b6, o7, hp8⟩ : ∃ b o, rsp (some ⟨b1, 0 + 1, none⟩) 16 0 (Cd.sz (cInt .u8)) = some ⟨b, o, none⟩ := rsp_plain
   refine av rfl (r_load_aggc (c := (cVec (cInt .u8) 4 (by decide))) (z := lvec 4 (lsub (Vector.toList x0.f_B) 0 4)) Tryz.isAgg159 Tryz.sizeOf159 (by rw [← hp8]; rfl) (fun w1 hw => row_lvec (Row.sub (lens_row .z (Lens.comp (Lens.whole _ _) (fun z => { x0 with f_B := z }) (c_api_Addr_f_B x0)) hw) (vbnd (by decide))) h5 hp8)) ?_
   obtain ⟨t9, ht9, hF⟩ := of_bindM hF
   refine at_callB Tryz.func183 rfl (by kernel_rfl) rfl rfl (fun w hw => quad_Text_ok _ _ ht9 w (hg_strconv_uint64pow10.on hw.below)) ?_
   refine av rfl (r_assign rfl) ?_
   refine at_nil ?_
   refine at_drop (H := _) .z ?_
   refine at_weak [(2, _)] ⟨rfl, trivial⟩ ?_
   refine at_then_normal ?_
   refine at_ret ?_
   refine at_blk_ret (at_then_ret ?_)
   have K := of_some hF
   subst K
   exact at_return1 rfl rfl (fun w1 hw => ⟨rfl, hw.below⟩)
  ·refine at_cond_false rfl h4 ?_
   refine at_skip ?_
   refine at_blk_normal (at_then_normal ?_)
   refine sr ?_
   refine av rfl (r_fieldAddr (fo := 1) Tryz.underlying25 rfl rfl (fun w => ⟨_, Tryz.sizeOf23 w⟩) rfl) ?_
   refine av rfl (r_load_aggc (c := (cVec (cInt .u8) 16 (by decide))) (z := x0.f_B) Tryz.isAgg23 Tryz.sizeOf23 rfl (lens_cell .z (Lens.comp (Lens.whole _ _) (fun z => { x0 with f_B := z }) (c_api_Addr_f_B x0)))) ?_
   obtain ⟨t10, ht10, hF⟩ := of_bindM hF
   refine at_callB Tryz.func184 rfl (by kernel_rfl) rfl rfl (fun w hw => colon_Text_ok _ _ ht10 w) ?_
   refine av rfl (r_assign rfl) ?_
   refine at_nil ?_
   refine at_drop (H := _) .z ?_
   refine at_weak [(2, _)] ⟨rfl, trivial⟩ ?_
   refine at_then_normal ?_
   refine at_ret ?_
   have K := of_some hF
   subst K
   exact at_return1 rfl rfl (fun w1 hw => ⟨rfl, hw.below⟩)
def addr_Parse (x0 : ByteArray) : Option (S_api_Addr × Int) :=
  lines_Cut x0 58 >>= fun t2 => if t2.2.2 = true then (colon_Parse x0 >>= fun t4 => if (t4.2 != 0) = true then (some (({ f_V := (0 : Int), f_B := (Vector.replicate 16 (0 : Int) : (Vector Int 16)) } : S_api_Addr), t4.2)) else (addr_Six t4.1 >>= fun t7 => some (t7, 0))) else (quad_Parse x0 >>= fun t8 => if (t8.2 != 0) = true then (some (({ f_V := (0 : Int), f_B := (Vector.replicate 16 (0 : Int) : (Vector Int 16)) } : S_api_Addr), t8.2)) else (addr_Four t8.1 >>= fun t11 => some (t11, 0)))
theorem addr_Parse_ok (x0 : ByteArray) (r : S_api_Addr × Int) (hF : addr_Parse x0 = some r) (w : World) (hg_strconv_ErrRange : GV_strconv_ErrRange w) (hg_strconv_ErrSyntax : GV_strconv_ErrSyntax w) :
    Calls Tryz.prog 155 #[.string x0] w (fun e w' => e = .returned (.tuple #[.agg (Cd.cs c_api_Addr r.1).toArray, .int .i64 r.2]) ∧ Below w.heap.size w w') := by
 unfold addr_Parse at hF
 refine calls_enter (l := [.string x0]) Tryz.func155 rfl rfl rfl ?_
 refine at_start ?_
 refine at_weak [(0, _)] ⟨rfl, trivial⟩ ?_
 refine sr ?_
 refine at_alloc (cs := Cd.cs c_api_Addr zqG5_0) Tryz.zeroValue25 rfl rfl ?_
 intro b1
 refine av rfl (r_assign rfl) ?_
 refine nwt [(0, _), (2, _)] ⟨rfl, rfl, trivial⟩ ?_
 refine at_seq ?_
 refine sr ?_
 refine av rfl (r_move rfl) ?_
 obtain ⟨t2, ht2, hF⟩ := of_bindM hF
 refine at_callB Tryz.func86 rfl (by kernel_rfl) rfl rfl (fun w hw => lines_Cut_ok _ _ _ ht2 w) ?_
 refine av rfl (r_move rfl) ?_
 refine av rfl (r_extract rfl rfl) ?_
 refine av rfl (r_extract rfl rfl) ?_
 refine av rfl (r_extract rfl rfl) ?_
 refine av rfl (r_assign rfl) ?_
 refine av rfl (r_assign rfl) ?_
 refine av rfl (r_assign rfl) ?_
 refine nws [(0, _), (2, _), (6, _)] ⟨rfl, rfl, rfl, trivial⟩ ?_
 refine av rfl (r_move rfl) ?_
 refine nwt [(0, _), (2, _), (17, _)] ⟨rfl, rfl, rfl, trivial⟩ ?_
 rcases of_ite hF with ⟨h3, hF⟩ | ⟨h3, hF⟩
 ·refine at_cond_true rfl h3 ?_
  refine sr ?_
  refine av rfl (r_move rfl) ?_
  obtain ⟨t4, ht4, hF⟩ := of_bindM hF
  refine at_callB Tryz.func179 rfl (by kernel_rfl) rfl rfl (fun w hw => colon_Parse_ok _ _ ht4 w (hg_strconv_ErrRange.on hw.below) (hg_strconv_ErrSyntax.on hw.below)) ?_
  refine av rfl (r_move rfl) ?_
  refine av rfl (r_extract rfl rfl) ?_
  refine av rfl (r_extract rfl rfl) ?_
  refine at_alloc (cs := Cd.cs (cVec (cInt .u8) 16 (by decide)) (Vector.replicate 16 (0 : Int) : (Vector Int 16))) Tryz.zeroValue23 rfl rfl ?_
  intro b5
  refine at_store (c := (cVec (cInt .u8) 16 (by decide))) (z := t4.1) .z (Lens.whole _ _) Tryz.sizeOf23 rfl rfl rfl ?_
  refine av rfl (r_assign rfl) ?_
  refine nwt [(2, _), (7, _), (8, _)] ⟨rfl, rfl, rfl, trivial⟩ ?_
  refine at_seq ?_
  refine sr ?_
  refine av rfl (r_move rfl) ?_
  refine av rfl (r_ineq rfl rfl) ?_
  refine nwt [(2, _), (7, _), (8, _), (24, _)] ⟨rfl, rfl, rfl, rfl, trivial⟩ ?_
  rcases of_ite hF with ⟨h6, hF⟩ | ⟨h6, hF⟩
  ·refine at_cond_true rfl h6 ?_
   refine sr ?_
   refine av rfl (r_build_struct (zs := Cd.cs c_api_Addr zqG5_0) (cs := Cd.cs c_api_Addr zqG5_0) Tryz.underlying25 Tryz.zeroValue25 rfl (places_api_Addr_25) rfl rfl) ?_
   refine av rfl (r_move rfl) ?_
   refine at_store (c := c_api_Addr) (z := zqG5_0) (.s .z) (Lens.whole _ _) Tryz.sizeOf25 rfl rfl rfl ?_
   refine av rfl (r_assign rfl) ?_
   refine at_nil ?_
   refine at_drop (H := _) .z ?_
   refine at_weak [(2, _), (3, _)] ⟨rfl, rfl, trivial⟩ ?_
   refine at_then_normal ?_
   refine at_ret ?_
   refine at_then_ret (at_then_ret ?_)
   have K := of_some hF
   subst K
   exact at_res2 rfl (res_cell (c := c_api_Addr) (y := zqG5_0) rfl .z (Lens.whole _ _) Tryz.isAgg25 Tryz.sizeOf25 (.inl rfl)) (res_tmp rfl) (fun w1 hw => ⟨rfl, hw.below⟩)
  ·refine at_cond_false rfl h6 ?_
   refine sns ?_
   refine av rfl (r_load_aggc (c := (cVec (cInt .u8) 16 (by decide))) (z := t4.1) Tryz.isAgg23 Tryz.sizeOf23 rfl (lens_cell .z (Lens.whole _ _))) ?_
   obtain ⟨t7, ht7, hF⟩ := of_bindM hF
   refine at_callB Tryz.func180 rfl (by kernel_rfl) rfl rfl (fun w hw => addr_Six_ok _ _ ht7 w) ?_
   refine at_store (c := c_api_Addr) (z := t7) (.s .z) (Lens.whole _ _) Tryz.sizeOf25 rfl rfl rfl ?_
   refine av rfl (r_assign rfl) ?_
   refine at_nil ?_
   refine at_drop (H := _) .z ?_
   refine at_weak [(2, _), (3, _)] ⟨rfl, rfl, trivial⟩ ?_
   refine at_then_normal ?_
   refine rt ?_
   have K := of_some hF
   subst K
   exact at_res2 rfl (res_cell (c := c_api_Addr) (y := t7) rfl .z (Lens.whole _ _) Tryz.isAgg25 Tryz.sizeOf25 (.inl rfl)) (res_tmp rfl) (fun w1 hw => ⟨rfl, hw.below⟩)
 ·refine at_cond_false rfl h3 ?_
  refine sns ?_
  refine av rfl (r_move rfl) ?_
  obtain ⟨t8, ht8, hF⟩ := of_bindM hF
  refine at_callB Tryz.func181 rfl (by kernel_rfl) rfl rfl (fun w hw => quad_Parse_ok _ _ ht8 w (hg_strconv_ErrRange.on hw.below) (hg_strconv_ErrSyntax.on hw.below)) ?_
  refine av rfl (r_move rfl) ?_
  refine av rfl (r_extract rfl rfl) ?_
  refine av rfl (r_extract rfl rfl) ?_
  refine at_alloc (cs := Cd.cs (cVec (cInt .u8) 4 (by decide)) (Vector.replicate 4 (0 : Int) : (Vector Int 4))) Tryz.zeroValue159 rfl rfl ?_
  intro b9
  refine at_store (c := (cVec (cInt .u8) 4 (by decide))) (z := t8.1) .z (Lens.whole _ _) Tryz.sizeOf159 rfl rfl rfl ?_
  refine av rfl (r_assign rfl) ?_
  refine nwt [(2, _), (9, _), (10, _)] ⟨rfl, rfl, rfl, trivial⟩ ?_
  refine at_seq ?_
  refine sr ?_
  refine av rfl (r_move rfl) ?_
  refine av rfl (r_ineq rfl rfl) ?_
  refine nwt [(2, _), (9, _), (10, _), (35, _)] ⟨rfl, rfl, rfl, rfl, trivial⟩ ?_
  rcases of_ite hF with ⟨h10, hF⟩ | ⟨h10, hF⟩
  ·refine at_cond_true rfl h10 ?_
   refine sr ?_
   refine av rfl (r_build_struct (zs := Cd.cs c_api_Addr zqG5_0) (cs := Cd.cs c_api_Addr zqG5_0) Tryz.underlying25 Tryz.zeroValue25 rfl (places_api_Addr_25) rfl rfl) ?_
   refine av rfl (r_move rfl) ?_
   refine at_store (c := c_api_Addr) (z := zqG5_0) (.s .z) (Lens.whole _ _) Tryz.sizeOf25 rfl rfl rfl ?_
   refine av rfl (r_assign rfl) ?_
   refine at_nil ?_
   refine at_drop (H := _) .z ?_
   refine at_weak [(2, _), (3, _)] ⟨rfl, rfl, trivial⟩ ?_
   refine at_then_normal ?_
   refine rt ?_
   have K := of_some hF
   subst K
   exact at_res2 rfl (res_cell (c := c_api_Addr) (y := zqG5_0) rfl .z (Lens.whole _ _) Tryz.isAgg25 Tryz.sizeOf25 (.inl rfl)) (res_tmp rfl) (fun w1 hw => ⟨rfl, hw.below⟩)
  ·refine at_cond_false rfl h10 ?_
   refine sns ?_
   refine av rfl (r_load_aggc (c := (cVec (cInt .u8) 4 (by decide))) (z := t8.1) Tryz.isAgg159 Tryz.sizeOf159 rfl (lens_cell .z (Lens.whole _ _))) ?_
   obtain ⟨t11, ht11, hF⟩ := of_bindM hF
   refine at_callB Tryz.func182 rfl (by kernel_rfl) rfl rfl (fun w hw => addr_Four_ok _ _ ht11 w) ?_
   refine at_store (c := c_api_Addr) (z := t11) (.s .z) (Lens.whole _ _) Tryz.sizeOf25 rfl rfl rfl ?_
   refine av rfl (r_assign rfl) ?_
   refine at_nil ?_
   refine at_drop (H := _) .z ?_
   refine at_weak [(2, _), (3, _)] ⟨rfl, rfl, trivial⟩ ?_
   refine at_then_normal ?_
   refine at_ret ?_
   have K := of_some hF
   subst K
   exact at_res2 rfl (res_cell (c := c_api_Addr) (y := t11) rfl .z (Lens.whole _ _) Tryz.isAgg25 Tryz.sizeOf25 (.inl rfl)) (res_tmp rfl) (fun w1 hw => ⟨rfl, hw.below⟩)
def crawlwayref10_Right.l0 (x0 : S_api_Addr) (i4 : Int) : Option (Ctl (Bool) (Unit)) :=
  if (decide (i4 < 16)) = true then (if (0 : Int) ≤ i4 ∧ i4 < 16 then if (vget x0.f_B i4 != 0) = true then (some (.ret false)) else (crawlwayref10_Right.l0 x0 (wr .i64 (i4 + 1))) else none) else (some (.nx ()))
  partial_fixpoint
def crawlwayref10_Right (x0 : S_api_Addr) : Option (Bool) :=
  if (x0.f_V == 6) = true then (some true) else (crawlwayref10_Right.l0 x0 4 >>= fun q3 => match q3 with | .ret r' => some r' | .nx sq3 => (some (x0.f_V == 4)))
theorem crawlwayref10_Right_ok (x0 : S_api_Addr) (r : Bool) (hF : crawlwayref10_Right x0 = some r) (w : World) :
    Calls Tryz.prog 74 #[.agg (Cd.cs c_api_Addr x0).toArray] w (fun e w' => e = .returned (.bool r) ∧ Below w.heap.size w w') := by
 unfold crawlwayref10_Right at hF
 refine calls_enter (l := [.agg (Cd.cs c_api_Addr x0).toArray]) Tryz.func74 rfl rfl rfl ?_
 refine at_start ?_
 refine at_weak [(0, _)] ⟨rfl, trivial⟩ ?_
 refine sr ?_
 refine at_box (cs := Cd.cs c_api_Addr x0) rfl rfl rfl ?_
 intro b1
 refine av rfl (r_assign rfl) ?_
 refine nwt [(1, _)] ⟨rfl, trivial⟩ ?_
 refine at_seq ?_
 refine sr ?_
 refine av rfl (r_fieldAddr (fo := 0) Tryz.underlying25 rfl rfl (fun w => ⟨_, Tryz.sizeOf3 w⟩) rfl) ?_
 refine av rfl (r_load_cell Tryz.isAgg3 rfl (lens_cell0 (c := (cInt .i64)) (y := x0.f_V) .z (Lens.comp (Lens.whole _ _) (fun z => { x0 with f_V := z }) (c_api_Addr_f_V x0)) rfl)) ?_
 refine av rfl (r_ieql rfl rfl) ?_
 refine nwt [(1, _), (6, _)] ⟨rfl, rfl, trivial⟩ ?_
 rcases of_ite hF with ⟨h2, hF⟩ | ⟨h2, hF⟩
 ·refine at_cond_true rfl h2 ?_
  refine sr ?_
  refine av rfl (r_assign rfl) ?_
  refine at_nil ?_
  refine at_drop (H := _) .z ?_
  refine at_weak [(2, _)] ⟨rfl, trivial⟩ ?_
  refine at_then_normal ?_
  refine rt ?_
  have K := of_some hF
  subst K
  exact at_return1 rfl rfl (fun w1 hw => ⟨rfl, hw.below⟩)
 ·refine at_cond_false rfl h2 ?_
  refine sn ?_
  refine at_seq ?_
  refine sr ?_
  refine av rfl (r_assign rfl) ?_
  refine nwt [(1, _), (3, _)] ⟨rfl, rfl, trivial⟩ ?_
  refine at_block ?_
  obtain ⟨q3, hq3, hF⟩ := of_bindM hF
  refine at_weak [(1, _), (3, _)] ⟨rfl, rfl, trivial⟩ ?_
  refine at_loop_r (B := 0) (r := r) (q := q3) (A := fun (_ : Unit) Y => At 19 [(1, .pointer (some ⟨b1, 0, none⟩))] (Wd w [cellsE b1 (Cd.cs c_api_Addr x0) 25]) Y) ?_ ?_
  ·intro K
   refine crawlwayref10_Right.l0.partial_correctness x0 (motive := fun i4 x => KR (fun (_ : Unit) Y => At 19 [(1, .pointer (some ⟨b1, 0, none⟩))] (Wd w [cellsE b1 (Cd.cs c_api_Addr x0) 25]) Y) _ 0 r x → Round (fun Y => At 19 [(1, .pointer (some ⟨b1, 0, none⟩)), (3, .int .i64 i4)] (Wd w [cellsE b1 (Cd.cs c_api_Addr x0) 25]) Y) _ _ _) ?_ _ _ hq3 K
   ·clear K hF
    intro g ih i4 x hF K
    refine at_round ?_
    refine at_seq ?_
    refine sr ?_
    refine av rfl (r_move rfl) ?_
    refine av rfl (r_ilss rfl rfl) ?_
    refine nwt [(1, _), (3, _), (8, _)] ⟨rfl, rfl, rfl, trivial⟩ ?_
    rcases of_ite hF with ⟨h5, hF⟩ | ⟨h5, hF⟩
    ·refine at_cond_true rfl h5 ?_
     refine sn ?_
     refine at_seq ?_
     refine at_block ?_
     refine sr ?_
     refine av rfl (r_move rfl) ?_
     refine av rfl (r_fieldAddr (fo := 1) Tryz.underlying25 rfl rfl (fun w => ⟨_, Tryz.sizeOf23 w⟩) rfl) ?_
     obtain ⟨h6, hF⟩ := of_guard hF
     refine av rfl (r_idxArr Tryz.underlying23 Tryz.sizeOf5 rfl rfl h6) ?_
     refine av rfl (r_load_cell Tryz.isAgg5 rfl (lens_cell0 (c := (cInt .u8)) (y := vget x0.f_B i4) .z (Lens.comp (Lens.comp (Lens.whole _ _) (fun z => { x0 with f_B := z }) (c_api_Addr_f_B x0)) (fun z => vset x0.f_B i4 z) (Lens.vec (cInt .u8) (by decide) x0.f_B i4 h6)) rfl)) ?_
     refine av rfl (r_ineq rfl rfl) ?_
     refine nwt [(1, _), (3, _), (15, _)] ⟨rfl, rfl, rfl, trivial⟩ ?_
     rcases of_ite hF with ⟨h7, hF⟩ | ⟨h7, hF⟩
     ·refine at_cond_true rfl h7 ?_
      refine sr ?_
      refine av rfl (r_assign rfl) ?_
      refine at_nil ?_
      refine at_drop (H := _) .z ?_
      refine at_weak [(2, _)] ⟨rfl, trivial⟩ ?_
      refine at_then_normal ?_
      refine at_ret ?_
      refine at_blk_ret (at_then_ret (at_then_ret (at_blk_ret (at_then_ret ?_))))
      obtain rfl := of_some hF
      subst K
      exact at_return1 rfl rfl (fun w1 hw => ⟨rfl, hw.below⟩)
     ·refine at_cond_false rfl h7 ?_
      refine at_skip ?_
      refine at_blk_normal (at_then_normal ?_)
      refine at_region ?_
      refine av rfl (r_move rfl) ?_
      refine av rfl (r_iadd rfl rfl) ?_
      refine av rfl (r_assign rfl) ?_
      refine nwt [(1, _), (3, _)] ⟨rfl, rfl, trivial⟩ ?_
      exact at_weak_k (ih _ _ hF K) ⟨rfl, rfl, trivial⟩
    ·refine at_cond_false rfl h5 ?_
     refine at_exit ?_
     refine at_then_exit (at_then_exit ?_)
     obtain rfl := of_some hF
     exact at_weak_k K ⟨rfl, trivial⟩
  ·cases q3 with
   | ret r' => exact of_some hF
   | nx sq3 =>
    skip
    refine at_blk_same ?_
    refine at_then_normal ?_
    refine sr ?_
    refine av rfl (r_fieldAddr (fo := 0) Tryz.underlying25 rfl rfl (fun w => ⟨_, Tryz.sizeOf3 w⟩) rfl) ?_
    refine av rfl (r_load_cell Tryz.isAgg3 rfl (lens_cell0 (c := (cInt .i64)) (y := x0.f_V) .z (Lens.comp (Lens.whole _ _) (fun z => { x0 with f_V := z }) (c_api_Addr_f_V x0)) rfl)) ?_
    refine av rfl (r_ieql rfl rfl) ?_
    refine av rfl (r_assign rfl) ?_
    refine at_nil ?_
    refine at_drop (H := _) .z ?_
    refine at_weak [(2, _)] ⟨rfl, trivial⟩ ?_
    refine at_then_normal ?_
    refine at_ret ?_
    have K := of_some hF
    subst K
    exact at_return1 rfl rfl (fun w1 hw => ⟨rfl, hw.below⟩)
def crawlwayref10_Of.l0 (x0 : List Int) (i9 : Int) (i10 : S_api_Addr) : Option (S_api_Addr) :=
  if (decide (i9 < (x0.length : Int))) = true then (if (0 : Int) ≤ i9 ∧ i9 < (x0.length : Int) then if (0 : Int) ≤ i9 ∧ i9 < 16 then crawlwayref10_Of.l0 x0 (wr .i64 (i9 + 1)) ({ i10 with f_B := vset i10.f_B i9 (lget x0 i9) }) else none else none) else (some i10)
  partial_fixpoint
def crawlwayref10_Of.l1 (x0 : List Int) (i21 : Int) (i22 : S_api_Addr) : Option (S_api_Addr) :=
  if (decide (i21 < (x0.length : Int))) = true then (if (0 : Int) ≤ i21 ∧ i21 < (x0.length : Int) then if (0 : Int) ≤ i21 ∧ i21 < 16 then crawlwayref10_Of.l1 x0 (wr .i64 (i21 + 1)) ({ i22 with f_B := vset i22.f_B i21 (lget x0 i21) }) else none else none) else (some i22)
  partial_fixpoint
def crawlwayref10_Of (x0 : List Int) : Option (S_api_Addr × Bool) :=
  if ((x0.length : Int) != 4) = true then (if ((x0.length : Int) != 16) = true then (some (({ f_V := (0 : Int), f_B := (Vector.replicate 16 (0 : Int) : (Vector Int 16)) } : S_api_Addr), false)) else ((if ((x0.length : Int) == 16) = true then (some ({ { ({ f_V := (0 : Int), f_B := (Vector.replicate 16 (0 : Int) : (Vector Int 16)) } : S_api_Addr) with f_V := 4 } with f_V := 6 })) else (some ({ ({ f_V := (0 : Int), f_B := (Vector.replicate 16 (0 : Int) : (Vector Int 16)) } : S_api_Addr) with f_V := 4 }))) >>= fun q5 => crawlwayref10_Of.l0 x0 0 q5 >>= fun q8 => some (q8, true))) else ((if ((x0.length : Int) == 16) = true then (some ({ { ({ f_V := (0 : Int), f_B := (Vector.replicate 16 (0 : Int) : (Vector Int 16)) } : S_api_Addr) with f_V := 4 } with f_V := 6 })) else (some ({ ({ f_V := (0 : Int), f_B := (Vector.replicate 16 (0 : Int) : (Vector Int 16)) } : S_api_Addr) with f_V := 4 }))) >>= fun q17 => crawlwayref10_Of.l1 x0 0 q17 >>= fun q20 => some (q20, true))
theorem crawlwayref10_Of_ok (x0 : List Int) (p0_ : Option Addr) (c0_ : Nat) (r : S_api_Addr × Bool) (hF : crawlwayref10_Of x0 = some r) (w : World) (hr0 : Row (cInt .u8) w p0_ c0_ x0) :
    Calls Tryz.prog 121 #[.slice p0_ x0.length c0_] w (fun e w' => e = .returned (.tuple #[.agg (Cd.cs c_api_Addr r.1).toArray, .bool r.2]) ∧ Below w.heap.size w w') := by
 unfold crawlwayref10_Of at hF
 refine calls_enter (l := [.slice p0_ x0.length c0_]) Tryz.func121 rfl rfl rfl ?_
 refine at_start ?_
 refine at_weak [(0, _)] ⟨rfl, trivial⟩ ?_
 refine sr ?_
 refine at_alloc (cs := Cd.cs c_api_Addr zqG5_0) Tryz.zeroValue25 rfl rfl ?_
 intro b1
 refine av rfl (r_assign rfl) ?_
 refine nws [(0, _), (2, _)] ⟨rfl, rfl, trivial⟩ ?_
 refine at_alloc (cs := Cd.cs c_api_Addr zqG5_0) Tryz.zeroValue25 rfl rfl ?_
 intro b2
 refine nwt [(0, _), (2, _), (4, _)] ⟨rfl, rfl, rfl, trivial⟩ ?_
 refine at_seq ?_
 refine sr ?_
 refine av rfl (r_move rfl) ?_
 refine av rfl (r_len_sl Tryz.underlying22 rfl) ?_
 refine av rfl (r_ineq rfl rfl) ?_
 refine av rfl (r_move rfl) ?_
 rcases of_ite hF with ⟨h3, hF⟩ | ⟨h3, hF⟩
 ·refine at_fix (g := 9) rfl h3 ?_
  refine at_guard_yes rfl rfl rfl ?_
  refine av rfl (r_move rfl) ?_
  refine at_guard_yes rfl rfl rfl ?_
  refine av rfl (r_len_sl Tryz.underlying22 rfl) ?_
  refine at_guard_yes rfl rfl rfl ?_
  refine av rfl (r_ineq rfl rfl) ?_
  refine av rfl (r_pick rfl rfl rfl) ?_
  refine nwt [(0, _), (2, _), (4, _), (13, _)] ⟨rfl, rfl, rfl, rfl, trivial⟩ ?_
  rcases of_ite hF with ⟨h4, hF⟩ | ⟨h4, hF⟩
  ·refine at_cond_true rfl h4 ?_
   refine sr ?_
   refine av rfl (r_load_aggc (c := c_api_Addr) (z := zqG5_0) Tryz.isAgg25 Tryz.sizeOf25 rfl (lens_cell .z (Lens.whole _ _))) ?_
   refine at_store (c := c_api_Addr) (z := zqG5_0) (.s .z) (Lens.whole _ _) Tryz.sizeOf25 rfl rfl rfl ?_
   refine av rfl (r_assign rfl) ?_
   refine at_nil ?_
   refine at_drop (H := _) .z ?_
   refine at_weak [(2, _), (3, _)] ⟨rfl, rfl, trivial⟩ ?_
   refine at_then_normal ?_
   refine rt ?_
   have K := of_some hF
   subst K
   exact at_res2 rfl (res_cell (c := c_api_Addr) (y := zqG5_0) rfl .z (Lens.whole _ _) Tryz.isAgg25 Tryz.sizeOf25 (.inl rfl)) (res_tmp rfl) (fun w1 hw => ⟨rfl, hw.below⟩)
  ·refine at_cond_false rfl h4 ?_
   refine sns ?_
   refine av rfl (r_fieldAddr (fo := 0) Tryz.underlying25 rfl rfl (fun w => ⟨_, Tryz.sizeOf3 w⟩) rfl) ?_
   refine at_store (c := (cInt .i64)) (z := 4) .z (Lens.comp (Lens.whole _ _) (fun z => { zqG5_0 with f_V := z }) (c_api_Addr_f_V zqG5_0)) Tryz.sizeOf3 rfl rfl rfl ?_
   refine nwt [(0, _), (2, _), (4, _)] ⟨rfl, rfl, rfl, trivial⟩ ?_
   obtain ⟨q5, hq5, hF⟩ := of_bindM hF
   refine at_joinp (A := fun Y => At 34 [(0, .slice p0_ x0.length c0_), (2, .pointer (some ⟨b1, 0, none⟩)), (4, .pointer (some ⟨b2, 0, none⟩))] (Wd w [cellsE b2 (Cd.cs c_api_Addr q5) 25, cellsE b1 (Cd.cs c_api_Addr zqG5_0) 25]) Y) ?_ ?_
   ·intro Y K
    replace hF := hq5
    refine sr ?_
    refine av rfl (r_move rfl) ?_
    refine av rfl (r_len_sl Tryz.underlying22 rfl) ?_
    refine av rfl (r_ieql rfl rfl) ?_
    refine nwt [(0, _), (2, _), (4, _), (18, _)] ⟨rfl, rfl, rfl, rfl, trivial⟩ ?_
    rcases of_ite hF with ⟨h7, hF⟩ | ⟨h7, hF⟩
    ·refine at_cond_true rfl h7 ?_
     refine at_region ?_
     refine av rfl (r_fieldAddr (fo := 0) Tryz.underlying25 rfl rfl (fun w => ⟨_, Tryz.sizeOf3 w⟩) rfl) ?_
     refine at_store (c := (cInt .i64)) (z := 6) .z (Lens.comp (Lens.whole _ _) (fun z => { { zqG5_0 with f_V := 4 } with f_V := z }) (c_api_Addr_f_V ({ zqG5_0 with f_V := 4 }))) Tryz.sizeOf3 rfl rfl rfl ?_
     refine nwt [(0, _), (2, _), (4, _)] ⟨rfl, rfl, rfl, trivial⟩ ?_
     obtain rfl := of_some hF
     exact at_weak_k K ⟨rfl, rfl, rfl, trivial⟩
    ·refine at_cond_false rfl h7 ?_
     refine sn ?_
     obtain rfl := of_some hF
     exact at_weak_k K ⟨rfl, rfl, rfl, trivial⟩
   ·skip
    skip
    refine at_seq ?_
    refine sr ?_
    refine av rfl (r_assign rfl) ?_
    refine nwt [(0, _), (2, _), (4, _), (5, _)] ⟨rfl, rfl, rfl, rfl, trivial⟩ ?_
    refine at_block ?_
    obtain ⟨q8, hq8, hF⟩ := of_bindM hF
    refine at_weak [(0, _), (2, _), (4, _), (5, _)] ⟨rfl, rfl, rfl, rfl, trivial⟩ ?_
    refine at_loop_n (B := 0) (A := fun Y => At 34 [(2, .pointer (some ⟨b1, 0, none⟩)), (4, .pointer (some ⟨b2, 0, none⟩))] (Wd w [cellsE b2 (Cd.cs c_api_Addr q8) 25, cellsE b1 (Cd.cs c_api_Addr zqG5_0) 25]) Y) ?_ ?_
    ·intro K
     refine crawlwayref10_Of.l0.partial_correctness x0 (motive := fun i9 i10 x => KN (fun Y => At 34 [(2, .pointer (some ⟨b1, 0, none⟩)), (4, .pointer (some ⟨b2, 0, none⟩))] (Wd w [cellsE b2 (Cd.cs c_api_Addr x) 25, cellsE b1 (Cd.cs c_api_Addr zqG5_0) 25]) Y) _ 0 → Round (fun Y => At 34 [(0, .slice p0_ x0.length c0_), (2, .pointer (some ⟨b1, 0, none⟩)), (4, .pointer (some ⟨b2, 0, none⟩)), (5, .int .i64 i9)] (Wd w [cellsE b2 (Cd.cs c_api_Addr i10) 25, cellsE b1 (Cd.cs c_api_Addr zqG5_0) 25]) Y) _ _ _) ?_ _ _ _ hq8 K
     ·clear K hF
      intro g ih i9 i10 x hF K
      refine at_round ?_
      refine at_seq ?_
      refine sr ?_
      refine av rfl (r_move rfl) ?_
      refine av rfl (r_move rfl) ?_
      refine av rfl (r_len_sl Tryz.underlying22 rfl) ?_
      refine av rfl (r_ilss rfl rfl) ?_
      refine nwt [(0, _), (2, _), (4, _), (5, _), (23, _)] ⟨rfl, rfl, rfl, rfl, rfl, trivial⟩ ?_
      rcases of_ite hF with ⟨h11, hF⟩ | ⟨h11, hF⟩
      ·refine at_cond_true rfl h11 ?_
       refine sn ?_
       refine at_seq ?_
       refine at_block ?_
       refine at_region ?_
       refine av rfl (r_move rfl) ?_
       refine av rfl (r_move rfl) ?_
       refine av rfl (r_move rfl) ?_
       obtain ⟨h12, hF⟩ := of_guard hF
       obtain ⟨b14, o15, hp13⟩ := row_ptr hr0 h12
       refine av rfl (r_idx Tryz.underlying22 Tryz.sizeOf5 rfl rfl h12 hp13) ?_
       refine av rfl (r_load_cell Tryz.isAgg5 rfl (row_cell0 (fun _ h => h.below) hr0 h12 hp13 rfl)) ?_
       refine av rfl (r_fieldAddr (fo := 1) Tryz.underlying25 rfl rfl (fun w => ⟨_, Tryz.sizeOf23 w⟩) rfl) ?_
       obtain ⟨h16, hF⟩ := of_guard hF
       refine av rfl (r_idxArr Tryz.underlying23 Tryz.sizeOf5 rfl rfl h16) ?_
       refine at_store (c := (cInt .u8)) (z := lget x0 i9) .z (Lens.comp (Lens.comp (Lens.whole _ _) (fun z => { i10 with f_B := z }) (c_api_Addr_f_B i10)) (fun z => vset i10.f_B i9 z) (Lens.vec (cInt .u8) (by decide) i10.f_B i9 h16)) Tryz.sizeOf5 rfl rfl rfl ?_
       refine at_nil ?_
       refine at_weak [(0, _), (2, _), (4, _), (5, _)] ⟨rfl, rfl, rfl, rfl, trivial⟩ ?_
       refine at_blk_normal (at_then_normal ?_)
       refine at_region ?_
       refine av rfl (r_move rfl) ?_
       refine av rfl (r_iadd rfl rfl) ?_
       refine av rfl (r_assign rfl) ?_
       refine nwt [(0, _), (2, _), (4, _), (5, _)] ⟨rfl, rfl, rfl, rfl, trivial⟩ ?_
       exact at_weak_k (ih _ _ _ hF K) ⟨rfl, rfl, rfl, rfl, trivial⟩
      ·refine at_cond_false rfl h11 ?_
       refine at_exit ?_
       refine at_then_exit (at_then_exit ?_)
       obtain rfl := of_some hF
       exact at_weak_k K ⟨rfl, rfl, trivial⟩
    ·skip
     skip
     refine at_blk_same ?_
     refine at_then_normal ?_
     refine sr ?_
     refine av rfl (r_load_aggc (c := c_api_Addr) (z := q8) Tryz.isAgg25 Tryz.sizeOf25 rfl (lens_cell .z (Lens.whole _ _))) ?_
     refine at_store (c := c_api_Addr) (z := q8) (.s .z) (Lens.whole _ _) Tryz.sizeOf25 rfl rfl rfl ?_
     refine av rfl (r_assign rfl) ?_
     refine at_nil ?_
     refine at_drop (H := _) .z ?_
     refine at_weak [(2, _), (3, _)] ⟨rfl, rfl, trivial⟩ ?_
     refine at_then_normal ?_
     refine at_ret ?_
     have K := of_some hF
     subst K
     exact at_res2 rfl (res_cell (c := c_api_Addr) (y := q8) rfl .z (Lens.whole _ _) Tryz.isAgg25 Tryz.sizeOf25 (.inl rfl)) (res_tmp rfl) (fun w1 hw => ⟨rfl, hw.below⟩)
 ·refine at_fix (g := 9) rfl h3 ?_
  refine at_guard_no rfl rfl rfl rfl rfl ?_
  refine at_guard_no rfl rfl rfl rfl rfl ?_
  refine at_guard_no rfl rfl rfl rfl rfl ?_
  refine av rfl (r_pick rfl rfl rfl) ?_
  refine nwt [(0, _), (2, _), (4, _), (13, _)] ⟨rfl, rfl, rfl, rfl, trivial⟩ ?_
  refine at_cond_false rfl rfl ?_
  refine sns ?_
  refine av rfl (r_fieldAddr (fo := 0) Tryz.underlying25 rfl rfl (fun w => ⟨_, Tryz.sizeOf3 w⟩) rfl) ?_
  refine at_store (c := (cInt .i64)) (z := 4) .z (Lens.comp (Lens.whole _ _) (fun z => { zqG5_0 with f_V := z }) (c_api_Addr_f_V zqG5_0)) Tryz.sizeOf3 rfl rfl rfl ?_
  refine nwt [(0, _), (2, _), (4, _)] ⟨rfl, rfl, rfl, trivial⟩ ?_
  obtain ⟨q17, hq17, hF⟩ := of_bindM hF
  refine at_joinp (A := fun Y => At 34 [(0, .slice p0_ x0.length c0_), (2, .pointer (some ⟨b1, 0, none⟩)), (4, .pointer (some ⟨b2, 0, none⟩))] (Wd w [cellsE b2 (Cd.cs c_api_Addr q17) 25, cellsE b1 (Cd.cs c_api_Addr zqG5_0) 25]) Y) ?_ ?_
  ·intro Y K
   replace hF := hq17
   refine sr ?_
   refine av rfl (r_move rfl) ?_
   refine av rfl (r_len_sl Tryz.underlying22 rfl) ?_
   refine av rfl (r_ieql rfl rfl) ?_
   refine nwt [(0, _), (2, _), (4, _), (18, _)] ⟨rfl, rfl, rfl, rfl, trivial⟩ ?_
   rcases of_ite hF with ⟨h19, hF⟩ | ⟨h19, hF⟩
   ·refine at_cond_true rfl h19 ?_
    refine at_region ?_
    refine av rfl (r_fieldAddr (fo := 0) Tryz.underlying25 rfl rfl (fun w => ⟨_, Tryz.sizeOf3 w⟩) rfl) ?_
    refine at_store (c := (cInt .i64)) (z := 6) .z (Lens.comp (Lens.whole _ _) (fun z => { { zqG5_0 with f_V := 4 } with f_V := z }) (c_api_Addr_f_V ({ zqG5_0 with f_V := 4 }))) Tryz.sizeOf3 rfl rfl rfl ?_
    refine nwt [(0, _), (2, _), (4, _)] ⟨rfl, rfl, rfl, trivial⟩ ?_
    obtain rfl := of_some hF
    exact at_weak_k K ⟨rfl, rfl, rfl, trivial⟩
   ·refine at_cond_false rfl h19 ?_
    refine sn ?_
    obtain rfl := of_some hF
    exact at_weak_k K ⟨rfl, rfl, rfl, trivial⟩
  ·skip
   skip
   refine at_seq ?_
   refine sr ?_
   refine av rfl (r_assign rfl) ?_
   refine nwt [(0, _), (2, _), (4, _), (5, _)] ⟨rfl, rfl, rfl, rfl, trivial⟩ ?_
   refine at_block ?_
   obtain ⟨q20, hq20, hF⟩ := of_bindM hF
   refine at_weak [(0, _), (2, _), (4, _), (5, _)] ⟨rfl, rfl, rfl, rfl, trivial⟩ ?_
   refine at_loop_n (B := 0) (A := fun Y => At 34 [(2, .pointer (some ⟨b1, 0, none⟩)), (4, .pointer (some ⟨b2, 0, none⟩))] (Wd w [cellsE b2 (Cd.cs c_api_Addr q20) 25, cellsE b1 (Cd.cs c_api_Addr zqG5_0) 25]) Y) ?_ ?_
   ·intro K
    refine crawlwayref10_Of.l1.partial_correctness x0 (motive := fun i21 i22 x => KN (fun Y => At 34 [(2, .pointer (some ⟨b1, 0, none⟩)), (4, .pointer (some ⟨b2, 0, none⟩))] (Wd w [cellsE b2 (Cd.cs c_api_Addr x) 25, cellsE b1 (Cd.cs c_api_Addr zqG5_0) 25]) Y) _ 0 → Round (fun Y => At 34 [(0, .slice p0_ x0.length c0_), (2, .pointer (some ⟨b1, 0, none⟩)), (4, .pointer (some ⟨b2, 0, none⟩)), (5, .int .i64 i21)] (Wd w [cellsE b2 (Cd.cs c_api_Addr i22) 25, cellsE b1 (Cd.cs c_api_Addr zqG5_0) 25]) Y) _ _ _) ?_ _ _ _ hq20 K
    ·clear K hF
     intro g ih i21 i22 x hF K
     refine at_round ?_
     refine at_seq ?_
     refine sr ?_
     refine av rfl (r_move rfl) ?_
     refine av rfl (r_move rfl) ?_
     refine av rfl (r_len_sl Tryz.underlying22 rfl) ?_
     refine av rfl (r_ilss rfl rfl) ?_
     refine nwt [(0, _), (2, _), (4, _), (5, _), (23, _)] ⟨rfl, rfl, rfl, rfl, rfl, trivial⟩ ?_
     rcases of_ite hF with ⟨h23, hF⟩ | ⟨h23, hF⟩
     ·refine at_cond_true rfl h23 ?_
      refine sn ?_
      refine at_seq ?_
      refine at_block ?_
      refine at_region ?_
      refine av rfl (r_move rfl) ?_
      refine av rfl (r_move rfl) ?_
      refine av rfl (r_move rfl) ?_
      obtain ⟨h24, hF⟩ := of_guard hF
      obtain ⟨b26, o27, hp25⟩ := row_ptr hr0 h24
      refine av rfl (r_idx Tryz.underlying22 Tryz.sizeOf5 rfl rfl h24 hp25) ?_
      refine av rfl (r_load_cell Tryz.isAgg5 rfl (row_cell0 (fun _ h => h.below) hr0 h24 hp25 rfl)) ?_
      refine av rfl (r_fieldAddr (fo := 1) Tryz.underlying25 rfl rfl (fun w => ⟨_, Tryz.sizeOf23 w⟩) rfl) ?_
      obtain ⟨h28, hF⟩ := of_guard hF
      refine av rfl (r_idxArr Tryz.underlying23 Tryz.sizeOf5 rfl rfl h28) ?_
      refine at_store (c := (cInt .u8)) (z := lget x0 i21) .z (Lens.comp (Lens.comp (Lens.whole _ _) (fun z => { i22 with f_B := z }) (c_api_Addr_f_B i22)) (fun z => vset i22.f_B i21 z) (Lens.vec (cInt .u8) (by decide) i22.f_B i21 h28)) Tryz.sizeOf5 rfl rfl rfl ?_
      refine at_nil ?_
      refine at_weak [(0, _), (2, _), (4, _), (5, _)] ⟨rfl, rfl, rfl, rfl, trivial⟩ ?_
      refine at_blk_normal (at_then_normal ?_)
      refine at_region ?_
      refine av rfl (r_move rfl) ?_
      refine av rfl (r_iadd rfl rfl) ?_
      refine av rfl (r_assign rfl) ?_
      refine nwt [(0, _), (2, _), (4, _), (5, _)] ⟨rfl, rfl, rfl, rfl, trivial⟩ ?_
      exact at_weak_k (ih _ _ _ hF K) ⟨rfl, rfl, rfl, rfl, trivial⟩
     ·refine at_cond_false rfl h23 ?_
      refine at_exit ?_
      refine at_then_exit (at_then_exit ?_)
      obtain rfl := of_some hF
      exact at_weak_k K ⟨rfl, rfl, trivial⟩
   ·skip
    skip
    refine at_blk_same ?_
    refine at_then_normal ?_
    refine sr ?_
    refine av rfl (r_load_aggc (c := c_api_Addr) (z := q20) Tryz.isAgg25 Tryz.sizeOf25 rfl (lens_cell .z (Lens.whole _ _))) ?_
    refine at_store (c := c_api_Addr) (z := q20) (.s .z) (Lens.whole _ _) Tryz.sizeOf25 rfl rfl rfl ?_
    refine av rfl (r_assign rfl) ?_
    refine at_nil ?_
    refine at_drop (H := _) .z ?_
    refine at_weak [(2, _), (3, _)] ⟨rfl, rfl, trivial⟩ ?_
    refine at_then_normal ?_
    refine at_ret ?_
    have K := of_some hF
    subst K
    exact at_res2 rfl (res_cell (c := c_api_Addr) (y := q20) rfl .z (Lens.whole _ _) Tryz.isAgg25 Tryz.sizeOf25 (.inl rfl)) (res_tmp rfl) (fun w1 hw => ⟨rfl, hw.below⟩)
def crawlwayref10_Parse (x0 : ByteArray) : Option (S_api_Addr × Int) :=
  crawlwayref06_Parts x0 58 >>= fun t2 => if (decide ((t2.length : Int) > 1)) = true then (crawlwayref09_Parse x0 >>= fun t6 => if (!t6.2) = true then (some (({ f_V := (0 : Int), f_B := (Vector.replicate 16 (0 : Int) : (Vector Int 16)) } : S_api_Addr), 5)) else (some ({ { ({ f_V := (0 : Int), f_B := (Vector.replicate 16 (0 : Int) : (Vector Int 16)) } : S_api_Addr) with f_V := 6 } with f_B := t6.1 }, 0))) else (crawlwayref08_Parse x0 >>= fun t9 => if (t9.2 != 0) = true then (some (({ f_V := (0 : Int), f_B := (Vector.replicate 16 (0 : Int) : (Vector Int 16)) } : S_api_Addr), t9.2)) else (crawlwayref10_Of ([vget t9.1 0, vget t9.1 1, vget t9.1 2, vget t9.1 3]) >>= fun t13 => some (t13.1, 0)))
theorem crawlwayref10_Parse_ok (x0 : ByteArray) (r : S_api_Addr × Int) (hF : crawlwayref10_Parse x0 = some r) (w : World) :
    Calls Tryz.prog 70 #[.string x0] w (fun e w' => e = .returned (.tuple #[.agg (Cd.cs c_api_Addr r.1).toArray, .int .i64 r.2]) ∧ Below w.heap.size w w') := by
 unfold crawlwayref10_Parse at hF
 refine calls_enter (l := [.string x0]) Tryz.func70 rfl rfl rfl ?_
 refine at_start ?_
 refine at_weak [(0, _)] ⟨rfl, trivial⟩ ?_
 refine sr ?_
 refine at_alloc (cs := Cd.cs c_api_Addr zqG5_0) Tryz.zeroValue25 rfl rfl ?_
 intro b1
 refine av rfl (r_assign rfl) ?_
 refine nwt [(0, _), (2, _)] ⟨rfl, rfl, trivial⟩ ?_
 refine at_seq ?_
 refine sr ?_
 refine av rfl (r_move rfl) ?_
 obtain ⟨t2, ht2, hF⟩ := of_bindM hF
 refine at_callO (c := cStr) (e := 9) (ys := t2) (V := fun p cap => .slice p t2.length cap) Tryz.func56 rfl (by kernel_rfl) rfl rfl (fun w hw => crawlwayref06_Parts_ok _ _ _ ht2 w) ?_
 intro p3 c4
 refine av rfl (r_len_sl Tryz.underlying38 rfl) ?_
 refine av rfl (r_igtr rfl rfl) ?_
 refine at_nil ?_
 refine at_drop (H := _) .z ?_
 refine at_weak [(0, _), (2, _), (13, _)] ⟨rfl, rfl, rfl, trivial⟩ ?_
 refine at_then_normal ?_
 rcases of_ite hF with ⟨h5, hF⟩ | ⟨h5, hF⟩
 ·refine at_cond_true rfl h5 ?_
  refine sr ?_
  refine av rfl (r_move rfl) ?_
  obtain ⟨t6, ht6, hF⟩ := of_bindM hF
  refine at_callB Tryz.func119 rfl (by kernel_rfl) rfl rfl (fun w hw => crawlwayref09_Parse_ok _ _ ht6 w) ?_
  refine av rfl (r_move rfl) ?_
  refine av rfl (r_extract rfl rfl) ?_
  refine av rfl (r_extract rfl rfl) ?_
  refine at_alloc (cs := Cd.cs (cVec (cInt .u8) 16 (by decide)) (Vector.replicate 16 (0 : Int) : (Vector Int 16))) Tryz.zeroValue23 rfl rfl ?_
  intro b7
  refine at_store (c := (cVec (cInt .u8) 16 (by decide))) (z := t6.1) .z (Lens.whole _ _) Tryz.sizeOf23 rfl rfl rfl ?_
  refine av rfl (r_assign rfl) ?_
  refine nwt [(2, _), (4, _), (5, _)] ⟨rfl, rfl, rfl, trivial⟩ ?_
  refine at_seq ?_
  refine sr ?_
  refine av rfl (r_move rfl) ?_
  refine av rfl (r_not rfl) ?_
  refine nwt [(2, _), (4, _), (20, _)] ⟨rfl, rfl, rfl, trivial⟩ ?_
  rcases of_ite hF with ⟨h8, hF⟩ | ⟨h8, hF⟩
  ·refine at_cond_true rfl h8 ?_
   refine sr ?_
   refine av rfl (r_build_struct (zs := Cd.cs c_api_Addr zqG5_0) (cs := Cd.cs c_api_Addr zqG5_0) Tryz.underlying25 Tryz.zeroValue25 rfl (places_api_Addr_25) rfl rfl) ?_
   refine at_store (c := c_api_Addr) (z := zqG5_0) (.s .z) (Lens.whole _ _) Tryz.sizeOf25 rfl rfl rfl ?_
   refine av rfl (r_assign rfl) ?_
   refine at_nil ?_
   refine at_drop (H := _) .z ?_
   refine at_weak [(2, _), (3, _)] ⟨rfl, rfl, trivial⟩ ?_
   refine at_then_normal ?_
   refine at_ret ?_
   refine at_then_ret (at_then_ret ?_)
   have K := of_some hF
   subst K
   exact at_res2 rfl (res_cell (c := c_api_Addr) (y := zqG5_0) rfl .z (Lens.whole _ _) Tryz.isAgg25 Tryz.sizeOf25 (.inl rfl)) (res_tmp rfl) (fun w1 hw => ⟨rfl, hw.below⟩)
  ·refine at_cond_false rfl h8 ?_
   refine sns ?_
   refine av rfl (r_load_aggc (c := (cVec (cInt .u8) 16 (by decide))) (z := t6.1) Tryz.isAgg23 Tryz.sizeOf23 rfl (lens_cell .z (Lens.whole _ _))) ?_
   refine av rfl (r_build_struct (zs := Cd.cs c_api_Addr zqG5_0) (cs := Cd.cs c_api_Addr ({ { zqG5_0 with f_V := 6 } with f_B := t6.1 })) Tryz.underlying25 Tryz.zeroValue25 rfl (places_api_Addr_25) rfl (fill_step (c := (cInt .i64)) (z := 6) rfl (c_api_Addr_f_V zqG5_0) rfl (fill_step (c := (cVec (cInt .u8) 16 (by decide))) (z := t6.1) rfl (c_api_Addr_f_B ({ zqG5_0 with f_V := 6 })) rfl rfl))) ?_
   refine at_store (c := c_api_Addr) (z := { { zqG5_0 with f_V := 6 } with f_B := t6.1 }) (.s .z) (Lens.whole _ _) Tryz.sizeOf25 rfl rfl rfl ?_
   refine av rfl (r_assign rfl) ?_
   refine at_nil ?_
   refine at_drop (H := _) .z ?_
   refine at_weak [(2, _), (3, _)] ⟨rfl, rfl, trivial⟩ ?_
   refine at_then_normal ?_
   refine rt ?_
   have K := of_some hF
   subst K
   exact at_res2 rfl (res_cell (c := c_api_Addr) (y := { { zqG5_0 with f_V := 6 } with f_B := t6.1 }) rfl .z (Lens.whole _ _) Tryz.isAgg25 Tryz.sizeOf25 (.inl rfl)) (res_tmp rfl) (fun w1 hw => ⟨rfl, hw.below⟩)
 ·refine at_cond_false rfl h5 ?_
  refine sns ?_
  refine av rfl (r_move rfl) ?_
  obtain ⟨t9, ht9, hF⟩ := of_bindM hF
  refine at_callB Tryz.func120 rfl (by kernel_rfl) rfl rfl (fun w hw => crawlwayref08_Parse_ok _ _ ht9 w) ?_
  refine av rfl (r_move rfl) ?_
  refine av rfl (r_extract rfl rfl) ?_
  refine av rfl (r_extract rfl rfl) ?_
  refine at_alloc (cs := Cd.cs (cVec (cInt .u8) 4 (by decide)) (Vector.replicate 4 (0 : Int) : (Vector Int 4))) Tryz.zeroValue159 rfl rfl ?_
  intro b10
  refine at_store (c := (cVec (cInt .u8) 4 (by decide))) (z := t9.1) .z (Lens.whole _ _) Tryz.sizeOf159 rfl rfl rfl ?_
  refine av rfl (r_assign rfl) ?_
  refine nwt [(2, _), (6, _), (7, _)] ⟨rfl, rfl, rfl, trivial⟩ ?_
  refine at_seq ?_
  refine sr ?_
  refine av rfl (r_move rfl) ?_
  refine av rfl (r_ineq rfl rfl) ?_
  refine nwt [(2, _), (6, _), (7, _), (30, _)] ⟨rfl, rfl, rfl, rfl, trivial⟩ ?_
  rcases of_ite hF with ⟨h11, hF⟩ | ⟨h11, hF⟩
  ·refine at_cond_true rfl h11 ?_
   refine sr ?_
   refine av rfl (r_build_struct (zs := Cd.cs c_api_Addr zqG5_0) (cs := Cd.cs c_api_Addr zqG5_0) Tryz.underlying25 Tryz.zeroValue25 rfl (places_api_Addr_25) rfl rfl) ?_
   refine av rfl (r_move rfl) ?_
   refine at_store (c := c_api_Addr) (z := zqG5_0) (.s .z) (Lens.whole _ _) Tryz.sizeOf25 rfl rfl rfl ?_
   refine av rfl (r_assign rfl) ?_
   refine at_nil ?_
   refine at_drop (H := _) .z ?_
   refine at_weak [(2, _), (3, _)] ⟨rfl, rfl, trivial⟩ ?_
   refine at_then_normal ?_
   refine rt ?_
   have K := of_some hF
   subst K
   exact at_res2 rfl (res_cell (c := c_api_Addr) (y := zqG5_0) rfl .z (Lens.whole _ _) Tryz.isAgg25 Tryz.sizeOf25 (.inl rfl)) (res_tmp rfl) (fun w1 hw => ⟨rfl, hw.below⟩)
  ·refine at_cond_false rfl h11 ?_
   refine sns ?_
   refine av rfl (r_idxArr Tryz.underlying159 Tryz.sizeOf5 rfl rfl (by decide)) ?_
   refine av rfl (r_load_cell Tryz.isAgg5 rfl (lens_cell0 (c := (cInt .u8)) (y := vget t9.1 0) .z (Lens.comp (Lens.whole _ _) (fun z => vset t9.1 0 z) (Lens.vec (cInt .u8) (by decide) t9.1 0 (by decide))) rfl)) ?_
   refine av rfl (r_idxArr Tryz.underlying159 Tryz.sizeOf5 rfl rfl (by decide)) ?_
   refine av rfl (r_load_cell Tryz.isAgg5 rfl (lens_cell0 (c := (cInt .u8)) (y := vget t9.1 1) .z (Lens.comp (Lens.whole _ _) (fun z => vset t9.1 1 z) (Lens.vec (cInt .u8) (by decide) t9.1 1 (by decide))) rfl)) ?_
   refine av rfl (r_idxArr Tryz.underlying159 Tryz.sizeOf5 rfl rfl (by decide)) ?_
   refine av rfl (r_load_cell Tryz.isAgg5 rfl (lens_cell0 (c := (cInt .u8)) (y := vget t9.1 2) .z (Lens.comp (Lens.whole _ _) (fun z => vset t9.1 2 z) (Lens.vec (cInt .u8) (by decide) t9.1 2 (by decide))) rfl)) ?_
   refine av rfl (r_idxArr Tryz.underlying159 Tryz.sizeOf5 rfl rfl (by decide)) ?_
   refine av rfl (r_load_cell Tryz.isAgg5 rfl (lens_cell0 (c := (cInt .u8)) (y := vget t9.1 3) .z (Lens.comp (Lens.whole _ _) (fun z => vset t9.1 3 z) (Lens.vec (cInt .u8) (by decide) t9.1 3 (by decide))) rfl)) ?_
   refine at_lit (cs := (cInt .u8).all ([vget t9.1 0, vget t9.1 1, vget t9.1 2, vget t9.1 3] : List Int)) Tryz.underlying22 Tryz.sizeOf5 Tryz.zeroValue5 rfl rfl rfl (by kernel_rfl) rfl ?_
   intro b12
   obtain ⟨t13, ht13, hF⟩ := of_bindM hF
   refine at_callB Tryz.func121 rfl (by kernel_rfl) rfl rfl (fun w hw => crawlwayref10_Of_ok _ _ _ _ ht13 w (cells_row (hw.ok (Upd.mem .z)))) ?_
   refine av rfl (r_move rfl) ?_
   refine av rfl (r_extract rfl rfl) ?_
   refine av rfl (r_extract rfl rfl) ?_
   refine at_alloc (cs := Cd.cs c_api_Addr zqG5_0) Tryz.zeroValue25 rfl rfl ?_
   intro b14
   refine at_store (c := c_api_Addr) (z := t13.1) .z (Lens.whole _ _) Tryz.sizeOf25 rfl rfl rfl ?_
   refine av rfl (r_assign rfl) ?_
   refine at_nil ?_
   refine at_drop (H := _) (.s .z) ?_
   refine at_drop (H := _) (.s .z) ?_
   refine at_weak [(2, _), (8, _)] ⟨rfl, rfl, trivial⟩ ?_
   refine at_then_normal ?_
   refine sr ?_
   refine av rfl (r_load_aggc (c := c_api_Addr) (z := t13.1) Tryz.isAgg25 Tryz.sizeOf25 rfl (lens_cell .z (Lens.whole _ _))) ?_
   refine at_store (c := c_api_Addr) (z := t13.1) (.s .z) (Lens.whole _ _) Tryz.sizeOf25 rfl rfl rfl ?_
   refine av rfl (r_assign rfl) ?_
   refine at_nil ?_
   refine at_drop (H := _) .z ?_
   refine at_weak [(2, _), (3, _)] ⟨rfl, rfl, trivial⟩ ?_
   refine at_then_normal ?_
   refine at_ret ?_
   have K := of_some hF
   subst K
   exact at_res2 rfl (res_cell (c := c_api_Addr) (y := t13.1) rfl .z (Lens.whole _ _) Tryz.isAgg25 Tryz.sizeOf25 (.inl rfl)) (res_tmp rfl) (fun w1 hw => ⟨rfl, hw.below⟩)
end Go.Proofs.YtkkmmpofdcccmaaGreatDoor
namespace Go.Proofs.YtkkmmpofdcccmaaGreatDoor
open E Go.RowKit
abbrev zqG6_0 : S_api_Endpoint := ({ f_A := ({ f_V := (0 : Int), f_B := (Vector.replicate 16 (0 : Int) : (Vector Int 16)) } : S_api_Addr), f_Port := (0 : Int) } : S_api_Endpoint)
abbrev zqG6_1 : S_api_Addr := ({ f_V := (0 : Int), f_B := (Vector.replicate 16 (0 : Int) : (Vector Int 16)) } : S_api_Addr)
def stringslite_CutPrefix (x0 : ByteArray) (x1 : ByteArray) : Option (ByteArray × Bool) :=
  stringslite_HasPrefix x0 x1 >>= fun t1 => if (!t1) = true then (some (x0, false)) else (if (0 : Int) ≤ (x1.size : Int) ∧ (x1.size : Int) ≤ (x0.size : Int) ∧ (x0.size : Int) ≤ (x0.size : Int) then some (x0.extract (Int.toNat (x1.size : Int)) (Int.toNat (x0.size : Int)), true) else none)
theorem stringslite_CutPrefix_ok (x0 : ByteArray) (x1 : ByteArray) (r : ByteArray × Bool) (hF : stringslite_CutPrefix x0 x1 = some r) (w : World) :
    Calls Tryz.prog 195 #[.string x0, .string x1] w (fun e w' => e = .returned (.tuple #[.string r.1, .bool r.2]) ∧ w' = w) := by
 unfold stringslite_CutPrefix at hF
 refine calls_enter (l := [.string x0, .string x1]) Tryz.func195 rfl rfl rfl ?_
 refine at_weak [(0, _), (1, _)] ⟨rfl, rfl, trivial⟩ ?_
 refine sr ?_
 refine av rfl (r_assign rfl) ?_
 refine av rfl (r_assign rfl) ?_
 refine nwt [(0, _), (1, _)] ⟨rfl, rfl, trivial⟩ ?_
 refine at_seq ?_
 refine sr ?_
 refine av rfl (r_move rfl) ?_
 refine av rfl (r_move rfl) ?_
 obtain ⟨t1, ht1, hF⟩ := of_bindM hF
 refine at_call0 Tryz.func216 rfl (by kernel_rfl) rfl rfl (fun w => stringslite_HasPrefix_ok _ _ _ ht1 w) ?_
 refine av rfl (r_not rfl) ?_
 refine nwt [(0, _), (1, _), (9, _)] ⟨rfl, rfl, rfl, trivial⟩ ?_
 rcases of_ite hF with ⟨h2, hF⟩ | ⟨h2, hF⟩
 ·refine at_cond_true rfl h2 ?_
  refine sr ?_
  refine av rfl (r_move rfl) ?_
  refine av rfl (r_assign rfl) ?_
  refine av rfl (r_assign rfl) ?_
  refine nwt [(4, _), (5, _)] ⟨rfl, rfl, trivial⟩ ?_
  refine rt ?_
  have K := of_some hF
  subst K
  exact at_return2 rfl rfl rfl (fun w1 hw => ⟨rfl, hw⟩)
 ·refine at_cond_false rfl h2 ?_
  refine sns ?_
  refine av rfl (r_move rfl) ?_
  refine av rfl (r_move rfl) ?_
  refine av rfl (r_len_str Tryz.underlying9 rfl) ?_
  obtain ⟨h3, hF⟩ := of_guard hF
  refine av rfl (r_slice_str Tryz.underlying9 rfl ⟨_, rfl⟩ rfl h3) ?_
  refine av rfl (r_assign rfl) ?_
  refine av rfl (r_assign rfl) ?_
  refine nwt [(4, _), (5, _)] ⟨rfl, rfl, trivial⟩ ?_
  refine at_ret ?_
  have K := of_some hF
  subst K
  exact at_return2 rfl rfl rfl (fun w1 hw => ⟨rfl, hw⟩)
def strings_CutPrefix (x0 : ByteArray) (x1 : ByteArray) : Option (ByteArray × Bool) :=
  stringslite_CutPrefix x0 x1 >>= fun t1 => some (t1.1, t1.2)
theorem strings_CutPrefix_ok (x0 : ByteArray) (x1 : ByteArray) (r : ByteArray × Bool) (hF : strings_CutPrefix x0 x1 = some r) (w : World) :
    Calls Tryz.prog 176 #[.string x0, .string x1] w (fun e w' => e = .returned (.tuple #[.string r.1, .bool r.2]) ∧ w' = w) := by
 unfold strings_CutPrefix at hF
 refine calls_enter (l := [.string x0, .string x1]) Tryz.func176 rfl rfl rfl ?_
 refine at_weak [(0, _), (1, _)] ⟨rfl, rfl, trivial⟩ ?_
 refine sr ?_
 refine av rfl (r_assign rfl) ?_
 refine av rfl (r_assign rfl) ?_
 refine nws [(0, _), (1, _)] ⟨rfl, rfl, trivial⟩ ?_
 refine av rfl (r_move rfl) ?_
 refine av rfl (r_move rfl) ?_
 obtain ⟨t1, ht1, hF⟩ := of_bindM hF
 refine at_call0 Tryz.func195 rfl (by kernel_rfl) rfl rfl (fun w => stringslite_CutPrefix_ok _ _ _ ht1 w) ?_
 refine av rfl (r_extract rfl rfl) ?_
 refine av rfl (r_extract rfl rfl) ?_
 refine av rfl (r_assign rfl) ?_
 refine av rfl (r_assign rfl) ?_
 refine nwt [(4, _), (5, _)] ⟨rfl, rfl, trivial⟩ ?_
 refine at_ret ?_
 have K := of_some hF
 subst K
 exact at_return2 rfl rfl rfl (fun w1 hw => ⟨rfl, hw⟩)
def hostport_Right (x0 : S_api_Endpoint) : Option (Bool) :=
  addr_Right x0.f_A >>= fun t2 => if t2 = true then (if (decide (x0.f_Port ≥ 1)) = true then (some (decide (x0.f_Port ≤ 65535))) else (some false)) else (some false)
theorem hostport_Right_ok (x0 : S_api_Endpoint) (r : Bool) (hF : hostport_Right x0 = some r) (w : World) :
    Calls Tryz.prog 102 #[.agg (Cd.cs c_api_Endpoint x0).toArray] w (fun e w' => e = .returned (.bool r) ∧ Below w.heap.size w w') := by
 unfold hostport_Right at hF
 refine calls_enter (l := [.agg (Cd.cs c_api_Endpoint x0).toArray]) Tryz.func102 rfl rfl rfl ?_
 refine at_start ?_
 refine at_weak [(0, _)] ⟨rfl, trivial⟩ ?_
 refine sr ?_
 refine at_box (cs := Cd.cs c_api_Endpoint x0) rfl rfl rfl ?_
 intro b1
 refine av rfl (r_assign rfl) ?_
 refine nws [(1, _)] ⟨rfl, trivial⟩ ?_
 refine av rfl (r_fieldAddr (fo := 0) Tryz.underlying27 rfl rfl (fun w => ⟨_, Tryz.sizeOf25 w⟩) rfl) ?_
 refine av rfl (r_load_aggc (c := c_api_Addr) (z := x0.f_A) Tryz.isAgg25 Tryz.sizeOf25 rfl (lens_cell .z (Lens.comp (Lens.whole _ _) (fun z => { x0 with f_A := z }) (c_api_Endpoint_f_A x0)))) ?_
 obtain ⟨t2, ht2, hF⟩ := of_bindM hF
 refine at_callB Tryz.func158 rfl (by kernel_rfl) rfl rfl (fun w hw => addr_Right_ok _ _ ht2 w) ?_
 refine av rfl (r_move rfl) ?_
 rcases of_ite hF with ⟨h3, hF⟩ | ⟨h3, hF⟩
 ·refine at_fix (g := 6) rfl h3 ?_
  refine at_guard_yes rfl rfl rfl ?_
  refine av rfl (r_fieldAddr (fo := 17) Tryz.underlying27 rfl rfl (fun w => ⟨_, Tryz.sizeOf3 w⟩) rfl) ?_
  refine at_guard_yes rfl rfl rfl ?_
  refine av rfl (r_load_cell Tryz.isAgg3 rfl (lens_cell0 (c := (cInt .i64)) (y := x0.f_Port) .z (Lens.comp (Lens.whole _ _) (fun z => { x0 with f_Port := z }) (c_api_Endpoint_f_Port x0)) rfl)) ?_
  refine at_guard_yes rfl rfl rfl ?_
  refine av rfl (r_igeq rfl rfl) ?_
  refine av rfl (r_pick rfl rfl rfl) ?_
  refine av rfl (r_move rfl) ?_
  rcases of_ite hF with ⟨h4, hF⟩ | ⟨h4, hF⟩
  ·refine at_fix (g := 11) rfl h4 ?_
   refine at_guard_yes rfl rfl rfl ?_
   refine av rfl (r_fieldAddr (fo := 17) Tryz.underlying27 rfl rfl (fun w => ⟨_, Tryz.sizeOf3 w⟩) rfl) ?_
   refine at_guard_yes rfl rfl rfl ?_
   refine av rfl (r_load_cell Tryz.isAgg3 rfl (lens_cell0 (c := (cInt .i64)) (y := x0.f_Port) .z (Lens.comp (Lens.whole _ _) (fun z => { x0 with f_Port := z }) (c_api_Endpoint_f_Port x0)) rfl)) ?_
   refine at_guard_yes rfl rfl rfl ?_
   refine av rfl (r_ileq rfl rfl) ?_
   refine av rfl (r_pick rfl rfl rfl) ?_
   refine av rfl (r_assign rfl) ?_
   refine at_nil ?_
   refine at_drop (H := _) .z ?_
   refine at_weak [(2, _)] ⟨rfl, trivial⟩ ?_
   refine at_then_normal ?_
   refine at_ret ?_
   have K := of_some hF
   subst K
   exact at_return1 rfl rfl (fun w1 hw => ⟨rfl, hw.below⟩)
  ·refine at_fix (g := 11) rfl h4 ?_
   refine at_guard_no rfl rfl rfl rfl rfl ?_
   refine at_guard_no rfl rfl rfl rfl rfl ?_
   refine at_guard_no rfl rfl rfl rfl rfl ?_
   refine av rfl (r_pick rfl rfl rfl) ?_
   refine av rfl (r_assign rfl) ?_
   refine at_nil ?_
   refine at_drop (H := _) .z ?_
   refine at_weak [(2, _)] ⟨rfl, trivial⟩ ?_
   refine at_then_normal ?_
   refine at_ret ?_
   have K := of_some hF
   subst K
   exact at_return1 rfl rfl (fun w1 hw => ⟨rfl, hw.below⟩)
 ·refine at_fix (g := 6) rfl h3 ?_
  refine at_guard_no rfl rfl rfl rfl rfl ?_
  refine at_guard_no rfl rfl rfl rfl rfl ?_
  refine at_guard_no rfl rfl rfl rfl rfl ?_
  refine av rfl (r_pick rfl rfl rfl) ?_
  refine av rfl (r_move rfl) ?_
  refine at_guard_no rfl rfl rfl rfl rfl ?_
  refine at_guard_no rfl rfl rfl rfl rfl ?_
  refine at_guard_no rfl rfl rfl rfl rfl ?_
  refine av rfl (r_pick rfl rfl rfl) ?_
  refine av rfl (r_assign rfl) ?_
  refine at_nil ?_
  refine at_drop (H := _) .z ?_
  refine at_weak [(2, _)] ⟨rfl, trivial⟩ ?_
  refine at_then_normal ?_
  refine at_ret ?_
  have K := of_some hF
  subst K
  exact at_return1 rfl rfl (fun w1 hw => ⟨rfl, hw.below⟩)
def hostport_Text (x0 : S_api_Endpoint) : Option (ByteArray) :=
  hostport_Right x0 >>= fun t2 => if (!t2) = true then (some (⟨#[]⟩)) else (decimal_Text (wr .u64 x0.f_Port) >>= fun t4 => addr_Width x0.f_A >>= fun t5 => if (decide (t5 > 32)) = true then (addr_Text x0.f_A >>= fun t7 => if (⟨#[91]⟩ : ByteArray).size + t7.size ≤ 140737488355328 then if ((⟨#[91]⟩ : ByteArray) ++ t7).size + (⟨#[93, 58]⟩ : ByteArray).size ≤ 140737488355328 then if (((⟨#[91]⟩ : ByteArray) ++ t7) ++ (⟨#[93, 58]⟩ : ByteArray)).size + t4.size ≤ 140737488355328 then some ((((⟨#[91]⟩ : ByteArray) ++ t7) ++ (⟨#[93, 58]⟩ : ByteArray)) ++ t4) else none else none else none) else (addr_Text x0.f_A >>= fun t11 => if t11.size + (⟨#[58]⟩ : ByteArray).size ≤ 140737488355328 then if (t11 ++ (⟨#[58]⟩ : ByteArray)).size + t4.size ≤ 140737488355328 then some ((t11 ++ (⟨#[58]⟩ : ByteArray)) ++ t4) else none else none))
theorem hostport_Text_ok (x0 : S_api_Endpoint) (r : ByteArray) (hF : hostport_Text x0 = some r) (w : World) (hg_strconv_uint64pow10 : GV_strconv_uint64pow10 w) :
    Calls Tryz.prog 101 #[.agg (Cd.cs c_api_Endpoint x0).toArray] w (fun e w' => e = .returned (.string r) ∧ Below w.heap.size w w') := by
 unfold hostport_Text at hF
 refine calls_enter (l := [.agg (Cd.cs c_api_Endpoint x0).toArray]) Tryz.func101 rfl rfl rfl ?_
 refine at_start ?_
 refine at_weak [(0, _)] ⟨rfl, trivial⟩ ?_
 refine sr ?_
 refine at_box (cs := Cd.cs c_api_Endpoint x0) rfl rfl rfl ?_
 intro b1
 refine av rfl (r_assign rfl) ?_
 refine nwt [(1, _)] ⟨rfl, trivial⟩ ?_
 refine at_seq ?_
 refine sr ?_
 refine av rfl (r_load_aggc (c := c_api_Endpoint) (z := x0) Tryz.isAgg27 Tryz.sizeOf27 rfl (lens_cell .z (Lens.whole _ _))) ?_
 obtain ⟨t2, ht2, hF⟩ := of_bindM hF
 refine at_callB Tryz.func102 rfl (by kernel_rfl) rfl rfl (fun w hw => hostport_Right_ok _ _ ht2 w) ?_
 refine av rfl (r_not rfl) ?_
 refine nwt [(1, _), (6, _)] ⟨rfl, rfl, trivial⟩ ?_
 rcases of_ite hF with ⟨h3, hF⟩ | ⟨h3, hF⟩
 ·refine at_cond_true rfl h3 ?_
  refine sr ?_
  refine av rfl (r_assign rfl) ?_
  refine at_nil ?_
  refine at_drop (H := _) .z ?_
  refine at_weak [(2, _)] ⟨rfl, trivial⟩ ?_
  refine at_then_normal ?_
  refine rt ?_
  have K := of_some hF
  subst K
  exact at_return1 rfl rfl (fun w1 hw => ⟨rfl, hw.below⟩)
 ·refine at_cond_false rfl h3 ?_
  refine sns ?_
  refine av rfl (r_fieldAddr (fo := 17) Tryz.underlying27 rfl rfl (fun w => ⟨_, Tryz.sizeOf3 w⟩) rfl) ?_
  refine av rfl (r_load_cell Tryz.isAgg3 rfl (lens_cell0 (c := (cInt .i64)) (y := x0.f_Port) .z (Lens.comp (Lens.whole _ _) (fun z => { x0 with f_Port := z }) (c_api_Endpoint_f_Port x0)) rfl)) ?_
  refine av rfl (r_conv Tryz.underlying3 Tryz.underlying31 rfl) ?_
  obtain ⟨t4, ht4, hF⟩ := of_bindM hF
  refine at_callB Tryz.func113 rfl (by kernel_rfl) rfl rfl (fun w hw => decimal_Text_ok _ _ ht4 w (hg_strconv_uint64pow10.on hw.below)) ?_
  refine av rfl (r_assign rfl) ?_
  refine nwt [(1, _), (3, _)] ⟨rfl, rfl, trivial⟩ ?_
  refine at_seq ?_
  refine sr ?_
  refine av rfl (r_fieldAddr (fo := 0) Tryz.underlying27 rfl rfl (fun w => ⟨_, Tryz.sizeOf25 w⟩) rfl) ?_
  refine av rfl (r_load_aggc (c := c_api_Addr) (z := x0.f_A) Tryz.isAgg25 Tryz.sizeOf25 rfl (lens_cell .z (Lens.comp (Lens.whole _ _) (fun z => { x0 with f_A := z }) (c_api_Endpoint_f_A x0)))) ?_
  obtain ⟨t5, ht5, hF⟩ := of_bindM hF
  refine at_callB Tryz.func156 rfl (by kernel_rfl) rfl rfl (fun w hw => addr_Width_ok _ _ ht5 w) ?_
  refine av rfl (r_igtr rfl rfl) ?_
  refine nwt [(1, _), (3, _), (14, _)] ⟨rfl, rfl, rfl, trivial⟩ ?_
  rcases of_ite hF with ⟨h6, hF⟩ | ⟨h6, hF⟩
  ·refine at_cond_true rfl h6 ?_
   refine sr ?_
   refine av rfl (r_fieldAddr (fo := 0) Tryz.underlying27 rfl rfl (fun w => ⟨_, Tryz.sizeOf25 w⟩) rfl) ?_
   refine av rfl (r_load_aggc (c := c_api_Addr) (z := x0.f_A) Tryz.isAgg25 Tryz.sizeOf25 rfl (lens_cell .z (Lens.comp (Lens.whole _ _) (fun z => { x0 with f_A := z }) (c_api_Endpoint_f_A x0)))) ?_
   obtain ⟨t7, ht7, hF⟩ := of_bindM hF
   refine at_callB Tryz.func157 rfl (by kernel_rfl) rfl rfl (fun w hw => addr_Text_ok _ _ ht7 w (hg_strconv_uint64pow10.on hw.below)) ?_
   obtain ⟨h8, hF⟩ := of_guard hF
   refine av rfl (r_concat rfl rfl h8) ?_
   obtain ⟨h9, hF⟩ := of_guard hF
   refine av rfl (r_concat rfl rfl h9) ?_
   refine av rfl (r_move rfl) ?_
   obtain ⟨h10, hF⟩ := of_guard hF
   refine av rfl (r_concat rfl rfl h10) ?_
   refine av rfl (r_assign rfl) ?_
   refine at_nil ?_
   refine at_drop (H := _) .z ?_
   refine at_weak [(2, _)] ⟨rfl, trivial⟩ ?_
   refine at_then_normal ?_
   refine rt ?_
   have K := of_some hF
   subst K
   exact at_return1 rfl rfl (fun w1 hw => ⟨rfl, hw.below⟩)
  ·refine at_cond_false rfl h6 ?_
   refine sns ?_
   refine av rfl (r_fieldAddr (fo := 0) Tryz.underlying27 rfl rfl (fun w => ⟨_, Tryz.sizeOf25 w⟩) rfl) ?_
   refine av rfl (r_load_aggc (c := c_api_Addr) (z := x0.f_A) Tryz.isAgg25 Tryz.sizeOf25 rfl (lens_cell .z (Lens.comp (Lens.whole _ _) (fun z => { x0 with f_A := z }) (c_api_Endpoint_f_A x0)))) ?_
   obtain ⟨t11, ht11, hF⟩ := of_bindM hF
   refine at_callB Tryz.func157 rfl (by kernel_rfl) rfl rfl (fun w hw => addr_Text_ok _ _ ht11 w (hg_strconv_uint64pow10.on hw.below)) ?_
   obtain ⟨h12, hF⟩ := of_guard hF
   refine av rfl (r_concat rfl rfl h12) ?_
   refine av rfl (r_move rfl) ?_
   obtain ⟨h13, hF⟩ := of_guard hF
   refine av rfl (r_concat rfl rfl h13) ?_
   refine av rfl (r_assign rfl) ?_
   refine at_nil ?_
   refine at_drop (H := _) .z ?_
   refine at_weak [(2, _)] ⟨rfl, trivial⟩ ?_
   refine at_then_normal ?_
   refine at_ret ?_
   have K := of_some hF
   subst K
   exact at_return1 rfl rfl (fun w1 hw => ⟨rfl, hw.below⟩)
def hostport_halves (x0 : ByteArray) : Option (ByteArray × ByteArray × Bool) :=
  strings_CutPrefix x0 (⟨#[91]⟩ : ByteArray) >>= fun t1 => if t1.2 = true then (if t1.1.size < 4294967281 then if ((scut t1.1 (⟨#[93, 58]⟩ : ByteArray)).2.2) = true then (some ((scut t1.1 (⟨#[93, 58]⟩ : ByteArray)).1, (scut t1.1 (⟨#[93, 58]⟩ : ByteArray)).2.1, decide (0 ≤ Lib.indexByte ((scut t1.1 (⟨#[93, 58]⟩ : ByteArray)).1).data.toList 58))) else (some ((scut t1.1 (⟨#[93, 58]⟩ : ByteArray)).1, (scut t1.1 (⟨#[93, 58]⟩ : ByteArray)).2.1, false)) else none) else (if (0 : Int) ≤ 0 ∧ 0 < ((⟨#[58]⟩ : ByteArray).size : Int) then lines_Cut x0 (bt (⟨#[58]⟩ : ByteArray) 0) >>= fun t6 => some (t6.1, t6.2.1, t6.2.2) else none)
theorem hostport_halves_ok (x0 : ByteArray) (r : ByteArray × ByteArray × Bool) (hF : hostport_halves x0 = some r) (w : World) (hg_bytealg_MaxLen : GV_bytealg_MaxLen w) :
    Calls Tryz.prog 154 #[.string x0] w (fun e w' => e = .returned (.tuple #[.string r.1, .string r.2.1, .bool r.2.2]) ∧ Below w.heap.size w w') := by
 unfold hostport_halves at hF
 refine calls_enter (l := [.string x0]) Tryz.func154 rfl rfl rfl ?_
 refine at_start ?_
 refine at_weak [(0, _)] ⟨rfl, trivial⟩ ?_
 refine sr ?_
 refine av rfl (r_assign rfl) ?_
 refine av rfl (r_assign rfl) ?_
 refine av rfl (r_assign rfl) ?_
 refine nwt [(0, _)] ⟨rfl, trivial⟩ ?_
 refine at_seq ?_
 refine sr ?_
 refine av rfl (r_move rfl) ?_
 obtain ⟨t1, ht1, hF⟩ := of_bindM hF
 refine at_call0 Tryz.func176 rfl (by kernel_rfl) rfl rfl (fun w => strings_CutPrefix_ok _ _ _ ht1 w) ?_
 refine av rfl (r_move rfl) ?_
 refine av rfl (r_extract rfl rfl) ?_
 refine av rfl (r_extract rfl rfl) ?_
 refine av rfl (r_assign rfl) ?_
 refine av rfl (r_assign rfl) ?_
 refine nws [(0, _), (5, _), (6, _)] ⟨rfl, rfl, rfl, trivial⟩ ?_
 refine av rfl (r_move rfl) ?_
 refine nwt [(0, _), (5, _), (15, _)] ⟨rfl, rfl, rfl, trivial⟩ ?_
 rcases of_ite hF with ⟨h2, hF⟩ | ⟨h2, hF⟩
 ·refine at_cond_true rfl h2 ?_
  refine sr ?_
  refine av rfl (r_move rfl) ?_
  obtain ⟨h3, hF⟩ := of_guard hF
  refine at_callB Tryz.func177 rfl (by kernel_rfl) rfl rfl (fun w1 hw => cut_okS _ _ h3 w1 (hg_bytealg_MaxLen.on hw.below)) ?_
  refine av rfl (r_move rfl) ?_
  refine av rfl (r_extract rfl rfl) ?_
  refine av rfl (r_extract rfl rfl) ?_
  refine av rfl (r_extract rfl rfl) ?_
  refine av rfl (r_assign rfl) ?_
  refine av rfl (r_assign rfl) ?_
  refine av rfl (r_assign rfl) ?_
  refine nws [(7, _), (8, _), (9, _)] ⟨rfl, rfl, rfl, trivial⟩ ?_
  refine av rfl (r_move rfl) ?_
  refine av rfl (r_move rfl) ?_
  refine av rfl (r_move rfl) ?_
  refine av rfl (r_move rfl) ?_
  rcases of_ite hF with ⟨h4, hF⟩ | ⟨h4, hF⟩
  ·refine at_fix (g := 25) rfl h4 ?_
   refine at_guard_yes rfl rfl rfl ?_
   refine av rfl (r_move rfl) ?_
   refine at_guard_yes rfl rfl rfl ?_
   refine at_call0 Tryz.func178 rfl (by kernel_rfl) rfl rfl (fun w => Tryz.strings_Contains_one _ _ w) ?_
   refine av rfl (r_pick rfl rfl rfl) ?_
   refine av rfl (r_assign rfl) ?_
   refine av rfl (r_assign rfl) ?_
   refine av rfl (r_assign rfl) ?_
   refine nwt [(2, _), (3, _), (4, _)] ⟨rfl, rfl, rfl, trivial⟩ ?_
   refine rt ?_
   have K := of_some hF
   subst K
   exact at_return3 rfl rfl rfl rfl (fun w1 hw => ⟨rfl, hw.below⟩)
  ·refine at_fix (g := 25) rfl h4 ?_
   refine at_guard_no rfl rfl rfl rfl rfl ?_
   refine at_guard_no rfl rfl rfl rfl rfl ?_
   refine av rfl (r_pick rfl rfl rfl) ?_
   refine av rfl (r_assign rfl) ?_
   refine av rfl (r_assign rfl) ?_
   refine av rfl (r_assign rfl) ?_
   refine nwt [(2, _), (3, _), (4, _)] ⟨rfl, rfl, rfl, trivial⟩ ?_
   refine rt ?_
   have K := of_some hF
   subst K
   exact at_return3 rfl rfl rfl rfl (fun w1 hw => ⟨rfl, hw.below⟩)
 ·refine at_cond_false rfl h2 ?_
  refine sns ?_
  refine av rfl (r_move rfl) ?_
  obtain ⟨h5, hF⟩ := of_guard hF
  refine av rfl (r_index_str Tryz.underlying9 rfl rfl h5) ?_
  obtain ⟨t6, ht6, hF⟩ := of_bindM hF
  refine at_callB Tryz.func86 rfl (by kernel_rfl) rfl rfl (fun w hw => lines_Cut_ok _ _ _ ht6 w) ?_
  refine av rfl (r_extract rfl rfl) ?_
  refine av rfl (r_extract rfl rfl) ?_
  refine av rfl (r_extract rfl rfl) ?_
  refine av rfl (r_assign rfl) ?_
  refine av rfl (r_assign rfl) ?_
  refine av rfl (r_assign rfl) ?_
  refine nwt [(2, _), (3, _), (4, _)] ⟨rfl, rfl, rfl, trivial⟩ ?_
  refine at_ret ?_
  have K := of_some hF
  subst K
  exact at_return3 rfl rfl rfl rfl (fun w1 hw => ⟨rfl, hw.below⟩)
def hostport_Parse (x0 : ByteArray) : Option (S_api_Endpoint × Int) :=
  hostport_halves x0 >>= fun t2 => if (!t2.2.2) = true then (some (({ f_A := ({ f_V := (0 : Int), f_B := (Vector.replicate 16 (0 : Int) : (Vector Int 16)) } : S_api_Addr), f_Port := (0 : Int) } : S_api_Endpoint), 5)) else (addr_Parse t2.1 >>= fun t4 => if (t4.2 != 0) = true then (some (({ f_A := ({ f_V := (0 : Int), f_B := (Vector.replicate 16 (0 : Int) : (Vector Int 16)) } : S_api_Addr), f_Port := (0 : Int) } : S_api_Endpoint), t4.2)) else (decimal_Read t2.2.1 65535 >>= fun t7 => if (t7.2 != 0) = true then (some (({ f_A := ({ f_V := (0 : Int), f_B := (Vector.replicate 16 (0 : Int) : (Vector Int 16)) } : S_api_Addr), f_Port := (0 : Int) } : S_api_Endpoint), t7.2)) else (if (t7.1 == 0) = true then (some (({ f_A := ({ f_V := (0 : Int), f_B := (Vector.replicate 16 (0 : Int) : (Vector Int 16)) } : S_api_Addr), f_Port := (0 : Int) } : S_api_Endpoint), 6)) else (some ({ { ({ f_A := ({ f_V := (0 : Int), f_B := (Vector.replicate 16 (0 : Int) : (Vector Int 16)) } : S_api_Addr), f_Port := (0 : Int) } : S_api_Endpoint) with f_A := t4.1 } with f_Port := wr .i64 t7.1 }, 0)))))
theorem hostport_Parse_ok (x0 : ByteArray) (r : S_api_Endpoint × Int) (hF : hostport_Parse x0 = some r) (w : World) (hg_bytealg_MaxLen : GV_bytealg_MaxLen w) (hg_strconv_ErrRange : GV_strconv_ErrRange w) (hg_strconv_ErrSyntax : GV_strconv_ErrSyntax w) :
    Calls Tryz.prog 99 #[.string x0] w (fun e w' => e = .returned (.tuple #[.agg (Cd.cs c_api_Endpoint r.1).toArray, .int .i64 r.2]) ∧ Below w.heap.size w w') := by
 unfold hostport_Parse at hF
 refine calls_enter (l := [.string x0]) Tryz.func99 rfl rfl rfl ?_
 refine at_start ?_
 refine at_weak [(0, _)] ⟨rfl, trivial⟩ ?_
 refine sr ?_
 refine at_alloc (cs := Cd.cs c_api_Endpoint zqG6_0) Tryz.zeroValue27 rfl rfl ?_
 intro b1
 refine av rfl (r_assign rfl) ?_
 refine nws [(0, _), (2, _)] ⟨rfl, rfl, trivial⟩ ?_
 refine av rfl (r_move rfl) ?_
 obtain ⟨t2, ht2, hF⟩ := of_bindM hF
 refine at_callB Tryz.func154 rfl (by kernel_rfl) rfl rfl (fun w hw => hostport_halves_ok _ _ ht2 w (hg_bytealg_MaxLen.on hw.below)) ?_
 refine av rfl (r_move rfl) ?_
 refine av rfl (r_extract rfl rfl) ?_
 refine av rfl (r_extract rfl rfl) ?_
 refine av rfl (r_extract rfl rfl) ?_
 refine av rfl (r_assign rfl) ?_
 refine av rfl (r_assign rfl) ?_
 refine av rfl (r_assign rfl) ?_
 refine nwt [(2, _), (4, _), (5, _), (6, _)] ⟨rfl, rfl, rfl, rfl, trivial⟩ ?_
 refine at_seq ?_
 refine sr ?_
 refine av rfl (r_move rfl) ?_
 refine av rfl (r_not rfl) ?_
 refine nwt [(2, _), (4, _), (5, _), (17, _)] ⟨rfl, rfl, rfl, rfl, trivial⟩ ?_
 rcases of_ite hF with ⟨h3, hF⟩ | ⟨h3, hF⟩
 ·refine at_cond_true rfl h3 ?_
  refine sr ?_
  refine av rfl (r_build_struct (zs := Cd.cs c_api_Endpoint zqG6_0) (cs := Cd.cs c_api_Endpoint zqG6_0) Tryz.underlying27 Tryz.zeroValue27 rfl (places_api_Endpoint_27) rfl rfl) ?_
  refine at_store (c := c_api_Endpoint) (z := zqG6_0) .z (Lens.whole _ _) Tryz.sizeOf27 rfl rfl rfl ?_
  refine av rfl (r_assign rfl) ?_
  refine nwt [(2, _), (3, _)] ⟨rfl, rfl, trivial⟩ ?_
  refine rt ?_
  have K := of_some hF
  subst K
  exact at_res2 rfl (res_cell (c := c_api_Endpoint) (y := zqG6_0) rfl .z (Lens.whole _ _) Tryz.isAgg27 Tryz.sizeOf27 (.inl rfl)) (res_tmp rfl) (fun w1 hw => ⟨rfl, hw.below⟩)
 ·refine at_cond_false rfl h3 ?_
  refine sns ?_
  refine av rfl (r_move rfl) ?_
  obtain ⟨t4, ht4, hF⟩ := of_bindM hF
  refine at_callB Tryz.func155 rfl (by kernel_rfl) rfl rfl (fun w hw => addr_Parse_ok _ _ ht4 w (hg_strconv_ErrRange.on hw.below) (hg_strconv_ErrSyntax.on hw.below)) ?_
  refine av rfl (r_move rfl) ?_
  refine av rfl (r_extract rfl rfl) ?_
  refine av rfl (r_extract rfl rfl) ?_
  refine at_alloc (cs := Cd.cs c_api_Addr zqG6_1) Tryz.zeroValue25 rfl rfl ?_
  intro b5
  refine at_store (c := c_api_Addr) (z := t4.1) .z (Lens.whole _ _) Tryz.sizeOf25 rfl rfl rfl ?_
  refine av rfl (r_assign rfl) ?_
  refine nwt [(2, _), (5, _), (7, _), (8, _)] ⟨rfl, rfl, rfl, rfl, trivial⟩ ?_
  refine at_seq ?_
  refine sr ?_
  refine av rfl (r_move rfl) ?_
  refine av rfl (r_ineq rfl rfl) ?_
  refine nwt [(2, _), (5, _), (7, _), (8, _), (25, _)] ⟨rfl, rfl, rfl, rfl, rfl, trivial⟩ ?_
  rcases of_ite hF with ⟨h6, hF⟩ | ⟨h6, hF⟩
  ·refine at_cond_true rfl h6 ?_
   refine sr ?_
   refine av rfl (r_build_struct (zs := Cd.cs c_api_Endpoint zqG6_0) (cs := Cd.cs c_api_Endpoint zqG6_0) Tryz.underlying27 Tryz.zeroValue27 rfl (places_api_Endpoint_27) rfl rfl) ?_
   refine av rfl (r_move rfl) ?_
   refine at_store (c := c_api_Endpoint) (z := zqG6_0) (.s .z) (Lens.whole _ _) Tryz.sizeOf27 rfl rfl rfl ?_
   refine av rfl (r_assign rfl) ?_
   refine at_nil ?_
   refine at_drop (H := _) .z ?_
   refine at_weak [(2, _), (3, _)] ⟨rfl, rfl, trivial⟩ ?_
   refine at_then_normal ?_
   refine rt ?_
   have K := of_some hF
   subst K
   exact at_res2 rfl (res_cell (c := c_api_Endpoint) (y := zqG6_0) rfl .z (Lens.whole _ _) Tryz.isAgg27 Tryz.sizeOf27 (.inl rfl)) (res_tmp rfl) (fun w1 hw => ⟨rfl, hw.below⟩)
  ·refine at_cond_false rfl h6 ?_
   refine sns ?_
   refine av rfl (r_move rfl) ?_
   obtain ⟨t7, ht7, hF⟩ := of_bindM hF
   refine at_callB Tryz.func111 rfl (by kernel_rfl) rfl rfl (fun w hw => decimal_Read_ok _ _ _ ht7 w (hg_strconv_ErrRange.on hw.below) (hg_strconv_ErrSyntax.on hw.below)) ?_
   refine av rfl (r_move rfl) ?_
   refine av rfl (r_extract rfl rfl) ?_
   refine av rfl (r_extract rfl rfl) ?_
   refine av rfl (r_assign rfl) ?_
   refine av rfl (r_assign rfl) ?_
   refine nwt [(2, _), (7, _), (8, _), (9, _)] ⟨rfl, rfl, rfl, rfl, trivial⟩ ?_
   refine at_seq ?_
   refine at_block ?_
   refine sr ?_
   refine av rfl (r_move rfl) ?_
   refine av rfl (r_ineq rfl rfl) ?_
   refine av rfl (r_assign rfl) ?_
   refine nwt [(2, _), (7, _), (8, _), (9, _), (33, _)] ⟨rfl, rfl, rfl, rfl, rfl, trivial⟩ ?_
   rcases of_ite hF with ⟨h8, hF⟩ | ⟨h8, hF⟩
   ·refine at_cond_true rfl h8 ?_
    refine sr ?_
    refine av rfl (r_build_struct (zs := Cd.cs c_api_Endpoint zqG6_0) (cs := Cd.cs c_api_Endpoint zqG6_0) Tryz.underlying27 Tryz.zeroValue27 rfl (places_api_Endpoint_27) rfl rfl) ?_
    refine av rfl (r_move rfl) ?_
    refine at_store (c := c_api_Endpoint) (z := zqG6_0) (.s .z) (Lens.whole _ _) Tryz.sizeOf27 rfl rfl rfl ?_
    refine av rfl (r_assign rfl) ?_
    refine at_nil ?_
    refine at_drop (H := _) .z ?_
    refine at_weak [(2, _), (3, _)] ⟨rfl, rfl, trivial⟩ ?_
    refine at_then_normal ?_
    refine at_ret ?_
    refine at_blk_ret (at_then_ret ?_)
    have K := of_some hF
    subst K
    exact at_res2 rfl (res_cell (c := c_api_Endpoint) (y := zqG6_0) rfl .z (Lens.whole _ _) Tryz.isAgg27 Tryz.sizeOf27 (.inl rfl)) (res_tmp rfl) (fun w1 hw => ⟨rfl, hw.below⟩)
   ·refine at_cond_false rfl h8 ?_
    refine sr ?_
    refine av rfl (r_move rfl) ?_
    refine av rfl (r_ieql rfl rfl) ?_
    refine av rfl (r_assign rfl) ?_
    refine nwt [(2, _), (7, _), (9, _), (38, _)] ⟨rfl, rfl, rfl, rfl, trivial⟩ ?_
    rcases of_ite hF with ⟨h9, hF⟩ | ⟨h9, hF⟩
    ·refine at_cond_true rfl h9 ?_
     refine sr ?_
     refine av rfl (r_build_struct (zs := Cd.cs c_api_Endpoint zqG6_0) (cs := Cd.cs c_api_Endpoint zqG6_0) Tryz.underlying27 Tryz.zeroValue27 rfl (places_api_Endpoint_27) rfl rfl) ?_
     refine at_store (c := c_api_Endpoint) (z := zqG6_0) (.s .z) (Lens.whole _ _) Tryz.sizeOf27 rfl rfl rfl ?_
     refine av rfl (r_assign rfl) ?_
     refine at_nil ?_
     refine at_drop (H := _) .z ?_
     refine at_weak [(2, _), (3, _)] ⟨rfl, rfl, trivial⟩ ?_
     refine at_then_normal ?_
     refine at_ret ?_
     refine at_blk_ret (at_then_ret ?_)
     have K := of_some hF
     subst K
     exact at_res2 rfl (res_cell (c := c_api_Endpoint) (y := zqG6_0) rfl .z (Lens.whole _ _) Tryz.isAgg27 Tryz.sizeOf27 (.inl rfl)) (res_tmp rfl) (fun w1 hw => ⟨rfl, hw.below⟩)
    ·refine at_cond_false rfl h9 ?_
     refine at_skip ?_
     refine at_blk_normal (at_then_normal ?_)
     refine sr ?_
     refine av rfl (r_load_aggc (c := c_api_Addr) (z := t4.1) Tryz.isAgg25 Tryz.sizeOf25 rfl (lens_cell .z (Lens.whole _ _))) ?_
     refine av rfl (r_move rfl) ?_
     refine av rfl (r_conv Tryz.underlying31 Tryz.underlying3 rfl) ?_
     refine av rfl (r_build_struct (zs := Cd.cs c_api_Endpoint zqG6_0) (cs := Cd.cs c_api_Endpoint ({ { zqG6_0 with f_A := t4.1 } with f_Port := wr .i64 t7.1 })) Tryz.underlying27 Tryz.zeroValue27 rfl (places_api_Endpoint_27) rfl (fill_step (c := c_api_Addr) (z := t4.1) rfl (c_api_Endpoint_f_A zqG6_0) rfl (fill_step (c := (cInt .i64)) (z := wr .i64 t7.1) rfl (c_api_Endpoint_f_Port ({ zqG6_0 with f_A := t4.1 })) rfl rfl))) ?_
     refine at_store (c := c_api_Endpoint) (z := { { zqG6_0 with f_A := t4.1 } with f_Port := wr .i64 t7.1 }) (.s .z) (Lens.whole _ _) Tryz.sizeOf27 rfl rfl rfl ?_
     refine av rfl (r_assign rfl) ?_
     refine at_nil ?_
     refine at_drop (H := _) .z ?_
     refine at_weak [(2, _), (3, _)] ⟨rfl, rfl, trivial⟩ ?_
     refine at_then_normal ?_
     refine at_ret ?_
     have K := of_some hF
     subst K
     exact at_res2 rfl (res_cell (c := c_api_Endpoint) (y := { { zqG6_0 with f_A := t4.1 } with f_Port := wr .i64 t7.1 }) rfl .z (Lens.whole _ _) Tryz.isAgg27 Tryz.sizeOf27 (.inl rfl)) (res_tmp rfl) (fun w1 hw => ⟨rfl, hw.below⟩)
def crawlwayref12_cut.l0 (x0 : ByteArray) (i2 : Int) : Option (Ctl (ByteArray × ByteArray × Bool) (Unit)) :=
  if (decide (wr .i64 (i2 + 1) < (x0.size : Int))) = true then (if (0 : Int) ≤ i2 ∧ i2 < (x0.size : Int) then if (bt x0 i2 == 93) = true then (if (0 : Int) ≤ wr .i64 (i2 + 1) ∧ wr .i64 (i2 + 1) < (x0.size : Int) then if (bt x0 (wr .i64 (i2 + 1)) == 58) = true then (if (0 : Int) ≤ 0 ∧ 0 ≤ i2 ∧ i2 ≤ (x0.size : Int) then if (0 : Int) ≤ wr .i64 (i2 + 2) ∧ wr .i64 (i2 + 2) ≤ (x0.size : Int) ∧ (x0.size : Int) ≤ (x0.size : Int) then some (.ret (x0.extract (Int.toNat 0) (Int.toNat i2), x0.extract (Int.toNat (wr .i64 (i2 + 2))) (Int.toNat (x0.size : Int)), true)) else none else none) else (crawlwayref12_cut.l0 x0 (wr .i64 (i2 + 1))) else none) else (crawlwayref12_cut.l0 x0 (wr .i64 (i2 + 1))) else none) else (some (.nx ()))
  partial_fixpoint
def crawlwayref12_cut (x0 : ByteArray) : Option (ByteArray × ByteArray × Bool) :=
  crawlwayref12_cut.l0 x0 0 >>= fun q1 => match q1 with | .ret r' => some r' | .nx sq1 => (some (⟨#[]⟩, ⟨#[]⟩, false))
theorem crawlwayref12_cut_ok (x0 : ByteArray) (r : ByteArray × ByteArray × Bool) (hF : crawlwayref12_cut x0 = some r) (w : World) :
    Calls Tryz.prog 69 #[.string x0] w (fun e w' => e = .returned (.tuple #[.string r.1, .string r.2.1, .bool r.2.2]) ∧ Below w.heap.size w w') := by
 unfold crawlwayref12_cut at hF
 refine calls_enter (l := [.string x0]) Tryz.func69 rfl rfl rfl ?_
 refine at_start ?_
 refine at_weak [(0, _)] ⟨rfl, trivial⟩ ?_
 refine sr ?_
 refine av rfl (r_assign rfl) ?_
 refine av rfl (r_assign rfl) ?_
 refine av rfl (r_assign rfl) ?_
 refine nwt [(0, _)] ⟨rfl, trivial⟩ ?_
 refine at_seq ?_
 refine sr ?_
 refine av rfl (r_assign rfl) ?_
 refine nwt [(0, _), (5, _)] ⟨rfl, rfl, trivial⟩ ?_
 refine at_block ?_
 obtain ⟨q1, hq1, hF⟩ := of_bindM hF
 refine at_weak [(0, _), (5, _)] ⟨rfl, rfl, trivial⟩ ?_
 refine at_loop_r (B := 0) (r := r) (q := q1) (A := fun (_ : Unit) Y => At 31 [] (Wd w []) Y) ?_ ?_
 ·intro K
  refine crawlwayref12_cut.l0.partial_correctness x0 (motive := fun i2 x => KR (fun (_ : Unit) Y => At 31 [] (Wd w []) Y) _ 0 r x → Round (fun Y => At 31 [(0, .string x0), (5, .int .i64 i2)] (Wd w []) Y) _ _ _) ?_ _ _ hq1 K
  ·clear K hF
   intro g ih i2 x hF K
   refine at_round ?_
   refine at_seq ?_
   refine sr ?_
   refine av rfl (r_move rfl) ?_
   refine av rfl (r_iadd rfl rfl) ?_
   refine av rfl (r_move rfl) ?_
   refine av rfl (r_len_str Tryz.underlying9 rfl) ?_
   refine av rfl (r_ilss rfl rfl) ?_
   refine nwt [(0, _), (5, _), (10, _)] ⟨rfl, rfl, rfl, trivial⟩ ?_
   rcases of_ite hF with ⟨h3, hF⟩ | ⟨h3, hF⟩
   ·refine at_cond_true rfl h3 ?_
    refine sn ?_
    refine at_seq ?_
    refine at_block ?_
    refine sr ?_
    refine av rfl (r_move rfl) ?_
    refine av rfl (r_move rfl) ?_
    obtain ⟨h4, hF⟩ := of_guard hF
    refine av rfl (r_index_str Tryz.underlying9 rfl rfl h4) ?_
    refine av rfl (r_ieql rfl rfl) ?_
    refine av rfl (r_move rfl) ?_
    rcases of_ite hF with ⟨h5, hF⟩ | ⟨h5, hF⟩
    ·refine at_fix (g := 17) rfl h5 ?_
     refine at_guard_yes rfl rfl rfl ?_
     refine av rfl (r_move rfl) ?_
     refine at_guard_yes rfl rfl rfl ?_
     refine av rfl (r_move rfl) ?_
     refine at_guard_yes rfl rfl rfl ?_
     refine av rfl (r_iadd rfl rfl) ?_
     refine at_guard_yes rfl rfl rfl ?_
     obtain ⟨h6, hF⟩ := of_guard hF
     refine av rfl (r_index_str Tryz.underlying9 rfl rfl h6) ?_
     refine at_guard_yes rfl rfl rfl ?_
     refine av rfl (r_ieql rfl rfl) ?_
     refine av rfl (r_pick rfl rfl rfl) ?_
     refine nwt [(0, _), (5, _), (23, _)] ⟨rfl, rfl, rfl, trivial⟩ ?_
     rcases of_ite hF with ⟨h7, hF⟩ | ⟨h7, hF⟩
     ·refine at_cond_true rfl h7 ?_
      refine at_seq ?_
      refine at_draw (by kernel_rfl) (by kernel_rfl) (fun _ h => h.drew) ?_
      refine atq_val rfl rfl rfl (r_move rfl) ?_
      refine atq_val rfl rfl rfl (r_move rfl) ?_
      obtain ⟨h8, hF⟩ := of_guard hF
      refine atq_val rfl rfl rfl (r_slice_str Tryz.underlying9 rfl rfl ⟨_, rfl⟩ h8) ?_
      refine atq_val rfl rfl rfl (r_move rfl) ?_
      refine atq_val rfl rfl rfl (r_move rfl) ?_
      refine atq_val rfl rfl rfl (r_iadd rfl rfl) ?_
      obtain ⟨h9, hF⟩ := of_guard hF
      refine atq_val rfl rfl rfl (r_slice_str Tryz.underlying9 rfl ⟨_, rfl⟩ rfl h9) ?_
      refine atq_val rfl rfl rfl (r_assign rfl) ?_
      refine atq_val rfl rfl rfl (r_assign rfl) ?_
      refine atq_val rfl rfl rfl (r_assign rfl) ?_
      refine atq_nil ?_
      refine at_weak [(2, _), (3, _), (4, _)] ⟨rfl, rfl, rfl, trivial⟩ ?_
      refine at_then_normal ?_
      refine at_ret ?_
      refine at_blk_ret (at_then_ret (at_then_ret (at_blk_ret (at_then_ret ?_))))
      obtain rfl := of_some hF
      subst K
      exact at_return3 rfl rfl rfl rfl (fun w1 hw => ⟨rfl, hw.below⟩)
     ·refine at_cond_false rfl h7 ?_
      refine at_skip ?_
      refine at_blk_normal (at_then_normal ?_)
      refine at_region ?_
      refine av rfl (r_move rfl) ?_
      refine av rfl (r_iadd rfl rfl) ?_
      refine av rfl (r_assign rfl) ?_
      refine nwt [(0, _), (5, _)] ⟨rfl, rfl, trivial⟩ ?_
      exact at_weak_k (ih _ _ hF K) ⟨rfl, rfl, trivial⟩
    ·refine at_fix (g := 17) rfl h5 ?_
     refine at_guard_no rfl rfl rfl rfl rfl ?_
     refine at_guard_no rfl rfl rfl rfl rfl ?_
     refine at_guard_no rfl rfl rfl rfl rfl ?_
     refine at_guard_no rfl rfl rfl rfl rfl ?_
     refine at_guard_no rfl rfl rfl rfl rfl ?_
     refine av rfl (r_pick rfl rfl rfl) ?_
     refine nwt [(0, _), (5, _), (23, _)] ⟨rfl, rfl, rfl, trivial⟩ ?_
     refine at_cond_false rfl rfl ?_
     refine at_skip ?_
     refine at_blk_normal (at_then_normal ?_)
     refine at_region ?_
     refine av rfl (r_move rfl) ?_
     refine av rfl (r_iadd rfl rfl) ?_
     refine av rfl (r_assign rfl) ?_
     refine nwt [(0, _), (5, _)] ⟨rfl, rfl, trivial⟩ ?_
     exact at_weak_k (ih _ _ hF K) ⟨rfl, rfl, trivial⟩
   ·refine at_cond_false rfl h3 ?_
    refine at_exit ?_
    refine at_then_exit (at_then_exit ?_)
    obtain rfl := of_some hF
    exact at_weak_k K trivial
 ·cases q1 with
  | ret r' => exact of_some hF
  | nx sq1 =>
   skip
   refine at_blk_same ?_
   refine at_then_normal ?_
   refine sr ?_
   refine av rfl (r_assign rfl) ?_
   refine av rfl (r_assign rfl) ?_
   refine av rfl (r_assign rfl) ?_
   refine nwt [(2, _), (3, _), (4, _)] ⟨rfl, rfl, rfl, trivial⟩ ?_
   refine at_ret ?_
   have K := of_some hF
   subst K
   exact at_return3 rfl rfl rfl rfl (fun w1 hw => ⟨rfl, hw.below⟩)
def crawlwayref12_Parse (x0 : ByteArray) : Option (S_api_Endpoint × Int) :=
  if (decide ((x0.size : Int) > 0)) = true then (if (0 : Int) ≤ 0 ∧ 0 < (x0.size : Int) then if (bt x0 0 == 91) = true then (if (0 : Int) ≤ 1 ∧ 1 ≤ (x0.size : Int) ∧ (x0.size : Int) ≤ (x0.size : Int) then crawlwayref12_cut (x0.extract (Int.toNat 1) (Int.toNat (x0.size : Int))) >>= fun t6 => if (!t6.2.2) = true then (some (({ f_A := ({ f_V := (0 : Int), f_B := (Vector.replicate 16 (0 : Int) : (Vector Int 16)) } : S_api_Addr), f_Port := (0 : Int) } : S_api_Endpoint), 5)) else (crawlwayref06_Parts t6.1 58 >>= fun t8 => if (decide ((t8.length : Int) > 1) != (bt x0 0 == 91)) = true then (some (({ f_A := ({ f_V := (0 : Int), f_B := (Vector.replicate 16 (0 : Int) : (Vector Int 16)) } : S_api_Addr), f_Port := (0 : Int) } : S_api_Endpoint), 5)) else (crawlwayref10_Parse t6.1 >>= fun t12 => if (t12.2 != 0) = true then (some (({ f_A := ({ f_V := (0 : Int), f_B := (Vector.replicate 16 (0 : Int) : (Vector Int 16)) } : S_api_Addr), f_Port := (0 : Int) } : S_api_Endpoint), t12.2)) else (crawlwayref03_Read t6.2.1 65535 >>= fun t15 => if (t15.2 != 0) = true then (some (({ f_A := ({ f_V := (0 : Int), f_B := (Vector.replicate 16 (0 : Int) : (Vector Int 16)) } : S_api_Addr), f_Port := (0 : Int) } : S_api_Endpoint), t15.2)) else (if (t15.1 == 0) = true then (some (({ f_A := ({ f_V := (0 : Int), f_B := (Vector.replicate 16 (0 : Int) : (Vector Int 16)) } : S_api_Addr), f_Port := (0 : Int) } : S_api_Endpoint), 6)) else (some ({ { ({ f_A := ({ f_V := (0 : Int), f_B := (Vector.replicate 16 (0 : Int) : (Vector Int 16)) } : S_api_Addr), f_Port := (0 : Int) } : S_api_Endpoint) with f_A := t12.1 } with f_Port := wr .i64 t15.1 }, 0)))))) else none) else (crawlwayref06_Parts x0 58 >>= fun t18 => if (0 : Int) ≤ 0 ∧ 0 < (t18.length : Int) then if (decide ((t18.length : Int) > 1)) = true then (if (0 : Int) ≤ 0 ∧ 0 < (t18.length : Int) then if (0 : Int) ≤ wr .i64 (((lget t18 0).size : Int) + 1) ∧ wr .i64 (((lget t18 0).size : Int) + 1) ≤ (x0.size : Int) ∧ (x0.size : Int) ≤ (x0.size : Int) then if (!(decide ((t18.length : Int) > 1))) = true then (some (({ f_A := ({ f_V := (0 : Int), f_B := (Vector.replicate 16 (0 : Int) : (Vector Int 16)) } : S_api_Addr), f_Port := (0 : Int) } : S_api_Endpoint), 5)) else (crawlwayref06_Parts (lget t18 0) 58 >>= fun t32 => if (decide ((t32.length : Int) > 1) != (bt x0 0 == 91)) = true then (some (({ f_A := ({ f_V := (0 : Int), f_B := (Vector.replicate 16 (0 : Int) : (Vector Int 16)) } : S_api_Addr), f_Port := (0 : Int) } : S_api_Endpoint), 5)) else (crawlwayref10_Parse (lget t18 0) >>= fun t36 => if (t36.2 != 0) = true then (some (({ f_A := ({ f_V := (0 : Int), f_B := (Vector.replicate 16 (0 : Int) : (Vector Int 16)) } : S_api_Addr), f_Port := (0 : Int) } : S_api_Endpoint), t36.2)) else (crawlwayref03_Read (x0.extract (Int.toNat (wr .i64 (((lget t18 0).size : Int) + 1))) (Int.toNat (x0.size : Int))) 65535 >>= fun t39 => if (t39.2 != 0) = true then (some (({ f_A := ({ f_V := (0 : Int), f_B := (Vector.replicate 16 (0 : Int) : (Vector Int 16)) } : S_api_Addr), f_Port := (0 : Int) } : S_api_Endpoint), t39.2)) else (if (t39.1 == 0) = true then (some (({ f_A := ({ f_V := (0 : Int), f_B := (Vector.replicate 16 (0 : Int) : (Vector Int 16)) } : S_api_Addr), f_Port := (0 : Int) } : S_api_Endpoint), 6)) else (some ({ { ({ f_A := ({ f_V := (0 : Int), f_B := (Vector.replicate 16 (0 : Int) : (Vector Int 16)) } : S_api_Addr), f_Port := (0 : Int) } : S_api_Endpoint) with f_A := t36.1 } with f_Port := wr .i64 t39.1 }, 0)))))) else none else none) else (if (!(decide ((t18.length : Int) > 1))) = true then (some (({ f_A := ({ f_V := (0 : Int), f_B := (Vector.replicate 16 (0 : Int) : (Vector Int 16)) } : S_api_Addr), f_Port := (0 : Int) } : S_api_Endpoint), 5)) else (crawlwayref06_Parts (lget t18 0) 58 >>= fun t43 => if (decide ((t43.length : Int) > 1) != (bt x0 0 == 91)) = true then (some (({ f_A := ({ f_V := (0 : Int), f_B := (Vector.replicate 16 (0 : Int) : (Vector Int 16)) } : S_api_Addr), f_Port := (0 : Int) } : S_api_Endpoint), 5)) else (crawlwayref10_Parse (lget t18 0) >>= fun t47 => if (t47.2 != 0) = true then (some (({ f_A := ({ f_V := (0 : Int), f_B := (Vector.replicate 16 (0 : Int) : (Vector Int 16)) } : S_api_Addr), f_Port := (0 : Int) } : S_api_Endpoint), t47.2)) else (crawlwayref03_Read (⟨#[]⟩ : ByteArray) 65535 >>= fun t50 => if (t50.2 != 0) = true then (some (({ f_A := ({ f_V := (0 : Int), f_B := (Vector.replicate 16 (0 : Int) : (Vector Int 16)) } : S_api_Addr), f_Port := (0 : Int) } : S_api_Endpoint), t50.2)) else (if (t50.1 == 0) = true then (some (({ f_A := ({ f_V := (0 : Int), f_B := (Vector.replicate 16 (0 : Int) : (Vector Int 16)) } : S_api_Addr), f_Port := (0 : Int) } : S_api_Endpoint), 6)) else (some ({ { ({ f_A := ({ f_V := (0 : Int), f_B := (Vector.replicate 16 (0 : Int) : (Vector Int 16)) } : S_api_Addr), f_Port := (0 : Int) } : S_api_Endpoint) with f_A := t47.1 } with f_Port := wr .i64 t50.1 }, 0))))))) else none) else none) else (crawlwayref06_Parts x0 58 >>= fun t53 => if (0 : Int) ≤ 0 ∧ 0 < (t53.length : Int) then if (decide ((t53.length : Int) > 1)) = true then (if (0 : Int) ≤ 0 ∧ 0 < (t53.length : Int) then if (0 : Int) ≤ wr .i64 (((lget t53 0).size : Int) + 1) ∧ wr .i64 (((lget t53 0).size : Int) + 1) ≤ (x0.size : Int) ∧ (x0.size : Int) ≤ (x0.size : Int) then if (!(decide ((t53.length : Int) > 1))) = true then (some (({ f_A := ({ f_V := (0 : Int), f_B := (Vector.replicate 16 (0 : Int) : (Vector Int 16)) } : S_api_Addr), f_Port := (0 : Int) } : S_api_Endpoint), 5)) else (crawlwayref06_Parts (lget t53 0) 58 >>= fun t67 => if (decide ((t67.length : Int) > 1) != false) = true then (some (({ f_A := ({ f_V := (0 : Int), f_B := (Vector.replicate 16 (0 : Int) : (Vector Int 16)) } : S_api_Addr), f_Port := (0 : Int) } : S_api_Endpoint), 5)) else (crawlwayref10_Parse (lget t53 0) >>= fun t71 => if (t71.2 != 0) = true then (some (({ f_A := ({ f_V := (0 : Int), f_B := (Vector.replicate 16 (0 : Int) : (Vector Int 16)) } : S_api_Addr), f_Port := (0 : Int) } : S_api_Endpoint), t71.2)) else (crawlwayref03_Read (x0.extract (Int.toNat (wr .i64 (((lget t53 0).size : Int) + 1))) (Int.toNat (x0.size : Int))) 65535 >>= fun t74 => if (t74.2 != 0) = true then (some (({ f_A := ({ f_V := (0 : Int), f_B := (Vector.replicate 16 (0 : Int) : (Vector Int 16)) } : S_api_Addr), f_Port := (0 : Int) } : S_api_Endpoint), t74.2)) else (if (t74.1 == 0) = true then (some (({ f_A := ({ f_V := (0 : Int), f_B := (Vector.replicate 16 (0 : Int) : (Vector Int 16)) } : S_api_Addr), f_Port := (0 : Int) } : S_api_Endpoint), 6)) else (some ({ { ({ f_A := ({ f_V := (0 : Int), f_B := (Vector.replicate 16 (0 : Int) : (Vector Int 16)) } : S_api_Addr), f_Port := (0 : Int) } : S_api_Endpoint) with f_A := t71.1 } with f_Port := wr .i64 t74.1 }, 0)))))) else none else none) else (if (!(decide ((t53.length : Int) > 1))) = true then (some (({ f_A := ({ f_V := (0 : Int), f_B := (Vector.replicate 16 (0 : Int) : (Vector Int 16)) } : S_api_Addr), f_Port := (0 : Int) } : S_api_Endpoint), 5)) else (crawlwayref06_Parts (lget t53 0) 58 >>= fun t78 => if (decide ((t78.length : Int) > 1) != false) = true then (some (({ f_A := ({ f_V := (0 : Int), f_B := (Vector.replicate 16 (0 : Int) : (Vector Int 16)) } : S_api_Addr), f_Port := (0 : Int) } : S_api_Endpoint), 5)) else (crawlwayref10_Parse (lget t53 0) >>= fun t82 => if (t82.2 != 0) = true then (some (({ f_A := ({ f_V := (0 : Int), f_B := (Vector.replicate 16 (0 : Int) : (Vector Int 16)) } : S_api_Addr), f_Port := (0 : Int) } : S_api_Endpoint), t82.2)) else (crawlwayref03_Read (⟨#[]⟩ : ByteArray) 65535 >>= fun t85 => if (t85.2 != 0) = true then (some (({ f_A := ({ f_V := (0 : Int), f_B := (Vector.replicate 16 (0 : Int) : (Vector Int 16)) } : S_api_Addr), f_Port := (0 : Int) } : S_api_Endpoint), t85.2)) else (if (t85.1 == 0) = true then (some (({ f_A := ({ f_V := (0 : Int), f_B := (Vector.replicate 16 (0 : Int) : (Vector Int 16)) } : S_api_Addr), f_Port := (0 : Int) } : S_api_Endpoint), 6)) else (some ({ { ({ f_A := ({ f_V := (0 : Int), f_B := (Vector.replicate 16 (0 : Int) : (Vector Int 16)) } : S_api_Addr), f_Port := (0 : Int) } : S_api_Endpoint) with f_A := t82.1 } with f_Port := wr .i64 t85.1 }, 0))))))) else none)
theorem crawlwayref12_Parse_ok (x0 : ByteArray) (r : S_api_Endpoint × Int) (hF : crawlwayref12_Parse x0 = some r) (w : World) :
    Calls Tryz.prog 40 #[.string x0] w (fun e w' => e = .returned (.tuple #[.agg (Cd.cs c_api_Endpoint r.1).toArray, .int .i64 r.2]) ∧ Below w.heap.size w w') := by
 unfold crawlwayref12_Parse at hF
 refine calls_enter (l := [.string x0]) Tryz.func40 rfl rfl rfl ?_
 refine at_start ?_
 refine at_weak [(0, _)] ⟨rfl, trivial⟩ ?_
 refine sr ?_
 refine at_alloc (cs := Cd.cs c_api_Endpoint zqG6_0) Tryz.zeroValue27 rfl rfl ?_
 intro b1
 refine av rfl (r_assign rfl) ?_
 refine nws [(0, _), (2, _)] ⟨rfl, rfl, trivial⟩ ?_
 refine av rfl (r_assign rfl) ?_
 refine nws [(0, _), (2, _)] ⟨rfl, rfl, trivial⟩ ?_
 refine av rfl (r_assign rfl) ?_
 refine nws [(0, _), (2, _), (5, _)] ⟨rfl, rfl, rfl, trivial⟩ ?_
 refine av rfl (r_assign rfl) ?_
 refine nws [(0, _), (2, _), (5, _)] ⟨rfl, rfl, rfl, trivial⟩ ?_
 refine av rfl (r_move rfl) ?_
 refine av rfl (r_len_str Tryz.underlying9 rfl) ?_
 refine av rfl (r_igtr rfl rfl) ?_
 refine av rfl (r_move rfl) ?_
 rcases of_ite hF with ⟨h2, hF⟩ | ⟨h2, hF⟩
 ·refine at_fix (g := 16) rfl h2 ?_
  refine at_guard_yes rfl rfl rfl ?_
  refine av rfl (r_move rfl) ?_
  refine at_guard_yes rfl rfl rfl ?_
  obtain ⟨h3, hF⟩ := of_guard hF
  refine av rfl (r_index_str Tryz.underlying9 rfl rfl h3) ?_
  refine at_guard_yes rfl rfl rfl ?_
  refine av rfl (r_ieql rfl rfl) ?_
  refine av rfl (r_pick rfl rfl rfl) ?_
  refine av rfl (r_assign rfl) ?_
  refine nwt [(0, _), (2, _), (5, _), (7, _)] ⟨rfl, rfl, rfl, rfl, trivial⟩ ?_
  refine at_seq ?_
  refine sr ?_
  refine av rfl (r_move rfl) ?_
  refine nwt [(0, _), (2, _), (5, _), (7, _), (21, _)] ⟨rfl, rfl, rfl, rfl, rfl, trivial⟩ ?_
  rcases of_ite hF with ⟨h4, hF⟩ | ⟨h4, hF⟩
  ·refine at_cond_true rfl h4 ?_
   refine at_region ?_
   refine av rfl (r_move rfl) ?_
   obtain ⟨h5, hF⟩ := of_guard hF
   refine av rfl (r_slice_str Tryz.underlying9 rfl ⟨_, rfl⟩ rfl h5) ?_
   obtain ⟨t6, ht6, hF⟩ := of_bindM hF
   refine at_callB Tryz.func69 rfl (by kernel_rfl) rfl rfl (fun w hw => crawlwayref12_cut_ok _ _ ht6 w) ?_
   refine av rfl (r_move rfl) ?_
   refine av rfl (r_extract rfl rfl) ?_
   refine av rfl (r_extract rfl rfl) ?_
   refine av rfl (r_extract rfl rfl) ?_
   refine av rfl (r_assign rfl) ?_
   refine av rfl (r_assign rfl) ?_
   refine av rfl (r_assign rfl) ?_
   refine nwt [(2, _), (4, _), (5, _), (6, _), (7, _)] ⟨rfl, rfl, rfl, rfl, rfl, trivial⟩ ?_
   refine at_seq ?_
   refine sr ?_
   refine av rfl (r_move rfl) ?_
   refine av rfl (r_not rfl) ?_
   refine av rfl (r_move rfl) ?_
   rcases of_ite hF with ⟨h7, hF⟩ | ⟨h7, hF⟩
   ·refine at_fix (g := 47) rfl h7 ?_
    refine at_guard_no rfl rfl rfl rfl rfl ?_
    refine at_guard_no rfl rfl rfl rfl rfl ?_
    refine at_guard_no rfl rfl rfl rfl rfl ?_
    refine at_guard_no rfl rfl rfl rfl rfl ?_
    refine at_guard_no rfl rfl rfl rfl rfl ?_
    refine at_guard_no rfl rfl rfl rfl rfl ?_
    refine av rfl (r_pick rfl rfl rfl) ?_
    refine nwt [(2, _), (4, _), (5, _), (54, _)] ⟨rfl, rfl, rfl, rfl, trivial⟩ ?_
    refine at_cond_true rfl rfl ?_
    refine sr ?_
    refine av rfl (r_build_struct (zs := Cd.cs c_api_Endpoint zqG6_0) (cs := Cd.cs c_api_Endpoint zqG6_0) Tryz.underlying27 Tryz.zeroValue27 rfl (places_api_Endpoint_27) rfl rfl) ?_
    refine at_store (c := c_api_Endpoint) (z := zqG6_0) .z (Lens.whole _ _) Tryz.sizeOf27 rfl rfl rfl ?_
    refine av rfl (r_assign rfl) ?_
    refine nwt [(2, _), (3, _)] ⟨rfl, rfl, trivial⟩ ?_
    refine rt ?_
    have K := of_some hF
    subst K
    exact at_res2 rfl (res_cell (c := c_api_Endpoint) (y := zqG6_0) rfl .z (Lens.whole _ _) Tryz.isAgg27 Tryz.sizeOf27 (.inl rfl)) (res_tmp rfl) (fun w1 hw => ⟨rfl, hw.below⟩)
   ·refine at_fix (g := 47) rfl h7 ?_
    refine at_guard_yes rfl rfl rfl ?_
    refine av rfl (r_move rfl) ?_
    refine at_guard_yes rfl rfl rfl ?_
    obtain ⟨t8, ht8, hF⟩ := of_bindM hF
    refine at_callO (c := cStr) (e := 9) (ys := t8) (V := fun p cap => .slice p t8.length cap) Tryz.func56 rfl (by kernel_rfl) rfl rfl (fun w hw => crawlwayref06_Parts_ok _ _ _ ht8 w) ?_
    intro p9 c10
    refine at_guard_yes rfl rfl rfl ?_
    refine av rfl (r_len_sl Tryz.underlying38 rfl) ?_
    refine at_guard_yes rfl rfl rfl ?_
    refine av rfl (r_igtr rfl rfl) ?_
    refine at_guard_yes rfl rfl rfl ?_
    refine av rfl (r_move rfl) ?_
    refine at_guard_yes rfl rfl rfl ?_
    refine av rfl (r_bool Tryz.underlying4 rfl rfl (.inr rfl) rfl) ?_
    refine av rfl (r_pick rfl rfl rfl) ?_
    refine at_nil ?_
    refine at_drop (H := _) .z ?_
    refine at_weak [(2, _), (4, _), (5, _), (54, _)] ⟨rfl, rfl, rfl, rfl, trivial⟩ ?_
    refine at_then_normal ?_
    rcases of_ite hF with ⟨h11, hF⟩ | ⟨h11, hF⟩
    ·refine at_cond_true rfl h11 ?_
     refine sr ?_
     refine av rfl (r_build_struct (zs := Cd.cs c_api_Endpoint zqG6_0) (cs := Cd.cs c_api_Endpoint zqG6_0) Tryz.underlying27 Tryz.zeroValue27 rfl (places_api_Endpoint_27) rfl rfl) ?_
     refine at_store (c := c_api_Endpoint) (z := zqG6_0) .z (Lens.whole _ _) Tryz.sizeOf27 rfl rfl rfl ?_
     refine av rfl (r_assign rfl) ?_
     refine nwt [(2, _), (3, _)] ⟨rfl, rfl, trivial⟩ ?_
     refine rt ?_
     have K := of_some hF
     subst K
     exact at_res2 rfl (res_cell (c := c_api_Endpoint) (y := zqG6_0) rfl .z (Lens.whole _ _) Tryz.isAgg27 Tryz.sizeOf27 (.inl rfl)) (res_tmp rfl) (fun w1 hw => ⟨rfl, hw.below⟩)
    ·refine at_cond_false rfl h11 ?_
     refine sns ?_
     refine av rfl (r_move rfl) ?_
     obtain ⟨t12, ht12, hF⟩ := of_bindM hF
     refine at_callB Tryz.func70 rfl (by kernel_rfl) rfl rfl (fun w hw => crawlwayref10_Parse_ok _ _ ht12 w) ?_
     refine av rfl (r_move rfl) ?_
     refine av rfl (r_extract rfl rfl) ?_
     refine av rfl (r_extract rfl rfl) ?_
     refine at_alloc (cs := Cd.cs c_api_Addr zqG6_1) Tryz.zeroValue25 rfl rfl ?_
     intro b13
     refine at_store (c := c_api_Addr) (z := t12.1) .z (Lens.whole _ _) Tryz.sizeOf25 rfl rfl rfl ?_
     refine av rfl (r_assign rfl) ?_
     refine nwt [(2, _), (5, _), (9, _), (10, _)] ⟨rfl, rfl, rfl, rfl, trivial⟩ ?_
     refine at_seq ?_
     refine sr ?_
     refine av rfl (r_move rfl) ?_
     refine av rfl (r_ineq rfl rfl) ?_
     refine nwt [(2, _), (5, _), (9, _), (10, _), (62, _)] ⟨rfl, rfl, rfl, rfl, rfl, trivial⟩ ?_
     rcases of_ite hF with ⟨h14, hF⟩ | ⟨h14, hF⟩
     ·refine at_cond_true rfl h14 ?_
      refine sr ?_
      refine av rfl (r_build_struct (zs := Cd.cs c_api_Endpoint zqG6_0) (cs := Cd.cs c_api_Endpoint zqG6_0) Tryz.underlying27 Tryz.zeroValue27 rfl (places_api_Endpoint_27) rfl rfl) ?_
      refine av rfl (r_move rfl) ?_
      refine at_store (c := c_api_Endpoint) (z := zqG6_0) (.s .z) (Lens.whole _ _) Tryz.sizeOf27 rfl rfl rfl ?_
      refine av rfl (r_assign rfl) ?_
      refine at_nil ?_
      refine at_drop (H := _) .z ?_
      refine at_weak [(2, _), (3, _)] ⟨rfl, rfl, trivial⟩ ?_
      refine at_then_normal ?_
      refine rt ?_
      have K := of_some hF
      subst K
      exact at_res2 rfl (res_cell (c := c_api_Endpoint) (y := zqG6_0) rfl .z (Lens.whole _ _) Tryz.isAgg27 Tryz.sizeOf27 (.inl rfl)) (res_tmp rfl) (fun w1 hw => ⟨rfl, hw.below⟩)
     ·refine at_cond_false rfl h14 ?_
      refine sns ?_
      refine av rfl (r_move rfl) ?_
      obtain ⟨t15, ht15, hF⟩ := of_bindM hF
      refine at_call0 Tryz.func43 rfl (by kernel_rfl) rfl rfl (fun w => crawlwayref03_Read_ok _ _ _ ht15 w) ?_
      refine av rfl (r_move rfl) ?_
      refine av rfl (r_extract rfl rfl) ?_
      refine av rfl (r_extract rfl rfl) ?_
      refine av rfl (r_assign rfl) ?_
      refine av rfl (r_assign rfl) ?_
      refine nwt [(2, _), (9, _), (11, _), (12, _)] ⟨rfl, rfl, rfl, rfl, trivial⟩ ?_
      refine at_seq ?_
      refine sr ?_
      refine av rfl (r_move rfl) ?_
      refine av rfl (r_ineq rfl rfl) ?_
      refine nwt [(2, _), (9, _), (11, _), (12, _), (71, _)] ⟨rfl, rfl, rfl, rfl, rfl, trivial⟩ ?_
      rcases of_ite hF with ⟨h16, hF⟩ | ⟨h16, hF⟩
      ·refine at_cond_true rfl h16 ?_
       refine sr ?_
       refine av rfl (r_build_struct (zs := Cd.cs c_api_Endpoint zqG6_0) (cs := Cd.cs c_api_Endpoint zqG6_0) Tryz.underlying27 Tryz.zeroValue27 rfl (places_api_Endpoint_27) rfl rfl) ?_
       refine av rfl (r_move rfl) ?_
       refine at_store (c := c_api_Endpoint) (z := zqG6_0) (.s .z) (Lens.whole _ _) Tryz.sizeOf27 rfl rfl rfl ?_
       refine av rfl (r_assign rfl) ?_
       refine at_nil ?_
       refine at_drop (H := _) .z ?_
       refine at_weak [(2, _), (3, _)] ⟨rfl, rfl, trivial⟩ ?_
       refine at_then_normal ?_
       refine rt ?_
       have K := of_some hF
       subst K
       exact at_res2 rfl (res_cell (c := c_api_Endpoint) (y := zqG6_0) rfl .z (Lens.whole _ _) Tryz.isAgg27 Tryz.sizeOf27 (.inl rfl)) (res_tmp rfl) (fun w1 hw => ⟨rfl, hw.below⟩)
      ·refine at_cond_false rfl h16 ?_
       refine sn ?_
       refine at_seq ?_
       refine sr ?_
       refine av rfl (r_move rfl) ?_
       refine av rfl (r_ieql rfl rfl) ?_
       refine nwt [(2, _), (9, _), (11, _), (75, _)] ⟨rfl, rfl, rfl, rfl, trivial⟩ ?_
       rcases of_ite hF with ⟨h17, hF⟩ | ⟨h17, hF⟩
       ·refine at_cond_true rfl h17 ?_
        refine sr ?_
        refine av rfl (r_build_struct (zs := Cd.cs c_api_Endpoint zqG6_0) (cs := Cd.cs c_api_Endpoint zqG6_0) Tryz.underlying27 Tryz.zeroValue27 rfl (places_api_Endpoint_27) rfl rfl) ?_
        refine at_store (c := c_api_Endpoint) (z := zqG6_0) (.s .z) (Lens.whole _ _) Tryz.sizeOf27 rfl rfl rfl ?_
        refine av rfl (r_assign rfl) ?_
        refine at_nil ?_
        refine at_drop (H := _) .z ?_
        refine at_weak [(2, _), (3, _)] ⟨rfl, rfl, trivial⟩ ?_
        refine at_then_normal ?_
        refine rt ?_
        have K := of_some hF
        subst K
        exact at_res2 rfl (res_cell (c := c_api_Endpoint) (y := zqG6_0) rfl .z (Lens.whole _ _) Tryz.isAgg27 Tryz.sizeOf27 (.inl rfl)) (res_tmp rfl) (fun w1 hw => ⟨rfl, hw.below⟩)
       ·refine at_cond_false rfl h17 ?_
        refine sns ?_
        refine av rfl (r_load_aggc (c := c_api_Addr) (z := t12.1) Tryz.isAgg25 Tryz.sizeOf25 rfl (lens_cell .z (Lens.whole _ _))) ?_
        refine av rfl (r_move rfl) ?_
        refine av rfl (r_conv Tryz.underlying31 Tryz.underlying3 rfl) ?_
        refine av rfl (r_build_struct (zs := Cd.cs c_api_Endpoint zqG6_0) (cs := Cd.cs c_api_Endpoint ({ { zqG6_0 with f_A := t12.1 } with f_Port := wr .i64 t15.1 })) Tryz.underlying27 Tryz.zeroValue27 rfl (places_api_Endpoint_27) rfl (fill_step (c := c_api_Addr) (z := t12.1) rfl (c_api_Endpoint_f_A zqG6_0) rfl (fill_step (c := (cInt .i64)) (z := wr .i64 t15.1) rfl (c_api_Endpoint_f_Port ({ zqG6_0 with f_A := t12.1 })) rfl rfl))) ?_
        refine at_store (c := c_api_Endpoint) (z := { { zqG6_0 with f_A := t12.1 } with f_Port := wr .i64 t15.1 }) (.s .z) (Lens.whole _ _) Tryz.sizeOf27 rfl rfl rfl ?_
        refine av rfl (r_assign rfl) ?_
        refine at_nil ?_
        refine at_drop (H := _) .z ?_
        refine at_weak [(2, _), (3, _)] ⟨rfl, rfl, trivial⟩ ?_
        refine at_then_normal ?_
        refine at_ret ?_
        have K := of_some hF
        subst K
        exact at_res2 rfl (res_cell (c := c_api_Endpoint) (y := { { zqG6_0 with f_A := t12.1 } with f_Port := wr .i64 t15.1 }) rfl .z (Lens.whole _ _) Tryz.isAgg27 Tryz.sizeOf27 (.inl rfl)) (res_tmp rfl) (fun w1 hw => ⟨rfl, hw.below⟩)
  ·refine at_cond_false rfl h4 ?_
   refine sr ?_
   refine av rfl (r_move rfl) ?_
   obtain ⟨t18, ht18, hF⟩ := of_bindM hF
   refine at_callO (c := cStr) (e := 9) (ys := t18) (V := fun p cap => .slice p t18.length cap) Tryz.func56 rfl (by kernel_rfl) rfl rfl (fun w hw => crawlwayref06_Parts_ok _ _ _ ht18 w) ?_
   intro p19 c20
   refine av rfl (r_assign rfl) ?_
   refine nws [(0, _), (2, _), (5, _), (7, _), (8, _)] ⟨rfl, rfl, rfl, rfl, rfl, trivial⟩ ?_
   refine av rfl (r_move rfl) ?_
   refine av rfl (r_len_sl Tryz.underlying38 rfl) ?_
   refine av rfl (r_igtr rfl rfl) ?_
   refine av rfl (r_assign rfl) ?_
   refine nws [(0, _), (2, _), (5, _), (6, _), (7, _), (8, _)] ⟨rfl, rfl, rfl, rfl, rfl, rfl, trivial⟩ ?_
   refine av rfl (r_move rfl) ?_
   obtain ⟨h21, hF⟩ := of_guard hF
   refine at_pure (φ := ∃ b o, p19 = some ⟨b, o, none⟩) (fun _ hw => row_ptr (hw.own .z).row h21) ?_
   rintro ⟨b23, o24, hp22⟩
   refine av rfl (r_idx Tryz.underlying38 Tryz.sizeOf9 rfl rfl h21 hp22) ?_
   refine av rfl (r_load_cell Tryz.isAgg9 rfl (fun _ hw => row_cell0 (W := fun w1 => w1 = _) (fun w1 h => by subst h; exact Below.refl _ _) (hw.own .z).row h21 hp22 rfl _ rfl)) ?_
   refine av rfl (r_assign rfl) ?_
   refine nws [(0, _), (2, _), (4, _), (5, _), (6, _), (7, _), (8, _)] ⟨rfl, rfl, rfl, rfl, rfl, rfl, rfl, trivial⟩ ?_
   refine av rfl (r_move rfl) ?_
   refine nwt [(0, _), (2, _), (4, _), (5, _), (6, _), (7, _), (8, _), (37, _)] ⟨rfl, rfl, rfl, rfl, rfl, rfl, rfl, rfl, trivial⟩ ?_
   rcases of_ite hF with ⟨h25, hF⟩ | ⟨h25, hF⟩
   ·refine at_cond_true rfl h25 ?_
    refine at_region ?_
    refine av rfl (r_move rfl) ?_
    refine av rfl (r_move rfl) ?_
    obtain ⟨h26, hF⟩ := of_guard hF
    refine at_pure (φ := ∃ b o, p19 = some ⟨b, o, none⟩) (fun _ hw => row_ptr (hw.own .z).row h26) ?_
    rintro ⟨b28, o29, hp27⟩
    refine av rfl (r_idx Tryz.underlying38 Tryz.sizeOf9 rfl rfl h26 hp27) ?_
    refine av rfl (r_load_cell Tryz.isAgg9 rfl (fun _ hw => row_cell0 (W := fun w1 => w1 = _) (fun w1 h => by subst h; exact Below.refl _ _) (hw.own .z).row h26 hp27 rfl _ rfl)) ?_
    refine av rfl (r_len_str Tryz.underlying9 rfl) ?_
    refine av rfl (r_iadd rfl rfl) ?_
    obtain ⟨h30, hF⟩ := of_guard hF
    refine av rfl (r_slice_str Tryz.underlying9 rfl ⟨_, rfl⟩ rfl h30) ?_
    refine av rfl (r_assign rfl) ?_
    refine at_nil ?_
    refine at_drop (H := _) .z ?_
    refine at_weak [(2, _), (4, _), (5, _), (6, _), (7, _)] ⟨rfl, rfl, rfl, rfl, rfl, trivial⟩ ?_
    refine at_then_normal ?_
    refine at_seq ?_
    refine sr ?_
    refine av rfl (r_move rfl) ?_
    refine av rfl (r_not rfl) ?_
    refine av rfl (r_move rfl) ?_
    rcases of_ite hF with ⟨h31, hF⟩ | ⟨h31, hF⟩
    ·refine at_fix (g := 47) rfl h31 ?_
     refine at_guard_no rfl rfl rfl rfl rfl ?_
     refine at_guard_no rfl rfl rfl rfl rfl ?_
     refine at_guard_no rfl rfl rfl rfl rfl ?_
     refine at_guard_no rfl rfl rfl rfl rfl ?_
     refine at_guard_no rfl rfl rfl rfl rfl ?_
     refine at_guard_no rfl rfl rfl rfl rfl ?_
     refine av rfl (r_pick rfl rfl rfl) ?_
     refine nwt [(2, _), (4, _), (5, _), (54, _)] ⟨rfl, rfl, rfl, rfl, trivial⟩ ?_
     refine at_cond_true rfl rfl ?_
     refine sr ?_
     refine av rfl (r_build_struct (zs := Cd.cs c_api_Endpoint zqG6_0) (cs := Cd.cs c_api_Endpoint zqG6_0) Tryz.underlying27 Tryz.zeroValue27 rfl (places_api_Endpoint_27) rfl rfl) ?_
     refine at_store (c := c_api_Endpoint) (z := zqG6_0) .z (Lens.whole _ _) Tryz.sizeOf27 rfl rfl rfl ?_
     refine av rfl (r_assign rfl) ?_
     refine nwt [(2, _), (3, _)] ⟨rfl, rfl, trivial⟩ ?_
     refine rt ?_
     have K := of_some hF
     subst K
     exact at_res2 rfl (res_cell (c := c_api_Endpoint) (y := zqG6_0) rfl .z (Lens.whole _ _) Tryz.isAgg27 Tryz.sizeOf27 (.inl rfl)) (res_tmp rfl) (fun w1 hw => ⟨rfl, hw.below⟩)
    ·refine at_fix (g := 47) rfl h31 ?_
     refine at_guard_yes rfl rfl rfl ?_
     refine av rfl (r_move rfl) ?_
     refine at_guard_yes rfl rfl rfl ?_
     obtain ⟨t32, ht32, hF⟩ := of_bindM hF
     refine at_callO (c := cStr) (e := 9) (ys := t32) (V := fun p cap => .slice p t32.length cap) Tryz.func56 rfl (by kernel_rfl) rfl rfl (fun w hw => crawlwayref06_Parts_ok _ _ _ ht32 w) ?_
     intro p33 c34
     refine at_guard_yes rfl rfl rfl ?_
     refine av rfl (r_len_sl Tryz.underlying38 rfl) ?_
     refine at_guard_yes rfl rfl rfl ?_
     refine av rfl (r_igtr rfl rfl) ?_
     refine at_guard_yes rfl rfl rfl ?_
     refine av rfl (r_move rfl) ?_
     refine at_guard_yes rfl rfl rfl ?_
     refine av rfl (r_bool Tryz.underlying4 rfl rfl (.inr rfl) rfl) ?_
     refine av rfl (r_pick rfl rfl rfl) ?_
     refine at_nil ?_
     refine at_drop (H := _) .z ?_
     refine at_weak [(2, _), (4, _), (5, _), (54, _)] ⟨rfl, rfl, rfl, rfl, trivial⟩ ?_
     refine at_then_normal ?_
     rcases of_ite hF with ⟨h35, hF⟩ | ⟨h35, hF⟩
     ·refine at_cond_true rfl h35 ?_
      refine sr ?_
      refine av rfl (r_build_struct (zs := Cd.cs c_api_Endpoint zqG6_0) (cs := Cd.cs c_api_Endpoint zqG6_0) Tryz.underlying27 Tryz.zeroValue27 rfl (places_api_Endpoint_27) rfl rfl) ?_
      refine at_store (c := c_api_Endpoint) (z := zqG6_0) .z (Lens.whole _ _) Tryz.sizeOf27 rfl rfl rfl ?_
      refine av rfl (r_assign rfl) ?_
      refine nwt [(2, _), (3, _)] ⟨rfl, rfl, trivial⟩ ?_
      refine rt ?_
      have K := of_some hF
      subst K
      exact at_res2 rfl (res_cell (c := c_api_Endpoint) (y := zqG6_0) rfl .z (Lens.whole _ _) Tryz.isAgg27 Tryz.sizeOf27 (.inl rfl)) (res_tmp rfl) (fun w1 hw => ⟨rfl, hw.below⟩)
     ·refine at_cond_false rfl h35 ?_
      refine sns ?_
      refine av rfl (r_move rfl) ?_
      obtain ⟨t36, ht36, hF⟩ := of_bindM hF
      refine at_callB Tryz.func70 rfl (by kernel_rfl) rfl rfl (fun w hw => crawlwayref10_Parse_ok _ _ ht36 w) ?_
      refine av rfl (r_move rfl) ?_
      refine av rfl (r_extract rfl rfl) ?_
      refine av rfl (r_extract rfl rfl) ?_
      refine at_alloc (cs := Cd.cs c_api_Addr zqG6_1) Tryz.zeroValue25 rfl rfl ?_
      intro b37
      refine at_store (c := c_api_Addr) (z := t36.1) .z (Lens.whole _ _) Tryz.sizeOf25 rfl rfl rfl ?_
      refine av rfl (r_assign rfl) ?_
      refine nwt [(2, _), (5, _), (9, _), (10, _)] ⟨rfl, rfl, rfl, rfl, trivial⟩ ?_
      refine at_seq ?_
      refine sr ?_
      refine av rfl (r_move rfl) ?_
      refine av rfl (r_ineq rfl rfl) ?_
      refine nwt [(2, _), (5, _), (9, _), (10, _), (62, _)] ⟨rfl, rfl, rfl, rfl, rfl, trivial⟩ ?_
      rcases of_ite hF with ⟨h38, hF⟩ | ⟨h38, hF⟩
      ·refine at_cond_true rfl h38 ?_
       refine sr ?_
       refine av rfl (r_build_struct (zs := Cd.cs c_api_Endpoint zqG6_0) (cs := Cd.cs c_api_Endpoint zqG6_0) Tryz.underlying27 Tryz.zeroValue27 rfl (places_api_Endpoint_27) rfl rfl) ?_
       refine av rfl (r_move rfl) ?_
       refine at_store (c := c_api_Endpoint) (z := zqG6_0) (.s .z) (Lens.whole _ _) Tryz.sizeOf27 rfl rfl rfl ?_
       refine av rfl (r_assign rfl) ?_
       refine at_nil ?_
       refine at_drop (H := _) .z ?_
       refine at_weak [(2, _), (3, _)] ⟨rfl, rfl, trivial⟩ ?_
       refine at_then_normal ?_
       refine rt ?_
       have K := of_some hF
       subst K
       exact at_res2 rfl (res_cell (c := c_api_Endpoint) (y := zqG6_0) rfl .z (Lens.whole _ _) Tryz.isAgg27 Tryz.sizeOf27 (.inl rfl)) (res_tmp rfl) (fun w1 hw => ⟨rfl, hw.below⟩)
      ·refine at_cond_false rfl h38 ?_
       refine sns ?_
       refine av rfl (r_move rfl) ?_
       obtain ⟨t39, ht39, hF⟩ := of_bindM hF
       refine at_call0 Tryz.func43 rfl (by kernel_rfl) rfl rfl (fun w => crawlwayref03_Read_ok _ _ _ ht39 w) ?_
       refine av rfl (r_move rfl) ?_
       refine av rfl (r_extract rfl rfl) ?_
       refine av rfl (r_extract rfl rfl) ?_
       refine av rfl (r_assign rfl) ?_
       refine av rfl (r_assign rfl) ?_
       refine nwt [(2, _), (9, _), (11, _), (12, _)] ⟨rfl, rfl, rfl, rfl, trivial⟩ ?_
       refine at_seq ?_
       refine sr ?_
       refine av rfl (r_move rfl) ?_
       refine av rfl (r_ineq rfl rfl) ?_
       refine nwt [(2, _), (9, _), (11, _), (12, _), (71, _)] ⟨rfl, rfl, rfl, rfl, rfl, trivial⟩ ?_
       rcases of_ite hF with ⟨h40, hF⟩ | ⟨h40, hF⟩
       ·refine at_cond_true rfl h40 ?_
        refine sr ?_
        refine av rfl (r_build_struct (zs := Cd.cs c_api_Endpoint zqG6_0) (cs := Cd.cs c_api_Endpoint zqG6_0) Tryz.underlying27 Tryz.zeroValue27 rfl (places_api_Endpoint_27) rfl rfl) ?_
        refine av rfl (r_move rfl) ?_
        refine at_store (c := c_api_Endpoint) (z := zqG6_0) (.s .z) (Lens.whole _ _) Tryz.sizeOf27 rfl rfl rfl ?_
        refine av rfl (r_assign rfl) ?_
        refine at_nil ?_
        refine at_drop (H := _) .z ?_
        refine at_weak [(2, _), (3, _)] ⟨rfl, rfl, trivial⟩ ?_
        refine at_then_normal ?_
        refine rt ?_
        have K := of_some hF
        subst K
        exact at_res2 rfl (res_cell (c := c_api_Endpoint) (y := zqG6_0) rfl .z (Lens.whole _ _) Tryz.isAgg27 Tryz.sizeOf27 (.inl rfl)) (res_tmp rfl) (fun w1 hw => ⟨rfl, hw.below⟩)
       ·refine at_cond_false rfl h40 ?_
        refine sn ?_
        refine at_seq ?_
        refine sr ?_
        refine av rfl (r_move rfl) ?_
        refine av rfl (r_ieql rfl rfl) ?_
        refine nwt [(2, _), (9, _), (11, _), (75, _)] ⟨rfl, rfl, rfl, rfl, trivial⟩ ?_
        rcases of_ite hF with ⟨h41, hF⟩ | ⟨h41, hF⟩
        ·refine at_cond_true rfl h41 ?_
         refine sr ?_
         refine av rfl (r_build_struct (zs := Cd.cs c_api_Endpoint zqG6_0) (cs := Cd.cs c_api_Endpoint zqG6_0) Tryz.underlying27 Tryz.zeroValue27 rfl (places_api_Endpoint_27) rfl rfl) ?_
         refine at_store (c := c_api_Endpoint) (z := zqG6_0) (.s .z) (Lens.whole _ _) Tryz.sizeOf27 rfl rfl rfl ?_
         refine av rfl (r_assign rfl) ?_
         refine at_nil ?_
         refine at_drop (H := _) .z ?_
         refine at_weak [(2, _), (3, _)] ⟨rfl, rfl, trivial⟩ ?_
         refine at_then_normal ?_
         refine rt ?_
         have K := of_some hF
         subst K
         exact at_res2 rfl (res_cell (c := c_api_Endpoint) (y := zqG6_0) rfl .z (Lens.whole _ _) Tryz.isAgg27 Tryz.sizeOf27 (.inl rfl)) (res_tmp rfl) (fun w1 hw => ⟨rfl, hw.below⟩)
        ·refine at_cond_false rfl h41 ?_
         refine sns ?_
         refine av rfl (r_load_aggc (c := c_api_Addr) (z := t36.1) Tryz.isAgg25 Tryz.sizeOf25 rfl (lens_cell .z (Lens.whole _ _))) ?_
         refine av rfl (r_move rfl) ?_
         refine av rfl (r_conv Tryz.underlying31 Tryz.underlying3 rfl) ?_
         refine av rfl (r_build_struct (zs := Cd.cs c_api_Endpoint zqG6_0) (cs := Cd.cs c_api_Endpoint ({ { zqG6_0 with f_A := t36.1 } with f_Port := wr .i64 t39.1 })) Tryz.underlying27 Tryz.zeroValue27 rfl (places_api_Endpoint_27) rfl (fill_step (c := c_api_Addr) (z := t36.1) rfl (c_api_Endpoint_f_A zqG6_0) rfl (fill_step (c := (cInt .i64)) (z := wr .i64 t39.1) rfl (c_api_Endpoint_f_Port ({ zqG6_0 with f_A := t36.1 })) rfl rfl))) ?_
         refine at_store (c := c_api_Endpoint) (z := { { zqG6_0 with f_A := t36.1 } with f_Port := wr .i64 t39.1 }) (.s .z) (Lens.whole _ _) Tryz.sizeOf27 rfl rfl rfl ?_
         refine av rfl (r_assign rfl) ?_
         refine at_nil ?_
         refine at_drop (H := _) .z ?_
         refine at_weak [(2, _), (3, _)] ⟨rfl, rfl, trivial⟩ ?_
         refine at_then_normal ?_
         refine at_ret ?_
         have K := of_some hF
         subst K
         exact at_res2 rfl (res_cell (c := c_api_Endpoint) (y := { { zqG6_0 with f_A := t36.1 } with f_Port := wr .i64 t39.1 }) rfl .z (Lens.whole _ _) Tryz.isAgg27 Tryz.sizeOf27 (.inl rfl)) (res_tmp rfl) (fun w1 hw => ⟨rfl, hw.below⟩)
   ·refine at_cond_false rfl h25 ?_
    refine sn ?_
    refine at_seq ?_
    refine sr ?_
    refine av rfl (r_move rfl) ?_
    refine av rfl (r_not rfl) ?_
    refine av rfl (r_move rfl) ?_
    rcases of_ite hF with ⟨h42, hF⟩ | ⟨h42, hF⟩
    ·refine at_fix (g := 47) rfl h42 ?_
     refine at_guard_no rfl rfl rfl rfl rfl ?_
     refine at_guard_no rfl rfl rfl rfl rfl ?_
     refine at_guard_no rfl rfl rfl rfl rfl ?_
     refine at_guard_no rfl rfl rfl rfl rfl ?_
     refine at_guard_no rfl rfl rfl rfl rfl ?_
     refine at_guard_no rfl rfl rfl rfl rfl ?_
     refine av rfl (r_pick rfl rfl rfl) ?_
     refine at_nil ?_
     refine at_drop (H := _) .z ?_
     refine at_weak [(2, _), (4, _), (5, _), (54, _)] ⟨rfl, rfl, rfl, rfl, trivial⟩ ?_
     refine at_then_normal ?_
     refine at_cond_true rfl rfl ?_
     refine sr ?_
     refine av rfl (r_build_struct (zs := Cd.cs c_api_Endpoint zqG6_0) (cs := Cd.cs c_api_Endpoint zqG6_0) Tryz.underlying27 Tryz.zeroValue27 rfl (places_api_Endpoint_27) rfl rfl) ?_
     refine at_store (c := c_api_Endpoint) (z := zqG6_0) .z (Lens.whole _ _) Tryz.sizeOf27 rfl rfl rfl ?_
     refine av rfl (r_assign rfl) ?_
     refine nwt [(2, _), (3, _)] ⟨rfl, rfl, trivial⟩ ?_
     refine rt ?_
     have K := of_some hF
     subst K
     exact at_res2 rfl (res_cell (c := c_api_Endpoint) (y := zqG6_0) rfl .z (Lens.whole _ _) Tryz.isAgg27 Tryz.sizeOf27 (.inl rfl)) (res_tmp rfl) (fun w1 hw => ⟨rfl, hw.below⟩)
    ·refine at_fix (g := 47) rfl h42 ?_
     refine at_guard_yes rfl rfl rfl ?_
     refine av rfl (r_move rfl) ?_
     refine at_guard_yes rfl rfl rfl ?_
     obtain ⟨t43, ht43, hF⟩ := of_bindM hF
     refine at_callO (c := cStr) (e := 9) (ys := t43) (V := fun p cap => .slice p t43.length cap) Tryz.func56 rfl (by kernel_rfl) rfl rfl (fun w hw => crawlwayref06_Parts_ok _ _ _ ht43 w) ?_
     intro p44 c45
     refine at_guard_yes rfl rfl rfl ?_
     refine av rfl (r_len_sl Tryz.underlying38 rfl) ?_
     refine at_guard_yes rfl rfl rfl ?_
     refine av rfl (r_igtr rfl rfl) ?_
     refine at_guard_yes rfl rfl rfl ?_
     refine av rfl (r_move rfl) ?_
     refine at_guard_yes rfl rfl rfl ?_
     refine av rfl (r_bool Tryz.underlying4 rfl rfl (.inr rfl) rfl) ?_
     refine av rfl (r_pick rfl rfl rfl) ?_
     refine at_nil ?_
     refine at_drop (H := _) .z ?_
     refine at_drop (H := _) .z ?_
     refine at_weak [(2, _), (4, _), (5, _), (54, _)] ⟨rfl, rfl, rfl, rfl, trivial⟩ ?_
     refine at_then_normal ?_
     rcases of_ite hF with ⟨h46, hF⟩ | ⟨h46, hF⟩
     ·refine at_cond_true rfl h46 ?_
      refine sr ?_
      refine av rfl (r_build_struct (zs := Cd.cs c_api_Endpoint zqG6_0) (cs := Cd.cs c_api_Endpoint zqG6_0) Tryz.underlying27 Tryz.zeroValue27 rfl (places_api_Endpoint_27) rfl rfl) ?_
      refine at_store (c := c_api_Endpoint) (z := zqG6_0) .z (Lens.whole _ _) Tryz.sizeOf27 rfl rfl rfl ?_
      refine av rfl (r_assign rfl) ?_
      refine nwt [(2, _), (3, _)] ⟨rfl, rfl, trivial⟩ ?_
      refine rt ?_
      have K := of_some hF
      subst K
      exact at_res2 rfl (res_cell (c := c_api_Endpoint) (y := zqG6_0) rfl .z (Lens.whole _ _) Tryz.isAgg27 Tryz.sizeOf27 (.inl rfl)) (res_tmp rfl) (fun w1 hw => ⟨rfl, hw.below⟩)
     ·refine at_cond_false rfl h46 ?_
      refine sns ?_
      refine av rfl (r_move rfl) ?_
      obtain ⟨t47, ht47, hF⟩ := of_bindM hF
      refine at_callB Tryz.func70 rfl (by kernel_rfl) rfl rfl (fun w hw => crawlwayref10_Parse_ok _ _ ht47 w) ?_
      refine av rfl (r_move rfl) ?_
      refine av rfl (r_extract rfl rfl) ?_
      refine av rfl (r_extract rfl rfl) ?_
      refine at_alloc (cs := Cd.cs c_api_Addr zqG6_1) Tryz.zeroValue25 rfl rfl ?_
      intro b48
      refine at_store (c := c_api_Addr) (z := t47.1) .z (Lens.whole _ _) Tryz.sizeOf25 rfl rfl rfl ?_
      refine av rfl (r_assign rfl) ?_
      refine nwt [(2, _), (5, _), (9, _), (10, _)] ⟨rfl, rfl, rfl, rfl, trivial⟩ ?_
      refine at_seq ?_
      refine sr ?_
      refine av rfl (r_move rfl) ?_
      refine av rfl (r_ineq rfl rfl) ?_
      refine nwt [(2, _), (5, _), (9, _), (10, _), (62, _)] ⟨rfl, rfl, rfl, rfl, rfl, trivial⟩ ?_
      rcases of_ite hF with ⟨h49, hF⟩ | ⟨h49, hF⟩
      ·refine at_cond_true rfl h49 ?_
       refine sr ?_
       refine av rfl (r_build_struct (zs := Cd.cs c_api_Endpoint zqG6_0) (cs := Cd.cs c_api_Endpoint zqG6_0) Tryz.underlying27 Tryz.zeroValue27 rfl (places_api_Endpoint_27) rfl rfl) ?_
       refine av rfl (r_move rfl) ?_
       refine at_store (c := c_api_Endpoint) (z := zqG6_0) (.s .z) (Lens.whole _ _) Tryz.sizeOf27 rfl rfl rfl ?_
       refine av rfl (r_assign rfl) ?_
       refine at_nil ?_
       refine at_drop (H := _) .z ?_
       refine at_weak [(2, _), (3, _)] ⟨rfl, rfl, trivial⟩ ?_
       refine at_then_normal ?_
       refine rt ?_
       have K := of_some hF
       subst K
       exact at_res2 rfl (res_cell (c := c_api_Endpoint) (y := zqG6_0) rfl .z (Lens.whole _ _) Tryz.isAgg27 Tryz.sizeOf27 (.inl rfl)) (res_tmp rfl) (fun w1 hw => ⟨rfl, hw.below⟩)
      ·refine at_cond_false rfl h49 ?_
       refine sns ?_
       refine av rfl (r_move rfl) ?_
       obtain ⟨t50, ht50, hF⟩ := of_bindM hF
       refine at_call0 Tryz.func43 rfl (by kernel_rfl) rfl rfl (fun w => crawlwayref03_Read_ok _ _ _ ht50 w) ?_
       refine av rfl (r_move rfl) ?_
       refine av rfl (r_extract rfl rfl) ?_
       refine av rfl (r_extract rfl rfl) ?_
       refine av rfl (r_assign rfl) ?_
       refine av rfl (r_assign rfl) ?_
       refine nwt [(2, _), (9, _), (11, _), (12, _)] ⟨rfl, rfl, rfl, rfl, trivial⟩ ?_
       refine at_seq ?_
       refine sr ?_
       refine av rfl (r_move rfl) ?_
       refine av rfl (r_ineq rfl rfl) ?_
       refine nwt [(2, _), (9, _), (11, _), (12, _), (71, _)] ⟨rfl, rfl, rfl, rfl, rfl, trivial⟩ ?_
       rcases of_ite hF with ⟨h51, hF⟩ | ⟨h51, hF⟩
       ·refine at_cond_true rfl h51 ?_
        refine sr ?_
        refine av rfl (r_build_struct (zs := Cd.cs c_api_Endpoint zqG6_0) (cs := Cd.cs c_api_Endpoint zqG6_0) Tryz.underlying27 Tryz.zeroValue27 rfl (places_api_Endpoint_27) rfl rfl) ?_
        refine av rfl (r_move rfl) ?_
        refine at_store (c := c_api_Endpoint) (z := zqG6_0) (.s .z) (Lens.whole _ _) Tryz.sizeOf27 rfl rfl rfl ?_
        refine av rfl (r_assign rfl) ?_
        refine at_nil ?_
        refine at_drop (H := _) .z ?_
        refine at_weak [(2, _), (3, _)] ⟨rfl, rfl, trivial⟩ ?_
        refine at_then_normal ?_
        refine rt ?_
        have K := of_some hF
        subst K
        exact at_res2 rfl (res_cell (c := c_api_Endpoint) (y := zqG6_0) rfl .z (Lens.whole _ _) Tryz.isAgg27 Tryz.sizeOf27 (.inl rfl)) (res_tmp rfl) (fun w1 hw => ⟨rfl, hw.below⟩)
       ·refine at_cond_false rfl h51 ?_
        refine sn ?_
        refine at_seq ?_
        refine sr ?_
        refine av rfl (r_move rfl) ?_
        refine av rfl (r_ieql rfl rfl) ?_
        refine nwt [(2, _), (9, _), (11, _), (75, _)] ⟨rfl, rfl, rfl, rfl, trivial⟩ ?_
        rcases of_ite hF with ⟨h52, hF⟩ | ⟨h52, hF⟩
        ·refine at_cond_true rfl h52 ?_
         refine sr ?_
         refine av rfl (r_build_struct (zs := Cd.cs c_api_Endpoint zqG6_0) (cs := Cd.cs c_api_Endpoint zqG6_0) Tryz.underlying27 Tryz.zeroValue27 rfl (places_api_Endpoint_27) rfl rfl) ?_
         refine at_store (c := c_api_Endpoint) (z := zqG6_0) (.s .z) (Lens.whole _ _) Tryz.sizeOf27 rfl rfl rfl ?_
         refine av rfl (r_assign rfl) ?_
         refine at_nil ?_
         refine at_drop (H := _) .z ?_
         refine at_weak [(2, _), (3, _)] ⟨rfl, rfl, trivial⟩ ?_
         refine at_then_normal ?_
         refine rt ?_
         have K := of_some hF
         subst K
         exact at_res2 rfl (res_cell (c := c_api_Endpoint) (y := zqG6_0) rfl .z (Lens.whole _ _) Tryz.isAgg27 Tryz.sizeOf27 (.inl rfl)) (res_tmp rfl) (fun w1 hw => ⟨rfl, hw.below⟩)
        ·refine at_cond_false rfl h52 ?_
         refine sns ?_
         refine av rfl (r_load_aggc (c := c_api_Addr) (z := t47.1) Tryz.isAgg25 Tryz.sizeOf25 rfl (lens_cell .z (Lens.whole _ _))) ?_
         refine av rfl (r_move rfl) ?_
         refine av rfl (r_conv Tryz.underlying31 Tryz.underlying3 rfl) ?_
         refine av rfl (r_build_struct (zs := Cd.cs c_api_Endpoint zqG6_0) (cs := Cd.cs c_api_Endpoint ({ { zqG6_0 with f_A := t47.1 } with f_Port := wr .i64 t50.1 })) Tryz.underlying27 Tryz.zeroValue27 rfl (places_api_Endpoint_27) rfl (fill_step (c := c_api_Addr) (z := t47.1) rfl (c_api_Endpoint_f_A zqG6_0) rfl (fill_step (c := (cInt .i64)) (z := wr .i64 t50.1) rfl (c_api_Endpoint_f_Port ({ zqG6_0 with f_A := t47.1 })) rfl rfl))) ?_
         refine at_store (c := c_api_Endpoint) (z := { { zqG6_0 with f_A := t47.1 } with f_Port := wr .i64 t50.1 }) (.s .z) (Lens.whole _ _) Tryz.sizeOf27 rfl rfl rfl ?_
         refine av rfl (r_assign rfl) ?_
         refine at_nil ?_
         refine at_drop (H := _) .z ?_
         refine at_weak [(2, _), (3, _)] ⟨rfl, rfl, trivial⟩ ?_
         refine at_then_normal ?_
         refine at_ret ?_
         have K := of_some hF
         subst K
         exact at_res2 rfl (res_cell (c := c_api_Endpoint) (y := { { zqG6_0 with f_A := t47.1 } with f_Port := wr .i64 t50.1 }) rfl .z (Lens.whole _ _) Tryz.isAgg27 Tryz.sizeOf27 (.inl rfl)) (res_tmp rfl) (fun w1 hw => ⟨rfl, hw.below⟩)
 ·refine at_fix (g := 16) rfl h2 ?_
  refine at_guard_no rfl rfl rfl rfl rfl ?_
  refine at_guard_no rfl rfl rfl rfl rfl ?_
  refine at_guard_no rfl rfl rfl rfl rfl ?_
  refine av rfl (r_pick rfl rfl rfl) ?_
  refine av rfl (r_assign rfl) ?_
  refine nwt [(0, _), (2, _), (5, _), (7, _)] ⟨rfl, rfl, rfl, rfl, trivial⟩ ?_
  refine at_seq ?_
  refine sr ?_
  refine av rfl (r_move rfl) ?_
  refine nwt [(0, _), (2, _), (5, _), (7, _), (21, _)] ⟨rfl, rfl, rfl, rfl, rfl, trivial⟩ ?_
  refine at_cond_false rfl rfl ?_
  refine sr ?_
  refine av rfl (r_move rfl) ?_
  obtain ⟨t53, ht53, hF⟩ := of_bindM hF
  refine at_callO (c := cStr) (e := 9) (ys := t53) (V := fun p cap => .slice p t53.length cap) Tryz.func56 rfl (by kernel_rfl) rfl rfl (fun w hw => crawlwayref06_Parts_ok _ _ _ ht53 w) ?_
  intro p54 c55
  refine av rfl (r_assign rfl) ?_
  refine nws [(0, _), (2, _), (5, _), (7, _), (8, _)] ⟨rfl, rfl, rfl, rfl, rfl, trivial⟩ ?_
  refine av rfl (r_move rfl) ?_
  refine av rfl (r_len_sl Tryz.underlying38 rfl) ?_
  refine av rfl (r_igtr rfl rfl) ?_
  refine av rfl (r_assign rfl) ?_
  refine nws [(0, _), (2, _), (5, _), (6, _), (7, _), (8, _)] ⟨rfl, rfl, rfl, rfl, rfl, rfl, trivial⟩ ?_
  refine av rfl (r_move rfl) ?_
  obtain ⟨h56, hF⟩ := of_guard hF
  refine at_pure (φ := ∃ b o, p54 = some ⟨b, o, none⟩) (fun _ hw => row_ptr (hw.own .z).row h56) ?_
  rintro ⟨b58, o59, hp57⟩
  refine av rfl (r_idx Tryz.underlying38 Tryz.sizeOf9 rfl rfl h56 hp57) ?_
  refine av rfl (r_load_cell Tryz.isAgg9 rfl (fun _ hw => row_cell0 (W := fun w1 => w1 = _) (fun w1 h => by subst h; exact Below.refl _ _) (hw.own .z).row h56 hp57 rfl _ rfl)) ?_
  refine av rfl (r_assign rfl) ?_
  refine nws [(0, _), (2, _), (4, _), (5, _), (6, _), (7, _), (8, _)] ⟨rfl, rfl, rfl, rfl, rfl, rfl, rfl, trivial⟩ ?_
  refine av rfl (r_move rfl) ?_
  refine nwt [(0, _), (2, _), (4, _), (5, _), (6, _), (7, _), (8, _), (37, _)] ⟨rfl, rfl, rfl, rfl, rfl, rfl, rfl, rfl, trivial⟩ ?_
  rcases of_ite hF with ⟨h60, hF⟩ | ⟨h60, hF⟩
  ·refine at_cond_true rfl h60 ?_
   refine at_region ?_
   refine av rfl (r_move rfl) ?_
   refine av rfl (r_move rfl) ?_
   obtain ⟨h61, hF⟩ := of_guard hF
   refine at_pure (φ := ∃ b o, p54 = some ⟨b, o, none⟩) (fun _ hw => row_ptr (hw.own .z).row h61) ?_
   rintro ⟨b63, o64, hp62⟩
   refine av rfl (r_idx Tryz.underlying38 Tryz.sizeOf9 rfl rfl h61 hp62) ?_
   refine av rfl (r_load_cell Tryz.isAgg9 rfl (fun _ hw => row_cell0 (W := fun w1 => w1 = _) (fun w1 h => by subst h; exact Below.refl _ _) (hw.own .z).row h61 hp62 rfl _ rfl)) ?_
   refine av rfl (r_len_str Tryz.underlying9 rfl) ?_
   refine av rfl (r_iadd rfl rfl) ?_
   obtain ⟨h65, hF⟩ := of_guard hF
   refine av rfl (r_slice_str Tryz.underlying9 rfl ⟨_, rfl⟩ rfl h65) ?_
   refine av rfl (r_assign rfl) ?_
   refine at_nil ?_
   refine at_drop (H := _) .z ?_
   refine at_weak [(2, _), (4, _), (5, _), (6, _), (7, _)] ⟨rfl, rfl, rfl, rfl, rfl, trivial⟩ ?_
   refine at_then_normal ?_
   refine at_seq ?_
   refine sr ?_
   refine av rfl (r_move rfl) ?_
   refine av rfl (r_not rfl) ?_
   refine av rfl (r_move rfl) ?_
   rcases of_ite hF with ⟨h66, hF⟩ | ⟨h66, hF⟩
   ·refine at_fix (g := 47) rfl h66 ?_
    refine at_guard_no rfl rfl rfl rfl rfl ?_
    refine at_guard_no rfl rfl rfl rfl rfl ?_
    refine at_guard_no rfl rfl rfl rfl rfl ?_
    refine at_guard_no rfl rfl rfl rfl rfl ?_
    refine at_guard_no rfl rfl rfl rfl rfl ?_
    refine at_guard_no rfl rfl rfl rfl rfl ?_
    refine av rfl (r_pick rfl rfl rfl) ?_
    refine nwt [(2, _), (4, _), (5, _), (54, _)] ⟨rfl, rfl, rfl, rfl, trivial⟩ ?_
    refine at_cond_true rfl rfl ?_
    refine sr ?_
    refine av rfl (r_build_struct (zs := Cd.cs c_api_Endpoint zqG6_0) (cs := Cd.cs c_api_Endpoint zqG6_0) Tryz.underlying27 Tryz.zeroValue27 rfl (places_api_Endpoint_27) rfl rfl) ?_
    refine at_store (c := c_api_Endpoint) (z := zqG6_0) .z (Lens.whole _ _) Tryz.sizeOf27 rfl rfl rfl ?_
    refine av rfl (r_assign rfl) ?_
    refine nwt [(2, _), (3, _)] ⟨rfl, rfl, trivial⟩ ?_
    refine rt ?_
    have K := of_some hF
    subst K
    exact at_res2 rfl (res_cell (c := c_api_Endpoint) (y := zqG6_0) rfl .z (Lens.whole _ _) Tryz.isAgg27 Tryz.sizeOf27 (.inl rfl)) (res_tmp rfl) (fun w1 hw => ⟨rfl, hw.below⟩)
   ·refine at_fix (g := 47) rfl h66 ?_
    refine at_guard_yes rfl rfl rfl ?_
    refine av rfl (r_move rfl) ?_
    refine at_guard_yes rfl rfl rfl ?_
    obtain ⟨t67, ht67, hF⟩ := of_bindM hF
    refine at_callO (c := cStr) (e := 9) (ys := t67) (V := fun p cap => .slice p t67.length cap) Tryz.func56 rfl (by kernel_rfl) rfl rfl (fun w hw => crawlwayref06_Parts_ok _ _ _ ht67 w) ?_
    intro p68 c69
    refine at_guard_yes rfl rfl rfl ?_
    refine av rfl (r_len_sl Tryz.underlying38 rfl) ?_
    refine at_guard_yes rfl rfl rfl ?_
    refine av rfl (r_igtr rfl rfl) ?_
    refine at_guard_yes rfl rfl rfl ?_
    refine av rfl (r_move rfl) ?_
    refine at_guard_yes rfl rfl rfl ?_
    refine av rfl (r_bool Tryz.underlying4 rfl rfl (.inr rfl) rfl) ?_
    refine av rfl (r_pick rfl rfl rfl) ?_
    refine at_nil ?_
    refine at_drop (H := _) .z ?_
    refine at_weak [(2, _), (4, _), (5, _), (54, _)] ⟨rfl, rfl, rfl, rfl, trivial⟩ ?_
    refine at_then_normal ?_
    rcases of_ite hF with ⟨h70, hF⟩ | ⟨h70, hF⟩
    ·refine at_cond_true rfl h70 ?_
     refine sr ?_
     refine av rfl (r_build_struct (zs := Cd.cs c_api_Endpoint zqG6_0) (cs := Cd.cs c_api_Endpoint zqG6_0) Tryz.underlying27 Tryz.zeroValue27 rfl (places_api_Endpoint_27) rfl rfl) ?_
     refine at_store (c := c_api_Endpoint) (z := zqG6_0) .z (Lens.whole _ _) Tryz.sizeOf27 rfl rfl rfl ?_
     refine av rfl (r_assign rfl) ?_
     refine nwt [(2, _), (3, _)] ⟨rfl, rfl, trivial⟩ ?_
     refine rt ?_
     have K := of_some hF
     subst K
     exact at_res2 rfl (res_cell (c := c_api_Endpoint) (y := zqG6_0) rfl .z (Lens.whole _ _) Tryz.isAgg27 Tryz.sizeOf27 (.inl rfl)) (res_tmp rfl) (fun w1 hw => ⟨rfl, hw.below⟩)
    ·refine at_cond_false rfl h70 ?_
     refine sns ?_
     refine av rfl (r_move rfl) ?_
     obtain ⟨t71, ht71, hF⟩ := of_bindM hF
     refine at_callB Tryz.func70 rfl (by kernel_rfl) rfl rfl (fun w hw => crawlwayref10_Parse_ok _ _ ht71 w) ?_
     refine av rfl (r_move rfl) ?_
     refine av rfl (r_extract rfl rfl) ?_
     refine av rfl (r_extract rfl rfl) ?_
     refine at_alloc (cs := Cd.cs c_api_Addr zqG6_1) Tryz.zeroValue25 rfl rfl ?_
     intro b72
     refine at_store (c := c_api_Addr) (z := t71.1) .z (Lens.whole _ _) Tryz.sizeOf25 rfl rfl rfl ?_
     refine av rfl (r_assign rfl) ?_
     refine nwt [(2, _), (5, _), (9, _), (10, _)] ⟨rfl, rfl, rfl, rfl, trivial⟩ ?_
     refine at_seq ?_
     refine sr ?_
     refine av rfl (r_move rfl) ?_
     refine av rfl (r_ineq rfl rfl) ?_
     refine nwt [(2, _), (5, _), (9, _), (10, _), (62, _)] ⟨rfl, rfl, rfl, rfl, rfl, trivial⟩ ?_
     rcases of_ite hF with ⟨h73, hF⟩ | ⟨h73, hF⟩
     ·refine at_cond_true rfl h73 ?_
      refine sr ?_
      refine av rfl (r_build_struct (zs := Cd.cs c_api_Endpoint zqG6_0) (cs := Cd.cs c_api_Endpoint zqG6_0) Tryz.underlying27 Tryz.zeroValue27 rfl (places_api_Endpoint_27) rfl rfl) ?_
      refine av rfl (r_move rfl) ?_
      refine at_store (c := c_api_Endpoint) (z := zqG6_0) (.s .z) (Lens.whole _ _) Tryz.sizeOf27 rfl rfl rfl ?_
      refine av rfl (r_assign rfl) ?_
      refine at_nil ?_
      refine at_drop (H := _) .z ?_
      refine at_weak [(2, _), (3, _)] ⟨rfl, rfl, trivial⟩ ?_
      refine at_then_normal ?_
      refine rt ?_
      have K := of_some hF
      subst K
      exact at_res2 rfl (res_cell (c := c_api_Endpoint) (y := zqG6_0) rfl .z (Lens.whole _ _) Tryz.isAgg27 Tryz.sizeOf27 (.inl rfl)) (res_tmp rfl) (fun w1 hw => ⟨rfl, hw.below⟩)
     ·refine at_cond_false rfl h73 ?_
      refine sns ?_
      refine av rfl (r_move rfl) ?_
      obtain ⟨t74, ht74, hF⟩ := of_bindM hF
      refine at_call0 Tryz.func43 rfl (by kernel_rfl) rfl rfl (fun w => crawlwayref03_Read_ok _ _ _ ht74 w) ?_
      refine av rfl (r_move rfl) ?_
      refine av rfl (r_extract rfl rfl) ?_
      refine av rfl (r_extract rfl rfl) ?_
      refine av rfl (r_assign rfl) ?_
      refine av rfl (r_assign rfl) ?_
      refine nwt [(2, _), (9, _), (11, _), (12, _)] ⟨rfl, rfl, rfl, rfl, trivial⟩ ?_
      refine at_seq ?_
      refine sr ?_
      refine av rfl (r_move rfl) ?_
      refine av rfl (r_ineq rfl rfl) ?_
      refine nwt [(2, _), (9, _), (11, _), (12, _), (71, _)] ⟨rfl, rfl, rfl, rfl, rfl, trivial⟩ ?_
      rcases of_ite hF with ⟨h75, hF⟩ | ⟨h75, hF⟩
      ·refine at_cond_true rfl h75 ?_
       refine sr ?_
       refine av rfl (r_build_struct (zs := Cd.cs c_api_Endpoint zqG6_0) (cs := Cd.cs c_api_Endpoint zqG6_0) Tryz.underlying27 Tryz.zeroValue27 rfl (places_api_Endpoint_27) rfl rfl) ?_
       refine av rfl (r_move rfl) ?_
       refine at_store (c := c_api_Endpoint) (z := zqG6_0) (.s .z) (Lens.whole _ _) Tryz.sizeOf27 rfl rfl rfl ?_
       refine av rfl (r_assign rfl) ?_
       refine at_nil ?_
       refine at_drop (H := _) .z ?_
       refine at_weak [(2, _), (3, _)] ⟨rfl, rfl, trivial⟩ ?_
       refine at_then_normal ?_
       refine rt ?_
       have K := of_some hF
       subst K
       exact at_res2 rfl (res_cell (c := c_api_Endpoint) (y := zqG6_0) rfl .z (Lens.whole _ _) Tryz.isAgg27 Tryz.sizeOf27 (.inl rfl)) (res_tmp rfl) (fun w1 hw => ⟨rfl, hw.below⟩)
      ·refine at_cond_false rfl h75 ?_
       refine sn ?_
       refine at_seq ?_
       refine sr ?_
       refine av rfl (r_move rfl) ?_
       refine av rfl (r_ieql rfl rfl) ?_
       refine nwt [(2, _), (9, _), (11, _), (75, _)] ⟨rfl, rfl, rfl, rfl, trivial⟩ ?_
       rcases of_ite hF with ⟨h76, hF⟩ | ⟨h76, hF⟩
       ·refine at_cond_true rfl h76 ?_
        refine sr ?_
        refine av rfl (r_build_struct (zs := Cd.cs c_api_Endpoint zqG6_0) (cs := Cd.cs c_api_Endpoint zqG6_0) Tryz.underlying27 Tryz.zeroValue27 rfl (places_api_Endpoint_27) rfl rfl) ?_
        refine at_store (c := c_api_Endpoint) (z := zqG6_0) (.s .z) (Lens.whole _ _) Tryz.sizeOf27 rfl rfl rfl ?_
        refine av rfl (r_assign rfl) ?_
        refine at_nil ?_
        refine at_drop (H := _) .z ?_
        refine at_weak [(2, _), (3, _)] ⟨rfl, rfl, trivial⟩ ?_
        refine at_then_normal ?_
        refine rt ?_
        have K := of_some hF
        subst K
        exact at_res2 rfl (res_cell (c := c_api_Endpoint) (y := zqG6_0) rfl .z (Lens.whole _ _) Tryz.isAgg27 Tryz.sizeOf27 (.inl rfl)) (res_tmp rfl) (fun w1 hw => ⟨rfl, hw.below⟩)
       ·refine at_cond_false rfl h76 ?_
        refine sns ?_
        refine av rfl (r_load_aggc (c := c_api_Addr) (z := t71.1) Tryz.isAgg25 Tryz.sizeOf25 rfl (lens_cell .z (Lens.whole _ _))) ?_
        refine av rfl (r_move rfl) ?_
        refine av rfl (r_conv Tryz.underlying31 Tryz.underlying3 rfl) ?_
        refine av rfl (r_build_struct (zs := Cd.cs c_api_Endpoint zqG6_0) (cs := Cd.cs c_api_Endpoint ({ { zqG6_0 with f_A := t71.1 } with f_Port := wr .i64 t74.1 })) Tryz.underlying27 Tryz.zeroValue27 rfl (places_api_Endpoint_27) rfl (fill_step (c := c_api_Addr) (z := t71.1) rfl (c_api_Endpoint_f_A zqG6_0) rfl (fill_step (c := (cInt .i64)) (z := wr .i64 t74.1) rfl (c_api_Endpoint_f_Port ({ zqG6_0 with f_A := t71.1 })) rfl rfl))) ?_
        refine at_store (c := c_api_Endpoint) (z := { { zqG6_0 with f_A := t71.1 } with f_Port := wr .i64 t74.1 }) (.s .z) (Lens.whole _ _) Tryz.sizeOf27 rfl rfl rfl ?_
        refine av rfl (r_assign rfl) ?_
        refine at_nil ?_
        refine at_drop (H := _) .z ?_
        refine at_weak [(2, _), (3, _)] ⟨rfl, rfl, trivial⟩ ?_
        refine at_then_normal ?_
        refine at_ret ?_
        have K := of_some hF
        subst K
        exact at_res2 rfl (res_cell (c := c_api_Endpoint) (y := { { zqG6_0 with f_A := t71.1 } with f_Port := wr .i64 t74.1 }) rfl .z (Lens.whole _ _) Tryz.isAgg27 Tryz.sizeOf27 (.inl rfl)) (res_tmp rfl) (fun w1 hw => ⟨rfl, hw.below⟩)
  ·refine at_cond_false rfl h60 ?_
   refine sn ?_
   refine at_seq ?_
   refine sr ?_
   refine av rfl (r_move rfl) ?_
   refine av rfl (r_not rfl) ?_
   refine av rfl (r_move rfl) ?_
   rcases of_ite hF with ⟨h77, hF⟩ | ⟨h77, hF⟩
   ·refine at_fix (g := 47) rfl h77 ?_
    refine at_guard_no rfl rfl rfl rfl rfl ?_
    refine at_guard_no rfl rfl rfl rfl rfl ?_
    refine at_guard_no rfl rfl rfl rfl rfl ?_
    refine at_guard_no rfl rfl rfl rfl rfl ?_
    refine at_guard_no rfl rfl rfl rfl rfl ?_
    refine at_guard_no rfl rfl rfl rfl rfl ?_
    refine av rfl (r_pick rfl rfl rfl) ?_
    refine at_nil ?_
    refine at_drop (H := _) .z ?_
    refine at_weak [(2, _), (4, _), (5, _), (54, _)] ⟨rfl, rfl, rfl, rfl, trivial⟩ ?_
    refine at_then_normal ?_
    refine at_cond_true rfl rfl ?_
    refine sr ?_
    refine av rfl (r_build_struct (zs := Cd.cs c_api_Endpoint zqG6_0) (cs := Cd.cs c_api_Endpoint zqG6_0) Tryz.underlying27 Tryz.zeroValue27 rfl (places_api_Endpoint_27) rfl rfl) ?_
    refine at_store (c := c_api_Endpoint) (z := zqG6_0) .z (Lens.whole _ _) Tryz.sizeOf27 rfl rfl rfl ?_
    refine av rfl (r_assign rfl) ?_
    refine nwt [(2, _), (3, _)] ⟨rfl, rfl, trivial⟩ ?_
    refine rt ?_
    have K := of_some hF
    subst K
    exact at_res2 rfl (res_cell (c := c_api_Endpoint) (y := zqG6_0) rfl .z (Lens.whole _ _) Tryz.isAgg27 Tryz.sizeOf27 (.inl rfl)) (res_tmp rfl) (fun w1 hw => ⟨rfl, hw.below⟩)
   ·refine at_fix (g := 47) rfl h77 ?_
    refine at_guard_yes rfl rfl rfl ?_
    refine av rfl (r_move rfl) ?_
    refine at_guard_yes rfl rfl rfl ?_
    obtain ⟨t78, ht78, hF⟩ := of_bindM hF
    refine at_callO (c := cStr) (e := 9) (ys := t78) (V := fun p cap => .slice p t78.length cap) Tryz.func56 rfl (by kernel_rfl) rfl rfl (fun w hw => crawlwayref06_Parts_ok _ _ _ ht78 w) ?_
    intro p79 c80
    refine at_guard_yes rfl rfl rfl ?_
    refine av rfl (r_len_sl Tryz.underlying38 rfl) ?_
    refine at_guard_yes rfl rfl rfl ?_
    refine av rfl (r_igtr rfl rfl) ?_
    refine at_guard_yes rfl rfl rfl ?_
    refine av rfl (r_move rfl) ?_
    refine at_guard_yes rfl rfl rfl ?_
    refine av rfl (r_bool Tryz.underlying4 rfl rfl (.inr rfl) rfl) ?_
    refine av rfl (r_pick rfl rfl rfl) ?_
    refine at_nil ?_
    refine at_drop (H := _) .z ?_
    refine at_drop (H := _) .z ?_
    refine at_weak [(2, _), (4, _), (5, _), (54, _)] ⟨rfl, rfl, rfl, rfl, trivial⟩ ?_
    refine at_then_normal ?_
    rcases of_ite hF with ⟨h81, hF⟩ | ⟨h81, hF⟩
    ·refine at_cond_true rfl h81 ?_
     refine sr ?_
     refine av rfl (r_build_struct (zs := Cd.cs c_api_Endpoint zqG6_0) (cs := Cd.cs c_api_Endpoint zqG6_0) Tryz.underlying27 Tryz.zeroValue27 rfl (places_api_Endpoint_27) rfl rfl) ?_
     refine at_store (c := c_api_Endpoint) (z := zqG6_0) .z (Lens.whole _ _) Tryz.sizeOf27 rfl rfl rfl ?_
     refine av rfl (r_assign rfl) ?_
     refine nwt [(2, _), (3, _)] ⟨rfl, rfl, trivial⟩ ?_
     refine rt ?_
     have K := of_some hF
     subst K
     exact at_res2 rfl (res_cell (c := c_api_Endpoint) (y := zqG6_0) rfl .z (Lens.whole _ _) Tryz.isAgg27 Tryz.sizeOf27 (.inl rfl)) (res_tmp rfl) (fun w1 hw => ⟨rfl, hw.below⟩)
    ·refine at_cond_false rfl h81 ?_
     refine sns ?_
     refine av rfl (r_move rfl) ?_
     obtain ⟨t82, ht82, hF⟩ := of_bindM hF
     refine at_callB Tryz.func70 rfl (by kernel_rfl) rfl rfl (fun w hw => crawlwayref10_Parse_ok _ _ ht82 w) ?_
     refine av rfl (r_move rfl) ?_
     refine av rfl (r_extract rfl rfl) ?_
     refine av rfl (r_extract rfl rfl) ?_
     refine at_alloc (cs := Cd.cs c_api_Addr zqG6_1) Tryz.zeroValue25 rfl rfl ?_
     intro b83
     refine at_store (c := c_api_Addr) (z := t82.1) .z (Lens.whole _ _) Tryz.sizeOf25 rfl rfl rfl ?_
     refine av rfl (r_assign rfl) ?_
     refine nwt [(2, _), (5, _), (9, _), (10, _)] ⟨rfl, rfl, rfl, rfl, trivial⟩ ?_
     refine at_seq ?_
     refine sr ?_
     refine av rfl (r_move rfl) ?_
     refine av rfl (r_ineq rfl rfl) ?_
     refine nwt [(2, _), (5, _), (9, _), (10, _), (62, _)] ⟨rfl, rfl, rfl, rfl, rfl, trivial⟩ ?_
     rcases of_ite hF with ⟨h84, hF⟩ | ⟨h84, hF⟩
     ·refine at_cond_true rfl h84 ?_
      refine sr ?_
      refine av rfl (r_build_struct (zs := Cd.cs c_api_Endpoint zqG6_0) (cs := Cd.cs c_api_Endpoint zqG6_0) Tryz.underlying27 Tryz.zeroValue27 rfl (places_api_Endpoint_27) rfl rfl) ?_
      refine av rfl (r_move rfl) ?_
      refine at_store (c := c_api_Endpoint) (z := zqG6_0) (.s .z) (Lens.whole _ _) Tryz.sizeOf27 rfl rfl rfl ?_
      refine av rfl (r_assign rfl) ?_
      refine at_nil ?_
      refine at_drop (H := _) .z ?_
      refine at_weak [(2, _), (3, _)] ⟨rfl, rfl, trivial⟩ ?_
      refine at_then_normal ?_
      refine rt ?_
      have K := of_some hF
      subst K
      exact at_res2 rfl (res_cell (c := c_api_Endpoint) (y := zqG6_0) rfl .z (Lens.whole _ _) Tryz.isAgg27 Tryz.sizeOf27 (.inl rfl)) (res_tmp rfl) (fun w1 hw => ⟨rfl, hw.below⟩)
     ·refine at_cond_false rfl h84 ?_
      refine sns ?_
      refine av rfl (r_move rfl) ?_
      obtain ⟨t85, ht85, hF⟩ := of_bindM hF
      refine at_call0 Tryz.func43 rfl (by kernel_rfl) rfl rfl (fun w => crawlwayref03_Read_ok _ _ _ ht85 w) ?_
      refine av rfl (r_move rfl) ?_
      refine av rfl (r_extract rfl rfl) ?_
      refine av rfl (r_extract rfl rfl) ?_
      refine av rfl (r_assign rfl) ?_
      refine av rfl (r_assign rfl) ?_
      refine nwt [(2, _), (9, _), (11, _), (12, _)] ⟨rfl, rfl, rfl, rfl, trivial⟩ ?_
      refine at_seq ?_
      refine sr ?_
      refine av rfl (r_move rfl) ?_
      refine av rfl (r_ineq rfl rfl) ?_
      refine nwt [(2, _), (9, _), (11, _), (12, _), (71, _)] ⟨rfl, rfl, rfl, rfl, rfl, trivial⟩ ?_
      rcases of_ite hF with ⟨h86, hF⟩ | ⟨h86, hF⟩
      ·refine at_cond_true rfl h86 ?_
       refine sr ?_
       refine av rfl (r_build_struct (zs := Cd.cs c_api_Endpoint zqG6_0) (cs := Cd.cs c_api_Endpoint zqG6_0) Tryz.underlying27 Tryz.zeroValue27 rfl (places_api_Endpoint_27) rfl rfl) ?_
       refine av rfl (r_move rfl) ?_
       refine at_store (c := c_api_Endpoint) (z := zqG6_0) (.s .z) (Lens.whole _ _) Tryz.sizeOf27 rfl rfl rfl ?_
       refine av rfl (r_assign rfl) ?_
       refine at_nil ?_
       refine at_drop (H := _) .z ?_
       refine at_weak [(2, _), (3, _)] ⟨rfl, rfl, trivial⟩ ?_
       refine at_then_normal ?_
       refine rt ?_
       have K := of_some hF
       subst K
       exact at_res2 rfl (res_cell (c := c_api_Endpoint) (y := zqG6_0) rfl .z (Lens.whole _ _) Tryz.isAgg27 Tryz.sizeOf27 (.inl rfl)) (res_tmp rfl) (fun w1 hw => ⟨rfl, hw.below⟩)
      ·refine at_cond_false rfl h86 ?_
       refine sn ?_
       refine at_seq ?_
       refine sr ?_
       refine av rfl (r_move rfl) ?_
       refine av rfl (r_ieql rfl rfl) ?_
       refine nwt [(2, _), (9, _), (11, _), (75, _)] ⟨rfl, rfl, rfl, rfl, trivial⟩ ?_
       rcases of_ite hF with ⟨h87, hF⟩ | ⟨h87, hF⟩
       ·refine at_cond_true rfl h87 ?_
        refine sr ?_
        refine av rfl (r_build_struct (zs := Cd.cs c_api_Endpoint zqG6_0) (cs := Cd.cs c_api_Endpoint zqG6_0) Tryz.underlying27 Tryz.zeroValue27 rfl (places_api_Endpoint_27) rfl rfl) ?_
        refine at_store (c := c_api_Endpoint) (z := zqG6_0) (.s .z) (Lens.whole _ _) Tryz.sizeOf27 rfl rfl rfl ?_
        refine av rfl (r_assign rfl) ?_
        refine at_nil ?_
        refine at_drop (H := _) .z ?_
        refine at_weak [(2, _), (3, _)] ⟨rfl, rfl, trivial⟩ ?_
        refine at_then_normal ?_
        refine rt ?_
        have K := of_some hF
        subst K
        exact at_res2 rfl (res_cell (c := c_api_Endpoint) (y := zqG6_0) rfl .z (Lens.whole _ _) Tryz.isAgg27 Tryz.sizeOf27 (.inl rfl)) (res_tmp rfl) (fun w1 hw => ⟨rfl, hw.below⟩)
       ·refine at_cond_false rfl h87 ?_
        refine sns ?_
        refine av rfl (r_load_aggc (c := c_api_Addr) (z := t82.1) Tryz.isAgg25 Tryz.sizeOf25 rfl (lens_cell .z (Lens.whole _ _))) ?_
        refine av rfl (r_move rfl) ?_
        refine av rfl (r_conv Tryz.underlying31 Tryz.underlying3 rfl) ?_
        refine av rfl (r_build_struct (zs := Cd.cs c_api_Endpoint zqG6_0) (cs := Cd.cs c_api_Endpoint ({ { zqG6_0 with f_A := t82.1 } with f_Port := wr .i64 t85.1 })) Tryz.underlying27 Tryz.zeroValue27 rfl (places_api_Endpoint_27) rfl (fill_step (c := c_api_Addr) (z := t82.1) rfl (c_api_Endpoint_f_A zqG6_0) rfl (fill_step (c := (cInt .i64)) (z := wr .i64 t85.1) rfl (c_api_Endpoint_f_Port ({ zqG6_0 with f_A := t82.1 })) rfl rfl))) ?_
        refine at_store (c := c_api_Endpoint) (z := { { zqG6_0 with f_A := t82.1 } with f_Port := wr .i64 t85.1 }) (.s .z) (Lens.whole _ _) Tryz.sizeOf27 rfl rfl rfl ?_
        refine av rfl (r_assign rfl) ?_
        refine at_nil ?_
        refine at_drop (H := _) .z ?_
        refine at_weak [(2, _), (3, _)] ⟨rfl, rfl, trivial⟩ ?_
        refine at_then_normal ?_
        refine at_ret ?_
        have K := of_some hF
        subst K
        exact at_res2 rfl (res_cell (c := c_api_Endpoint) (y := { { zqG6_0 with f_A := t82.1 } with f_Port := wr .i64 t85.1 }) rfl .z (Lens.whole _ _) Tryz.isAgg27 Tryz.sizeOf27 (.inl rfl)) (res_tmp rfl) (fun w1 hw => ⟨rfl, hw.below⟩)
end Go.Proofs.YtkkmmpofdcccmaaGreatDoor
