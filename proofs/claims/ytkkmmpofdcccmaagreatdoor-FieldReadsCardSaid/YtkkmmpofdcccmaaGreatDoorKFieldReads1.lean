/- Texts of this claim, those in one that belong together; printed by a program of this project. -/
import Derived.Test.YtkkmmpofdcccmaaGreatDoorProg
import Derived.Test.YtkkmmpofdcccmaaGreatDoorKFieldReads0
set_option linter.unusedVariables false
set_option linter.unusedSimpArgs false
namespace Go.Proofs.YtkkmmpofdcccmaaGreatDoor
open E Go.RowKit
def decimal_Text (x0 : Int) : Option (ByteArray) :=
  if (0 : Int) ≤ x0 ∧ x0 < 18446744073709551616 then some (fmtU x0) else none
theorem decimal_Text_ok (x0 : Int) (r : ByteArray) (hF : decimal_Text x0 = some r) (w : World) (hg_strconv_uint64pow10 : GV_strconv_uint64pow10 w) :
    Calls Tryz.prog 113 #[.int .u64 x0] w (fun e w' => e = .returned (.string r) ∧ Below w.heap.size w w') := by
 unfold decimal_Text at hF
 refine calls_enter (l := [.int .u64 x0]) Tryz.func113 rfl rfl rfl ?_
 refine at_start ?_
 refine at_weak [(0, _)] ⟨rfl, trivial⟩ ?_
 refine sr ?_
 refine av rfl (r_assign rfl) ?_
 refine nws [(0, _)] ⟨rfl, trivial⟩ ?_
 refine av rfl (r_move rfl) ?_
 obtain ⟨h1, hF⟩ := of_guard hF
 refine at_callB Tryz.func163 rfl (by kernel_rfl) rfl rfl (fun w1 hw => formatUint_ok _ h1 w1 (hg_strconv_uint64pow10.on hw.below)) ?_
 refine av rfl (r_assign rfl) ?_
 refine nwt [(2, _)] ⟨rfl, trivial⟩ ?_
 refine at_ret ?_
 have K := of_some hF
 subst K
 exact at_return1 rfl rfl (fun w1 hw => ⟨rfl, hw.below⟩)
def crawlwayref03_Prefix.l0 (x0 : ByteArray) (i2 : Int) : Option (Int) :=
  if (decide (i2 < (x0.size : Int))) = true then (if (0 : Int) ≤ i2 ∧ i2 < (x0.size : Int) then if (decide (bt x0 i2 ≥ 48)) = true then (if (0 : Int) ≤ i2 ∧ i2 < (x0.size : Int) then if (decide (bt x0 i2 ≤ 57)) = true then (crawlwayref03_Prefix.l0 x0 (wr .i64 (i2 + 1))) else (some i2) else none) else (some i2) else none) else (some i2)
  partial_fixpoint
def crawlwayref03_Prefix (x0 : ByteArray) : Option (Int) :=
  crawlwayref03_Prefix.l0 x0 0 >>= fun q1 => some q1
theorem crawlwayref03_Prefix_ok (x0 : ByteArray) (r : Int) (hF : crawlwayref03_Prefix x0 = some r) (w : World) :
    Calls Tryz.prog 73 #[.string x0] w (fun e w' => e = .returned (.int .i64 r) ∧ w' = w) := by
 unfold crawlwayref03_Prefix at hF
 refine calls_enter (l := [.string x0]) Tryz.func73 rfl rfl rfl ?_
 refine at_weak [(0, _)] ⟨rfl, trivial⟩ ?_
 refine sr ?_
 refine av rfl (r_assign rfl) ?_
 refine nws [(0, _)] ⟨rfl, trivial⟩ ?_
 refine av rfl (r_assign rfl) ?_
 refine nwt [(0, _), (3, _)] ⟨rfl, rfl, trivial⟩ ?_
 refine at_seq ?_
 refine at_block ?_
 obtain ⟨q1, hq1, hF⟩ := of_bindM hF
 refine at_weak [(0, _), (3, _)] ⟨rfl, rfl, trivial⟩ ?_
 refine at_loop_n (B := 0) (A := fun Y => At 23 [(3, .int .i64 q1)] (fun w' => w' = w) Y) ?_ ?_
 ·intro K
  refine crawlwayref03_Prefix.l0.partial_correctness x0 (motive := fun i2 x => KN (fun Y => At 23 [(3, .int .i64 x)] (fun w' => w' = w) Y) _ 0 → Round (fun Y => At 23 [(0, .string x0), (3, .int .i64 i2)] (fun w' => w' = w) Y) _ _ _) ?_ _ _ hq1 K
  ·clear K hF
   intro g ih i2 x hF K
   refine at_round ?_
   refine at_seq ?_
   refine sr ?_
   refine av rfl (r_move rfl) ?_
   refine av rfl (r_move rfl) ?_
   refine av rfl (r_len_str Tryz.underlying9 rfl) ?_
   refine av rfl (r_ilss rfl rfl) ?_
   refine av rfl (r_move rfl) ?_
   rcases of_ite hF with ⟨h3, hF⟩ | ⟨h3, hF⟩
   ·refine at_fix (g := 8) rfl h3 ?_
    refine at_guard_yes rfl rfl rfl ?_
    refine av rfl (r_move rfl) ?_
    refine at_guard_yes rfl rfl rfl ?_
    refine av rfl (r_move rfl) ?_
    refine at_guard_yes rfl rfl rfl ?_
    obtain ⟨h4, hF⟩ := of_guard hF
    refine av rfl (r_index_str Tryz.underlying9 rfl rfl h4) ?_
    refine at_guard_yes rfl rfl rfl ?_
    refine av rfl (r_igeq rfl rfl) ?_
    refine av rfl (r_pick rfl rfl rfl) ?_
    refine av rfl (r_move rfl) ?_
    rcases of_ite hF with ⟨h5, hF⟩ | ⟨h5, hF⟩
    ·refine at_fix (g := 14) rfl h5 ?_
     refine at_guard_yes rfl rfl rfl ?_
     refine av rfl (r_move rfl) ?_
     refine at_guard_yes rfl rfl rfl ?_
     refine av rfl (r_move rfl) ?_
     refine at_guard_yes rfl rfl rfl ?_
     obtain ⟨h6, hF⟩ := of_guard hF
     refine av rfl (r_index_str Tryz.underlying9 rfl rfl h6) ?_
     refine at_guard_yes rfl rfl rfl ?_
     refine av rfl (r_ileq rfl rfl) ?_
     refine av rfl (r_pick rfl rfl rfl) ?_
     refine nwt [(0, _), (3, _), (19, _)] ⟨rfl, rfl, rfl, trivial⟩ ?_
     rcases of_ite hF with ⟨h7, hF⟩ | ⟨h7, hF⟩
     ·refine at_cond_true rfl h7 ?_
      refine sn ?_
      refine at_block ?_
      refine at_region ?_
      refine av rfl (r_move rfl) ?_
      refine av rfl (r_iadd rfl rfl) ?_
      refine av rfl (r_assign rfl) ?_
      refine at_nil ?_
      refine at_weak [(0, _), (3, _)] ⟨rfl, rfl, trivial⟩ ?_
      refine at_blk_normal (at_then_normal ?_)
      exact at_weak_k (ih _ _ hF K) ⟨rfl, rfl, trivial⟩
     ·refine at_cond_false rfl h7 ?_
      refine at_exit ?_
      refine at_then_exit (at_then_exit ?_)
      obtain rfl := of_some hF
      exact at_weak_k K ⟨rfl, trivial⟩
    ·refine at_fix (g := 14) rfl h5 ?_
     refine at_guard_no rfl rfl rfl rfl rfl ?_
     refine at_guard_no rfl rfl rfl rfl rfl ?_
     refine at_guard_no rfl rfl rfl rfl rfl ?_
     refine at_guard_no rfl rfl rfl rfl rfl ?_
     refine av rfl (r_pick rfl rfl rfl) ?_
     refine nwt [(0, _), (3, _), (19, _)] ⟨rfl, rfl, rfl, trivial⟩ ?_
     refine at_cond_false rfl rfl ?_
     refine at_exit ?_
     refine at_then_exit (at_then_exit ?_)
     obtain rfl := of_some hF
     exact at_weak_k K ⟨rfl, trivial⟩
   ·refine at_fix (g := 8) rfl h3 ?_
    refine at_guard_no rfl rfl rfl rfl rfl ?_
    refine at_guard_no rfl rfl rfl rfl rfl ?_
    refine at_guard_no rfl rfl rfl rfl rfl ?_
    refine at_guard_no rfl rfl rfl rfl rfl ?_
    refine av rfl (r_pick rfl rfl rfl) ?_
    refine av rfl (r_move rfl) ?_
    refine at_guard_no rfl rfl rfl rfl rfl ?_
    refine at_guard_no rfl rfl rfl rfl rfl ?_
    refine at_guard_no rfl rfl rfl rfl rfl ?_
    refine at_guard_no rfl rfl rfl rfl rfl ?_
    refine av rfl (r_pick rfl rfl rfl) ?_
    refine nwt [(0, _), (3, _), (19, _)] ⟨rfl, rfl, rfl, trivial⟩ ?_
    refine at_cond_false rfl rfl ?_
    refine at_exit ?_
    refine at_then_exit (at_then_exit ?_)
    obtain rfl := of_some hF
    exact at_weak_k K ⟨rfl, trivial⟩
 ·skip
  skip
  refine at_blk_same ?_
  refine at_then_normal ?_
  refine sr ?_
  refine av rfl (r_move rfl) ?_
  refine av rfl (r_assign rfl) ?_
  refine nwt [(2, _)] ⟨rfl, trivial⟩ ?_
  refine at_ret ?_
  have K := of_some hF
  subst K
  exact at_return1 rfl rfl (fun w1 hw => ⟨rfl, hw⟩)
def decimal_Prefix.l0 (x0 : ByteArray) (i3 : Nat) : Option (Ctl (Int) (Unit)) :=
  if decide (i3 < x0.size) = true then (if (decide (dcode x0 i3 < 48)) = true then (some (.ret (i3 : Int))) else (if (decide (dcode x0 i3 > 57)) = true then (some (.ret (i3 : Int))) else (decimal_Prefix.l0 x0 (dstep x0 i3)))) else (some (.nx ()))
  partial_fixpoint
def decimal_Prefix (x0 : ByteArray) : Option (Int) :=
  decimal_Prefix.l0 x0 0 >>= fun q2 => match q2 with | .ret r' => some r' | .nx sq2 => (some (x0.size : Int))
theorem decimal_Prefix_ok (x0 : ByteArray) (r : Int) (hF : decimal_Prefix x0 = some r) (w : World) :
    Calls Tryz.prog 161 #[.string x0] w (fun e w' => e = .returned (.int .i64 r) ∧ Below w.heap.size w w') := by
 unfold decimal_Prefix at hF
 refine calls_enter (l := [.string x0]) Tryz.func161 rfl rfl rfl ?_
 refine at_start ?_
 refine at_weak [(0, _)] ⟨rfl, trivial⟩ ?_
 refine sr ?_
 refine av rfl (r_assign rfl) ?_
 refine nwt [(0, _)] ⟨rfl, trivial⟩ ?_
 refine at_seq ?_
 refine sr ?_
 refine av rfl (r_move rfl) ?_
 refine at_range (s := x0) Tryz.underlying9 rfl rfl ?_
 intro b1
 refine nwt [(0, _), (6, _)] ⟨rfl, rfl, trivial⟩ ?_
 refine at_block ?_
 obtain ⟨q2, hq2, hF⟩ := of_bindM hF
 refine at_weak [(0, _), (6, _)] ⟨rfl, rfl, trivial⟩ ?_
 refine at_loop_r (B := 0) (r := r) (q := q2) (A := fun (_ : Unit) Y => At 20 [(0, .string x0)] (Wd w []) Y) ?_ ?_
 ·intro K
  refine decimal_Prefix.l0.partial_correctness x0 (motive := fun i3 x => KR (fun (_ : Unit) Y => At 20 [(0, .string x0)] (Wd w []) Y) _ 0 r x → Round (fun Y => At 20 [(0, .string x0), (6, .pointer (some ⟨b1, 0, none⟩))] (Wd w [iterE b1 x0 i3]) Y) _ _ _) ?_ _ _ hq2 K
  ·clear K hF
   intro g ih i3 x hF K
   refine at_round ?_
   refine sr ?_
   rcases of_ite hF with ⟨h4, hF⟩ | ⟨h4, hF⟩
   ·refine at_next (s := x0) (p := i3) .z rfl rfl h4 ?_
    refine av rfl (r_extract rfl rfl) ?_
    refine nwt [(0, _), (6, _), (7, _), (8, _)] ⟨rfl, rfl, rfl, rfl, trivial⟩ ?_
    refine at_seq ?_
    refine at_cond_true rfl rfl ?_
    refine sn ?_
    refine at_block ?_
    refine sr ?_
    refine av rfl (r_extract rfl rfl) ?_
    refine av rfl (r_extract rfl rfl) ?_
    refine av rfl (r_assign rfl) ?_
    refine av rfl (r_assign rfl) ?_
    refine nws [(0, _), (3, _), (4, _), (6, _)] ⟨rfl, rfl, rfl, rfl, trivial⟩ ?_
    refine av rfl (r_move rfl) ?_
    refine av rfl (r_ilss rfl rfl) ?_
    refine av rfl (r_move rfl) ?_
    rcases of_ite hF with ⟨h5, hF⟩ | ⟨h5, hF⟩
    ·refine at_fix (g := 13) rfl h5 ?_
     refine at_guard_no rfl rfl rfl rfl rfl ?_
     refine at_guard_no rfl rfl rfl rfl rfl ?_
     refine av rfl (r_pick rfl rfl rfl) ?_
     refine nwt [(0, _), (3, _), (6, _), (16, _)] ⟨rfl, rfl, rfl, rfl, trivial⟩ ?_
     refine at_cond_true rfl rfl ?_
     refine sr ?_
     refine av rfl (r_move rfl) ?_
     refine av rfl (r_assign rfl) ?_
     refine at_nil ?_
     refine at_drop (H := _) .z ?_
     refine at_weak [(2, _)] ⟨rfl, trivial⟩ ?_
     refine at_then_normal ?_
     refine at_ret ?_
     refine at_blk_ret (at_then_ret (at_blk_ret (at_then_ret ?_)))
     obtain rfl := of_some hF
     subst K
     exact at_return1 rfl rfl (fun w1 hw => ⟨rfl, hw.below⟩)
    ·refine at_fix (g := 13) rfl h5 ?_
     refine at_guard_yes rfl rfl rfl ?_
     refine av rfl (r_move rfl) ?_
     refine at_guard_yes rfl rfl rfl ?_
     refine av rfl (r_igtr rfl rfl) ?_
     refine av rfl (r_pick rfl rfl rfl) ?_
     refine nwt [(0, _), (3, _), (6, _), (16, _)] ⟨rfl, rfl, rfl, rfl, trivial⟩ ?_
     rcases of_ite hF with ⟨h6, hF⟩ | ⟨h6, hF⟩
     ·refine at_cond_true rfl h6 ?_
      refine sr ?_
      refine av rfl (r_move rfl) ?_
      refine av rfl (r_assign rfl) ?_
      refine at_nil ?_
      refine at_drop (H := _) .z ?_
      refine at_weak [(2, _)] ⟨rfl, trivial⟩ ?_
      refine at_then_normal ?_
      refine at_ret ?_
      refine at_blk_ret (at_then_ret (at_blk_ret (at_then_ret ?_)))
      obtain rfl := of_some hF
      subst K
      exact at_return1 rfl rfl (fun w1 hw => ⟨rfl, hw.below⟩)
     ·refine at_cond_false rfl h6 ?_
      refine at_skip ?_
      refine at_blk_normal (at_then_normal ?_)
      exact at_weak_k (ih _ _ hF K) ⟨rfl, rfl, trivial⟩
   ·refine at_over (s := x0) (p := i3) .z rfl rfl h4 ?_
    refine av rfl (r_extract rfl rfl) ?_
    refine nwt [(0, _), (6, _), (7, _), (8, _)] ⟨rfl, rfl, rfl, rfl, trivial⟩ ?_
    refine at_seq ?_
    refine at_cond_false rfl rfl ?_
    refine at_exit ?_
    refine at_then_exit (at_then_exit ?_)
    refine at_drop (H := _) .z ?_
    obtain rfl := of_some hF
    exact at_weak_k K ⟨rfl, trivial⟩
 ·cases q2 with
  | ret r' => exact of_some hF
  | nx sq2 =>
   skip
   refine at_blk_same ?_
   refine at_then_normal ?_
   refine sr ?_
   refine av rfl (r_move rfl) ?_
   refine av rfl (r_len_str Tryz.underlying9 rfl) ?_
   refine av rfl (r_assign rfl) ?_
   refine nwt [(2, _)] ⟨rfl, trivial⟩ ?_
   refine at_ret ?_
   have K := of_some hF
   subst K
   exact at_return1 rfl rfl (fun w1 hw => ⟨rfl, hw.below⟩)
def decimal_Read (x0 : ByteArray) (x1 : Int) : Option (Int × Int) :=
  if (seq x0 (⟨#[]⟩ : ByteArray)) = true then (some (0, 5)) else (decimal_Prefix x0 >>= fun t2 => if (decide (t2 < (x0.size : Int))) = true then (some (0, 5)) else (if (decide ((x0.size : Int) > 1)) = true then (if (0 : Int) ≤ 0 ∧ 0 < (x0.size : Int) then if (bt x0 0 == 48) = true then (some (0, 5)) else (if x0.size ≤ 281474976710656 then if (!!((parU x0).2)) = true then (some (0, 6)) else (if (decide ((parU x0).1 > x1)) = true then (some (0, 6)) else (some ((parU x0).1, 0))) else none) else none) else (if x0.size ≤ 281474976710656 then if (!!((parU x0).2)) = true then (some (0, 6)) else (if (decide ((parU x0).1 > x1)) = true then (some (0, 6)) else (some ((parU x0).1, 0))) else none)))
theorem decimal_Read_ok (x0 : ByteArray) (x1 : Int) (r : Int × Int) (hF : decimal_Read x0 x1 = some r) (w : World) (hg_strconv_ErrRange : GV_strconv_ErrRange w) (hg_strconv_ErrSyntax : GV_strconv_ErrSyntax w) :
    Calls Tryz.prog 111 #[.string x0, .int .u64 x1] w (fun e w' => e = .returned (.tuple #[.int .u64 r.1, .int .i64 r.2]) ∧ Below w.heap.size w w') := by
 unfold decimal_Read at hF
 refine calls_enter (l := [.string x0, .int .u64 x1]) Tryz.func111 rfl rfl rfl ?_
 refine at_start ?_
 refine at_weak [(0, _), (1, _)] ⟨rfl, rfl, trivial⟩ ?_
 refine sr ?_
 refine av rfl (r_assign rfl) ?_
 refine av rfl (r_assign rfl) ?_
 refine nwt [(0, _), (1, _)] ⟨rfl, rfl, trivial⟩ ?_
 refine at_seq ?_
 refine sr ?_
 refine av rfl (r_move rfl) ?_
 refine av rfl (r_seql rfl rfl) ?_
 refine av rfl (r_move rfl) ?_
 rcases of_ite hF with ⟨h1, hF⟩ | ⟨h1, hF⟩
 ·refine at_fix (g := 10) rfl h1 ?_
  refine at_guard_no rfl rfl rfl rfl rfl ?_
  refine at_guard_no rfl rfl rfl rfl rfl ?_
  refine at_guard_no rfl rfl rfl rfl rfl ?_
  refine at_guard_no rfl rfl rfl rfl rfl ?_
  refine at_guard_no rfl rfl rfl rfl rfl ?_
  refine av rfl (r_pick rfl rfl rfl) ?_
  refine av rfl (r_move rfl) ?_
  refine at_guard_no rfl rfl rfl rfl rfl ?_
  refine at_guard_no rfl rfl rfl rfl rfl ?_
  refine at_guard_no rfl rfl rfl rfl rfl ?_
  refine at_guard_no rfl rfl rfl rfl rfl ?_
  refine at_guard_undef rfl rfl rfl rfl ?_
  refine at_guard_undef rfl rfl rfl rfl ?_
  refine at_guard_undef rfl rfl rfl rfl ?_
  refine at_guard_no rfl rfl rfl rfl rfl ?_
  refine av rfl (r_pick rfl rfl rfl) ?_
  refine nwt [(0, _), (1, _), (26, _)] ⟨rfl, rfl, rfl, trivial⟩ ?_
  refine at_cond_true rfl rfl ?_
  refine sr ?_
  refine av rfl (r_assign rfl) ?_
  refine av rfl (r_assign rfl) ?_
  refine nwt [(4, _), (5, _)] ⟨rfl, rfl, trivial⟩ ?_
  refine rt ?_
  have K := of_some hF
  subst K
  exact at_return2 rfl rfl rfl (fun w1 hw => ⟨rfl, hw.below⟩)
 ·refine at_fix (g := 10) rfl h1 ?_
  refine at_guard_yes rfl rfl rfl ?_
  refine av rfl (r_move rfl) ?_
  refine at_guard_yes rfl rfl rfl ?_
  obtain ⟨t2, ht2, hF⟩ := of_bindM hF
  refine at_callB Tryz.func161 rfl (by kernel_rfl) rfl rfl (fun w hw => decimal_Prefix_ok _ _ ht2 w) ?_
  refine at_guard_yes rfl rfl rfl ?_
  refine av rfl (r_move rfl) ?_
  refine at_guard_yes rfl rfl rfl ?_
  refine av rfl (r_len_str Tryz.underlying9 rfl) ?_
  refine at_guard_yes rfl rfl rfl ?_
  refine av rfl (r_ilss rfl rfl) ?_
  refine av rfl (r_pick rfl rfl rfl) ?_
  refine av rfl (r_move rfl) ?_
  rcases of_ite hF with ⟨h3, hF⟩ | ⟨h3, hF⟩
  ·refine at_fix (g := 17) rfl h3 ?_
   refine at_guard_no rfl rfl rfl rfl rfl ?_
   refine at_guard_no rfl rfl rfl rfl rfl ?_
   refine at_guard_no rfl rfl rfl rfl rfl ?_
   refine at_guard_no rfl rfl rfl rfl rfl ?_
   refine at_guard_undef rfl rfl rfl rfl ?_
   refine at_guard_undef rfl rfl rfl rfl ?_
   refine at_guard_undef rfl rfl rfl rfl ?_
   refine at_guard_no rfl rfl rfl rfl rfl ?_
   refine av rfl (r_pick rfl rfl rfl) ?_
   refine nwt [(0, _), (1, _), (26, _)] ⟨rfl, rfl, rfl, trivial⟩ ?_
   refine at_cond_true rfl rfl ?_
   refine sr ?_
   refine av rfl (r_assign rfl) ?_
   refine av rfl (r_assign rfl) ?_
   refine nwt [(4, _), (5, _)] ⟨rfl, rfl, trivial⟩ ?_
   refine rt ?_
   have K := of_some hF
   subst K
   exact at_return2 rfl rfl rfl (fun w1 hw => ⟨rfl, hw.below⟩)
  ·refine at_fix (g := 17) rfl h3 ?_
   refine at_guard_yes rfl rfl rfl ?_
   refine av rfl (r_move rfl) ?_
   refine at_guard_yes rfl rfl rfl ?_
   refine av rfl (r_len_str Tryz.underlying9 rfl) ?_
   refine at_guard_yes rfl rfl rfl ?_
   refine av rfl (r_igtr rfl rfl) ?_
   refine at_guard_yes rfl rfl rfl ?_
   refine av rfl (r_move rfl) ?_
   rcases of_ite hF with ⟨h4, hF⟩ | ⟨h4, hF⟩
   ·refine at_fix (g := 21) rfl h4 ?_
    refine at_guard_yes rfl rfl rfl ?_
    refine av rfl (r_move rfl) ?_
    refine at_guard_yes rfl rfl rfl ?_
    obtain ⟨h5, hF⟩ := of_guard hF
    refine av rfl (r_index_str Tryz.underlying9 rfl rfl h5) ?_
    refine at_guard_yes rfl rfl rfl ?_
    refine av rfl (r_ieql rfl rfl) ?_
    refine at_guard_yes rfl rfl rfl ?_
    refine av rfl (r_pick rfl rfl rfl) ?_
    refine av rfl (r_pick rfl rfl rfl) ?_
    refine nwt [(0, _), (1, _), (26, _)] ⟨rfl, rfl, rfl, trivial⟩ ?_
    rcases of_ite hF with ⟨h6, hF⟩ | ⟨h6, hF⟩
    ·refine at_cond_true rfl h6 ?_
     refine sr ?_
     refine av rfl (r_assign rfl) ?_
     refine av rfl (r_assign rfl) ?_
     refine nwt [(4, _), (5, _)] ⟨rfl, rfl, trivial⟩ ?_
     refine rt ?_
     have K := of_some hF
     subst K
     exact at_return2 rfl rfl rfl (fun w1 hw => ⟨rfl, hw.below⟩)
    ·refine at_cond_false rfl h6 ?_
     refine sns ?_
     refine av rfl (r_move rfl) ?_
     obtain ⟨h7, hF⟩ := of_guard hF
     refine at_callE Tryz.func162 rfl (by kernel_rfl) rfl rfl (fun w1 hw => parseUint_ok _ h7 w1 (hg_strconv_ErrRange.on hw.below) (hg_strconv_ErrSyntax.on hw.below)) ?_
     intro u8 hu9
     refine av rfl (r_move rfl) ?_
     refine av rfl (r_extract rfl rfl) ?_
     refine av rfl (r_extract rfl rfl) ?_
     refine av rfl (r_assign rfl) ?_
     refine av rfl (r_assign rfl) ?_
     refine nwt [(1, _), (6, _), (7, _)] ⟨rfl, rfl, rfl, trivial⟩ ?_
     refine at_seq ?_
     refine sr ?_
     refine av rfl (r_move rfl) ?_
     refine av rfl (r_err Tryz.underlying140 rfl hu9 (.inr rfl) rfl) ?_
     refine av rfl (r_move rfl) ?_
     rcases of_ite hF with ⟨h10, hF⟩ | ⟨h10, hF⟩
     ·refine at_fix (g := 34) rfl h10 ?_
      refine at_guard_no rfl rfl rfl rfl rfl ?_
      refine at_guard_no rfl rfl rfl rfl rfl ?_
      refine at_guard_no rfl rfl rfl rfl rfl ?_
      refine av rfl (r_pick rfl rfl rfl) ?_
      refine nwt [(6, _), (38, _)] ⟨rfl, rfl, trivial⟩ ?_
      refine at_cond_true rfl rfl ?_
      refine sr ?_
      refine av rfl (r_assign rfl) ?_
      refine av rfl (r_assign rfl) ?_
      refine nwt [(4, _), (5, _)] ⟨rfl, rfl, trivial⟩ ?_
      refine rt ?_
      have K := of_some hF
      subst K
      exact at_return2 rfl rfl rfl (fun w1 hw => ⟨rfl, hw.below⟩)
     ·refine at_fix (g := 34) rfl h10 ?_
      refine at_guard_yes rfl rfl rfl ?_
      refine av rfl (r_move rfl) ?_
      refine at_guard_yes rfl rfl rfl ?_
      refine av rfl (r_move rfl) ?_
      refine at_guard_yes rfl rfl rfl ?_
      refine av rfl (r_igtr rfl rfl) ?_
      refine av rfl (r_pick rfl rfl rfl) ?_
      refine nwt [(6, _), (38, _)] ⟨rfl, rfl, trivial⟩ ?_
      rcases of_ite hF with ⟨h11, hF⟩ | ⟨h11, hF⟩
      ·refine at_cond_true rfl h11 ?_
       refine sr ?_
       refine av rfl (r_assign rfl) ?_
       refine av rfl (r_assign rfl) ?_
       refine nwt [(4, _), (5, _)] ⟨rfl, rfl, trivial⟩ ?_
       refine rt ?_
       have K := of_some hF
       subst K
       exact at_return2 rfl rfl rfl (fun w1 hw => ⟨rfl, hw.below⟩)
      ·refine at_cond_false rfl h11 ?_
       refine sns ?_
       refine av rfl (r_move rfl) ?_
       refine av rfl (r_assign rfl) ?_
       refine av rfl (r_assign rfl) ?_
       refine nwt [(4, _), (5, _)] ⟨rfl, rfl, trivial⟩ ?_
       refine at_ret ?_
       have K := of_some hF
       subst K
       exact at_return2 rfl rfl rfl (fun w1 hw => ⟨rfl, hw.below⟩)
   ·refine at_fix (g := 21) rfl h4 ?_
    refine at_guard_no rfl rfl rfl rfl rfl ?_
    refine at_guard_no rfl rfl rfl rfl rfl ?_
    refine at_guard_no rfl rfl rfl rfl rfl ?_
    refine at_guard_yes rfl rfl rfl ?_
    refine av rfl (r_pick rfl rfl rfl) ?_
    refine av rfl (r_pick rfl rfl rfl) ?_
    refine nwt [(0, _), (1, _), (26, _)] ⟨rfl, rfl, rfl, trivial⟩ ?_
    refine at_cond_false rfl rfl ?_
    refine sns ?_
    refine av rfl (r_move rfl) ?_
    obtain ⟨h12, hF⟩ := of_guard hF
    refine at_callE Tryz.func162 rfl (by kernel_rfl) rfl rfl (fun w1 hw => parseUint_ok _ h12 w1 (hg_strconv_ErrRange.on hw.below) (hg_strconv_ErrSyntax.on hw.below)) ?_
    intro u13 hu14
    refine av rfl (r_move rfl) ?_
    refine av rfl (r_extract rfl rfl) ?_
    refine av rfl (r_extract rfl rfl) ?_
    refine av rfl (r_assign rfl) ?_
    refine av rfl (r_assign rfl) ?_
    refine nwt [(1, _), (6, _), (7, _)] ⟨rfl, rfl, rfl, trivial⟩ ?_
    refine at_seq ?_
    refine sr ?_
    refine av rfl (r_move rfl) ?_
    refine av rfl (r_err Tryz.underlying140 rfl hu14 (.inr rfl) rfl) ?_
    refine av rfl (r_move rfl) ?_
    rcases of_ite hF with ⟨h15, hF⟩ | ⟨h15, hF⟩
    ·refine at_fix (g := 34) rfl h15 ?_
     refine at_guard_no rfl rfl rfl rfl rfl ?_
     refine at_guard_no rfl rfl rfl rfl rfl ?_
     refine at_guard_no rfl rfl rfl rfl rfl ?_
     refine av rfl (r_pick rfl rfl rfl) ?_
     refine nwt [(6, _), (38, _)] ⟨rfl, rfl, trivial⟩ ?_
     refine at_cond_true rfl rfl ?_
     refine sr ?_
     refine av rfl (r_assign rfl) ?_
     refine av rfl (r_assign rfl) ?_
     refine nwt [(4, _), (5, _)] ⟨rfl, rfl, trivial⟩ ?_
     refine rt ?_
     have K := of_some hF
     subst K
     exact at_return2 rfl rfl rfl (fun w1 hw => ⟨rfl, hw.below⟩)
    ·refine at_fix (g := 34) rfl h15 ?_
     refine at_guard_yes rfl rfl rfl ?_
     refine av rfl (r_move rfl) ?_
     refine at_guard_yes rfl rfl rfl ?_
     refine av rfl (r_move rfl) ?_
     refine at_guard_yes rfl rfl rfl ?_
     refine av rfl (r_igtr rfl rfl) ?_
     refine av rfl (r_pick rfl rfl rfl) ?_
     refine nwt [(6, _), (38, _)] ⟨rfl, rfl, trivial⟩ ?_
     rcases of_ite hF with ⟨h16, hF⟩ | ⟨h16, hF⟩
     ·refine at_cond_true rfl h16 ?_
      refine sr ?_
      refine av rfl (r_assign rfl) ?_
      refine av rfl (r_assign rfl) ?_
      refine nwt [(4, _), (5, _)] ⟨rfl, rfl, trivial⟩ ?_
      refine rt ?_
      have K := of_some hF
      subst K
      exact at_return2 rfl rfl rfl (fun w1 hw => ⟨rfl, hw.below⟩)
     ·refine at_cond_false rfl h16 ?_
      refine sns ?_
      refine av rfl (r_move rfl) ?_
      refine av rfl (r_assign rfl) ?_
      refine av rfl (r_assign rfl) ?_
      refine nwt [(4, _), (5, _)] ⟨rfl, rfl, trivial⟩ ?_
      refine at_ret ?_
      have K := of_some hF
      subst K
      exact at_return2 rfl rfl rfl (fun w1 hw => ⟨rfl, hw.below⟩)
def crawlwayref03_Read.l0 (x0 : ByteArray) (x1 : Int) (i8 : Int) (i9 : Int) : Option (Ctl (Int × Int) (Int)) :=
  if (decide (i9 < (x0.size : Int))) = true then (if (0 : Int) ≤ i9 ∧ i9 < (x0.size : Int) then if (decide (i8 > wr .u64 (Int.tdiv x1 10))) = true then (some (.ret (0, 6))) else (if (decide (wr .u64 (10 * i8) > wr .u64 (x1 - (if x1 < wr .u64 ((wr .u64 (bt x0 i9)) - 48) then x1 else wr .u64 ((wr .u64 (bt x0 i9)) - 48))))) = true then (some (.ret (0, 6))) else (if (decide (wr .u64 ((wr .u64 (bt x0 i9)) - 48) > x1)) = true then (some (.ret (0, 6))) else (crawlwayref03_Read.l0 x0 x1 (wr .u64 ((wr .u64 (10 * i8)) + (wr .u64 ((wr .u64 (bt x0 i9)) - 48)))) (wr .i64 (i9 + 1))))) else none) else (some (.nx i8))
  partial_fixpoint
def crawlwayref03_Read.l1 (x0 : ByteArray) (x1 : Int) (i16 : Int) (i17 : Int) : Option (Ctl (Int × Int) (Int)) :=
  if (decide (i17 < (x0.size : Int))) = true then (if (0 : Int) ≤ i17 ∧ i17 < (x0.size : Int) then if (decide (i16 > wr .u64 (Int.tdiv x1 10))) = true then (some (.ret (0, 6))) else (if (decide (wr .u64 (10 * i16) > wr .u64 (x1 - (if x1 < wr .u64 ((wr .u64 (bt x0 i17)) - 48) then x1 else wr .u64 ((wr .u64 (bt x0 i17)) - 48))))) = true then (some (.ret (0, 6))) else (if (decide (wr .u64 ((wr .u64 (bt x0 i17)) - 48) > x1)) = true then (some (.ret (0, 6))) else (crawlwayref03_Read.l1 x0 x1 (wr .u64 ((wr .u64 (10 * i16)) + (wr .u64 ((wr .u64 (bt x0 i17)) - 48)))) (wr .i64 (i17 + 1))))) else none) else (some (.nx i16))
  partial_fixpoint
def crawlwayref03_Read (x0 : ByteArray) (x1 : Int) : Option (Int × Int) :=
  if ((x0.size : Int) == 0) = true then (some (0, 5)) else (crawlwayref03_Prefix x0 >>= fun t2 => if (decide (t2 < (x0.size : Int))) = true then (some (0, 5)) else (if (decide ((x0.size : Int) > 1)) = true then (if (0 : Int) ≤ 0 ∧ 0 < (x0.size : Int) then if (bt x0 0 == 48) = true then (some (0, 5)) else (crawlwayref03_Read.l0 x0 x1 0 0 >>= fun q7 => match q7 with | .ret r' => some r' | .nx sq7 => (some (sq7, 0))) else none) else (crawlwayref03_Read.l1 x0 x1 0 0 >>= fun q15 => match q15 with | .ret r' => some r' | .nx sq15 => (some (sq15, 0)))))
theorem crawlwayref03_Read_ok (x0 : ByteArray) (x1 : Int) (r : Int × Int) (hF : crawlwayref03_Read x0 x1 = some r) (w : World) :
    Calls Tryz.prog 43 #[.string x0, .int .u64 x1] w (fun e w' => e = .returned (.tuple #[.int .u64 r.1, .int .i64 r.2]) ∧ w' = w) := by
 unfold crawlwayref03_Read at hF
 refine calls_enter (l := [.string x0, .int .u64 x1]) Tryz.func43 rfl rfl rfl ?_
 refine at_weak [(0, _), (1, _)] ⟨rfl, rfl, trivial⟩ ?_
 refine sr ?_
 refine av rfl (r_assign rfl) ?_
 refine av rfl (r_assign rfl) ?_
 refine nwt [(0, _), (1, _)] ⟨rfl, rfl, trivial⟩ ?_
 refine at_seq ?_
 refine sr ?_
 refine av rfl (r_move rfl) ?_
 refine av rfl (r_len_str Tryz.underlying9 rfl) ?_
 refine av rfl (r_ieql rfl rfl) ?_
 refine av rfl (r_move rfl) ?_
 rcases of_ite hF with ⟨h1, hF⟩ | ⟨h1, hF⟩
 ·refine at_fix (g := 12) rfl h1 ?_
  refine at_guard_no rfl rfl rfl rfl rfl ?_
  refine at_guard_no rfl rfl rfl rfl rfl ?_
  refine at_guard_no rfl rfl rfl rfl rfl ?_
  refine at_guard_no rfl rfl rfl rfl rfl ?_
  refine at_guard_no rfl rfl rfl rfl rfl ?_
  refine av rfl (r_pick rfl rfl rfl) ?_
  refine av rfl (r_move rfl) ?_
  refine at_guard_no rfl rfl rfl rfl rfl ?_
  refine at_guard_no rfl rfl rfl rfl rfl ?_
  refine at_guard_no rfl rfl rfl rfl rfl ?_
  refine at_guard_no rfl rfl rfl rfl rfl ?_
  refine at_guard_undef rfl rfl rfl rfl ?_
  refine at_guard_undef rfl rfl rfl rfl ?_
  refine at_guard_undef rfl rfl rfl rfl ?_
  refine at_guard_no rfl rfl rfl rfl rfl ?_
  refine av rfl (r_pick rfl rfl rfl) ?_
  refine nwt [(0, _), (1, _), (28, _)] ⟨rfl, rfl, rfl, trivial⟩ ?_
  refine at_cond_true rfl rfl ?_
  refine sr ?_
  refine av rfl (r_assign rfl) ?_
  refine av rfl (r_assign rfl) ?_
  refine nwt [(4, _), (5, _)] ⟨rfl, rfl, trivial⟩ ?_
  refine rt ?_
  have K := of_some hF
  subst K
  exact at_return2 rfl rfl rfl (fun w1 hw => ⟨rfl, hw⟩)
 ·refine at_fix (g := 12) rfl h1 ?_
  refine at_guard_yes rfl rfl rfl ?_
  refine av rfl (r_move rfl) ?_
  refine at_guard_yes rfl rfl rfl ?_
  obtain ⟨t2, ht2, hF⟩ := of_bindM hF
  refine at_call0 Tryz.func73 rfl (by kernel_rfl) rfl rfl (fun w => crawlwayref03_Prefix_ok _ _ ht2 w) ?_
  refine at_guard_yes rfl rfl rfl ?_
  refine av rfl (r_move rfl) ?_
  refine at_guard_yes rfl rfl rfl ?_
  refine av rfl (r_len_str Tryz.underlying9 rfl) ?_
  refine at_guard_yes rfl rfl rfl ?_
  refine av rfl (r_ilss rfl rfl) ?_
  refine av rfl (r_pick rfl rfl rfl) ?_
  refine av rfl (r_move rfl) ?_
  rcases of_ite hF with ⟨h3, hF⟩ | ⟨h3, hF⟩
  ·refine at_fix (g := 19) rfl h3 ?_
   refine at_guard_no rfl rfl rfl rfl rfl ?_
   refine at_guard_no rfl rfl rfl rfl rfl ?_
   refine at_guard_no rfl rfl rfl rfl rfl ?_
   refine at_guard_no rfl rfl rfl rfl rfl ?_
   refine at_guard_undef rfl rfl rfl rfl ?_
   refine at_guard_undef rfl rfl rfl rfl ?_
   refine at_guard_undef rfl rfl rfl rfl ?_
   refine at_guard_no rfl rfl rfl rfl rfl ?_
   refine av rfl (r_pick rfl rfl rfl) ?_
   refine nwt [(0, _), (1, _), (28, _)] ⟨rfl, rfl, rfl, trivial⟩ ?_
   refine at_cond_true rfl rfl ?_
   refine sr ?_
   refine av rfl (r_assign rfl) ?_
   refine av rfl (r_assign rfl) ?_
   refine nwt [(4, _), (5, _)] ⟨rfl, rfl, trivial⟩ ?_
   refine rt ?_
   have K := of_some hF
   subst K
   exact at_return2 rfl rfl rfl (fun w1 hw => ⟨rfl, hw⟩)
  ·refine at_fix (g := 19) rfl h3 ?_
   refine at_guard_yes rfl rfl rfl ?_
   refine av rfl (r_move rfl) ?_
   refine at_guard_yes rfl rfl rfl ?_
   refine av rfl (r_len_str Tryz.underlying9 rfl) ?_
   refine at_guard_yes rfl rfl rfl ?_
   refine av rfl (r_igtr rfl rfl) ?_
   refine at_guard_yes rfl rfl rfl ?_
   refine av rfl (r_move rfl) ?_
   rcases of_ite hF with ⟨h4, hF⟩ | ⟨h4, hF⟩
   ·refine at_fix (g := 23) rfl h4 ?_
    refine at_guard_yes rfl rfl rfl ?_
    refine av rfl (r_move rfl) ?_
    refine at_guard_yes rfl rfl rfl ?_
    obtain ⟨h5, hF⟩ := of_guard hF
    refine av rfl (r_index_str Tryz.underlying9 rfl rfl h5) ?_
    refine at_guard_yes rfl rfl rfl ?_
    refine av rfl (r_ieql rfl rfl) ?_
    refine at_guard_yes rfl rfl rfl ?_
    refine av rfl (r_pick rfl rfl rfl) ?_
    refine av rfl (r_pick rfl rfl rfl) ?_
    refine nwt [(0, _), (1, _), (28, _)] ⟨rfl, rfl, rfl, trivial⟩ ?_
    rcases of_ite hF with ⟨h6, hF⟩ | ⟨h6, hF⟩
    ·refine at_cond_true rfl h6 ?_
     refine sr ?_
     refine av rfl (r_assign rfl) ?_
     refine av rfl (r_assign rfl) ?_
     refine nwt [(4, _), (5, _)] ⟨rfl, rfl, trivial⟩ ?_
     refine rt ?_
     have K := of_some hF
     subst K
     exact at_return2 rfl rfl rfl (fun w1 hw => ⟨rfl, hw⟩)
    ·refine at_cond_false rfl h6 ?_
     refine sns ?_
     refine av rfl (r_assign rfl) ?_
     refine nwt [(0, _), (1, _), (6, _)] ⟨rfl, rfl, rfl, trivial⟩ ?_
     refine at_seq ?_
     refine sr ?_
     refine av rfl (r_assign rfl) ?_
     refine nwt [(0, _), (1, _), (6, _), (7, _)] ⟨rfl, rfl, rfl, rfl, trivial⟩ ?_
     refine at_block ?_
     obtain ⟨q7, hq7, hF⟩ := of_bindM hF
     refine at_weak [(0, _), (1, _), (6, _), (7, _)] ⟨rfl, rfl, rfl, rfl, trivial⟩ ?_
     refine at_loop_r (B := 0) (r := r) (q := q7) (A := fun sq7 Y => At 64 [(6, .int .u64 sq7)] (fun w' => w' = w) Y) ?_ ?_
     ·intro K
      refine crawlwayref03_Read.l0.partial_correctness x0 x1 (motive := fun i8 i9 x => KR (fun sq7 Y => At 64 [(6, .int .u64 sq7)] (fun w' => w' = w) Y) _ 0 r x → Round (fun Y => At 64 [(0, .string x0), (1, .int .u64 x1), (6, .int .u64 i8), (7, .int .i64 i9)] (fun w' => w' = w) Y) _ _ _) ?_ _ _ _ hq7 K
      ·clear K hF
       intro g ih i8 i9 x hF K
       refine at_round ?_
       refine at_seq ?_
       refine sr ?_
       refine av rfl (r_move rfl) ?_
       refine av rfl (r_move rfl) ?_
       refine av rfl (r_len_str Tryz.underlying9 rfl) ?_
       refine av rfl (r_ilss rfl rfl) ?_
       refine nwt [(0, _), (1, _), (6, _), (7, _), (32, _)] ⟨rfl, rfl, rfl, rfl, rfl, trivial⟩ ?_
       rcases of_ite hF with ⟨h10, hF⟩ | ⟨h10, hF⟩
       ·refine at_cond_true rfl h10 ?_
        refine sn ?_
        refine at_seq ?_
        refine at_block ?_
        refine sr ?_
        refine av rfl (r_move rfl) ?_
        refine av rfl (r_move rfl) ?_
        obtain ⟨h11, hF⟩ := of_guard hF
        refine av rfl (r_index_str Tryz.underlying9 rfl rfl h11) ?_
        refine av rfl (r_conv Tryz.underlying5 Tryz.underlying31 rfl) ?_
        refine av rfl (r_isub rfl rfl) ?_
        refine av rfl (r_assign rfl) ?_
        refine nwt [(0, _), (1, _), (6, _), (7, _), (8, _)] ⟨rfl, rfl, rfl, rfl, rfl, trivial⟩ ?_
        refine at_seq ?_
        refine sr ?_
        refine av rfl (r_move rfl) ?_
        refine av rfl (r_move rfl) ?_
        refine av rfl (r_iquo rfl rfl (by decide)) ?_
        refine av rfl (r_igtr rfl rfl) ?_
        refine av rfl (r_move rfl) ?_
        rcases of_ite hF with ⟨h12, hF⟩ | ⟨h12, hF⟩
        ·refine at_fix (g := 44) rfl h12 ?_
         refine at_guard_no rfl rfl rfl rfl rfl ?_
         refine at_guard_no rfl rfl rfl rfl rfl ?_
         refine at_guard_no rfl rfl rfl rfl rfl ?_
         refine at_guard_no rfl rfl rfl rfl rfl ?_
         refine at_guard_no rfl rfl rfl rfl rfl ?_
         refine at_guard_no rfl rfl rfl rfl rfl ?_
         refine at_guard_no rfl rfl rfl rfl rfl ?_
         refine at_guard_no rfl rfl rfl rfl rfl ?_
         refine av rfl (r_pick rfl rfl rfl) ?_
         refine av rfl (r_move rfl) ?_
         refine at_guard_no rfl rfl rfl rfl rfl ?_
         refine at_guard_no rfl rfl rfl rfl rfl ?_
         refine at_guard_no rfl rfl rfl rfl rfl ?_
         refine av rfl (r_pick rfl rfl rfl) ?_
         refine nwt [(0, _), (1, _), (6, _), (7, _), (8, _), (58, _)] ⟨rfl, rfl, rfl, rfl, rfl, rfl, trivial⟩ ?_
         refine at_cond_true rfl rfl ?_
         refine sr ?_
         refine av rfl (r_assign rfl) ?_
         refine av rfl (r_assign rfl) ?_
         refine nwt [(4, _), (5, _)] ⟨rfl, rfl, trivial⟩ ?_
         refine at_ret ?_
         refine at_then_ret (at_blk_ret (at_then_ret (at_then_ret (at_blk_ret (at_then_ret ?_)))))
         obtain rfl := of_some hF
         subst K
         exact at_return2 rfl rfl rfl (fun w1 hw => ⟨rfl, hw⟩)
        ·refine at_fix (g := 44) rfl h12 ?_
         refine at_guard_yes rfl rfl rfl ?_
         refine av rfl (r_move rfl) ?_
         refine at_guard_yes rfl rfl rfl ?_
         refine av rfl (r_imul rfl rfl) ?_
         refine at_guard_yes rfl rfl rfl ?_
         refine av rfl (r_move rfl) ?_
         refine at_guard_yes rfl rfl rfl ?_
         refine av rfl (r_move rfl) ?_
         refine at_guard_yes rfl rfl rfl ?_
         refine av rfl (r_move rfl) ?_
         refine at_guard_yes rfl rfl rfl ?_
         refine av rfl (r_min rfl rfl) ?_
         refine at_guard_yes rfl rfl rfl ?_
         refine av rfl (r_isub rfl rfl) ?_
         refine at_guard_yes rfl rfl rfl ?_
         refine av rfl (r_igtr rfl rfl) ?_
         refine av rfl (r_pick rfl rfl rfl) ?_
         refine av rfl (r_move rfl) ?_
         rcases of_ite hF with ⟨h13, hF⟩ | ⟨h13, hF⟩
         ·refine at_fix (g := 54) rfl h13 ?_
          refine at_guard_no rfl rfl rfl rfl rfl ?_
          refine at_guard_no rfl rfl rfl rfl rfl ?_
          refine at_guard_no rfl rfl rfl rfl rfl ?_
          refine av rfl (r_pick rfl rfl rfl) ?_
          refine nwt [(0, _), (1, _), (6, _), (7, _), (8, _), (58, _)] ⟨rfl, rfl, rfl, rfl, rfl, rfl, trivial⟩ ?_
          refine at_cond_true rfl rfl ?_
          refine sr ?_
          refine av rfl (r_assign rfl) ?_
          refine av rfl (r_assign rfl) ?_
          refine nwt [(4, _), (5, _)] ⟨rfl, rfl, trivial⟩ ?_
          refine at_ret ?_
          refine at_then_ret (at_blk_ret (at_then_ret (at_then_ret (at_blk_ret (at_then_ret ?_)))))
          obtain rfl := of_some hF
          subst K
          exact at_return2 rfl rfl rfl (fun w1 hw => ⟨rfl, hw⟩)
         ·refine at_fix (g := 54) rfl h13 ?_
          refine at_guard_yes rfl rfl rfl ?_
          refine av rfl (r_move rfl) ?_
          refine at_guard_yes rfl rfl rfl ?_
          refine av rfl (r_move rfl) ?_
          refine at_guard_yes rfl rfl rfl ?_
          refine av rfl (r_igtr rfl rfl) ?_
          refine av rfl (r_pick rfl rfl rfl) ?_
          refine nwt [(0, _), (1, _), (6, _), (7, _), (8, _), (58, _)] ⟨rfl, rfl, rfl, rfl, rfl, rfl, trivial⟩ ?_
          rcases of_ite hF with ⟨h14, hF⟩ | ⟨h14, hF⟩
          ·refine at_cond_true rfl h14 ?_
           refine sr ?_
           refine av rfl (r_assign rfl) ?_
           refine av rfl (r_assign rfl) ?_
           refine nwt [(4, _), (5, _)] ⟨rfl, rfl, trivial⟩ ?_
           refine at_ret ?_
           refine at_then_ret (at_blk_ret (at_then_ret (at_then_ret (at_blk_ret (at_then_ret ?_)))))
           obtain rfl := of_some hF
           subst K
           exact at_return2 rfl rfl rfl (fun w1 hw => ⟨rfl, hw⟩)
          ·refine at_cond_false rfl h14 ?_
           refine sn ?_
           refine at_region ?_
           refine av rfl (r_move rfl) ?_
           refine av rfl (r_imul rfl rfl) ?_
           refine av rfl (r_move rfl) ?_
           refine av rfl (r_iadd rfl rfl) ?_
           refine av rfl (r_assign rfl) ?_
           refine at_nil ?_
           refine at_weak [(0, _), (1, _), (6, _), (7, _)] ⟨rfl, rfl, rfl, rfl, trivial⟩ ?_
           refine at_blk_normal (at_then_normal ?_)
           refine at_region ?_
           refine av rfl (r_move rfl) ?_
           refine av rfl (r_iadd rfl rfl) ?_
           refine av rfl (r_assign rfl) ?_
           refine nwt [(0, _), (1, _), (6, _), (7, _)] ⟨rfl, rfl, rfl, rfl, trivial⟩ ?_
           exact at_weak_k (ih _ _ _ hF K) ⟨rfl, rfl, rfl, rfl, trivial⟩
       ·refine at_cond_false rfl h10 ?_
        refine at_exit ?_
        refine at_then_exit (at_then_exit ?_)
        obtain rfl := of_some hF
        exact at_weak_k K ⟨rfl, trivial⟩
     ·cases q7 with
      | ret r' => exact of_some hF
      | nx sq7 =>
       skip
       refine at_blk_same ?_
       refine at_then_normal ?_
       refine sr ?_
       refine av rfl (r_move rfl) ?_
       refine av rfl (r_assign rfl) ?_
       refine av rfl (r_assign rfl) ?_
       refine nwt [(4, _), (5, _)] ⟨rfl, rfl, trivial⟩ ?_
       refine at_ret ?_
       have K := of_some hF
       subst K
       exact at_return2 rfl rfl rfl (fun w1 hw => ⟨rfl, hw⟩)
   ·refine at_fix (g := 23) rfl h4 ?_
    refine at_guard_no rfl rfl rfl rfl rfl ?_
    refine at_guard_no rfl rfl rfl rfl rfl ?_
    refine at_guard_no rfl rfl rfl rfl rfl ?_
    refine at_guard_yes rfl rfl rfl ?_
    refine av rfl (r_pick rfl rfl rfl) ?_
    refine av rfl (r_pick rfl rfl rfl) ?_
    refine nwt [(0, _), (1, _), (28, _)] ⟨rfl, rfl, rfl, trivial⟩ ?_
    refine at_cond_false rfl rfl ?_
    refine sns ?_
    refine av rfl (r_assign rfl) ?_
    refine nwt [(0, _), (1, _), (6, _)] ⟨rfl, rfl, rfl, trivial⟩ ?_
    refine at_seq ?_
    refine sr ?_
    refine av rfl (r_assign rfl) ?_
    refine nwt [(0, _), (1, _), (6, _), (7, _)] ⟨rfl, rfl, rfl, rfl, trivial⟩ ?_
    refine at_block ?_
    obtain ⟨q15, hq15, hF⟩ := of_bindM hF
    refine at_weak [(0, _), (1, _), (6, _), (7, _)] ⟨rfl, rfl, rfl, rfl, trivial⟩ ?_
    refine at_loop_r (B := 0) (r := r) (q := q15) (A := fun sq15 Y => At 64 [(6, .int .u64 sq15)] (fun w' => w' = w) Y) ?_ ?_
    ·intro K
     refine crawlwayref03_Read.l1.partial_correctness x0 x1 (motive := fun i16 i17 x => KR (fun sq15 Y => At 64 [(6, .int .u64 sq15)] (fun w' => w' = w) Y) _ 0 r x → Round (fun Y => At 64 [(0, .string x0), (1, .int .u64 x1), (6, .int .u64 i16), (7, .int .i64 i17)] (fun w' => w' = w) Y) _ _ _) ?_ _ _ _ hq15 K
     ·clear K hF
      intro g ih i16 i17 x hF K
      refine at_round ?_
      refine at_seq ?_
      refine sr ?_
      refine av rfl (r_move rfl) ?_
      refine av rfl (r_move rfl) ?_
      refine av rfl (r_len_str Tryz.underlying9 rfl) ?_
      refine av rfl (r_ilss rfl rfl) ?_
      refine nwt [(0, _), (1, _), (6, _), (7, _), (32, _)] ⟨rfl, rfl, rfl, rfl, rfl, trivial⟩ ?_
      rcases of_ite hF with ⟨h18, hF⟩ | ⟨h18, hF⟩
      ·refine at_cond_true rfl h18 ?_
       refine sn ?_
       refine at_seq ?_
       refine at_block ?_
       refine sr ?_
       refine av rfl (r_move rfl) ?_
       refine av rfl (r_move rfl) ?_
       obtain ⟨h19, hF⟩ := of_guard hF
       refine av rfl (r_index_str Tryz.underlying9 rfl rfl h19) ?_
       refine av rfl (r_conv Tryz.underlying5 Tryz.underlying31 rfl) ?_
       refine av rfl (r_isub rfl rfl) ?_
       refine av rfl (r_assign rfl) ?_
       refine nwt [(0, _), (1, _), (6, _), (7, _), (8, _)] ⟨rfl, rfl, rfl, rfl, rfl, trivial⟩ ?_
       refine at_seq ?_
       refine sr ?_
       refine av rfl (r_move rfl) ?_
       refine av rfl (r_move rfl) ?_
       refine av rfl (r_iquo rfl rfl (by decide)) ?_
       refine av rfl (r_igtr rfl rfl) ?_
       refine av rfl (r_move rfl) ?_
       rcases of_ite hF with ⟨h20, hF⟩ | ⟨h20, hF⟩
       ·refine at_fix (g := 44) rfl h20 ?_
        refine at_guard_no rfl rfl rfl rfl rfl ?_
        refine at_guard_no rfl rfl rfl rfl rfl ?_
        refine at_guard_no rfl rfl rfl rfl rfl ?_
        refine at_guard_no rfl rfl rfl rfl rfl ?_
        refine at_guard_no rfl rfl rfl rfl rfl ?_
        refine at_guard_no rfl rfl rfl rfl rfl ?_
        refine at_guard_no rfl rfl rfl rfl rfl ?_
        refine at_guard_no rfl rfl rfl rfl rfl ?_
        refine av rfl (r_pick rfl rfl rfl) ?_
        refine av rfl (r_move rfl) ?_
        refine at_guard_no rfl rfl rfl rfl rfl ?_
        refine at_guard_no rfl rfl rfl rfl rfl ?_
        refine at_guard_no rfl rfl rfl rfl rfl ?_
        refine av rfl (r_pick rfl rfl rfl) ?_
        refine nwt [(0, _), (1, _), (6, _), (7, _), (8, _), (58, _)] ⟨rfl, rfl, rfl, rfl, rfl, rfl, trivial⟩ ?_
        refine at_cond_true rfl rfl ?_
        refine sr ?_
        refine av rfl (r_assign rfl) ?_
        refine av rfl (r_assign rfl) ?_
        refine nwt [(4, _), (5, _)] ⟨rfl, rfl, trivial⟩ ?_
        refine at_ret ?_
        refine at_then_ret (at_blk_ret (at_then_ret (at_then_ret (at_blk_ret (at_then_ret ?_)))))
        obtain rfl := of_some hF
        subst K
        exact at_return2 rfl rfl rfl (fun w1 hw => ⟨rfl, hw⟩)
       ·refine at_fix (g := 44) rfl h20 ?_
        refine at_guard_yes rfl rfl rfl ?_
        refine av rfl (r_move rfl) ?_
        refine at_guard_yes rfl rfl rfl ?_
        refine av rfl (r_imul rfl rfl) ?_
        refine at_guard_yes rfl rfl rfl ?_
        refine av rfl (r_move rfl) ?_
        refine at_guard_yes rfl rfl rfl ?_
        refine av rfl (r_move rfl) ?_
        refine at_guard_yes rfl rfl rfl ?_
        refine av rfl (r_move rfl) ?_
        refine at_guard_yes rfl rfl rfl ?_
        refine av rfl (r_min rfl rfl) ?_
        refine at_guard_yes rfl rfl rfl ?_
        refine av rfl (r_isub rfl rfl) ?_
        refine at_guard_yes rfl rfl rfl ?_
        refine av rfl (r_igtr rfl rfl) ?_
        refine av rfl (r_pick rfl rfl rfl) ?_
        refine av rfl (r_move rfl) ?_
        rcases of_ite hF with ⟨h21, hF⟩ | ⟨h21, hF⟩
        ·refine at_fix (g := 54) rfl h21 ?_
         refine at_guard_no rfl rfl rfl rfl rfl ?_
         refine at_guard_no rfl rfl rfl rfl rfl ?_
         refine at_guard_no rfl rfl rfl rfl rfl ?_
         refine av rfl (r_pick rfl rfl rfl) ?_
         refine nwt [(0, _), (1, _), (6, _), (7, _), (8, _), (58, _)] ⟨rfl, rfl, rfl, rfl, rfl, rfl, trivial⟩ ?_
         refine at_cond_true rfl rfl ?_
         refine sr ?_
         refine av rfl (r_assign rfl) ?_
         refine av rfl (r_assign rfl) ?_
         refine nwt [(4, _), (5, _)] ⟨rfl, rfl, trivial⟩ ?_
         refine at_ret ?_
         refine at_then_ret (at_blk_ret (at_then_ret (at_then_ret (at_blk_ret (at_then_ret ?_)))))
         obtain rfl := of_some hF
         subst K
         exact at_return2 rfl rfl rfl (fun w1 hw => ⟨rfl, hw⟩)
        ·refine at_fix (g := 54) rfl h21 ?_
         refine at_guard_yes rfl rfl rfl ?_
         refine av rfl (r_move rfl) ?_
         refine at_guard_yes rfl rfl rfl ?_
         refine av rfl (r_move rfl) ?_
         refine at_guard_yes rfl rfl rfl ?_
         refine av rfl (r_igtr rfl rfl) ?_
         refine av rfl (r_pick rfl rfl rfl) ?_
         refine nwt [(0, _), (1, _), (6, _), (7, _), (8, _), (58, _)] ⟨rfl, rfl, rfl, rfl, rfl, rfl, trivial⟩ ?_
         rcases of_ite hF with ⟨h22, hF⟩ | ⟨h22, hF⟩
         ·refine at_cond_true rfl h22 ?_
          refine sr ?_
          refine av rfl (r_assign rfl) ?_
          refine av rfl (r_assign rfl) ?_
          refine nwt [(4, _), (5, _)] ⟨rfl, rfl, trivial⟩ ?_
          refine at_ret ?_
          refine at_then_ret (at_blk_ret (at_then_ret (at_then_ret (at_blk_ret (at_then_ret ?_)))))
          obtain rfl := of_some hF
          subst K
          exact at_return2 rfl rfl rfl (fun w1 hw => ⟨rfl, hw⟩)
         ·refine at_cond_false rfl h22 ?_
          refine sn ?_
          refine at_region ?_
          refine av rfl (r_move rfl) ?_
          refine av rfl (r_imul rfl rfl) ?_
          refine av rfl (r_move rfl) ?_
          refine av rfl (r_iadd rfl rfl) ?_
          refine av rfl (r_assign rfl) ?_
          refine at_nil ?_
          refine at_weak [(0, _), (1, _), (6, _), (7, _)] ⟨rfl, rfl, rfl, rfl, trivial⟩ ?_
          refine at_blk_normal (at_then_normal ?_)
          refine at_region ?_
          refine av rfl (r_move rfl) ?_
          refine av rfl (r_iadd rfl rfl) ?_
          refine av rfl (r_assign rfl) ?_
          refine nwt [(0, _), (1, _), (6, _), (7, _)] ⟨rfl, rfl, rfl, rfl, trivial⟩ ?_
          exact at_weak_k (ih _ _ _ hF K) ⟨rfl, rfl, rfl, rfl, trivial⟩
      ·refine at_cond_false rfl h18 ?_
       refine at_exit ?_
       refine at_then_exit (at_then_exit ?_)
       obtain rfl := of_some hF
       exact at_weak_k K ⟨rfl, trivial⟩
    ·cases q15 with
     | ret r' => exact of_some hF
     | nx sq15 =>
      skip
      refine at_blk_same ?_
      refine at_then_normal ?_
      refine sr ?_
      refine av rfl (r_move rfl) ?_
      refine av rfl (r_assign rfl) ?_
      refine av rfl (r_assign rfl) ?_
      refine nwt [(4, _), (5, _)] ⟨rfl, rfl, trivial⟩ ?_
      refine at_ret ?_
      have K := of_some hF
      subst K
      exact at_return2 rfl rfl rfl (fun w1 hw => ⟨rfl, hw⟩)
end Go.Proofs.YtkkmmpofdcccmaaGreatDoor
namespace Go.Proofs.YtkkmmpofdcccmaaGreatDoor
open E Go.RowKit
theorem infoG29_is : (Tryz.prog.info? 9).isSome = true := by kernel_rfl
noncomputable def infoG29_v : TypeInfo := (Tryz.prog.info? 9).get infoG29_is
theorem infoG29 : Tryz.prog.info? 9 = some infoG29_v := (Option.some_get _).symm
def quad_Text.l0 (x0 : (Vector Int 4)) (i4 : Int) (i5 : (Vector ByteArray 4)) : Option ((Vector ByteArray 4)) :=
  if (decide (i4 < 4)) = true then (if (0 : Int) ≤ i4 ∧ i4 < 4 then decimal_Text (wr .u64 (vget x0 i4)) >>= fun t8 => if (0 : Int) ≤ i4 ∧ i4 < 4 then quad_Text.l0 x0 (wr .i64 (i4 + 1)) (vset i5 i4 t8) else none else none) else (some i5)
  partial_fixpoint
def quad_Text (x0 : (Vector Int 4)) : Option (ByteArray) :=
  quad_Text.l0 x0 0 (Vector.replicate 4 (⟨#[]⟩ : ByteArray) : (Vector ByteArray 4)) >>= fun q3 => if List.length (Vector.toList q3) ≤ 140737488355328 then if (bjoin (Vector.toList q3) (⟨#[46]⟩ : ByteArray)).size ≤ 140737488355328 then some (bjoin (Vector.toList q3) (⟨#[46]⟩ : ByteArray)) else none else none
theorem quad_Text_ok (x0 : (Vector Int 4)) (r : ByteArray) (hF : quad_Text x0 = some r) (w : World) (hg_strconv_uint64pow10 : GV_strconv_uint64pow10 w) :
    Calls Tryz.prog 183 #[.agg (Cd.cs (cVec (cInt .u8) 4 (by decide)) x0).toArray] w (fun e w' => e = .returned (.string r) ∧ Below w.heap.size w w') := by
 unfold quad_Text at hF
 refine calls_enter (l := [.agg (Cd.cs (cVec (cInt .u8) 4 (by decide)) x0).toArray]) Tryz.func183 rfl rfl rfl ?_
 refine at_start ?_
 refine at_weak [(0, _)] ⟨rfl, trivial⟩ ?_
 refine sr ?_
 refine at_box (cs := Cd.cs (cVec (cInt .u8) 4 (by decide)) x0) rfl rfl rfl ?_
 intro b1
 refine av rfl (r_assign rfl) ?_
 refine nws [(1, _)] ⟨rfl, trivial⟩ ?_
 refine at_alloc (cs := Cd.cs (cVec cStr 4 (by decide)) (Vector.replicate 4 (⟨#[]⟩ : ByteArray) : (Vector ByteArray 4))) Tryz.zeroValue213 rfl rfl ?_
 intro b2
 refine nwt [(1, _), (3, _)] ⟨rfl, rfl, trivial⟩ ?_
 refine at_seq ?_
 refine sr ?_
 refine av rfl (r_load_aggc (c := (cVec (cInt .u8) 4 (by decide))) (z := x0) Tryz.isAgg159 Tryz.sizeOf159 rfl (lens_cell (.s .z) (Lens.whole _ _))) ?_
 refine av rfl (r_move rfl) ?_
 refine at_nil ?_
 refine at_drop (H := _) (.s .z) ?_
 refine at_weak [(3, _), (6, _), (7, _)] ⟨rfl, rfl, rfl, trivial⟩ ?_
 refine at_then_normal ?_
 refine at_block ?_
 obtain ⟨q3, hq3, hF⟩ := of_bindM hF
 refine at_weak [(3, _), (6, _), (7, _)] ⟨rfl, rfl, rfl, trivial⟩ ?_
 refine at_loop_n (B := 0) (A := fun Y => At 19 [(3, .pointer (some ⟨b2, 0, none⟩))] (Wd w [cellsE b2 (Cd.cs (cVec cStr 4 (by decide)) q3) 213]) Y) ?_ ?_
 ·intro K
  refine quad_Text.l0.partial_correctness x0 (motive := fun i4 i5 x => KN (fun Y => At 19 [(3, .pointer (some ⟨b2, 0, none⟩))] (Wd w [cellsE b2 (Cd.cs (cVec cStr 4 (by decide)) x) 213]) Y) _ 0 → Round (fun Y => At 19 [(3, .pointer (some ⟨b2, 0, none⟩)), (6, .agg (Cd.cs (cVec (cInt .u8) 4 (by decide)) x0).toArray), (7, .int .i64 i4)] (Wd w [cellsE b2 (Cd.cs (cVec cStr 4 (by decide)) i5) 213]) Y) _ _ _) ?_ _ _ _ hq3 K
  ·clear K hF
   intro g ih i4 i5 x hF K
   refine at_round ?_
   refine sr ?_
   refine av rfl (r_ilss rfl rfl) ?_
   refine nwt [(3, _), (6, _), (7, _), (8, _)] ⟨rfl, rfl, rfl, rfl, trivial⟩ ?_
   refine at_seq ?_
   rcases of_ite hF with ⟨h6, hF⟩ | ⟨h6, hF⟩
   ·refine at_cond_true rfl h6 ?_
    refine sn ?_
    refine at_seq ?_
    refine at_block ?_
    refine sr ?_
    refine av rfl (r_move rfl) ?_
    obtain ⟨h7, hF⟩ := of_guard hF
    refine av rfl (r_idxVal Tryz.underlying159 Tryz.sizeOf5 rfl rfl h7 (part_vOf (Lens.vec (cInt .u8) (by decide) x0 i4 h7) Tryz.isAgg5 Tryz.sizeOf5 (.inr rfl))) ?_
    refine av rfl (r_assign rfl) ?_
    refine av rfl (r_assign rfl) ?_
    refine nwt [(3, _), (4, _), (5, _), (6, _), (7, _)] ⟨rfl, rfl, rfl, rfl, rfl, trivial⟩ ?_
    refine at_region ?_
    refine av rfl (r_move rfl) ?_
    refine av rfl (r_move rfl) ?_
    refine av rfl (r_conv Tryz.underlying5 Tryz.underlying31 rfl) ?_
    obtain ⟨t8, ht8, hF⟩ := of_bindM hF
    refine at_callB Tryz.func113 rfl (by kernel_rfl) rfl rfl (fun w hw => decimal_Text_ok _ _ ht8 w (hg_strconv_uint64pow10.on hw.below)) ?_
    obtain ⟨h9, hF⟩ := of_guard hF
    refine av rfl (r_idxArr Tryz.underlying213 Tryz.sizeOf9 rfl rfl h9) ?_
    refine at_store (c := cStr) (z := t8) .z (Lens.comp (Lens.whole _ _) (fun z => vset i5 i4 z) (Lens.vec cStr (by decide) i5 i4 h9)) Tryz.sizeOf9 rfl rfl rfl ?_
    refine at_nil ?_
    refine at_weak [(3, _), (6, _), (7, _)] ⟨rfl, rfl, rfl, trivial⟩ ?_
    refine at_blk_normal (at_then_normal ?_)
    refine at_region ?_
    refine av rfl (r_iadd rfl rfl) ?_
    refine av rfl (r_move rfl) ?_
    refine nwt [(3, _), (6, _), (7, _)] ⟨rfl, rfl, rfl, trivial⟩ ?_
    exact at_weak_k (ih _ _ _ hF K) ⟨rfl, rfl, rfl, trivial⟩
   ·refine at_cond_false rfl h6 ?_
    refine at_exit ?_
    refine at_then_exit (at_then_exit ?_)
    obtain rfl := of_some hF
    exact at_weak_k K ⟨rfl, trivial⟩
 ·skip
  skip
  refine at_blk_same ?_
  refine at_then_normal ?_
  refine sr ?_
  refine av rfl (r_slice_vec q3 Tryz.underlying213 Tryz.sizeOf9 rfl) ?_
  obtain ⟨h10, hF⟩ := of_guard hF
  obtain ⟨h11, hF⟩ := of_guard hF
  refine at_callB Tryz.func47 rfl (by kernel_rfl) rfl rfl (fun w1 hw => join_ok _ _ h10 h11 _ _ w1 (vec_row (hw.ok (Upd.mem .z)))) ?_
  refine av rfl (r_assign rfl) ?_
  refine at_nil ?_
  refine at_drop (H := _) .z ?_
  refine at_weak [(2, _)] ⟨rfl, trivial⟩ ?_
  refine at_then_normal ?_
  refine at_ret ?_
  have K := of_some hF
  subst K
  exact at_return1 rfl rfl (fun w1 hw => ⟨rfl, hw.below⟩)
def lines_Cut (x0 : ByteArray) (x1 : Int) : Option (ByteArray × ByteArray × Bool) :=
  if (decide (Lib.indexByte x0.data.toList (Nat.toUInt8 (Int.toNat x1)) < 0)) = true then (some (x0, ⟨#[]⟩, false)) else (if (0 : Int) ≤ 0 ∧ 0 ≤ Lib.indexByte x0.data.toList (Nat.toUInt8 (Int.toNat x1)) ∧ Lib.indexByte x0.data.toList (Nat.toUInt8 (Int.toNat x1)) ≤ (x0.size : Int) then if (0 : Int) ≤ wr .i64 ((Lib.indexByte x0.data.toList (Nat.toUInt8 (Int.toNat x1))) + 1) ∧ wr .i64 ((Lib.indexByte x0.data.toList (Nat.toUInt8 (Int.toNat x1))) + 1) ≤ (x0.size : Int) ∧ (x0.size : Int) ≤ (x0.size : Int) then some (x0.extract (Int.toNat 0) (Int.toNat (Lib.indexByte x0.data.toList (Nat.toUInt8 (Int.toNat x1)))), x0.extract (Int.toNat (wr .i64 ((Lib.indexByte x0.data.toList (Nat.toUInt8 (Int.toNat x1))) + 1))) (Int.toNat (x0.size : Int)), true) else none else none)
theorem lines_Cut_ok (x0 : ByteArray) (x1 : Int) (r : ByteArray × ByteArray × Bool) (hF : lines_Cut x0 x1 = some r) (w : World) :
    Calls Tryz.prog 86 #[.string x0, .int .u8 x1] w (fun e w' => e = .returned (.tuple #[.string r.1, .string r.2.1, .bool r.2.2]) ∧ Below w.heap.size w w') := by
 unfold lines_Cut at hF
 refine calls_enter (l := [.string x0, .int .u8 x1]) Tryz.func86 rfl rfl rfl ?_
 refine at_start ?_
 refine at_weak [(0, _), (1, _)] ⟨rfl, rfl, trivial⟩ ?_
 refine sr ?_
 refine av rfl (r_assign rfl) ?_
 refine av rfl (r_assign rfl) ?_
 refine av rfl (r_assign rfl) ?_
 refine nws [(0, _), (1, _)] ⟨rfl, rfl, trivial⟩ ?_
 refine av rfl (r_move rfl) ?_
 refine av rfl (r_move rfl) ?_
 refine at_call0 Tryz.func144 rfl (by kernel_rfl) rfl rfl (fun w => Tryz.strings_IndexByte _ _ w) ?_
 refine av rfl (r_assign rfl) ?_
 refine nwt [(0, _), (7, _)] ⟨rfl, rfl, trivial⟩ ?_
 refine at_seq ?_
 refine sr ?_
 refine av rfl (r_move rfl) ?_
 refine av rfl (r_ilss rfl rfl) ?_
 refine nwt [(0, _), (7, _), (12, _)] ⟨rfl, rfl, rfl, trivial⟩ ?_
 rcases of_ite hF with ⟨h1, hF⟩ | ⟨h1, hF⟩
 ·refine at_cond_true rfl h1 ?_
  refine sr ?_
  refine av rfl (r_move rfl) ?_
  refine av rfl (r_assign rfl) ?_
  refine av rfl (r_assign rfl) ?_
  refine av rfl (r_assign rfl) ?_
  refine nwt [(4, _), (5, _), (6, _)] ⟨rfl, rfl, rfl, trivial⟩ ?_
  refine rt ?_
  have K := of_some hF
  subst K
  exact at_return3 rfl rfl rfl rfl (fun w1 hw => ⟨rfl, hw.below⟩)
 ·refine at_cond_false rfl h1 ?_
  refine sn ?_
  refine at_seq ?_
  refine at_draw (by kernel_rfl) (by kernel_rfl) (fun _ h => h.drew) ?_
  refine atq_val rfl rfl rfl (r_move rfl) ?_
  refine atq_val rfl rfl rfl (r_move rfl) ?_
  obtain ⟨h2, hF⟩ := of_guard hF
  refine atq_val rfl rfl rfl (r_slice_str Tryz.underlying9 rfl rfl ⟨_, rfl⟩ h2) ?_
  refine atq_val rfl rfl rfl (r_move rfl) ?_
  refine atq_val rfl rfl rfl (r_move rfl) ?_
  refine atq_val rfl rfl rfl (r_iadd rfl rfl) ?_
  obtain ⟨h3, hF⟩ := of_guard hF
  refine atq_val rfl rfl rfl (r_slice_str Tryz.underlying9 rfl ⟨_, rfl⟩ rfl h3) ?_
  refine atq_val rfl rfl rfl (r_assign rfl) ?_
  refine atq_val rfl rfl rfl (r_assign rfl) ?_
  refine atq_val rfl rfl rfl (r_assign rfl) ?_
  refine atq_nil ?_
  refine at_weak [(4, _), (5, _), (6, _)] ⟨rfl, rfl, rfl, trivial⟩ ?_
  refine at_then_normal ?_
  refine at_ret ?_
  have K := of_some hF
  subst K
  exact at_return3 rfl rfl rfl rfl (fun w1 hw => ⟨rfl, hw.below⟩)
def lines_Parts.l0 (x1 : Int) (i4 : ByteArray) (i5 : List ByteArray) : Option (List ByteArray) :=
  lines_Cut i4 x1 >>= fun t8 => if (i5.length + 1) * 16 ≤ 140737488355328 then if (!t8.2.2) = true then (some (i5 ++ [t8.1])) else (lines_Parts.l0 x1 t8.2.1 (i5 ++ [t8.1])) else none
  partial_fixpoint
def lines_Parts (x0 : ByteArray) (x1 : Int) : Option (List ByteArray) :=
  lines_Parts.l0 x1 x0 ([] : List ByteArray) >>= fun q3 => some q3
theorem lines_Parts_ok (x0 : ByteArray) (x1 : Int) (r : List ByteArray) (hF : lines_Parts x0 x1 = some r) (w : World) :
    Calls Tryz.prog 48 #[.string x0, .int .u8 x1] w (fun e w' => ∃ p cap, e = .returned (.slice p r.length cap) ∧ Own cStr 9 w.heap.size w' p cap r ∧ Below w.heap.size w w') := by
 unfold lines_Parts at hF
 refine calls_enter (l := [.string x0, .int .u8 x1]) Tryz.func48 rfl rfl rfl ?_
 refine at_start ?_
 refine at_weak [(0, _), (1, _)] ⟨rfl, rfl, trivial⟩ ?_
 refine sr ?_
 refine av rfl (r_assign rfl) ?_
 refine nws [(0, _), (1, _)] ⟨rfl, rfl, trivial⟩ ?_
 refine av rfl (r_assign rfl) ?_
 refine nwt [(0, _), (1, _), (5, _)] ⟨rfl, rfl, rfl, trivial⟩ ?_
 refine at_block ?_
 refine at_own_nil cStr 9 ?_
 refine at_weak [(0, _), (1, _), (5, .slice none ([] : List ByteArray).length 0)] ⟨rfl, rfl, rfl, trivial⟩ ?_
 obtain ⟨q3, hq3, hF⟩ := of_bindM hF
 refine at_weak [(0, _), (1, _), (5, _)] ⟨rfl, rfl, rfl, trivial⟩ ?_
 refine at_loop_only (r := r) (q := q3) ?_ ?_
 ·intro K
  refine lines_Parts.l0.partial_correctness x1 (motive := fun i4 i5 x => x = r → Round (fun Y => ∀ (p6 : Option Addr) (c7 : Nat), At 24 [(0, .string i4), (1, .int .u8 x1), (5, .slice p6 i5.length c7)] (Wd w [rowE cStr 9 p6 c7 i5]) Y) _ _ _) ?_ _ _ _ hq3 K none 0
  ·clear K hF
   intro g ih i4 i5 x hF K p6 c7
   refine at_round ?_
   refine at_block ?_
   refine sr ?_
   refine av rfl (r_move rfl) ?_
   refine av rfl (r_move rfl) ?_
   obtain ⟨t8, ht8, hF⟩ := of_bindM hF
   refine at_callB Tryz.func86 rfl (by kernel_rfl) rfl rfl (fun w hw => lines_Cut_ok _ _ _ ht8 w) ?_
   refine av rfl (r_move rfl) ?_
   refine av rfl (r_extract rfl rfl) ?_
   refine av rfl (r_extract rfl rfl) ?_
   refine av rfl (r_extract rfl rfl) ?_
   refine av rfl (r_assign rfl) ?_
   refine av rfl (r_assign rfl) ?_
   refine av rfl (r_assign rfl) ?_
   refine nws [(1, _), (5, _), (6, _), (7, _), (8, _)] ⟨rfl, rfl, rfl, rfl, rfl, trivial⟩ ?_
   refine av rfl (r_move rfl) ?_
   refine av rfl (r_move rfl) ?_
   refine at_lit (cs := cStr.all ([t8.1] : List ByteArray)) Tryz.underlying38 Tryz.sizeOf9 Tryz.zeroValue9 rfl rfl rfl (by kernel_rfl) rfl ?_
   intro b9
   obtain ⟨h10, hF⟩ := of_guard hF
   refine at_append (z := .string ⟨#[]⟩) (c := cStr) (ys := ([t8.1] : List ByteArray)) (.s .z) Tryz.underlying38 infoG29 (by kernel_rfl) (by kernel_rfl) rfl rfl rfl rfl (fun _ hw => cells_src (hw.ok (Upd.mem .z))) (by kernel_rfl) h10 (app_small h10) rfl ?_
   intro p11 c12
   refine av rfl (r_assign rfl) ?_
   refine at_nil ?_
   refine at_drop (H := _) .z ?_
   refine at_weak [(1, _), (5, _), (7, _), (8, _)] ⟨rfl, rfl, rfl, rfl, trivial⟩ ?_
   refine at_then_normal ?_
   refine at_seq ?_
   refine sr ?_
   refine av rfl (r_move rfl) ?_
   refine av rfl (r_not rfl) ?_
   refine nwt [(1, _), (5, _), (7, _), (21, _)] ⟨rfl, rfl, rfl, rfl, trivial⟩ ?_
   rcases of_ite hF with ⟨h13, hF⟩ | ⟨h13, hF⟩
   ·refine at_cond_true rfl h13 ?_
    refine sr ?_
    refine av rfl (r_move rfl) ?_
    refine av rfl (r_assign rfl) ?_
    refine nwt [(4, _)] ⟨rfl, trivial⟩ ?_
    refine at_ret ?_
    refine at_then_ret (at_blk_ret (at_then_ret (at_blk_ret ?_)))
    obtain rfl := of_some hF
    subst K
    exact at_return1 rfl rfl (fun w1 hw => ⟨p11, c12, rfl, hw.own .z, hw.below⟩)
   ·refine at_cond_false rfl h13 ?_
    refine sn ?_
    refine at_region ?_
    refine av rfl (r_move rfl) ?_
    refine av rfl (r_assign rfl) ?_
    refine at_nil ?_
    refine at_weak [(0, _), (1, _), (5, _)] ⟨rfl, rfl, rfl, trivial⟩ ?_
    refine at_blk_normal (at_then_normal ?_)
    exact at_weak_k (ih _ _ _ hF K p11 c12) ⟨rfl, rfl, rfl, trivial⟩
 ·exact of_some hF
def crawlwayref06_Parts.l0 (x0 : ByteArray) (x1 : Int) (i4 : Int) (i5 : List ByteArray) (i6 : Int) : Option (Int × List ByteArray) :=
  if (decide (i6 < (x0.size : Int))) = true then (if (0 : Int) ≤ i6 ∧ i6 < (x0.size : Int) then if (bt x0 i6 == x1) = true then (if (0 : Int) ≤ i4 ∧ i4 ≤ i6 ∧ i6 ≤ (x0.size : Int) then if (i5.length + 1) * 16 ≤ 140737488355328 then crawlwayref06_Parts.l0 x0 x1 (wr .i64 (i6 + 1)) (i5 ++ [x0.extract (Int.toNat i4) (Int.toNat i6)]) (wr .i64 (i6 + 1)) else none else none) else (crawlwayref06_Parts.l0 x0 x1 i4 i5 (wr .i64 (i6 + 1))) else none) else (some (i4, i5))
  partial_fixpoint
def crawlwayref06_Parts (x0 : ByteArray) (x1 : Int) : Option (List ByteArray) :=
  crawlwayref06_Parts.l0 x0 x1 0 ([] : List ByteArray) 0 >>= fun q3 => if (0 : Int) ≤ q3.1 ∧ q3.1 ≤ (x0.size : Int) ∧ (x0.size : Int) ≤ (x0.size : Int) then if (q3.2.length + 1) * 16 ≤ 140737488355328 then some (q3.2 ++ [x0.extract (Int.toNat q3.1) (Int.toNat (x0.size : Int))]) else none else none
theorem crawlwayref06_Parts_ok (x0 : ByteArray) (x1 : Int) (r : List ByteArray) (hF : crawlwayref06_Parts x0 x1 = some r) (w : World) :
    Calls Tryz.prog 56 #[.string x0, .int .u8 x1] w (fun e w' => ∃ p cap, e = .returned (.slice p r.length cap) ∧ Own cStr 9 w.heap.size w' p cap r ∧ Below w.heap.size w w') := by
 unfold crawlwayref06_Parts at hF
 refine calls_enter (l := [.string x0, .int .u8 x1]) Tryz.func56 rfl rfl rfl ?_
 refine at_start ?_
 refine at_weak [(0, _), (1, _)] ⟨rfl, rfl, trivial⟩ ?_
 refine sr ?_
 refine av rfl (r_assign rfl) ?_
 refine nws [(0, _), (1, _)] ⟨rfl, rfl, trivial⟩ ?_
 refine av rfl (r_assign rfl) ?_
 refine nws [(0, _), (1, _), (5, _)] ⟨rfl, rfl, rfl, trivial⟩ ?_
 refine av rfl (r_assign rfl) ?_
 refine nwt [(0, _), (1, _), (5, _), (6, _)] ⟨rfl, rfl, rfl, rfl, trivial⟩ ?_
 refine at_seq ?_
 refine sr ?_
 refine av rfl (r_assign rfl) ?_
 refine nwt [(0, _), (1, _), (5, _), (6, _), (7, _)] ⟨rfl, rfl, rfl, rfl, rfl, trivial⟩ ?_
 refine at_block ?_
 refine at_own_nil cStr 9 ?_
 refine at_weak [(0, _), (1, _), (5, _), (6, .slice none ([] : List ByteArray).length 0), (7, _)] ⟨rfl, rfl, rfl, rfl, rfl, trivial⟩ ?_
 obtain ⟨q3, hq3, hF⟩ := of_bindM hF
 refine at_weak [(0, _), (1, _), (5, _), (6, _), (7, _)] ⟨rfl, rfl, rfl, rfl, rfl, trivial⟩ ?_
 refine at_loop_n (B := 0) (A := fun Y => ∀ (p9 : Option Addr) (c10 : Nat), At 34 [(0, .string x0), (5, .int .i64 q3.1), (6, .slice p9 q3.2.length c10)] (Wd w [rowE cStr 9 p9 c10 q3.2]) Y) ?_ ?_
 ·intro K
  refine crawlwayref06_Parts.l0.partial_correctness x0 x1 (motive := fun i4 i5 i6 x => KN (fun Y => ∀ (p9 : Option Addr) (c10 : Nat), At 34 [(0, .string x0), (5, .int .i64 x.1), (6, .slice p9 x.2.length c10)] (Wd w [rowE cStr 9 p9 c10 x.2]) Y) _ 0 → Round (fun Y => ∀ (p7 : Option Addr) (c8 : Nat), At 34 [(0, .string x0), (1, .int .u8 x1), (5, .int .i64 i4), (6, .slice p7 i5.length c8), (7, .int .i64 i6)] (Wd w [rowE cStr 9 p7 c8 i5]) Y) _ _ _) ?_ _ _ _ _ hq3 K none 0
  ·clear K hF
   intro g ih i4 i5 i6 x hF K p7 c8
   refine at_round ?_
   refine at_seq ?_
   refine sr ?_
   refine av rfl (r_move rfl) ?_
   refine av rfl (r_move rfl) ?_
   refine av rfl (r_len_str Tryz.underlying9 rfl) ?_
   refine av rfl (r_ilss rfl rfl) ?_
   refine nwt [(0, _), (1, _), (5, _), (6, _), (7, _), (11, _)] ⟨rfl, rfl, rfl, rfl, rfl, rfl, trivial⟩ ?_
   rcases of_ite hF with ⟨h11, hF⟩ | ⟨h11, hF⟩
   ·refine at_cond_true rfl h11 ?_
    refine sn ?_
    refine at_seq ?_
    refine at_block ?_
    refine sr ?_
    refine av rfl (r_move rfl) ?_
    refine av rfl (r_move rfl) ?_
    obtain ⟨h12, hF⟩ := of_guard hF
    refine av rfl (r_index_str Tryz.underlying9 rfl rfl h12) ?_
    refine av rfl (r_move rfl) ?_
    refine av rfl (r_ieql rfl rfl) ?_
    refine nwt [(0, _), (1, _), (5, _), (6, _), (7, _), (18, _)] ⟨rfl, rfl, rfl, rfl, rfl, rfl, trivial⟩ ?_
    rcases of_ite hF with ⟨h13, hF⟩ | ⟨h13, hF⟩
    ·refine at_cond_true rfl h13 ?_
     refine sr ?_
     refine av rfl (r_move rfl) ?_
     refine av rfl (r_move rfl) ?_
     refine av rfl (r_move rfl) ?_
     refine av rfl (r_move rfl) ?_
     obtain ⟨h14, hF⟩ := of_guard hF
     refine av rfl (r_slice_str Tryz.underlying9 rfl ⟨_, rfl⟩ ⟨_, rfl⟩ h14) ?_
     refine at_lit (cs := cStr.all ([x0.extract (Int.toNat i4) (Int.toNat i6)] : List ByteArray)) Tryz.underlying38 Tryz.sizeOf9 Tryz.zeroValue9 rfl rfl rfl (by kernel_rfl) rfl ?_
     intro b15
     obtain ⟨h16, hF⟩ := of_guard hF
     refine at_append (z := .string ⟨#[]⟩) (c := cStr) (ys := ([x0.extract (Int.toNat i4) (Int.toNat i6)] : List ByteArray)) (.s .z) Tryz.underlying38 infoG29 (by kernel_rfl) (by kernel_rfl) rfl rfl rfl rfl (fun _ hw => cells_src (hw.ok (Upd.mem .z))) (by kernel_rfl) h16 (app_small h16) rfl ?_
     intro p17 c18
     refine av rfl (r_assign rfl) ?_
     refine at_nil ?_
     refine at_drop (H := _) .z ?_
     refine at_weak [(0, _), (1, _), (6, _), (7, _)] ⟨rfl, rfl, rfl, rfl, trivial⟩ ?_
     refine at_then_normal ?_
     refine at_region ?_
     refine av rfl (r_move rfl) ?_
     refine av rfl (r_iadd rfl rfl) ?_
     refine av rfl (r_assign rfl) ?_
     refine at_nil ?_
     refine at_weak [(0, _), (1, _), (5, _), (6, _), (7, _)] ⟨rfl, rfl, rfl, rfl, rfl, trivial⟩ ?_
     refine at_blk_normal (at_then_normal ?_)
     refine at_region ?_
     refine av rfl (r_move rfl) ?_
     refine av rfl (r_iadd rfl rfl) ?_
     refine av rfl (r_assign rfl) ?_
     refine nwt [(0, _), (1, _), (5, _), (6, _), (7, _)] ⟨rfl, rfl, rfl, rfl, rfl, trivial⟩ ?_
     exact at_weak_k (ih _ _ _ _ hF K p17 c18) ⟨rfl, rfl, rfl, rfl, rfl, trivial⟩
    ·refine at_cond_false rfl h13 ?_
     refine at_skip ?_
     refine at_blk_normal (at_then_normal ?_)
     refine at_region ?_
     refine av rfl (r_move rfl) ?_
     refine av rfl (r_iadd rfl rfl) ?_
     refine av rfl (r_assign rfl) ?_
     refine nwt [(0, _), (1, _), (5, _), (6, _), (7, _)] ⟨rfl, rfl, rfl, rfl, rfl, trivial⟩ ?_
     exact at_weak_k (ih _ _ _ _ hF K p7 c8) ⟨rfl, rfl, rfl, rfl, rfl, trivial⟩
   ·refine at_cond_false rfl h11 ?_
    refine at_exit ?_
    refine at_then_exit (at_then_exit ?_)
    obtain rfl := of_some hF
    exact at_weak_k (K p7 c8) ⟨rfl, rfl, rfl, trivial⟩
 ·skip
  intro p9 c10
  refine at_blk_same ?_
  refine at_then_normal ?_
  refine sr ?_
  refine av rfl (r_move rfl) ?_
  refine av rfl (r_move rfl) ?_
  refine av rfl (r_move rfl) ?_
  obtain ⟨h19, hF⟩ := of_guard hF
  refine av rfl (r_slice_str Tryz.underlying9 rfl ⟨_, rfl⟩ rfl h19) ?_
  refine at_lit (cs := cStr.all ([x0.extract (Int.toNat q3.1) (Int.toNat (x0.size : Int))] : List ByteArray)) Tryz.underlying38 Tryz.sizeOf9 Tryz.zeroValue9 rfl rfl rfl (by kernel_rfl) rfl ?_
  intro b20
  obtain ⟨h21, hF⟩ := of_guard hF
  refine at_append (z := .string ⟨#[]⟩) (c := cStr) (ys := ([x0.extract (Int.toNat q3.1) (Int.toNat (x0.size : Int))] : List ByteArray)) (.s .z) Tryz.underlying38 infoG29 (by kernel_rfl) (by kernel_rfl) rfl rfl rfl rfl (fun _ hw => cells_src (hw.ok (Upd.mem .z))) (by kernel_rfl) h21 (app_small h21) rfl ?_
  intro p22 c23
  refine av rfl (r_assign rfl) ?_
  refine at_nil ?_
  refine at_drop (H := _) .z ?_
  refine at_weak [(4, _)] ⟨rfl, trivial⟩ ?_
  refine at_then_normal ?_
  refine at_ret ?_
  have K := of_some hF
  subst K
  exact at_return1 rfl rfl (fun w1 hw => ⟨p22, c23, rfl, hw.own .z, hw.below⟩)
def quad_Parse.l0 (t2 : List ByteArray) (i8 : Int) (i9 : (Vector Int 4)) : Option (Ctl ((Vector Int 4) × Int) ((Vector Int 4))) :=
  if (decide (i8 < (t2.length : Int))) = true then (if (0 : Int) ≤ i8 ∧ i8 < (t2.length : Int) then decimal_Read (lget t2 i8) 255 >>= fun t15 => if (t15.2 != 0) = true then (some (.ret ((Vector.replicate 4 (0 : Int) : (Vector Int 4)), t15.2))) else (if (0 : Int) ≤ i8 ∧ i8 < 4 then quad_Parse.l0 t2 (wr .i64 (i8 + 1)) (vset i9 i8 (wr .u8 t15.1)) else none) else none) else (some (.nx i9))
  partial_fixpoint
def quad_Parse (x0 : ByteArray) : Option ((Vector Int 4) × Int) :=
  lines_Parts x0 46 >>= fun t2 => if ((t2.length : Int) != 4) = true then (some ((Vector.replicate 4 (0 : Int) : (Vector Int 4)), 5)) else (quad_Parse.l0 t2 0 (Vector.replicate 4 (0 : Int) : (Vector Int 4)) >>= fun q7 => match q7 with | .ret r' => some r' | .nx sq7 => (some (sq7, 0)))
theorem quad_Parse_ok (x0 : ByteArray) (r : (Vector Int 4) × Int) (hF : quad_Parse x0 = some r) (w : World) (hg_strconv_ErrRange : GV_strconv_ErrRange w) (hg_strconv_ErrSyntax : GV_strconv_ErrSyntax w) :
    Calls Tryz.prog 181 #[.string x0] w (fun e w' => e = .returned (.tuple #[.agg (Cd.cs (cVec (cInt .u8) 4 (by decide)) r.1).toArray, .int .i64 r.2]) ∧ Below w.heap.size w w') := by
 unfold quad_Parse at hF
 refine calls_enter (l := [.string x0]) Tryz.func181 rfl rfl rfl ?_
 refine at_start ?_
 refine at_weak [(0, _)] ⟨rfl, trivial⟩ ?_
 refine sr ?_
 refine at_alloc (cs := Cd.cs (cVec (cInt .u8) 4 (by decide)) (Vector.replicate 4 (0 : Int) : (Vector Int 4))) Tryz.zeroValue159 rfl rfl ?_
 intro b1
 refine av rfl (r_assign rfl) ?_
 refine nws [(0, _), (2, _)] ⟨rfl, rfl, trivial⟩ ?_
 refine av rfl (r_move rfl) ?_
 obtain ⟨t2, ht2, hF⟩ := of_bindM hF
 refine at_callO (c := cStr) (e := 9) (ys := t2) (V := fun p cap => .slice p t2.length cap) Tryz.func48 rfl (by kernel_rfl) rfl rfl (fun w hw => lines_Parts_ok _ _ _ ht2 w) ?_
 intro p3 c4
 refine av rfl (r_assign rfl) ?_
 refine nws [(2, _), (4, _)] ⟨rfl, rfl, trivial⟩ ?_
 refine at_alloc (cs := Cd.cs (cVec (cInt .u8) 4 (by decide)) (Vector.replicate 4 (0 : Int) : (Vector Int 4))) Tryz.zeroValue159 rfl rfl ?_
 intro b5
 refine nwt [(2, _), (4, _), (5, _)] ⟨rfl, rfl, rfl, trivial⟩ ?_
 refine at_seq ?_
 refine sr ?_
 refine av rfl (r_move rfl) ?_
 refine av rfl (r_len_sl Tryz.underlying38 rfl) ?_
 refine av rfl (r_ineq rfl rfl) ?_
 refine nwt [(2, _), (4, _), (5, _), (14, _)] ⟨rfl, rfl, rfl, rfl, trivial⟩ ?_
 rcases of_ite hF with ⟨h6, hF⟩ | ⟨h6, hF⟩
 ·refine at_cond_true rfl h6 ?_
  refine sr ?_
  refine av rfl (r_load_aggc (c := (cVec (cInt .u8) 4 (by decide))) (z := (Vector.replicate 4 (0 : Int) : (Vector Int 4))) Tryz.isAgg159 Tryz.sizeOf159 rfl (lens_cell .z (Lens.whole _ _))) ?_
  refine at_store (c := (cVec (cInt .u8) 4 (by decide))) (z := (Vector.replicate 4 (0 : Int) : (Vector Int 4))) (.s (.s .z)) (Lens.whole _ _) Tryz.sizeOf159 rfl rfl rfl ?_
  refine av rfl (r_assign rfl) ?_
  refine at_nil ?_
  refine at_drop (H := _) .z ?_
  refine at_drop (H := _) .z ?_
  refine at_weak [(2, _), (3, _)] ⟨rfl, rfl, trivial⟩ ?_
  refine at_then_normal ?_
  refine rt ?_
  have K := of_some hF
  subst K
  exact at_res2 rfl (res_cell (c := (cVec (cInt .u8) 4 (by decide))) (y := (Vector.replicate 4 (0 : Int) : (Vector Int 4))) rfl .z (Lens.whole _ _) Tryz.isAgg159 Tryz.sizeOf159 (.inl rfl)) (res_tmp rfl) (fun w1 hw => ⟨rfl, hw.below⟩)
 ·refine at_cond_false rfl h6 ?_
  refine sn ?_
  refine at_seq ?_
  refine sr ?_
  refine av rfl (r_move rfl) ?_
  refine av rfl (r_len_sl Tryz.underlying38 rfl) ?_
  refine av rfl (r_move rfl) ?_
  refine nwt [(2, _), (5, _), (16, _), (17, _), (18, _)] ⟨rfl, rfl, rfl, rfl, rfl, trivial⟩ ?_
  refine at_block ?_
  obtain ⟨q7, hq7, hF⟩ := of_bindM hF
  refine at_weak [(2, _), (5, _), (16, _), (17, _), (18, _)] ⟨rfl, rfl, rfl, rfl, rfl, trivial⟩ ?_
  refine at_loop_r (B := 0) (r := r) (q := q7) (A := fun sq7 Y => At 38 [(2, .pointer (some ⟨b1, 0, none⟩)), (5, .pointer (some ⟨b5, 0, none⟩))] (Wd w [cellsE b5 (Cd.cs (cVec (cInt .u8) 4 (by decide)) sq7) 159, cellsE b1 (Cd.cs (cVec (cInt .u8) 4 (by decide)) (Vector.replicate 4 (0 : Int) : (Vector Int 4))) 159]) Y) ?_ ?_
  ·intro K
   refine quad_Parse.l0.partial_correctness t2 (motive := fun i8 i9 x => KR (fun sq7 Y => At 38 [(2, .pointer (some ⟨b1, 0, none⟩)), (5, .pointer (some ⟨b5, 0, none⟩))] (Wd w [cellsE b5 (Cd.cs (cVec (cInt .u8) 4 (by decide)) sq7) 159, cellsE b1 (Cd.cs (cVec (cInt .u8) 4 (by decide)) (Vector.replicate 4 (0 : Int) : (Vector Int 4))) 159]) Y) _ 0 r x → Round (fun Y => At 38 [(2, .pointer (some ⟨b1, 0, none⟩)), (5, .pointer (some ⟨b5, 0, none⟩)), (16, .slice p3 t2.length c4), (17, .int .i64 (t2.length : Int)), (18, .int .i64 i8)] (Wd w [cellsE b5 (Cd.cs (cVec (cInt .u8) 4 (by decide)) i9) 159, rowE cStr 9 p3 c4 t2, cellsE b1 (Cd.cs (cVec (cInt .u8) 4 (by decide)) (Vector.replicate 4 (0 : Int) : (Vector Int 4))) 159]) Y) _ _ _) ?_ _ _ _ hq7 K
   ·clear K hF
    intro g ih i8 i9 x hF K
    refine at_round ?_
    refine sr ?_
    refine av rfl (r_ilss rfl rfl) ?_
    refine nwt [(2, _), (5, _), (16, _), (17, _), (18, _), (19, _)] ⟨rfl, rfl, rfl, rfl, rfl, rfl, trivial⟩ ?_
    refine at_seq ?_
    rcases of_ite hF with ⟨h10, hF⟩ | ⟨h10, hF⟩
    ·refine at_cond_true rfl h10 ?_
     refine sn ?_
     refine at_seq ?_
     refine at_block ?_
     refine sr ?_
     refine av rfl (r_move rfl) ?_
     obtain ⟨h11, hF⟩ := of_guard hF
     refine at_pure (φ := ∃ b o, p3 = some ⟨b, o, none⟩) (fun _ hw => row_ptr (hw.own (.s .z)).row h11) ?_
     rintro ⟨b13, o14, hp12⟩
     refine av rfl (r_idx Tryz.underlying38 Tryz.sizeOf9 rfl rfl h11 hp12) ?_
     refine av rfl (r_load_cell Tryz.isAgg9 rfl (fun _ hw => row_cell0 (W := fun w1 => w1 = _) (fun w1 h => by subst h; exact Below.refl _ _) (hw.own (.s .z)).row h11 hp12 rfl _ rfl)) ?_
     refine av rfl (r_assign rfl) ?_
     refine av rfl (r_assign rfl) ?_
     refine nws [(2, _), (5, _), (6, _), (7, _), (16, _), (17, _), (18, _)] ⟨rfl, rfl, rfl, rfl, rfl, rfl, rfl, trivial⟩ ?_
     refine av rfl (r_move rfl) ?_
     obtain ⟨t15, ht15, hF⟩ := of_bindM hF
     refine at_callB Tryz.func111 rfl (by kernel_rfl) rfl rfl (fun w hw => decimal_Read_ok _ _ _ ht15 w (hg_strconv_ErrRange.on hw.below) (hg_strconv_ErrSyntax.on hw.below)) ?_
     refine av rfl (r_move rfl) ?_
     refine av rfl (r_extract rfl rfl) ?_
     refine av rfl (r_extract rfl rfl) ?_
     refine av rfl (r_assign rfl) ?_
     refine av rfl (r_assign rfl) ?_
     refine nwt [(2, _), (5, _), (6, _), (8, _), (9, _), (16, _), (17, _), (18, _)] ⟨rfl, rfl, rfl, rfl, rfl, rfl, rfl, rfl, trivial⟩ ?_
     refine at_seq ?_
     refine sr ?_
     refine av rfl (r_move rfl) ?_
     refine av rfl (r_ineq rfl rfl) ?_
     refine nwt [(2, _), (5, _), (6, _), (8, _), (9, _), (16, _), (17, _), (18, _), (29, _)] ⟨rfl, rfl, rfl, rfl, rfl, rfl, rfl, rfl, rfl, trivial⟩ ?_
     rcases of_ite hF with ⟨h16, hF⟩ | ⟨h16, hF⟩
     ·refine at_cond_true rfl h16 ?_
      refine sr ?_
      refine av rfl (r_build_array (zs := Cd.cs (cVec (cInt .u8) 4 (by decide)) (Vector.replicate 4 (0 : Int) : (Vector Int 4))) (cs := Cd.cs (cVec (cInt .u8) 4 (by decide)) (Vector.replicate 4 (0 : Int) : (Vector Int 4))) Tryz.underlying159 Tryz.zeroValue159 rfl Tryz.sizeOf5 rfl rfl) ?_
      refine av rfl (r_move rfl) ?_
      refine at_store (c := (cVec (cInt .u8) 4 (by decide))) (z := (Vector.replicate 4 (0 : Int) : (Vector Int 4))) (.s (.s .z)) (Lens.whole _ _) Tryz.sizeOf159 rfl rfl rfl ?_
      refine av rfl (r_assign rfl) ?_
      refine at_nil ?_
      refine at_drop (H := _) .z ?_
      refine at_drop (H := _) .z ?_
      refine at_weak [(2, _), (3, _)] ⟨rfl, rfl, trivial⟩ ?_
      refine at_then_normal ?_
      refine at_ret ?_
      refine at_then_ret (at_blk_ret (at_then_ret (at_then_ret (at_blk_ret (at_then_ret ?_)))))
      obtain rfl := of_some hF
      subst K
      exact at_res2 rfl (res_cell (c := (cVec (cInt .u8) 4 (by decide))) (y := (Vector.replicate 4 (0 : Int) : (Vector Int 4))) rfl .z (Lens.whole _ _) Tryz.isAgg159 Tryz.sizeOf159 (.inl rfl)) (res_tmp rfl) (fun w1 hw => ⟨rfl, hw.below⟩)
     ·refine at_cond_false rfl h16 ?_
      refine sn ?_
      refine at_region ?_
      refine av rfl (r_move rfl) ?_
      refine av rfl (r_move rfl) ?_
      refine av rfl (r_conv Tryz.underlying31 Tryz.underlying5 rfl) ?_
      obtain ⟨h17, hF⟩ := of_guard hF
      refine av rfl (r_idxArr Tryz.underlying159 Tryz.sizeOf5 rfl rfl h17) ?_
      refine at_store (c := (cInt .u8)) (z := wr .u8 t15.1) .z (Lens.comp (Lens.whole _ _) (fun z => vset i9 i8 z) (Lens.vec (cInt .u8) (by decide) i9 i8 h17)) Tryz.sizeOf5 rfl rfl rfl ?_
      refine at_nil ?_
      refine at_weak [(2, _), (5, _), (16, _), (17, _), (18, _)] ⟨rfl, rfl, rfl, rfl, rfl, trivial⟩ ?_
      refine at_blk_normal (at_then_normal ?_)
      refine at_region ?_
      refine av rfl (r_iadd rfl rfl) ?_
      refine av rfl (r_move rfl) ?_
      refine nwt [(2, _), (5, _), (16, _), (17, _), (18, _)] ⟨rfl, rfl, rfl, rfl, rfl, trivial⟩ ?_
      exact at_weak_k (ih _ _ _ hF K) ⟨rfl, rfl, rfl, rfl, rfl, trivial⟩
    ·refine at_cond_false rfl h10 ?_
     refine at_exit ?_
     refine at_then_exit (at_then_exit ?_)
     refine at_drop (H := _) (.s .z) ?_
     obtain rfl := of_some hF
     exact at_weak_k K ⟨rfl, rfl, trivial⟩
  ·cases q7 with
   | ret r' => exact of_some hF
   | nx sq7 =>
    skip
    refine at_blk_same ?_
    refine at_then_normal ?_
    refine sr ?_
    refine av rfl (r_load_aggc (c := (cVec (cInt .u8) 4 (by decide))) (z := sq7) Tryz.isAgg159 Tryz.sizeOf159 rfl (lens_cell .z (Lens.whole _ _))) ?_
    refine at_store (c := (cVec (cInt .u8) 4 (by decide))) (z := sq7) (.s .z) (Lens.whole _ _) Tryz.sizeOf159 rfl rfl rfl ?_
    refine av rfl (r_assign rfl) ?_
    refine at_nil ?_
    refine at_drop (H := _) .z ?_
    refine at_weak [(2, _), (3, _)] ⟨rfl, rfl, trivial⟩ ?_
    refine at_then_normal ?_
    refine at_ret ?_
    have K := of_some hF
    subst K
    exact at_res2 rfl (res_cell (c := (cVec (cInt .u8) 4 (by decide))) (y := sq7) rfl .z (Lens.whole _ _) Tryz.isAgg159 Tryz.sizeOf159 (.inl rfl)) (res_tmp rfl) (fun w1 hw => ⟨rfl, hw.below⟩)
def crawlwayref08_Parse.l0 (t3 : List ByteArray) (i8 : Int) (i9 : (Vector Int 4)) : Option (Ctl ((Vector Int 4) × Int) ((Vector Int 4))) :=
  if (decide (i8 < 4)) = true then (if (0 : Int) ≤ i8 ∧ i8 < (t3.length : Int) then crawlwayref03_Read (lget t3 i8) 255 >>= fun t15 => if (t15.2 != 0) = true then (some (.ret ((Vector.replicate 4 (0 : Int) : (Vector Int 4)), t15.2))) else (if (0 : Int) ≤ i8 ∧ i8 < 4 then crawlwayref08_Parse.l0 t3 (wr .i64 (i8 + 1)) (vset i9 i8 (wr .u8 t15.1)) else none) else none) else (some (.nx i9))
  partial_fixpoint
def crawlwayref08_Parse (x0 : ByteArray) : Option ((Vector Int 4) × Int) :=
  crawlwayref06_Parts x0 46 >>= fun t3 => if ((t3.length : Int) != 4) = true then (some ((Vector.replicate 4 (0 : Int) : (Vector Int 4)), 5)) else (crawlwayref08_Parse.l0 t3 0 (Vector.replicate 4 (0 : Int) : (Vector Int 4)) >>= fun q7 => match q7 with | .ret r' => some r' | .nx sq7 => (some (sq7, 0)))
theorem crawlwayref08_Parse_ok (x0 : ByteArray) (r : (Vector Int 4) × Int) (hF : crawlwayref08_Parse x0 = some r) (w : World) :
    Calls Tryz.prog 120 #[.string x0] w (fun e w' => e = .returned (.tuple #[.agg (Cd.cs (cVec (cInt .u8) 4 (by decide)) r.1).toArray, .int .i64 r.2]) ∧ Below w.heap.size w w') := by
 unfold crawlwayref08_Parse at hF
 refine calls_enter (l := [.string x0]) Tryz.func120 rfl rfl rfl ?_
 refine at_start ?_
 refine at_weak [(0, _)] ⟨rfl, trivial⟩ ?_
 refine sr ?_
 refine at_alloc (cs := Cd.cs (cVec (cInt .u8) 4 (by decide)) (Vector.replicate 4 (0 : Int) : (Vector Int 4))) Tryz.zeroValue159 rfl rfl ?_
 intro b1
 refine av rfl (r_assign rfl) ?_
 refine nws [(0, _), (2, _)] ⟨rfl, rfl, trivial⟩ ?_
 refine at_alloc (cs := Cd.cs (cVec (cInt .u8) 4 (by decide)) (Vector.replicate 4 (0 : Int) : (Vector Int 4))) Tryz.zeroValue159 rfl rfl ?_
 intro b2
 refine nws [(0, _), (2, _), (4, _)] ⟨rfl, rfl, rfl, trivial⟩ ?_
 refine av rfl (r_move rfl) ?_
 obtain ⟨t3, ht3, hF⟩ := of_bindM hF
 refine at_callO (c := cStr) (e := 9) (ys := t3) (V := fun p cap => .slice p t3.length cap) Tryz.func56 rfl (by kernel_rfl) rfl rfl (fun w hw => crawlwayref06_Parts_ok _ _ _ ht3 w) ?_
 intro p4 c5
 refine av rfl (r_assign rfl) ?_
 refine nwt [(2, _), (4, _), (5, _)] ⟨rfl, rfl, rfl, trivial⟩ ?_
 refine at_seq ?_
 refine sr ?_
 refine av rfl (r_move rfl) ?_
 refine av rfl (r_len_sl Tryz.underlying38 rfl) ?_
 refine av rfl (r_ineq rfl rfl) ?_
 refine nwt [(2, _), (4, _), (5, _), (13, _)] ⟨rfl, rfl, rfl, rfl, trivial⟩ ?_
 rcases of_ite hF with ⟨h6, hF⟩ | ⟨h6, hF⟩
 ·refine at_cond_true rfl h6 ?_
  refine sr ?_
  refine av rfl (r_build_array (zs := Cd.cs (cVec (cInt .u8) 4 (by decide)) (Vector.replicate 4 (0 : Int) : (Vector Int 4))) (cs := Cd.cs (cVec (cInt .u8) 4 (by decide)) (Vector.replicate 4 (0 : Int) : (Vector Int 4))) Tryz.underlying159 Tryz.zeroValue159 rfl Tryz.sizeOf5 rfl rfl) ?_
  refine at_store (c := (cVec (cInt .u8) 4 (by decide))) (z := (Vector.replicate 4 (0 : Int) : (Vector Int 4))) (.s (.s .z)) (Lens.whole _ _) Tryz.sizeOf159 rfl rfl rfl ?_
  refine av rfl (r_assign rfl) ?_
  refine at_nil ?_
  refine at_drop (H := _) .z ?_
  refine at_drop (H := _) .z ?_
  refine at_weak [(2, _), (3, _)] ⟨rfl, rfl, trivial⟩ ?_
  refine at_then_normal ?_
  refine rt ?_
  have K := of_some hF
  subst K
  exact at_res2 rfl (res_cell (c := (cVec (cInt .u8) 4 (by decide))) (y := (Vector.replicate 4 (0 : Int) : (Vector Int 4))) rfl .z (Lens.whole _ _) Tryz.isAgg159 Tryz.sizeOf159 (.inl rfl)) (res_tmp rfl) (fun w1 hw => ⟨rfl, hw.below⟩)
 ·refine at_cond_false rfl h6 ?_
  refine sn ?_
  refine at_seq ?_
  refine sr ?_
  refine av rfl (r_assign rfl) ?_
  refine nwt [(2, _), (4, _), (5, _), (6, _)] ⟨rfl, rfl, rfl, rfl, trivial⟩ ?_
  refine at_block ?_
  obtain ⟨q7, hq7, hF⟩ := of_bindM hF
  refine at_weak [(2, _), (4, _), (5, _), (6, _)] ⟨rfl, rfl, rfl, rfl, trivial⟩ ?_
  refine at_loop_r (B := 0) (r := r) (q := q7) (A := fun sq7 Y => At 36 [(2, .pointer (some ⟨b1, 0, none⟩)), (4, .pointer (some ⟨b2, 0, none⟩))] (Wd w [cellsE b2 (Cd.cs (cVec (cInt .u8) 4 (by decide)) sq7) 159, cellsE b1 (Cd.cs (cVec (cInt .u8) 4 (by decide)) (Vector.replicate 4 (0 : Int) : (Vector Int 4))) 159]) Y) ?_ ?_
  ·intro K
   refine crawlwayref08_Parse.l0.partial_correctness t3 (motive := fun i8 i9 x => KR (fun sq7 Y => At 36 [(2, .pointer (some ⟨b1, 0, none⟩)), (4, .pointer (some ⟨b2, 0, none⟩))] (Wd w [cellsE b2 (Cd.cs (cVec (cInt .u8) 4 (by decide)) sq7) 159, cellsE b1 (Cd.cs (cVec (cInt .u8) 4 (by decide)) (Vector.replicate 4 (0 : Int) : (Vector Int 4))) 159]) Y) _ 0 r x → Round (fun Y => At 36 [(2, .pointer (some ⟨b1, 0, none⟩)), (4, .pointer (some ⟨b2, 0, none⟩)), (5, .slice p4 t3.length c5), (6, .int .i64 i8)] (Wd w [rowE cStr 9 p4 c5 t3, cellsE b2 (Cd.cs (cVec (cInt .u8) 4 (by decide)) i9) 159, cellsE b1 (Cd.cs (cVec (cInt .u8) 4 (by decide)) (Vector.replicate 4 (0 : Int) : (Vector Int 4))) 159]) Y) _ _ _) ?_ _ _ _ hq7 K
   ·clear K hF
    intro g ih i8 i9 x hF K
    refine at_round ?_
    refine at_seq ?_
    refine sr ?_
    refine av rfl (r_move rfl) ?_
    refine av rfl (r_ilss rfl rfl) ?_
    refine nwt [(2, _), (4, _), (5, _), (6, _), (16, _)] ⟨rfl, rfl, rfl, rfl, rfl, trivial⟩ ?_
    rcases of_ite hF with ⟨h10, hF⟩ | ⟨h10, hF⟩
    ·refine at_cond_true rfl h10 ?_
     refine sn ?_
     refine at_seq ?_
     refine at_block ?_
     refine sr ?_
     refine av rfl (r_move rfl) ?_
     refine av rfl (r_move rfl) ?_
     obtain ⟨h11, hF⟩ := of_guard hF
     refine at_pure (φ := ∃ b o, p4 = some ⟨b, o, none⟩) (fun _ hw => row_ptr (hw.own .z).row h11) ?_
     rintro ⟨b13, o14, hp12⟩
     refine av rfl (r_idx Tryz.underlying38 Tryz.sizeOf9 rfl rfl h11 hp12) ?_
     refine av rfl (r_load_cell Tryz.isAgg9 rfl (fun _ hw => row_cell0 (W := fun w1 => w1 = _) (fun w1 h => by subst h; exact Below.refl _ _) (hw.own .z).row h11 hp12 rfl _ rfl)) ?_
     obtain ⟨t15, ht15, hF⟩ := of_bindM hF
     refine at_call0 Tryz.func43 rfl (by kernel_rfl) rfl rfl (fun w => crawlwayref03_Read_ok _ _ _ ht15 w) ?_
     refine av rfl (r_move rfl) ?_
     refine av rfl (r_extract rfl rfl) ?_
     refine av rfl (r_extract rfl rfl) ?_
     refine av rfl (r_assign rfl) ?_
     refine av rfl (r_assign rfl) ?_
     refine nwt [(2, _), (4, _), (5, _), (6, _), (7, _), (8, _)] ⟨rfl, rfl, rfl, rfl, rfl, rfl, trivial⟩ ?_
     refine at_seq ?_
     refine sr ?_
     refine av rfl (r_move rfl) ?_
     refine av rfl (r_ineq rfl rfl) ?_
     refine nwt [(2, _), (4, _), (5, _), (6, _), (7, _), (8, _), (28, _)] ⟨rfl, rfl, rfl, rfl, rfl, rfl, rfl, trivial⟩ ?_
     rcases of_ite hF with ⟨h16, hF⟩ | ⟨h16, hF⟩
     ·refine at_cond_true rfl h16 ?_
      refine sr ?_
      refine av rfl (r_build_array (zs := Cd.cs (cVec (cInt .u8) 4 (by decide)) (Vector.replicate 4 (0 : Int) : (Vector Int 4))) (cs := Cd.cs (cVec (cInt .u8) 4 (by decide)) (Vector.replicate 4 (0 : Int) : (Vector Int 4))) Tryz.underlying159 Tryz.zeroValue159 rfl Tryz.sizeOf5 rfl rfl) ?_
      refine av rfl (r_move rfl) ?_
      refine at_store (c := (cVec (cInt .u8) 4 (by decide))) (z := (Vector.replicate 4 (0 : Int) : (Vector Int 4))) (.s (.s .z)) (Lens.whole _ _) Tryz.sizeOf159 rfl rfl rfl ?_
      refine av rfl (r_assign rfl) ?_
      refine at_nil ?_
      refine at_drop (H := _) .z ?_
      refine at_drop (H := _) .z ?_
      refine at_weak [(2, _), (3, _)] ⟨rfl, rfl, trivial⟩ ?_
      refine at_then_normal ?_
      refine at_ret ?_
      refine at_then_ret (at_blk_ret (at_then_ret (at_then_ret (at_blk_ret (at_then_ret ?_)))))
      obtain rfl := of_some hF
      subst K
      exact at_res2 rfl (res_cell (c := (cVec (cInt .u8) 4 (by decide))) (y := (Vector.replicate 4 (0 : Int) : (Vector Int 4))) rfl .z (Lens.whole _ _) Tryz.isAgg159 Tryz.sizeOf159 (.inl rfl)) (res_tmp rfl) (fun w1 hw => ⟨rfl, hw.below⟩)
     ·refine at_cond_false rfl h16 ?_
      refine sn ?_
      refine at_region ?_
      refine av rfl (r_move rfl) ?_
      refine av rfl (r_move rfl) ?_
      refine av rfl (r_conv Tryz.underlying31 Tryz.underlying5 rfl) ?_
      obtain ⟨h17, hF⟩ := of_guard hF
      refine av rfl (r_idxArr Tryz.underlying159 Tryz.sizeOf5 rfl rfl h17) ?_
      refine at_store (c := (cInt .u8)) (z := wr .u8 t15.1) (.s .z) (Lens.comp (Lens.whole _ _) (fun z => vset i9 i8 z) (Lens.vec (cInt .u8) (by decide) i9 i8 h17)) Tryz.sizeOf5 rfl rfl rfl ?_
      refine at_nil ?_
      refine at_weak [(2, _), (4, _), (5, _), (6, _)] ⟨rfl, rfl, rfl, rfl, trivial⟩ ?_
      refine at_blk_normal (at_then_normal ?_)
      refine at_region ?_
      refine av rfl (r_move rfl) ?_
      refine av rfl (r_iadd rfl rfl) ?_
      refine av rfl (r_assign rfl) ?_
      refine nwt [(2, _), (4, _), (5, _), (6, _)] ⟨rfl, rfl, rfl, rfl, trivial⟩ ?_
      exact at_weak_k (ih _ _ _ hF K) ⟨rfl, rfl, rfl, rfl, trivial⟩
    ·refine at_cond_false rfl h10 ?_
     refine at_exit ?_
     refine at_then_exit (at_then_exit ?_)
     refine at_drop (H := _) .z ?_
     obtain rfl := of_some hF
     exact at_weak_k K ⟨rfl, rfl, trivial⟩
  ·cases q7 with
   | ret r' => exact of_some hF
   | nx sq7 =>
    skip
    refine at_blk_same ?_
    refine at_then_normal ?_
    refine sr ?_
    refine av rfl (r_load_aggc (c := (cVec (cInt .u8) 4 (by decide))) (z := sq7) Tryz.isAgg159 Tryz.sizeOf159 rfl (lens_cell .z (Lens.whole _ _))) ?_
    refine at_store (c := (cVec (cInt .u8) 4 (by decide))) (z := sq7) (.s .z) (Lens.whole _ _) Tryz.sizeOf159 rfl rfl rfl ?_
    refine av rfl (r_assign rfl) ?_
    refine at_nil ?_
    refine at_drop (H := _) .z ?_
    refine at_weak [(2, _), (3, _)] ⟨rfl, rfl, trivial⟩ ?_
    refine at_then_normal ?_
    refine at_ret ?_
    have K := of_some hF
    subst K
    exact at_res2 rfl (res_cell (c := (cVec (cInt .u8) 4 (by decide))) (y := sq7) rfl .z (Lens.whole _ _) Tryz.isAgg159 Tryz.sizeOf159 (.inl rfl)) (res_tmp rfl) (fun w1 hw => ⟨rfl, hw.below⟩)
end Go.Proofs.YtkkmmpofdcccmaaGreatDoor
namespace Go.Proofs.YtkkmmpofdcccmaaGreatDoor
open E Go.RowKit
abbrev zqG3_0 : S_colon_reader := ({ f_g := (Vector.replicate 8 (0 : Int) : (Vector Int 8)), f_n := (0 : Int), f_gap := (0 : Int) } : S_colon_reader)
theorem infoG39_is : (Tryz.prog.info? 9).isSome = true := by kernel_rfl
noncomputable def infoG39_v : TypeInfo := (Tryz.prog.info? 9).get infoG39_is
theorem infoG39 : Tryz.prog.info? 9 = some infoG39_v := (Option.some_get _).symm
def stringslite_HasPrefix (x0 : ByteArray) (x1 : ByteArray) : Option (Bool) :=
  if (decide ((x0.size : Int) ≥ (x1.size : Int))) = true then (if (0 : Int) ≤ 0 ∧ 0 ≤ (x1.size : Int) ∧ (x1.size : Int) ≤ (x0.size : Int) then some (seq (x0.extract (Int.toNat 0) (Int.toNat (x1.size : Int))) x1) else none) else (some false)
theorem stringslite_HasPrefix_ok (x0 : ByteArray) (x1 : ByteArray) (r : Bool) (hF : stringslite_HasPrefix x0 x1 = some r) (w : World) :
    Calls Tryz.prog 216 #[.string x0, .string x1] w (fun e w' => e = .returned (.bool r) ∧ w' = w) := by
 unfold stringslite_HasPrefix at hF
 refine calls_enter (l := [.string x0, .string x1]) Tryz.func216 rfl rfl rfl ?_
 refine at_weak [(0, _), (1, _)] ⟨rfl, rfl, trivial⟩ ?_
 refine sr ?_
 refine av rfl (r_assign rfl) ?_
 refine nws [(0, _), (1, _)] ⟨rfl, rfl, trivial⟩ ?_
 refine av rfl (r_move rfl) ?_
 refine av rfl (r_len_str Tryz.underlying9 rfl) ?_
 refine av rfl (r_move rfl) ?_
 refine av rfl (r_len_str Tryz.underlying9 rfl) ?_
 refine av rfl (r_igeq rfl rfl) ?_
 refine av rfl (r_move rfl) ?_
 rcases of_ite hF with ⟨h1, hF⟩ | ⟨h1, hF⟩
 ·refine at_fix (g := 10) rfl h1 ?_
  refine at_guard_yes rfl rfl rfl ?_
  refine av rfl (r_move rfl) ?_
  refine at_guard_yes rfl rfl rfl ?_
  refine av rfl (r_move rfl) ?_
  refine at_guard_yes rfl rfl rfl ?_
  refine av rfl (r_len_str Tryz.underlying9 rfl) ?_
  refine at_guard_yes rfl rfl rfl ?_
  obtain ⟨h2, hF⟩ := of_guard hF
  refine av rfl (r_slice_str Tryz.underlying9 rfl rfl ⟨_, rfl⟩ h2) ?_
  refine at_guard_yes rfl rfl rfl ?_
  refine av rfl (r_move rfl) ?_
  refine at_guard_yes rfl rfl rfl ?_
  refine av rfl (r_seql rfl rfl) ?_
  refine av rfl (r_pick rfl rfl rfl) ?_
  refine av rfl (r_assign rfl) ?_
  refine nwt [(4, _)] ⟨rfl, trivial⟩ ?_
  refine at_ret ?_
  have K := of_some hF
  subst K
  exact at_return1 rfl rfl (fun w1 hw => ⟨rfl, hw⟩)
 ·refine at_fix (g := 10) rfl h1 ?_
  refine at_guard_no rfl rfl rfl rfl rfl ?_
  refine at_guard_no rfl rfl rfl rfl rfl ?_
  refine at_guard_no rfl rfl rfl rfl rfl ?_
  refine at_guard_no rfl rfl rfl rfl rfl ?_
  refine at_guard_no rfl rfl rfl rfl rfl ?_
  refine at_guard_no rfl rfl rfl rfl rfl ?_
  refine av rfl (r_pick rfl rfl rfl) ?_
  refine av rfl (r_assign rfl) ?_
  refine nwt [(4, _)] ⟨rfl, trivial⟩ ?_
  refine at_ret ?_
  have K := of_some hF
  subst K
  exact at_return1 rfl rfl (fun w1 hw => ⟨rfl, hw⟩)
def strings_HasPrefix (x0 : ByteArray) (x1 : ByteArray) : Option (Bool) :=
  stringslite_HasPrefix x0 x1 >>= fun t1 => some t1
theorem strings_HasPrefix_ok (x0 : ByteArray) (x1 : ByteArray) (r : Bool) (hF : strings_HasPrefix x0 x1 = some r) (w : World) :
    Calls Tryz.prog 217 #[.string x0, .string x1] w (fun e w' => e = .returned (.bool r) ∧ w' = w) := by
 unfold strings_HasPrefix at hF
 refine calls_enter (l := [.string x0, .string x1]) Tryz.func217 rfl rfl rfl ?_
 refine at_weak [(0, _), (1, _)] ⟨rfl, rfl, trivial⟩ ?_
 refine sr ?_
 refine av rfl (r_assign rfl) ?_
 refine nws [(0, _), (1, _)] ⟨rfl, rfl, trivial⟩ ?_
 refine av rfl (r_move rfl) ?_
 refine av rfl (r_move rfl) ?_
 obtain ⟨t1, ht1, hF⟩ := of_bindM hF
 refine at_call0 Tryz.func216 rfl (by kernel_rfl) rfl rfl (fun w => stringslite_HasPrefix_ok _ _ _ ht1 w) ?_
 refine av rfl (r_assign rfl) ?_
 refine nwt [(4, _)] ⟨rfl, trivial⟩ ?_
 refine at_ret ?_
 have K := of_some hF
 subst K
 exact at_return1 rfl rfl (fun w1 hw => ⟨rfl, hw⟩)
def hexes_value (x0 : Int) : Option (Int × Bool) :=
  some (wr .u16 (Lib.indexByte (⟨#[48, 49, 50, 51, 52, 53, 54, 55, 56, 57, 97, 98, 99, 100, 101, 102]⟩ : ByteArray).data.toList (Nat.toUInt8 (Int.toNat x0))), decide (Lib.indexByte (⟨#[48, 49, 50, 51, 52, 53, 54, 55, 56, 57, 97, 98, 99, 100, 101, 102]⟩ : ByteArray).data.toList (Nat.toUInt8 (Int.toNat x0)) ≥ 0))
theorem hexes_value_ok (x0 : Int) (r : Int × Bool) (hF : hexes_value x0 = some r) (w : World) :
    Calls Tryz.prog 174 #[.int .u8 x0] w (fun e w' => e = .returned (.tuple #[.int .u16 r.1, .bool r.2]) ∧ w' = w) := by
 unfold hexes_value at hF
 refine calls_enter (l := [.int .u8 x0]) Tryz.func174 rfl rfl rfl ?_
 refine at_weak [(0, _)] ⟨rfl, trivial⟩ ?_
 refine sr ?_
 refine av rfl (r_assign rfl) ?_
 refine av rfl (r_assign rfl) ?_
 refine nws [(0, _)] ⟨rfl, trivial⟩ ?_
 refine av rfl (r_move rfl) ?_
 refine at_call0 Tryz.func144 rfl (by kernel_rfl) rfl rfl (fun w => Tryz.strings_IndexByte _ _ w) ?_
 refine av rfl (r_assign rfl) ?_
 refine nws [(4, _)] ⟨rfl, trivial⟩ ?_
 refine av rfl (r_move rfl) ?_
 refine av rfl (r_conv Tryz.underlying3 Tryz.underlying191 rfl) ?_
 refine av rfl (r_move rfl) ?_
 refine av rfl (r_igeq rfl rfl) ?_
 refine av rfl (r_assign rfl) ?_
 refine av rfl (r_assign rfl) ?_
 refine nwt [(2, _), (3, _)] ⟨rfl, rfl, trivial⟩ ?_
 refine at_ret ?_
 have K := of_some hF
 subst K
 exact at_return2 rfl rfl rfl (fun w1 hw => ⟨rfl, hw⟩)
def hexes_small (x0 : Int) : Option (Int) :=
  if (decide (x0 ≥ 65)) = true then (if (decide (x0 ≤ 70)) = true then (some (ior .u8 x0 32)) else (some x0)) else (some x0)
theorem hexes_small_ok (x0 : Int) (r : Int) (hF : hexes_small x0 = some r) (w : World) :
    Calls Tryz.prog 235 #[.int .u8 x0] w (fun e w' => e = .returned (.int .u8 r) ∧ w' = w) := by
 unfold hexes_small at hF
 refine calls_enter (l := [.int .u8 x0]) Tryz.func235 rfl rfl rfl ?_
 refine at_weak [(0, _)] ⟨rfl, trivial⟩ ?_
 refine sr ?_
 refine av rfl (r_assign rfl) ?_
 refine nwt [(0, _)] ⟨rfl, trivial⟩ ?_
 refine at_seq ?_
 refine sr ?_
 refine av rfl (r_move rfl) ?_
 refine av rfl (r_igeq rfl rfl) ?_
 refine av rfl (r_move rfl) ?_
 rcases of_ite hF with ⟨h1, hF⟩ | ⟨h1, hF⟩
 ·refine at_fix (g := 5) rfl h1 ?_
  refine at_guard_yes rfl rfl rfl ?_
  refine av rfl (r_move rfl) ?_
  refine at_guard_yes rfl rfl rfl ?_
  refine av rfl (r_ileq rfl rfl) ?_
  refine av rfl (r_pick rfl rfl rfl) ?_
  refine nwt [(0, _), (8, _)] ⟨rfl, rfl, trivial⟩ ?_
  rcases of_ite hF with ⟨h2, hF⟩ | ⟨h2, hF⟩
  ·refine at_cond_true rfl h2 ?_
   refine sr ?_
   refine av rfl (r_move rfl) ?_
   refine av rfl (r_ior rfl rfl) ?_
   refine av rfl (r_assign rfl) ?_
   refine nwt [(2, _)] ⟨rfl, trivial⟩ ?_
   refine rt ?_
   have K := of_some hF
   subst K
   exact at_return1 rfl rfl (fun w1 hw => ⟨rfl, hw⟩)
  ·refine at_cond_false rfl h2 ?_
   refine sns ?_
   refine av rfl (r_move rfl) ?_
   refine av rfl (r_assign rfl) ?_
   refine nwt [(2, _)] ⟨rfl, trivial⟩ ?_
   refine at_ret ?_
   have K := of_some hF
   subst K
   exact at_return1 rfl rfl (fun w1 hw => ⟨rfl, hw⟩)
 ·refine at_fix (g := 5) rfl h1 ?_
  refine at_guard_no rfl rfl rfl rfl rfl ?_
  refine at_guard_no rfl rfl rfl rfl rfl ?_
  refine av rfl (r_pick rfl rfl rfl) ?_
  refine nwt [(0, _), (8, _)] ⟨rfl, rfl, trivial⟩ ?_
  refine at_cond_false rfl rfl ?_
  refine sns ?_
  refine av rfl (r_move rfl) ?_
  refine av rfl (r_assign rfl) ?_
  refine nwt [(2, _)] ⟨rfl, trivial⟩ ?_
  refine at_ret ?_
  have K := of_some hF
  subst K
  exact at_return1 rfl rfl (fun w1 hw => ⟨rfl, hw⟩)
def hexes_ReadGroup.l0 (x0 : ByteArray) (i4 : Int) (i5 : Int) : Option (Ctl (Int × Int) (Int)) :=
  if (decide (i5 < (x0.size : Int))) = true then (if (0 : Int) ≤ i5 ∧ i5 < (x0.size : Int) then hexes_small (bt x0 i5) >>= fun t8 => hexes_value t8 >>= fun t9 => if (!t9.2) = true then (some (.ret (0, 5))) else (hexes_ReadGroup.l0 x0 (ior .u16 (ishl .u16 i4 4) t9.1) (wr .i64 (i5 + 1))) else none) else (some (.nx i4))
  partial_fixpoint
def hexes_ReadGroup (x0 : ByteArray) : Option (Int × Int) :=
  if (decide ((x0.size : Int) < 1)) = true then (some (0, 5)) else (if (decide ((x0.size : Int) > 4)) = true then (some (0, 5)) else (hexes_ReadGroup.l0 x0 0 0 >>= fun q3 => match q3 with | .ret r' => some r' | .nx sq3 => (some (sq3, 0))))
theorem hexes_ReadGroup_ok (x0 : ByteArray) (r : Int × Int) (hF : hexes_ReadGroup x0 = some r) (w : World) :
    Calls Tryz.prog 219 #[.string x0] w (fun e w' => e = .returned (.tuple #[.int .u16 r.1, .int .i64 r.2]) ∧ w' = w) := by
 unfold hexes_ReadGroup at hF
 refine calls_enter (l := [.string x0]) Tryz.func219 rfl rfl rfl ?_
 refine at_weak [(0, _)] ⟨rfl, trivial⟩ ?_
 refine sr ?_
 refine av rfl (r_assign rfl) ?_
 refine av rfl (r_assign rfl) ?_
 refine nwt [(0, _)] ⟨rfl, trivial⟩ ?_
 refine at_seq ?_
 refine sr ?_
 refine av rfl (r_move rfl) ?_
 refine av rfl (r_len_str Tryz.underlying9 rfl) ?_
 refine av rfl (r_ilss rfl rfl) ?_
 refine av rfl (r_move rfl) ?_
 rcases of_ite hF with ⟨h1, hF⟩ | ⟨h1, hF⟩
 ·refine at_fix (g := 11) rfl h1 ?_
  refine at_guard_no rfl rfl rfl rfl rfl ?_
  refine at_guard_no rfl rfl rfl rfl rfl ?_
  refine at_guard_no rfl rfl rfl rfl rfl ?_
  refine av rfl (r_pick rfl rfl rfl) ?_
  refine nwt [(0, _), (15, _)] ⟨rfl, rfl, trivial⟩ ?_
  refine at_cond_true rfl rfl ?_
  refine sr ?_
  refine av rfl (r_assign rfl) ?_
  refine av rfl (r_assign rfl) ?_
  refine nwt [(2, _), (3, _)] ⟨rfl, rfl, trivial⟩ ?_
  refine rt ?_
  have K := of_some hF
  subst K
  exact at_return2 rfl rfl rfl (fun w1 hw => ⟨rfl, hw⟩)
 ·refine at_fix (g := 11) rfl h1 ?_
  refine at_guard_yes rfl rfl rfl ?_
  refine av rfl (r_move rfl) ?_
  refine at_guard_yes rfl rfl rfl ?_
  refine av rfl (r_len_str Tryz.underlying9 rfl) ?_
  refine at_guard_yes rfl rfl rfl ?_
  refine av rfl (r_igtr rfl rfl) ?_
  refine av rfl (r_pick rfl rfl rfl) ?_
  refine nwt [(0, _), (15, _)] ⟨rfl, rfl, trivial⟩ ?_
  rcases of_ite hF with ⟨h2, hF⟩ | ⟨h2, hF⟩
  ·refine at_cond_true rfl h2 ?_
   refine sr ?_
   refine av rfl (r_assign rfl) ?_
   refine av rfl (r_assign rfl) ?_
   refine nwt [(2, _), (3, _)] ⟨rfl, rfl, trivial⟩ ?_
   refine rt ?_
   have K := of_some hF
   subst K
   exact at_return2 rfl rfl rfl (fun w1 hw => ⟨rfl, hw⟩)
  ·refine at_cond_false rfl h2 ?_
   refine sns ?_
   refine av rfl (r_assign rfl) ?_
   refine nwt [(0, _), (4, _)] ⟨rfl, rfl, trivial⟩ ?_
   refine at_seq ?_
   refine sr ?_
   refine av rfl (r_move rfl) ?_
   refine av rfl (r_len_str Tryz.underlying9 rfl) ?_
   refine av rfl (r_move rfl) ?_
   refine nwt [(0, _), (4, _), (17, _), (18, _)] ⟨rfl, rfl, rfl, rfl, trivial⟩ ?_
   refine at_block ?_
   obtain ⟨q3, hq3, hF⟩ := of_bindM hF
   refine at_weak [(0, _), (4, _), (17, _), (18, _)] ⟨rfl, rfl, rfl, rfl, trivial⟩ ?_
   refine at_loop_r (B := 0) (r := r) (q := q3) (A := fun sq3 Y => At 37 [(4, .int .u16 sq3)] (fun w' => w' = w) Y) ?_ ?_
   ·intro K
    refine hexes_ReadGroup.l0.partial_correctness x0 (motive := fun i4 i5 x => KR (fun sq3 Y => At 37 [(4, .int .u16 sq3)] (fun w' => w' = w) Y) _ 0 r x → Round (fun Y => At 37 [(0, .string x0), (4, .int .u16 i4), (17, .int .i64 (x0.size : Int)), (18, .int .i64 i5)] (fun w' => w' = w) Y) _ _ _) ?_ _ _ _ hq3 K
    ·clear K hF
     intro g ih i4 i5 x hF K
     refine at_round ?_
     refine sr ?_
     refine av rfl (r_ilss rfl rfl) ?_
     refine nwt [(0, _), (4, _), (17, _), (18, _), (19, _)] ⟨rfl, rfl, rfl, rfl, rfl, trivial⟩ ?_
     refine at_seq ?_
     rcases of_ite hF with ⟨h6, hF⟩ | ⟨h6, hF⟩
     ·refine at_cond_true rfl h6 ?_
      refine sn ?_
      refine at_seq ?_
      refine at_block ?_
      refine sr ?_
      refine av rfl (r_move rfl) ?_
      refine av rfl (r_assign rfl) ?_
      refine nws [(0, _), (4, _), (5, _), (17, _), (18, _)] ⟨rfl, rfl, rfl, rfl, rfl, trivial⟩ ?_
      refine av rfl (r_move rfl) ?_
      refine av rfl (r_move rfl) ?_
      obtain ⟨h7, hF⟩ := of_guard hF
      refine av rfl (r_index_str Tryz.underlying9 rfl rfl h7) ?_
      obtain ⟨t8, ht8, hF⟩ := of_bindM hF
      refine at_call0 Tryz.func235 rfl (by kernel_rfl) rfl rfl (fun w => hexes_small_ok _ _ ht8 w) ?_
      obtain ⟨t9, ht9, hF⟩ := of_bindM hF
      refine at_call0 Tryz.func174 rfl (by kernel_rfl) rfl rfl (fun w => hexes_value_ok _ _ ht9 w) ?_
      refine av rfl (r_move rfl) ?_
      refine av rfl (r_extract rfl rfl) ?_
      refine av rfl (r_extract rfl rfl) ?_
      refine av rfl (r_assign rfl) ?_
      refine av rfl (r_assign rfl) ?_
      refine nwt [(0, _), (4, _), (6, _), (7, _), (17, _), (18, _)] ⟨rfl, rfl, rfl, rfl, rfl, rfl, trivial⟩ ?_
      refine at_seq ?_
      refine sr ?_
      refine av rfl (r_move rfl) ?_
      refine av rfl (r_not rfl) ?_
      refine nwt [(0, _), (4, _), (6, _), (17, _), (18, _), (30, _)] ⟨rfl, rfl, rfl, rfl, rfl, rfl, trivial⟩ ?_
      rcases of_ite hF with ⟨h10, hF⟩ | ⟨h10, hF⟩
      ·refine at_cond_true rfl h10 ?_
       refine sr ?_
       refine av rfl (r_assign rfl) ?_
       refine av rfl (r_assign rfl) ?_
       refine nwt [(2, _), (3, _)] ⟨rfl, rfl, trivial⟩ ?_
       refine at_ret ?_
       refine at_then_ret (at_blk_ret (at_then_ret (at_then_ret (at_blk_ret (at_then_ret ?_)))))
       obtain rfl := of_some hF
       subst K
       exact at_return2 rfl rfl rfl (fun w1 hw => ⟨rfl, hw⟩)
      ·refine at_cond_false rfl h10 ?_
       refine sn ?_
       refine at_region ?_
       refine av rfl (r_move rfl) ?_
       refine av rfl (r_ishl rfl rfl (by decide)) ?_
       refine av rfl (r_move rfl) ?_
       refine av rfl (r_ior rfl rfl) ?_
       refine av rfl (r_assign rfl) ?_
       refine at_nil ?_
       refine at_weak [(0, _), (4, _), (17, _), (18, _)] ⟨rfl, rfl, rfl, rfl, trivial⟩ ?_
       refine at_blk_normal (at_then_normal ?_)
       refine at_region ?_
       refine av rfl (r_iadd rfl rfl) ?_
       refine av rfl (r_move rfl) ?_
       refine nwt [(0, _), (4, _), (17, _), (18, _)] ⟨rfl, rfl, rfl, rfl, trivial⟩ ?_
       exact at_weak_k (ih _ _ _ hF K) ⟨rfl, rfl, rfl, rfl, trivial⟩
     ·refine at_cond_false rfl h6 ?_
      refine at_exit ?_
      refine at_then_exit (at_then_exit ?_)
      obtain rfl := of_some hF
      exact at_weak_k K ⟨rfl, trivial⟩
   ·cases q3 with
    | ret r' => exact of_some hF
    | nx sq3 =>
     skip
     refine at_blk_same ?_
     refine at_then_normal ?_
     refine sr ?_
     refine av rfl (r_move rfl) ?_
     refine av rfl (r_assign rfl) ?_
     refine av rfl (r_assign rfl) ?_
     refine nwt [(2, _), (3, _)] ⟨rfl, rfl, trivial⟩ ?_
     refine at_ret ?_
     have K := of_some hF
     subst K
     exact at_return2 rfl rfl rfl (fun w1 hw => ⟨rfl, hw⟩)
def colon_reader_put (x0 : S_colon_reader) (x1 : Int) : Option (Bool × S_colon_reader) :=
  if (x0.f_n == 8) = true then (some (false, x0)) else (if (0 : Int) ≤ x0.f_n ∧ x0.f_n < 8 then some (true, { { x0 with f_g := vset x0.f_g x0.f_n x1 } with f_n := wr .i64 ((({ x0 with f_g := vset x0.f_g x0.f_n x1 }).f_n) + 1) }) else none)
set_option maxHeartbeats 3200000 in
theorem colon_reader_put_ok (x0 : S_colon_reader) (b0_ : Nat) (x1 : Int) (r : Bool × S_colon_reader) (hF : colon_reader_put x0 x1 = some r) (w : World) {w0 : World} {H_ G_ : List Ent} {f_ : Ent → List Ent} (hu_ : Upd H_ (cellsE b0_ (Cd.cs c_colon_reader x0) 210) f_ G_) (hw_ : Wd w0 H_ w) :
    Calls Tryz.prog 220 #[.pointer (some ⟨b0_, 0, none⟩), .int .u16 x1] w (fun e w' => e = .returned (.bool r.1) ∧ Wd w0 (f_ (cellsE b0_ (Cd.cs c_colon_reader r.2) 210)) w') := by
 unfold colon_reader_put at hF
 refine calls_enter (l := [.pointer (some ⟨b0_, 0, none⟩), .int .u16 x1]) Tryz.func220 rfl rfl rfl ?_
 refine at_enter_ptr hu_ hw_ ?_
 refine at_weak [(0, _), (1, _)] ⟨rfl, rfl, trivial⟩ ?_
 refine sr ?_
 refine av rfl (r_assign rfl) ?_
 refine nwt [(0, _), (1, _)] ⟨rfl, rfl, trivial⟩ ?_
 refine at_seq ?_
 refine sr ?_
 refine av rfl (r_move rfl) ?_
 refine av rfl (r_nilCheck rfl) ?_
 refine av rfl (r_fieldAddr (fo := 8) Tryz.underlying210 rfl rfl (fun w => ⟨_, Tryz.sizeOf3 w⟩) rfl) ?_
 refine av rfl (r_load_cell Tryz.isAgg3 rfl (lens_cell0 (c := (cInt .i64)) (y := x0.f_n) (Upd.again hu_ _) (Lens.comp (Lens.whole _ _) (fun z => { x0 with f_n := z }) (c_colon_reader_f_n x0)) rfl)) ?_
 refine av rfl (r_ieql rfl rfl) ?_
 refine nwt [(0, _), (1, _), (9, _)] ⟨rfl, rfl, rfl, trivial⟩ ?_
 rcases of_ite hF with ⟨h1, hF⟩ | ⟨h1, hF⟩
 ·refine at_cond_true rfl h1 ?_
  refine sr ?_
  refine av rfl (r_assign rfl) ?_
  refine nwt [(4, _)] ⟨rfl, trivial⟩ ?_
  refine rt ?_
  have K := of_some hF
  subst K
  exact at_return1 rfl rfl (fun w1 hw => ⟨rfl, hw⟩)
 ·refine at_cond_false rfl h1 ?_
  refine sn ?_
  refine at_seq ?_
  refine at_weak [(0, _), (1, _)] ⟨rfl, rfl, trivial⟩ ?_
  obtain ⟨h2, hF⟩ := of_guard hF
  refine at_inv [.q 10 (fun g3 => .pointer (some ⟨b0_, 0, none⟩)) [] 0 0, .q 11 (fun g3 => .pointer (some ⟨b0_, 0, none⟩)) [] 0 0, .q 12 (fun g3 => .pointer (some ⟨b0_, 0, none⟩)) [1] 0 0, .q 13 (fun g3 => .pointer (some ⟨b0_, 0 + 8, none⟩)) [2] 0 0, .q 14 (fun g3 => .int .i64 x0.f_n) [3] 0 0, .q 15 (fun g3 => .int .u16 x1) [] 0 0, .q 16 (fun g3 => .pointer (some ⟨b0_, 0, none⟩)) [0] 0 0, .q 17 (fun g3 => .pointer (some ⟨b0_, 0 + 0, none⟩)) [6] 0 0, .q 18 (fun g3 => .pointer (some ⟨b0_, 0 + 0 + Int.toNat x0.f_n * 1, none⟩)) [4, 7] 0 0, .st 0 none [5, 8]] (fun g3 s => match s with | 0 => (Wd w0 (f_ (cellsE b0_ (Cd.cs c_colon_reader x0) 210))) | _ => (Wd w0 (f_ (cellsE b0_ (Cd.cs c_colon_reader ({ x0 with f_g := vset x0.f_g x0.f_n x1 })) 210)))) 1 (by kernel_rfl) (by kernel_rfl) (by kernel_rfl) (by kernel_rfl) (by kernel_rfl) ⟨fun _ _ _ => rfl, fun _ _ _ => rfl, fun _ _ _ => rfl, fun _ _ _ => rfl, fun _ _ _ => rfl, fun _ _ _ => rfl, fun _ _ _ => rfl, fun _ _ _ => rfl, fun _ _ _ => rfl, fun _ _ _ => rfl, trivial⟩ (by kernel_rfl) (fun _ h => ⟨fun _ => (0, none, 0, none), h.drew⟩) ⟨?_, ?_, ?_, ?_, ?_, ?_, ?_, ?_, ?_, ?_, trivial⟩ ?_
  ·intro Lx g3 s K hl hh k
   show At 26 ((0, _) :: (1, _) :: Lx) _ _
   refine av rfl (r_move rfl) ?_
   exact at_nil k
  ·intro Lx g3 s K hl hh k
   show At 26 ((0, _) :: (1, _) :: Lx) _ _
   refine av rfl (r_move rfl) ?_
   exact at_nil k
  ·intro Lx g3 s K hl hh k
   show At 26 ((11, _) :: (0, _) :: (1, _) :: Lx) _ _
   refine av rfl (r_nilCheck rfl) ?_
   exact at_nil k
  ·intro Lx g3 s K hl hh k
   show At 26 ((12, _) :: (0, _) :: (1, _) :: Lx) _ _
   refine av rfl (r_fieldAddr (fo := 8) Tryz.underlying210 rfl rfl (fun w => ⟨_, Tryz.sizeOf3 w⟩) rfl) ?_
   exact at_nil k
  ·intro Lx g3 s K hl hh k
   show At 26 ((13, _) :: (0, _) :: (1, _) :: Lx) _ _
   obtain rfl : s = 0 := by omega
   refine av rfl (r_load_cell Tryz.isAgg3 rfl (lens_cell0 (c := (cInt .i64)) (y := x0.f_n) (Upd.again hu_ _) (Lens.comp (Lens.whole _ _) (fun z => { x0 with f_n := z }) (c_colon_reader_f_n x0)) rfl)) ?_
   exact at_nil k
  ·intro Lx g3 s K hl hh k
   show At 26 ((0, _) :: (1, _) :: Lx) _ _
   refine av rfl (r_move rfl) ?_
   exact at_nil k
  ·intro Lx g3 s K hl hh k
   show At 26 ((10, _) :: (0, _) :: (1, _) :: Lx) _ _
   refine av rfl (r_nilCheck rfl) ?_
   exact at_nil k
  ·intro Lx g3 s K hl hh k
   show At 26 ((16, _) :: (0, _) :: (1, _) :: Lx) _ _
   refine av rfl (r_fieldAddr (fo := 0) Tryz.underlying210 rfl rfl (fun w => ⟨_, Tryz.sizeOf208 w⟩) rfl) ?_
   exact at_nil k
  ·intro Lx g3 s K hl hh k
   show At 26 ((14, _) :: (17, _) :: (0, _) :: (1, _) :: Lx) _ _
   refine av rfl (r_idxArr Tryz.underlying208 Tryz.sizeOf191 rfl rfl h2) ?_
   exact at_nil k
  ·intro Lx g3 K k
   show At 26 ((15, _) :: (18, _) :: (0, _) :: (1, _) :: Lx) _ _
   refine at_store (c := (cInt .u16)) (z := x1) (Upd.again hu_ _) (Lens.comp (Lens.comp (Lens.whole _ _) (fun z => { x0 with f_g := z }) (c_colon_reader_f_g x0)) (fun z => vset x0.f_g x0.f_n z) (Lens.vec (cInt .u16) (by decide) x0.f_g x0.f_n h2)) Tryz.sizeOf191 rfl rfl rfl ?_
   exact at_nil k
  intro g3
  show At 26 [(10, _), (11, _), (12, _), (13, _), (14, _), (15, _), (16, _), (17, _), (18, _), (0, _), (1, _)] _ _
  refine at_weak [(0, _)] ⟨rfl, trivial⟩ ?_
  refine at_then_normal ?_
  refine sr ?_
  refine av rfl (r_move rfl) ?_
  refine av rfl (r_nilCheck rfl) ?_
  refine av rfl (r_fieldAddr (fo := 8) Tryz.underlying210 rfl rfl (fun w => ⟨_, Tryz.sizeOf3 w⟩) rfl) ?_
  refine av rfl (r_load_cell Tryz.isAgg3 rfl (lens_cell0 (c := (cInt .i64)) (y := ({ x0 with f_g := vset x0.f_g x0.f_n x1 }).f_n) (Upd.again hu_ _) (Lens.comp (Lens.whole _ _) (fun z => { { x0 with f_g := vset x0.f_g x0.f_n x1 } with f_n := z }) (c_colon_reader_f_n ({ x0 with f_g := vset x0.f_g x0.f_n x1 }))) rfl)) ?_
  refine av rfl (r_iadd rfl rfl) ?_
  refine av rfl (r_nilCheck rfl) ?_
  refine av rfl (r_fieldAddr (fo := 8) Tryz.underlying210 rfl rfl (fun w => ⟨_, Tryz.sizeOf3 w⟩) rfl) ?_
  refine at_store (c := (cInt .i64)) (z := wr .i64 ((({ x0 with f_g := vset x0.f_g x0.f_n x1 }).f_n) + 1)) (Upd.again hu_ _) (Lens.comp (Lens.whole _ _) (fun z => { { x0 with f_g := vset x0.f_g x0.f_n x1 } with f_n := z }) (c_colon_reader_f_n ({ x0 with f_g := vset x0.f_g x0.f_n x1 }))) Tryz.sizeOf3 rfl rfl rfl ?_
  refine nws [] trivial ?_
  refine av rfl (r_assign rfl) ?_
  refine nwt [(4, _)] ⟨rfl, trivial⟩ ?_
  refine at_ret ?_
  have K := of_some hF
  subst K
  exact at_return1 rfl rfl (fun w1 hw => ⟨rfl, hw⟩)
def colon_reader_tail (x0 : S_colon_reader) (x1 : ByteArray) : Option (Bool × S_colon_reader) :=
  hexes_ReadGroup x1 >>= fun t1 => if (t1.2 == 0) = true then (colon_reader_put x0 t1.1 >>= fun t3 => some (t3.1, t3.2)) else (quad_Parse x1 >>= fun t4 => if (t4.2 == 0) = true then (colon_reader_put x0 (ior .u16 (ishl .u16 (wr .u16 (vget t4.1 0)) 8) (wr .u16 (vget t4.1 1))) >>= fun t7 => if t7.1 = true then (colon_reader_put t7.2 (ior .u16 (ishl .u16 (wr .u16 (vget t4.1 2)) 8) (wr .u16 (vget t4.1 3))) >>= fun t9 => some (t9.1, t9.2)) else (some (false, t7.2))) else (some (false, x0)))
theorem colon_reader_tail_ok (x0 : S_colon_reader) (b0_ : Nat) (x1 : ByteArray) (r : Bool × S_colon_reader) (hF : colon_reader_tail x0 x1 = some r) (w : World) {w0 : World} {H_ G_ : List Ent} {f_ : Ent → List Ent} (hu_ : Upd H_ (cellsE b0_ (Cd.cs c_colon_reader x0) 210) f_ G_) (hw_ : Wd w0 H_ w) (hg_strconv_ErrRange : GV_strconv_ErrRange w0) (hg_strconv_ErrSyntax : GV_strconv_ErrSyntax w0) :
    Calls Tryz.prog 218 #[.pointer (some ⟨b0_, 0, none⟩), .string x1] w (fun e w' => e = .returned (.bool r.1) ∧ Wd w0 (f_ (cellsE b0_ (Cd.cs c_colon_reader r.2) 210)) w') := by
 unfold colon_reader_tail at hF
 refine calls_enter (l := [.pointer (some ⟨b0_, 0, none⟩), .string x1]) Tryz.func218 rfl rfl rfl ?_
 refine at_enter_ptr hu_ hw_ ?_
 refine at_weak [(0, _), (1, _)] ⟨rfl, rfl, trivial⟩ ?_
 refine sr ?_
 refine av rfl (r_assign rfl) ?_
 refine nwt [(0, _), (1, _)] ⟨rfl, rfl, trivial⟩ ?_
 refine at_seq ?_
 refine sr ?_
 refine av rfl (r_move rfl) ?_
 obtain ⟨t1, ht1, hF⟩ := of_bindM hF
 refine at_call0 Tryz.func219 rfl (by kernel_rfl) rfl rfl (fun w => hexes_ReadGroup_ok _ _ ht1 w) ?_
 refine av rfl (r_move rfl) ?_
 refine av rfl (r_extract rfl rfl) ?_
 refine av rfl (r_extract rfl rfl) ?_
 refine av rfl (r_assign rfl) ?_
 refine av rfl (r_assign rfl) ?_
 refine nws [(0, _), (1, _), (5, _), (6, _)] ⟨rfl, rfl, rfl, rfl, trivial⟩ ?_
 refine av rfl (r_move rfl) ?_
 refine av rfl (r_ieql rfl rfl) ?_
 refine nwt [(0, _), (1, _), (5, _), (15, _)] ⟨rfl, rfl, rfl, rfl, trivial⟩ ?_
 rcases of_ite hF with ⟨h2, hF⟩ | ⟨h2, hF⟩
 ·refine at_cond_true rfl h2 ?_
  refine sr ?_
  refine av rfl (r_move rfl) ?_
  refine av rfl (r_move rfl) ?_
  obtain ⟨t3, ht3, hF⟩ := of_bindM hF
  refine at_callP (E' := cellsE b0_ (Cd.cs c_colon_reader t3.2) 210) Tryz.func220 rfl (by kernel_rfl) rfl rfl (fun w hw => colon_reader_put_ok _ _ _ _ ht3 w (Upd.again hu_ _) hw) ?_
  refine av rfl (r_assign rfl) ?_
  refine nwt [(4, _)] ⟨rfl, trivial⟩ ?_
  refine rt ?_
  have K := of_some hF
  subst K
  exact at_return1 rfl rfl (fun w1 hw => ⟨rfl, hw⟩)
 ·refine at_cond_false rfl h2 ?_
  refine sns ?_
  refine av rfl (r_move rfl) ?_
  obtain ⟨t4, ht4, hF⟩ := of_bindM hF
  refine at_callB Tryz.func181 rfl (by kernel_rfl) rfl rfl (fun w hw => quad_Parse_ok _ _ ht4 w (hg_strconv_ErrRange.on hw.below) (hg_strconv_ErrSyntax.on hw.below)) ?_
  refine av rfl (r_move rfl) ?_
  refine av rfl (r_extract rfl rfl) ?_
  refine av rfl (r_extract rfl rfl) ?_
  refine at_alloc (cs := Cd.cs (cVec (cInt .u8) 4 (by decide)) (Vector.replicate 4 (0 : Int) : (Vector Int 4))) Tryz.zeroValue159 rfl rfl ?_
  intro b5
  refine at_store (c := (cVec (cInt .u8) 4 (by decide))) (z := t4.1) .z (Lens.whole _ _) Tryz.sizeOf159 rfl rfl rfl ?_
  refine av rfl (r_assign rfl) ?_
  refine nws [(0, _), (7, _), (8, _)] ⟨rfl, rfl, rfl, trivial⟩ ?_
  refine av rfl (r_move rfl) ?_
  refine av rfl (r_ieql rfl rfl) ?_
  refine av rfl (r_move rfl) ?_
  rcases of_ite hF with ⟨h6, hF⟩ | ⟨h6, hF⟩
  ·refine at_fix (g := 26) rfl h6 ?_
   refine at_guard_yes rfl rfl rfl ?_
   refine av rfl (r_move rfl) ?_
   refine at_guard_yes rfl rfl rfl ?_
   refine av rfl (r_idxArr Tryz.underlying159 Tryz.sizeOf5 rfl rfl (by decide)) ?_
   refine at_guard_yes rfl rfl rfl ?_
   refine av rfl (r_load_cell Tryz.isAgg5 rfl (lens_cell0 (c := (cInt .u8)) (y := vget t4.1 0) .z (Lens.comp (Lens.whole _ _) (fun z => vset t4.1 0 z) (Lens.vec (cInt .u8) (by decide) t4.1 0 (by decide))) rfl)) ?_
   refine at_guard_yes rfl rfl rfl ?_
   refine av rfl (r_conv Tryz.underlying5 Tryz.underlying191 rfl) ?_
   refine at_guard_yes rfl rfl rfl ?_
   refine av rfl (r_ishl rfl rfl (by decide)) ?_
   refine at_guard_yes rfl rfl rfl ?_
   refine av rfl (r_idxArr Tryz.underlying159 Tryz.sizeOf5 rfl rfl (by decide)) ?_
   refine at_guard_yes rfl rfl rfl ?_
   refine av rfl (r_load_cell Tryz.isAgg5 rfl (lens_cell0 (c := (cInt .u8)) (y := vget t4.1 1) .z (Lens.comp (Lens.whole _ _) (fun z => vset t4.1 1 z) (Lens.vec (cInt .u8) (by decide) t4.1 1 (by decide))) rfl)) ?_
   refine at_guard_yes rfl rfl rfl ?_
   refine av rfl (r_conv Tryz.underlying5 Tryz.underlying191 rfl) ?_
   refine at_guard_yes rfl rfl rfl ?_
   refine av rfl (r_ior rfl rfl) ?_
   refine at_guard_yes rfl rfl rfl ?_
   obtain ⟨t7, ht7, hF⟩ := of_bindM hF
   refine at_callP (E' := cellsE b0_ (Cd.cs c_colon_reader t7.2) 210) Tryz.func220 rfl (by kernel_rfl) rfl rfl (fun w hw => colon_reader_put_ok _ _ _ _ ht7 w (.s (Upd.again hu_ _)) hw) ?_
   refine av rfl (r_pick rfl rfl rfl) ?_
   refine av rfl (r_move rfl) ?_
   rcases of_ite hF with ⟨h8, hF⟩ | ⟨h8, hF⟩
   ·refine at_fix (g := 38) rfl h8 ?_
    refine at_guard_yes rfl rfl rfl ?_
    refine av rfl (r_move rfl) ?_
    refine at_guard_yes rfl rfl rfl ?_
    refine av rfl (r_idxArr Tryz.underlying159 Tryz.sizeOf5 rfl rfl (by decide)) ?_
    refine at_guard_yes rfl rfl rfl ?_
    refine av rfl (r_load_cell Tryz.isAgg5 rfl (lens_cell0 (c := (cInt .u8)) (y := vget t4.1 2) .z (Lens.comp (Lens.whole _ _) (fun z => vset t4.1 2 z) (Lens.vec (cInt .u8) (by decide) t4.1 2 (by decide))) rfl)) ?_
    refine at_guard_yes rfl rfl rfl ?_
    refine av rfl (r_conv Tryz.underlying5 Tryz.underlying191 rfl) ?_
    refine at_guard_yes rfl rfl rfl ?_
    refine av rfl (r_ishl rfl rfl (by decide)) ?_
    refine at_guard_yes rfl rfl rfl ?_
    refine av rfl (r_idxArr Tryz.underlying159 Tryz.sizeOf5 rfl rfl (by decide)) ?_
    refine at_guard_yes rfl rfl rfl ?_
    refine av rfl (r_load_cell Tryz.isAgg5 rfl (lens_cell0 (c := (cInt .u8)) (y := vget t4.1 3) .z (Lens.comp (Lens.whole _ _) (fun z => vset t4.1 3 z) (Lens.vec (cInt .u8) (by decide) t4.1 3 (by decide))) rfl)) ?_
    refine at_guard_yes rfl rfl rfl ?_
    refine av rfl (r_conv Tryz.underlying5 Tryz.underlying191 rfl) ?_
    refine at_guard_yes rfl rfl rfl ?_
    refine av rfl (r_ior rfl rfl) ?_
    refine at_guard_yes rfl rfl rfl ?_
    obtain ⟨t9, ht9, hF⟩ := of_bindM hF
    refine at_callP (E' := cellsE b0_ (Cd.cs c_colon_reader t9.2) 210) Tryz.func220 rfl (by kernel_rfl) rfl rfl (fun w hw => colon_reader_put_ok _ _ _ _ ht9 w (.s (Upd.again hu_ _)) hw) ?_
    refine av rfl (r_pick rfl rfl rfl) ?_
    refine av rfl (r_assign rfl) ?_
    refine at_nil ?_
    refine at_drop (H := _) .z ?_
    refine at_weak [(4, _)] ⟨rfl, trivial⟩ ?_
    refine at_then_normal ?_
    refine at_ret ?_
    have K := of_some hF
    subst K
    exact at_return1 rfl rfl (fun w1 hw => ⟨rfl, hw⟩)
   ·refine at_fix (g := 38) rfl h8 ?_
    refine at_guard_no rfl rfl rfl rfl rfl ?_
    refine at_guard_no rfl rfl rfl rfl rfl ?_
    refine at_guard_no rfl rfl rfl rfl rfl ?_
    refine at_guard_no rfl rfl rfl rfl rfl ?_
    refine at_guard_no rfl rfl rfl rfl rfl ?_
    refine at_guard_no rfl rfl rfl rfl rfl ?_
    refine at_guard_no rfl rfl rfl rfl rfl ?_
    refine at_guard_no rfl rfl rfl rfl rfl ?_
    refine at_guard_no rfl rfl rfl rfl rfl ?_
    refine at_guard_no rfl rfl rfl rfl rfl ?_
    refine av rfl (r_pick rfl rfl rfl) ?_
    refine av rfl (r_assign rfl) ?_
    refine at_nil ?_
    refine at_drop (H := _) .z ?_
    refine at_weak [(4, _)] ⟨rfl, trivial⟩ ?_
    refine at_then_normal ?_
    refine at_ret ?_
    have K := of_some hF
    subst K
    exact at_return1 rfl rfl (fun w1 hw => ⟨rfl, hw⟩)
  ·refine at_fix (g := 26) rfl h6 ?_
   refine at_guard_no rfl rfl rfl rfl rfl ?_
   refine at_guard_no rfl rfl rfl rfl rfl ?_
   refine at_guard_no rfl rfl rfl rfl rfl ?_
   refine at_guard_no rfl rfl rfl rfl rfl ?_
   refine at_guard_no rfl rfl rfl rfl rfl ?_
   refine at_guard_no rfl rfl rfl rfl rfl ?_
   refine at_guard_no rfl rfl rfl rfl rfl ?_
   refine at_guard_no rfl rfl rfl rfl rfl ?_
   refine at_guard_no rfl rfl rfl rfl rfl ?_
   refine at_guard_no rfl rfl rfl rfl rfl ?_
   refine av rfl (r_pick rfl rfl rfl) ?_
   refine av rfl (r_move rfl) ?_
   refine at_guard_no rfl rfl rfl rfl rfl ?_
   refine at_guard_no rfl rfl rfl rfl rfl ?_
   refine at_guard_no rfl rfl rfl rfl rfl ?_
   refine at_guard_no rfl rfl rfl rfl rfl ?_
   refine at_guard_no rfl rfl rfl rfl rfl ?_
   refine at_guard_no rfl rfl rfl rfl rfl ?_
   refine at_guard_no rfl rfl rfl rfl rfl ?_
   refine at_guard_no rfl rfl rfl rfl rfl ?_
   refine at_guard_no rfl rfl rfl rfl rfl ?_
   refine at_guard_no rfl rfl rfl rfl rfl ?_
   refine av rfl (r_pick rfl rfl rfl) ?_
   refine av rfl (r_assign rfl) ?_
   refine at_nil ?_
   refine at_drop (H := _) .z ?_
   refine at_weak [(4, _)] ⟨rfl, trivial⟩ ?_
   refine at_then_normal ?_
   refine at_ret ?_
   have K := of_some hF
   subst K
   exact at_return1 rfl rfl (fun w1 hw => ⟨rfl, hw⟩)
def colon_reader_read.l0 (i6 : ByteArray) (i7 : S_colon_reader) : Option (Bool × S_colon_reader) :=
  lines_Cut i6 58 >>= fun t8 => if (!t8.2.2) = true then (colon_reader_tail i7 t8.1 >>= fun t10 => some (t10.1, t10.2)) else (hexes_ReadGroup t8.1 >>= fun t11 => if (t11.2 != 0) = true then (some (false, i7)) else (colon_reader_put i7 t11.1 >>= fun t13 => if (!t13.1) = true then (some (false, t13.2)) else (strings_HasPrefix t8.2.1 (⟨#[58]⟩ : ByteArray) >>= fun t15 => if (!t15) = true then (colon_reader_read.l0 t8.2.1 t13.2) else (if (decide (t13.2.f_gap ≥ 0)) = true then (some (false, t13.2)) else (if (0 : Int) ≤ 1 ∧ 1 ≤ (t8.2.1.size : Int) ∧ (t8.2.1.size : Int) ≤ (t8.2.1.size : Int) then if (seq (t8.2.1.extract (Int.toNat 1) (Int.toNat (t8.2.1.size : Int))) (⟨#[]⟩ : ByteArray)) = true then (some (true, { t13.2 with f_gap := t13.2.f_n })) else (colon_reader_read.l0 (t8.2.1.extract (Int.toNat 1) (Int.toNat (t8.2.1.size : Int))) ({ t13.2 with f_gap := t13.2.f_n })) else none)))))
  partial_fixpoint
def colon_reader_read.l1 (i21 : ByteArray) (i22 : S_colon_reader) : Option (Bool × S_colon_reader) :=
  lines_Cut i21 58 >>= fun t23 => if (!t23.2.2) = true then (colon_reader_tail i22 t23.1 >>= fun t25 => some (t25.1, t25.2)) else (hexes_ReadGroup t23.1 >>= fun t26 => if (t26.2 != 0) = true then (some (false, i22)) else (colon_reader_put i22 t26.1 >>= fun t28 => if (!t28.1) = true then (some (false, t28.2)) else (strings_HasPrefix t23.2.1 (⟨#[58]⟩ : ByteArray) >>= fun t30 => if (!t30) = true then (colon_reader_read.l1 t23.2.1 t28.2) else (if (decide (t28.2.f_gap ≥ 0)) = true then (some (false, t28.2)) else (if (0 : Int) ≤ 1 ∧ 1 ≤ (t23.2.1.size : Int) ∧ (t23.2.1.size : Int) ≤ (t23.2.1.size : Int) then if (seq (t23.2.1.extract (Int.toNat 1) (Int.toNat (t23.2.1.size : Int))) (⟨#[]⟩ : ByteArray)) = true then (some (true, { t28.2 with f_gap := t28.2.f_n })) else (colon_reader_read.l1 (t23.2.1.extract (Int.toNat 1) (Int.toNat (t23.2.1.size : Int))) ({ t28.2 with f_gap := t28.2.f_n })) else none)))))
  partial_fixpoint
def colon_reader_read (x0 : S_colon_reader) (x1 : ByteArray) : Option (Bool × S_colon_reader) :=
  strings_HasPrefix x1 (⟨#[58, 58]⟩ : ByteArray) >>= fun t1 => if t1 = true then (if (0 : Int) ≤ 2 ∧ 2 ≤ (x1.size : Int) ∧ (x1.size : Int) ≤ (x1.size : Int) then if (seq (x1.extract (Int.toNat 2) (Int.toNat (x1.size : Int))) (⟨#[]⟩ : ByteArray)) = true then (some (true, { x0 with f_gap := 0 })) else (colon_reader_read.l0 (x1.extract (Int.toNat 2) (Int.toNat (x1.size : Int))) ({ x0 with f_gap := 0 }) >>= fun q5 => some q5) else none) else (colon_reader_read.l1 x1 x0 >>= fun q20 => some q20)
theorem colon_reader_read_ok (x0 : S_colon_reader) (b0_ : Nat) (x1 : ByteArray) (r : Bool × S_colon_reader) (hF : colon_reader_read x0 x1 = some r) (w : World) {w0 : World} {H_ G_ : List Ent} {f_ : Ent → List Ent} (hu_ : Upd H_ (cellsE b0_ (Cd.cs c_colon_reader x0) 210) f_ G_) (hw_ : Wd w0 H_ w) (hg_strconv_ErrRange : GV_strconv_ErrRange w0) (hg_strconv_ErrSyntax : GV_strconv_ErrSyntax w0) :
    Calls Tryz.prog 197 #[.pointer (some ⟨b0_, 0, none⟩), .string x1] w (fun e w' => e = .returned (.bool r.1) ∧ Wd w0 (f_ (cellsE b0_ (Cd.cs c_colon_reader r.2) 210)) w') := by
 unfold colon_reader_read at hF
 refine calls_enter (l := [.pointer (some ⟨b0_, 0, none⟩), .string x1]) Tryz.func197 rfl rfl rfl ?_
 refine at_enter_ptr hu_ hw_ ?_
 refine at_weak [(0, _), (1, _)] ⟨rfl, rfl, trivial⟩ ?_
 refine sr ?_
 refine av rfl (r_assign rfl) ?_
 refine nwt [(0, _), (1, _)] ⟨rfl, rfl, trivial⟩ ?_
 refine at_seq ?_
 refine sr ?_
 refine av rfl (r_move rfl) ?_
 obtain ⟨t1, ht1, hF⟩ := of_bindM hF
 refine at_call0 Tryz.func217 rfl (by kernel_rfl) rfl rfl (fun w => strings_HasPrefix_ok _ _ _ ht1 w) ?_
 refine nwt [(0, _), (1, _), (11, _)] ⟨rfl, rfl, rfl, trivial⟩ ?_
 rcases of_ite hF with ⟨h2, hF⟩ | ⟨h2, hF⟩
 ·refine at_cond_true rfl h2 ?_
  refine sr ?_
  refine av rfl (r_move rfl) ?_
  refine av rfl (r_nilCheck rfl) ?_
  refine av rfl (r_fieldAddr (fo := 9) Tryz.underlying210 rfl rfl (fun w => ⟨_, Tryz.sizeOf3 w⟩) rfl) ?_
  refine at_store (c := (cInt .i64)) (z := 0) (Upd.again hu_ _) (Lens.comp (Lens.whole _ _) (fun z => { x0 with f_gap := z }) (c_colon_reader_f_gap x0)) Tryz.sizeOf3 rfl rfl rfl ?_
  refine nws [(0, _), (1, _)] ⟨rfl, rfl, trivial⟩ ?_
  refine av rfl (r_move rfl) ?_
  obtain ⟨h3, hF⟩ := of_guard hF
  refine av rfl (r_slice_str Tryz.underlying9 rfl ⟨_, rfl⟩ rfl h3) ?_
  refine av rfl (r_assign rfl) ?_
  refine nws [(0, _), (1, _)] ⟨rfl, rfl, trivial⟩ ?_
  refine av rfl (r_move rfl) ?_
  refine av rfl (r_seql rfl rfl) ?_
  refine nwt [(0, _), (1, _), (18, _)] ⟨rfl, rfl, rfl, trivial⟩ ?_
  rcases of_ite hF with ⟨h4, hF⟩ | ⟨h4, hF⟩
  ·refine at_cond_true rfl h4 ?_
   refine sr ?_
   refine av rfl (r_assign rfl) ?_
   refine nwt [(4, _)] ⟨rfl, trivial⟩ ?_
   refine rt ?_
   have K := of_some hF
   subst K
   exact at_return1 rfl rfl (fun w1 hw => ⟨rfl, hw⟩)
  ·refine at_cond_false rfl h4 ?_
   refine sn ?_
   refine at_block ?_
   obtain ⟨q5, hq5, hF⟩ := of_bindM hF
   refine at_weak [(0, _), (1, _)] ⟨rfl, rfl, trivial⟩ ?_
   refine at_loop_only (r := r) (q := q5) ?_ ?_
   ·intro K
    refine colon_reader_read.l0.partial_correctness  (motive := fun i6 i7 x => x = r → Round (fun Y => At 63 [(0, .pointer (some ⟨b0_, 0, none⟩)), (1, .string i6)] (Wd w0 (f_ (cellsE b0_ (Cd.cs c_colon_reader i7) 210))) Y) _ _ _) ?_ _ _ _ hq5 K
    ·clear K hF
     intro g ih i6 i7 x hF K
     refine at_round ?_
     refine at_block ?_
     refine sr ?_
     refine av rfl (r_move rfl) ?_
     obtain ⟨t8, ht8, hF⟩ := of_bindM hF
     refine at_callB Tryz.func86 rfl (by kernel_rfl) rfl rfl (fun w hw => lines_Cut_ok _ _ _ ht8 w) ?_
     refine av rfl (r_move rfl) ?_
     refine av rfl (r_extract rfl rfl) ?_
     refine av rfl (r_extract rfl rfl) ?_
     refine av rfl (r_extract rfl rfl) ?_
     refine av rfl (r_assign rfl) ?_
     refine av rfl (r_assign rfl) ?_
     refine av rfl (r_assign rfl) ?_
     refine nwt [(0, _), (5, _), (6, _), (7, _)] ⟨rfl, rfl, rfl, rfl, trivial⟩ ?_
     refine at_seq ?_
     refine sr ?_
     refine av rfl (r_move rfl) ?_
     refine av rfl (r_not rfl) ?_
     refine nwt [(0, _), (5, _), (6, _), (26, _)] ⟨rfl, rfl, rfl, rfl, trivial⟩ ?_
     rcases of_ite hF with ⟨h9, hF⟩ | ⟨h9, hF⟩
     ·refine at_cond_true rfl h9 ?_
      refine sr ?_
      refine av rfl (r_move rfl) ?_
      refine av rfl (r_move rfl) ?_
      obtain ⟨t10, ht10, hF⟩ := of_bindM hF
      refine at_callP (E' := cellsE b0_ (Cd.cs c_colon_reader t10.2) 210) Tryz.func218 rfl (by kernel_rfl) rfl rfl (fun w hw => colon_reader_tail_ok _ _ _ _ ht10 w (Upd.again hu_ _) hw hg_strconv_ErrRange hg_strconv_ErrSyntax) ?_
      refine av rfl (r_assign rfl) ?_
      refine nwt [(4, _)] ⟨rfl, trivial⟩ ?_
      refine at_ret ?_
      refine at_then_ret (at_blk_ret (at_then_ret (at_blk_ret ?_)))
      obtain rfl := of_some hF
      subst K
      exact at_return1 rfl rfl (fun w1 hw => ⟨rfl, hw⟩)
     ·refine at_cond_false rfl h9 ?_
      refine sns ?_
      refine av rfl (r_move rfl) ?_
      obtain ⟨t11, ht11, hF⟩ := of_bindM hF
      refine at_call0 Tryz.func219 rfl (by kernel_rfl) rfl rfl (fun w => hexes_ReadGroup_ok _ _ ht11 w) ?_
      refine av rfl (r_move rfl) ?_
      refine av rfl (r_extract rfl rfl) ?_
      refine av rfl (r_extract rfl rfl) ?_
      refine av rfl (r_assign rfl) ?_
      refine av rfl (r_assign rfl) ?_
      refine nwt [(0, _), (6, _), (8, _), (9, _)] ⟨rfl, rfl, rfl, rfl, trivial⟩ ?_
      refine at_seq ?_
      refine sr ?_
      refine av rfl (r_move rfl) ?_
      refine av rfl (r_ineq rfl rfl) ?_
      refine av rfl (r_move rfl) ?_
      rcases of_ite hF with ⟨h12, hF⟩ | ⟨h12, hF⟩
      ·refine at_fix (g := 37) rfl h12 ?_
       refine at_guard_no rfl rfl rfl rfl rfl ?_
       refine at_guard_no rfl rfl rfl rfl rfl ?_
       refine at_guard_no rfl rfl rfl rfl rfl ?_
       refine at_guard_no rfl rfl rfl rfl rfl ?_
       refine av rfl (r_pick rfl rfl rfl) ?_
       refine nwt [(0, _), (6, _), (42, _)] ⟨rfl, rfl, rfl, trivial⟩ ?_
       refine at_cond_true rfl rfl ?_
       refine sr ?_
       refine av rfl (r_assign rfl) ?_
       refine nwt [(4, _)] ⟨rfl, trivial⟩ ?_
       refine at_ret ?_
       refine at_then_ret (at_blk_ret (at_then_ret (at_blk_ret ?_)))
       obtain rfl := of_some hF
       subst K
       exact at_return1 rfl rfl (fun w1 hw => ⟨rfl, hw⟩)
      ·refine at_fix (g := 37) rfl h12 ?_
       refine at_guard_yes rfl rfl rfl ?_
       refine av rfl (r_move rfl) ?_
       refine at_guard_yes rfl rfl rfl ?_
       refine av rfl (r_move rfl) ?_
       refine at_guard_yes rfl rfl rfl ?_
       obtain ⟨t13, ht13, hF⟩ := of_bindM hF
       refine at_callP (E' := cellsE b0_ (Cd.cs c_colon_reader t13.2) 210) Tryz.func220 rfl (by kernel_rfl) rfl rfl (fun w hw => colon_reader_put_ok _ _ _ _ ht13 w (Upd.again hu_ _) hw) ?_
       refine at_guard_yes rfl rfl rfl ?_
       refine av rfl (r_not rfl) ?_
       refine av rfl (r_pick rfl rfl rfl) ?_
       refine nwt [(0, _), (6, _), (42, _)] ⟨rfl, rfl, rfl, trivial⟩ ?_
       rcases of_ite hF with ⟨h14, hF⟩ | ⟨h14, hF⟩
       ·refine at_cond_true rfl h14 ?_
        refine sr ?_
        refine av rfl (r_assign rfl) ?_
        refine nwt [(4, _)] ⟨rfl, trivial⟩ ?_
        refine at_ret ?_
        refine at_then_ret (at_blk_ret (at_then_ret (at_blk_ret ?_)))
        obtain rfl := of_some hF
        subst K
        exact at_return1 rfl rfl (fun w1 hw => ⟨rfl, hw⟩)
       ·refine at_cond_false rfl h14 ?_
        refine sns ?_
        refine av rfl (r_move rfl) ?_
        refine av rfl (r_assign rfl) ?_
        refine nwt [(0, _), (1, _)] ⟨rfl, rfl, trivial⟩ ?_
        refine at_seq ?_
        refine sr ?_
        refine av rfl (r_move rfl) ?_
        obtain ⟨t15, ht15, hF⟩ := of_bindM hF
        refine at_call0 Tryz.func217 rfl (by kernel_rfl) rfl rfl (fun w => strings_HasPrefix_ok _ _ _ ht15 w) ?_
        refine av rfl (r_not rfl) ?_
        refine nwt [(0, _), (1, _), (46, _)] ⟨rfl, rfl, rfl, trivial⟩ ?_
        rcases of_ite hF with ⟨h16, hF⟩ | ⟨h16, hF⟩
        ·refine at_cond_true rfl h16 ?_
         refine at_exit ?_
         refine at_then_exit (at_blk_same (at_then_normal ?_))
         exact at_weak_k (ih _ _ _ hF K) ⟨rfl, rfl, trivial⟩
        ·refine at_cond_false rfl h16 ?_
         refine sn ?_
         refine at_seq ?_
         refine sr ?_
         refine av rfl (r_move rfl) ?_
         refine av rfl (r_nilCheck rfl) ?_
         refine av rfl (r_fieldAddr (fo := 9) Tryz.underlying210 rfl rfl (fun w => ⟨_, Tryz.sizeOf3 w⟩) rfl) ?_
         refine av rfl (r_load_cell Tryz.isAgg3 rfl (lens_cell0 (c := (cInt .i64)) (y := t13.2.f_gap) (Upd.again hu_ _) (Lens.comp (Lens.whole _ _) (fun z => { t13.2 with f_gap := z }) (c_colon_reader_f_gap t13.2)) rfl)) ?_
         refine av rfl (r_igeq rfl rfl) ?_
         refine nwt [(0, _), (1, _), (51, _)] ⟨rfl, rfl, rfl, trivial⟩ ?_
         rcases of_ite hF with ⟨h17, hF⟩ | ⟨h17, hF⟩
         ·refine at_cond_true rfl h17 ?_
          refine sr ?_
          refine av rfl (r_assign rfl) ?_
          refine nwt [(4, _)] ⟨rfl, trivial⟩ ?_
          refine at_ret ?_
          refine at_then_ret (at_blk_ret (at_then_ret (at_blk_ret ?_)))
          obtain rfl := of_some hF
          subst K
          exact at_return1 rfl rfl (fun w1 hw => ⟨rfl, hw⟩)
         ·refine at_cond_false rfl h17 ?_
          refine sns ?_
          refine av rfl (r_move rfl) ?_
          refine av rfl (r_move rfl) ?_
          refine av rfl (r_nilCheck rfl) ?_
          refine av rfl (r_fieldAddr (fo := 8) Tryz.underlying210 rfl rfl (fun w => ⟨_, Tryz.sizeOf3 w⟩) rfl) ?_
          refine av rfl (r_load_cell Tryz.isAgg3 rfl (lens_cell0 (c := (cInt .i64)) (y := t13.2.f_n) (Upd.again hu_ _) (Lens.comp (Lens.whole _ _) (fun z => { t13.2 with f_n := z }) (c_colon_reader_f_n t13.2)) rfl)) ?_
          refine av rfl (r_nilCheck rfl) ?_
          refine av rfl (r_fieldAddr (fo := 9) Tryz.underlying210 rfl rfl (fun w => ⟨_, Tryz.sizeOf3 w⟩) rfl) ?_
          refine at_store (c := (cInt .i64)) (z := t13.2.f_n) (Upd.again hu_ _) (Lens.comp (Lens.whole _ _) (fun z => { t13.2 with f_gap := z }) (c_colon_reader_f_gap t13.2)) Tryz.sizeOf3 rfl rfl rfl ?_
          refine nws [(0, _), (1, _)] ⟨rfl, rfl, trivial⟩ ?_
          refine av rfl (r_move rfl) ?_
          obtain ⟨h18, hF⟩ := of_guard hF
          refine av rfl (r_slice_str Tryz.underlying9 rfl ⟨_, rfl⟩ rfl h18) ?_
          refine av rfl (r_assign rfl) ?_
          refine nws [(0, _), (1, _)] ⟨rfl, rfl, trivial⟩ ?_
          refine av rfl (r_move rfl) ?_
          refine av rfl (r_seql rfl rfl) ?_
          refine nwt [(0, _), (1, _), (62, _)] ⟨rfl, rfl, rfl, trivial⟩ ?_
          rcases of_ite hF with ⟨h19, hF⟩ | ⟨h19, hF⟩
          ·refine at_cond_true rfl h19 ?_
           refine sr ?_
           refine av rfl (r_assign rfl) ?_
           refine nwt [(4, _)] ⟨rfl, trivial⟩ ?_
           refine at_ret ?_
           refine at_blk_ret (at_then_ret (at_blk_ret ?_))
           obtain rfl := of_some hF
           subst K
           exact at_return1 rfl rfl (fun w1 hw => ⟨rfl, hw⟩)
          ·refine at_cond_false rfl h19 ?_
           refine at_skip ?_
           refine at_blk_normal (at_then_normal ?_)
           exact at_weak_k (ih _ _ _ hF K) ⟨rfl, rfl, trivial⟩
   ·exact of_some hF
 ·refine at_cond_false rfl h2 ?_
  refine sn ?_
  refine at_block ?_
  obtain ⟨q20, hq20, hF⟩ := of_bindM hF
  refine at_weak [(0, _), (1, _)] ⟨rfl, rfl, trivial⟩ ?_
  refine at_loop_only (r := r) (q := q20) ?_ ?_
  ·intro K
   refine colon_reader_read.l1.partial_correctness  (motive := fun i21 i22 x => x = r → Round (fun Y => At 63 [(0, .pointer (some ⟨b0_, 0, none⟩)), (1, .string i21)] (Wd w0 (f_ (cellsE b0_ (Cd.cs c_colon_reader i22) 210))) Y) _ _ _) ?_ _ _ _ hq20 K
   ·clear K hF
    intro g ih i21 i22 x hF K
    refine at_round ?_
    refine at_block ?_
    refine sr ?_
    refine av rfl (r_move rfl) ?_
    obtain ⟨t23, ht23, hF⟩ := of_bindM hF
    refine at_callB Tryz.func86 rfl (by kernel_rfl) rfl rfl (fun w hw => lines_Cut_ok _ _ _ ht23 w) ?_
    refine av rfl (r_move rfl) ?_
    refine av rfl (r_extract rfl rfl) ?_
    refine av rfl (r_extract rfl rfl) ?_
    refine av rfl (r_extract rfl rfl) ?_
    refine av rfl (r_assign rfl) ?_
    refine av rfl (r_assign rfl) ?_
    refine av rfl (r_assign rfl) ?_
    refine nwt [(0, _), (5, _), (6, _), (7, _)] ⟨rfl, rfl, rfl, rfl, trivial⟩ ?_
    refine at_seq ?_
    refine sr ?_
    refine av rfl (r_move rfl) ?_
    refine av rfl (r_not rfl) ?_
    refine nwt [(0, _), (5, _), (6, _), (26, _)] ⟨rfl, rfl, rfl, rfl, trivial⟩ ?_
    rcases of_ite hF with ⟨h24, hF⟩ | ⟨h24, hF⟩
    ·refine at_cond_true rfl h24 ?_
     refine sr ?_
     refine av rfl (r_move rfl) ?_
     refine av rfl (r_move rfl) ?_
     obtain ⟨t25, ht25, hF⟩ := of_bindM hF
     refine at_callP (E' := cellsE b0_ (Cd.cs c_colon_reader t25.2) 210) Tryz.func218 rfl (by kernel_rfl) rfl rfl (fun w hw => colon_reader_tail_ok _ _ _ _ ht25 w (Upd.again hu_ _) hw hg_strconv_ErrRange hg_strconv_ErrSyntax) ?_
     refine av rfl (r_assign rfl) ?_
     refine nwt [(4, _)] ⟨rfl, trivial⟩ ?_
     refine at_ret ?_
     refine at_then_ret (at_blk_ret (at_then_ret (at_blk_ret ?_)))
     obtain rfl := of_some hF
     subst K
     exact at_return1 rfl rfl (fun w1 hw => ⟨rfl, hw⟩)
    ·refine at_cond_false rfl h24 ?_
     refine sns ?_
     refine av rfl (r_move rfl) ?_
     obtain ⟨t26, ht26, hF⟩ := of_bindM hF
     refine at_call0 Tryz.func219 rfl (by kernel_rfl) rfl rfl (fun w => hexes_ReadGroup_ok _ _ ht26 w) ?_
     refine av rfl (r_move rfl) ?_
     refine av rfl (r_extract rfl rfl) ?_
     refine av rfl (r_extract rfl rfl) ?_
     refine av rfl (r_assign rfl) ?_
     refine av rfl (r_assign rfl) ?_
     refine nwt [(0, _), (6, _), (8, _), (9, _)] ⟨rfl, rfl, rfl, rfl, trivial⟩ ?_
     refine at_seq ?_
     refine sr ?_
     refine av rfl (r_move rfl) ?_
     refine av rfl (r_ineq rfl rfl) ?_
     refine av rfl (r_move rfl) ?_
     rcases of_ite hF with ⟨h27, hF⟩ | ⟨h27, hF⟩
     ·refine at_fix (g := 37) rfl h27 ?_
      refine at_guard_no rfl rfl rfl rfl rfl ?_
      refine at_guard_no rfl rfl rfl rfl rfl ?_
      refine at_guard_no rfl rfl rfl rfl rfl ?_
      refine at_guard_no rfl rfl rfl rfl rfl ?_
      refine av rfl (r_pick rfl rfl rfl) ?_
      refine nwt [(0, _), (6, _), (42, _)] ⟨rfl, rfl, rfl, trivial⟩ ?_
      refine at_cond_true rfl rfl ?_
      refine sr ?_
      refine av rfl (r_assign rfl) ?_
      refine nwt [(4, _)] ⟨rfl, trivial⟩ ?_
      refine at_ret ?_
      refine at_then_ret (at_blk_ret (at_then_ret (at_blk_ret ?_)))
      obtain rfl := of_some hF
      subst K
      exact at_return1 rfl rfl (fun w1 hw => ⟨rfl, hw⟩)
     ·refine at_fix (g := 37) rfl h27 ?_
      refine at_guard_yes rfl rfl rfl ?_
      refine av rfl (r_move rfl) ?_
      refine at_guard_yes rfl rfl rfl ?_
      refine av rfl (r_move rfl) ?_
      refine at_guard_yes rfl rfl rfl ?_
      obtain ⟨t28, ht28, hF⟩ := of_bindM hF
      refine at_callP (E' := cellsE b0_ (Cd.cs c_colon_reader t28.2) 210) Tryz.func220 rfl (by kernel_rfl) rfl rfl (fun w hw => colon_reader_put_ok _ _ _ _ ht28 w (Upd.again hu_ _) hw) ?_
      refine at_guard_yes rfl rfl rfl ?_
      refine av rfl (r_not rfl) ?_
      refine av rfl (r_pick rfl rfl rfl) ?_
      refine nwt [(0, _), (6, _), (42, _)] ⟨rfl, rfl, rfl, trivial⟩ ?_
      rcases of_ite hF with ⟨h29, hF⟩ | ⟨h29, hF⟩
      ·refine at_cond_true rfl h29 ?_
       refine sr ?_
       refine av rfl (r_assign rfl) ?_
       refine nwt [(4, _)] ⟨rfl, trivial⟩ ?_
       refine at_ret ?_
       refine at_then_ret (at_blk_ret (at_then_ret (at_blk_ret ?_)))
       obtain rfl := of_some hF
       subst K
       exact at_return1 rfl rfl (fun w1 hw => ⟨rfl, hw⟩)
      ·refine at_cond_false rfl h29 ?_
       refine sns ?_
       refine av rfl (r_move rfl) ?_
       refine av rfl (r_assign rfl) ?_
       refine nwt [(0, _), (1, _)] ⟨rfl, rfl, trivial⟩ ?_
       refine at_seq ?_
       refine sr ?_
       refine av rfl (r_move rfl) ?_
       obtain ⟨t30, ht30, hF⟩ := of_bindM hF
       refine at_call0 Tryz.func217 rfl (by kernel_rfl) rfl rfl (fun w => strings_HasPrefix_ok _ _ _ ht30 w) ?_
       refine av rfl (r_not rfl) ?_
       refine nwt [(0, _), (1, _), (46, _)] ⟨rfl, rfl, rfl, trivial⟩ ?_
       rcases of_ite hF with ⟨h31, hF⟩ | ⟨h31, hF⟩
       ·refine at_cond_true rfl h31 ?_
        refine at_exit ?_
        refine at_then_exit (at_blk_same (at_then_normal ?_))
        exact at_weak_k (ih _ _ _ hF K) ⟨rfl, rfl, trivial⟩
       ·refine at_cond_false rfl h31 ?_
        refine sn ?_
        refine at_seq ?_
        refine sr ?_
        refine av rfl (r_move rfl) ?_
        refine av rfl (r_nilCheck rfl) ?_
        refine av rfl (r_fieldAddr (fo := 9) Tryz.underlying210 rfl rfl (fun w => ⟨_, Tryz.sizeOf3 w⟩) rfl) ?_
        refine av rfl (r_load_cell Tryz.isAgg3 rfl (lens_cell0 (c := (cInt .i64)) (y := t28.2.f_gap) (Upd.again hu_ _) (Lens.comp (Lens.whole _ _) (fun z => { t28.2 with f_gap := z }) (c_colon_reader_f_gap t28.2)) rfl)) ?_
        refine av rfl (r_igeq rfl rfl) ?_
        refine nwt [(0, _), (1, _), (51, _)] ⟨rfl, rfl, rfl, trivial⟩ ?_
        rcases of_ite hF with ⟨h32, hF⟩ | ⟨h32, hF⟩
        ·refine at_cond_true rfl h32 ?_
         refine sr ?_
         refine av rfl (r_assign rfl) ?_
         refine nwt [(4, _)] ⟨rfl, trivial⟩ ?_
         refine at_ret ?_
         refine at_then_ret (at_blk_ret (at_then_ret (at_blk_ret ?_)))
         obtain rfl := of_some hF
         subst K
         exact at_return1 rfl rfl (fun w1 hw => ⟨rfl, hw⟩)
        ·refine at_cond_false rfl h32 ?_
         refine sns ?_
         refine av rfl (r_move rfl) ?_
         refine av rfl (r_move rfl) ?_
         refine av rfl (r_nilCheck rfl) ?_
         refine av rfl (r_fieldAddr (fo := 8) Tryz.underlying210 rfl rfl (fun w => ⟨_, Tryz.sizeOf3 w⟩) rfl) ?_
         refine av rfl (r_load_cell Tryz.isAgg3 rfl (lens_cell0 (c := (cInt .i64)) (y := t28.2.f_n) (Upd.again hu_ _) (Lens.comp (Lens.whole _ _) (fun z => { t28.2 with f_n := z }) (c_colon_reader_f_n t28.2)) rfl)) ?_
         refine av rfl (r_nilCheck rfl) ?_
         refine av rfl (r_fieldAddr (fo := 9) Tryz.underlying210 rfl rfl (fun w => ⟨_, Tryz.sizeOf3 w⟩) rfl) ?_
         refine at_store (c := (cInt .i64)) (z := t28.2.f_n) (Upd.again hu_ _) (Lens.comp (Lens.whole _ _) (fun z => { t28.2 with f_gap := z }) (c_colon_reader_f_gap t28.2)) Tryz.sizeOf3 rfl rfl rfl ?_
         refine nws [(0, _), (1, _)] ⟨rfl, rfl, trivial⟩ ?_
         refine av rfl (r_move rfl) ?_
         obtain ⟨h33, hF⟩ := of_guard hF
         refine av rfl (r_slice_str Tryz.underlying9 rfl ⟨_, rfl⟩ rfl h33) ?_
         refine av rfl (r_assign rfl) ?_
         refine nws [(0, _), (1, _)] ⟨rfl, rfl, trivial⟩ ?_
         refine av rfl (r_move rfl) ?_
         refine av rfl (r_seql rfl rfl) ?_
         refine nwt [(0, _), (1, _), (62, _)] ⟨rfl, rfl, rfl, trivial⟩ ?_
         rcases of_ite hF with ⟨h34, hF⟩ | ⟨h34, hF⟩
         ·refine at_cond_true rfl h34 ?_
          refine sr ?_
          refine av rfl (r_assign rfl) ?_
          refine nwt [(4, _)] ⟨rfl, trivial⟩ ?_
          refine at_ret ?_
          refine at_blk_ret (at_then_ret (at_blk_ret ?_))
          obtain rfl := of_some hF
          subst K
          exact at_return1 rfl rfl (fun w1 hw => ⟨rfl, hw⟩)
         ·refine at_cond_false rfl h34 ?_
          refine at_skip ?_
          refine at_blk_normal (at_then_normal ?_)
          exact at_weak_k (ih _ _ _ hF K) ⟨rfl, rfl, trivial⟩
  ·exact of_some hF
def colon_reader_spread (x0 : S_colon_reader) : Option ((Vector Int 8) × Bool × S_colon_reader) :=
  if (decide (x0.f_gap < 0)) = true then (some (x0.f_g, (x0.f_n == 8), x0)) else (if (x0.f_n == 8) = true then (some (x0.f_g, false, x0)) else (if (0 : Int) ≤ 0 ∧ 0 ≤ x0.f_gap ∧ x0.f_gap ≤ (8 : Int) then if (0 : Int) ≤ wr .i64 ((wr .i64 (8 - x0.f_n)) + x0.f_gap) ∧ wr .i64 ((wr .i64 (8 - x0.f_n)) + x0.f_gap) ≤ 8 ∧ 8 ≤ (8 : Int) then if (0 : Int) ≤ x0.f_gap ∧ x0.f_gap ≤ x0.f_n ∧ x0.f_n ≤ (8 : Int) then some (vcopy (vcopy (Vector.replicate 8 (0 : Int) : (Vector Int 8)) (Int.toNat 0) (List.take (Int.toNat (8 - 0)) (lsub (Vector.toList x0.f_g) 0 x0.f_gap))) (Int.toNat (wr .i64 ((wr .i64 (8 - x0.f_n)) + x0.f_gap))) (List.take (Int.toNat (8 - wr .i64 ((wr .i64 (8 - x0.f_n)) + x0.f_gap))) (lsub (Vector.toList x0.f_g) x0.f_gap x0.f_n)), true, x0) else none else none else none))
set_option maxHeartbeats 3200000 in
theorem colon_reader_spread_ok (x0 : S_colon_reader) (b0_ : Nat) (r : (Vector Int 8) × Bool × S_colon_reader) (hF : colon_reader_spread x0 = some r) (w : World) {w0 : World} {H_ G_ : List Ent} {f_ : Ent → List Ent} (hu_ : Upd H_ (cellsE b0_ (Cd.cs c_colon_reader x0) 210) f_ G_) (hw_ : Wd w0 H_ w) :
    Calls Tryz.prog 198 #[.pointer (some ⟨b0_, 0, none⟩)] w (fun e w' => e = .returned (.tuple #[.agg (Cd.cs (cVec (cInt .u16) 8 (by decide)) r.1).toArray, .bool r.2.1]) ∧ Wd w0 (f_ (cellsE b0_ (Cd.cs c_colon_reader r.2.2) 210)) w') := by
 unfold colon_reader_spread at hF
 refine calls_enter (l := [.pointer (some ⟨b0_, 0, none⟩)]) Tryz.func198 rfl rfl rfl ?_
 refine at_enter_ptr hu_ hw_ ?_
 refine at_weak [(0, _)] ⟨rfl, trivial⟩ ?_
 refine sr ?_
 refine at_alloc (cs := Cd.cs (cVec (cInt .u16) 8 (by decide)) (Vector.replicate 8 (0 : Int) : (Vector Int 8))) Tryz.zeroValue208 rfl rfl ?_
 intro b1
 refine av rfl (r_assign rfl) ?_
 refine nwt [(0, _), (2, _)] ⟨rfl, rfl, trivial⟩ ?_
 refine at_seq ?_
 refine sr ?_
 refine av rfl (r_move rfl) ?_
 refine av rfl (r_nilCheck rfl) ?_
 refine av rfl (r_fieldAddr (fo := 9) Tryz.underlying210 rfl rfl (fun w => ⟨_, Tryz.sizeOf3 w⟩) rfl) ?_
 refine av rfl (r_load_cell Tryz.isAgg3 rfl (lens_cell0 (c := (cInt .i64)) (y := x0.f_gap) (.s (Upd.again hu_ _)) (Lens.comp (Lens.whole _ _) (fun z => { x0 with f_gap := z }) (c_colon_reader_f_gap x0)) rfl)) ?_
 refine av rfl (r_ilss rfl rfl) ?_
 refine nwt [(0, _), (2, _), (9, _)] ⟨rfl, rfl, rfl, trivial⟩ ?_
 rcases of_ite hF with ⟨h2, hF⟩ | ⟨h2, hF⟩
 ·refine at_cond_true rfl h2 ?_
  refine at_seq ?_
  refine at_weak [(0, _), (2, _)] ⟨rfl, rfl, trivial⟩ ?_
  refine at_inv [.q 10 (fun g3 => .pointer (some ⟨b0_, 0, none⟩)) [] 0 0, .q 11 (fun g3 => .pointer (some ⟨b0_, 0, none⟩)) [0] 0 0, .q 12 (fun g3 => .pointer (some ⟨b0_, 0 + 0, none⟩)) [1] 0 0, .q 13 (fun g3 => .agg (Cd.cs (cVec (cInt .u16) 8 (by decide)) x0.f_g).toArray) [2] 0 0, .q 14 (fun g3 => .pointer (some ⟨b0_, 0, none⟩)) [] 0 1, .q 15 (fun g3 => .pointer (some ⟨b0_, 0, none⟩)) [4] 0 1, .q 16 (fun g3 => .pointer (some ⟨b0_, 0 + 8, none⟩)) [5] 0 1, .q 17 (fun g3 => .int .i64 x0.f_n) [6] 0 1, .q 18 (fun g3 => .bool (x0.f_n == 8)) [7] 0 1, .st 0 none [3], .q 3 (fun g3 => .bool (x0.f_n == 8)) [8] 1 1] (fun g3 s => match s with | 0 => (Wd w0 (cellsE b1 (Cd.cs (cVec (cInt .u16) 8 (by decide)) (Vector.replicate 8 (0 : Int) : (Vector Int 8))) 208 :: f_ (cellsE b0_ (Cd.cs c_colon_reader x0) 210))) | _ => (Wd w0 (cellsE b1 (Cd.cs (cVec (cInt .u16) 8 (by decide)) x0.f_g) 208 :: f_ (cellsE b0_ (Cd.cs c_colon_reader x0) 210)))) 1 (by kernel_rfl) (by kernel_rfl) (by kernel_rfl) (by kernel_rfl) (by kernel_rfl) ⟨fun _ _ _ => rfl, fun _ _ _ => rfl, fun _ _ _ => rfl, fun _ _ _ => rfl, fun _ _ _ => rfl, fun _ _ _ => rfl, fun _ _ _ => rfl, fun _ _ _ => rfl, fun _ _ _ => rfl, fun _ _ _ => rfl, fun _ _ _ => rfl, trivial⟩ (by kernel_rfl) (fun _ h => ⟨fun _ => (0, none, 0, none), h.drew⟩) ⟨?_, ?_, ?_, ?_, ?_, ?_, ?_, ?_, ?_, ?_, ?_, trivial⟩ ?_
  ·intro Lx g3 s K hl hh k
   show At 63 ((0, _) :: (2, _) :: Lx) _ _
   refine av rfl (r_move rfl) ?_
   exact at_nil k
  ·intro Lx g3 s K hl hh k
   show At 63 ((10, _) :: (0, _) :: (2, _) :: Lx) _ _
   refine av rfl (r_nilCheck rfl) ?_
   exact at_nil k
  ·intro Lx g3 s K hl hh k
   show At 63 ((11, _) :: (0, _) :: (2, _) :: Lx) _ _
   refine av rfl (r_fieldAddr (fo := 0) Tryz.underlying210 rfl rfl (fun w => ⟨_, Tryz.sizeOf208 w⟩) rfl) ?_
   exact at_nil k
  ·intro Lx g3 s K hl hh k
   show At 63 ((12, _) :: (0, _) :: (2, _) :: Lx) _ _
   obtain rfl : s = 0 := by omega
   refine av rfl (r_load_aggc (c := (cVec (cInt .u16) 8 (by decide))) (z := x0.f_g) Tryz.isAgg208 Tryz.sizeOf208 rfl (lens_cell (.s (Upd.again hu_ _)) (Lens.comp (Lens.whole _ _) (fun z => { x0 with f_g := z }) (c_colon_reader_f_g x0)))) ?_
   exact at_nil k
  ·intro Lx g3 s K hl hh k
   show At 63 ((0, _) :: (2, _) :: Lx) _ _
   refine av rfl (r_move rfl) ?_
   exact at_nil k
  ·intro Lx g3 s K hl hh k
   show At 63 ((14, _) :: (0, _) :: (2, _) :: Lx) _ _
   refine av rfl (r_nilCheck rfl) ?_
   exact at_nil k
  ·intro Lx g3 s K hl hh k
   show At 63 ((15, _) :: (0, _) :: (2, _) :: Lx) _ _
   refine av rfl (r_fieldAddr (fo := 8) Tryz.underlying210 rfl rfl (fun w => ⟨_, Tryz.sizeOf3 w⟩) rfl) ?_
   exact at_nil k
  ·intro Lx g3 s K hl hh k
   show At 63 ((16, _) :: (0, _) :: (2, _) :: Lx) _ _
   rcases (by omega : s = 0 ∨ s = 1) with rfl | rfl
   ·skip
    refine av rfl (r_load_cell Tryz.isAgg3 rfl (lens_cell0 (c := (cInt .i64)) (y := x0.f_n) (.s (Upd.again hu_ _)) (Lens.comp (Lens.whole _ _) (fun z => { x0 with f_n := z }) (c_colon_reader_f_n x0)) rfl)) ?_
    exact at_nil k
   ·skip
    refine av rfl (r_load_cell Tryz.isAgg3 rfl (lens_cell0 (c := (cInt .i64)) (y := x0.f_n) (.s (Upd.again hu_ _)) (Lens.comp (Lens.whole _ _) (fun z => { x0 with f_n := z }) (c_colon_reader_f_n x0)) rfl)) ?_
    exact at_nil k
  ·intro Lx g3 s K hl hh k
   show At 63 ((17, _) :: (0, _) :: (2, _) :: Lx) _ _
   refine av rfl (r_ieql rfl rfl) ?_
   exact at_nil k
  ·intro Lx g3 K k
   show At 63 ((13, _) :: (0, _) :: (2, _) :: Lx) _ _
   refine at_store (c := (cVec (cInt .u16) 8 (by decide))) (z := x0.f_g) .z (Lens.whole _ _) Tryz.sizeOf208 rfl rfl rfl ?_
   exact at_nil k
  ·intro Lx g3 s K hl hh k
   show At 63 ((18, _) :: (0, _) :: (2, _) :: Lx) _ _
   refine av rfl (r_assign rfl) ?_
   exact at_nil k
  intro g3
  show At 63 [(10, _), (11, _), (12, _), (13, _), (14, _), (15, _), (16, _), (17, _), (18, _), (3, _), (0, _), (2, _)] _ _
  refine at_weak [(2, _), (3, _)] ⟨rfl, rfl, trivial⟩ ?_
  refine at_then_normal ?_
  refine rt ?_
  have K := of_some hF
  subst K
  exact at_res2 rfl (res_cell (c := (cVec (cInt .u16) 8 (by decide))) (y := x0.f_g) rfl .z (Lens.whole _ _) Tryz.isAgg208 Tryz.sizeOf208 (.inl rfl)) (res_tmp rfl) (fun w1 hw => ⟨rfl, hw.pop⟩)
 ·refine at_cond_false rfl h2 ?_
  refine sn ?_
  refine at_seq ?_
  refine sr ?_
  refine av rfl (r_move rfl) ?_
  refine av rfl (r_nilCheck rfl) ?_
  refine av rfl (r_fieldAddr (fo := 8) Tryz.underlying210 rfl rfl (fun w => ⟨_, Tryz.sizeOf3 w⟩) rfl) ?_
  refine av rfl (r_load_cell Tryz.isAgg3 rfl (lens_cell0 (c := (cInt .i64)) (y := x0.f_n) (.s (Upd.again hu_ _)) (Lens.comp (Lens.whole _ _) (fun z => { x0 with f_n := z }) (c_colon_reader_f_n x0)) rfl)) ?_
  refine av rfl (r_ieql rfl rfl) ?_
  refine nwt [(0, _), (2, _), (23, _)] ⟨rfl, rfl, rfl, trivial⟩ ?_
  rcases of_ite hF with ⟨h4, hF⟩ | ⟨h4, hF⟩
  ·refine at_cond_true rfl h4 ?_
   refine sr ?_
   refine av rfl (r_move rfl) ?_
   refine av rfl (r_nilCheck rfl) ?_
   refine av rfl (r_fieldAddr (fo := 0) Tryz.underlying210 rfl rfl (fun w => ⟨_, Tryz.sizeOf208 w⟩) rfl) ?_
   refine av rfl (r_load_aggc (c := (cVec (cInt .u16) 8 (by decide))) (z := x0.f_g) Tryz.isAgg208 Tryz.sizeOf208 rfl (lens_cell (.s (Upd.again hu_ _)) (Lens.comp (Lens.whole _ _) (fun z => { x0 with f_g := z }) (c_colon_reader_f_g x0)))) ?_
   refine at_store (c := (cVec (cInt .u16) 8 (by decide))) (z := x0.f_g) .z (Lens.whole _ _) Tryz.sizeOf208 rfl rfl rfl ?_
   refine av rfl (r_assign rfl) ?_
   refine nwt [(2, _), (3, _)] ⟨rfl, rfl, trivial⟩ ?_
   refine rt ?_
   have K := of_some hF
   subst K
   exact at_res2 rfl (res_cell (c := (cVec (cInt .u16) 8 (by decide))) (y := x0.f_g) rfl .z (Lens.whole _ _) Tryz.isAgg208 Tryz.sizeOf208 (.inl rfl)) (res_tmp rfl) (fun w1 hw => ⟨rfl, hw.pop⟩)
  ·refine at_cond_false rfl h4 ?_
   refine sns ?_
   refine at_alloc (cs := Cd.cs (cVec (cInt .u16) 8 (by decide)) (Vector.replicate 8 (0 : Int) : (Vector Int 8))) Tryz.zeroValue208 rfl rfl ?_
   intro b5
   refine nwt [(0, _), (2, _), (4, _)] ⟨rfl, rfl, rfl, trivial⟩ ?_
   refine at_seq ?_
   refine at_weak [(0, _), (2, _), (4, _)] ⟨rfl, rfl, rfl, trivial⟩ ?_
   obtain ⟨h6, hF⟩ := of_guard hF
   refine at_inv [.q 28 (fun g7 => .slice (some ⟨b5, 0, none⟩) (Vector.toList (Vector.replicate 8 (0 : Int) : (Vector Int 8))).length 8) [] 0 0, .q 29 (fun g7 => .pointer (some ⟨b0_, 0, none⟩)) [] 0 0, .q 30 (fun g7 => .pointer (some ⟨b0_, 0, none⟩)) [1] 0 0, .q 31 (fun g7 => .pointer (some ⟨b0_, 0 + 0, none⟩)) [2] 0 0, .q 32 (fun g7 => .pointer (some ⟨b0_, 0, none⟩)) [] 0 0, .q 33 (fun g7 => .pointer (some ⟨b0_, 0, none⟩)) [4] 0 0, .q 34 (fun g7 => .pointer (some ⟨b0_, 0 + 9, none⟩)) [5] 0 0, .q 35 (fun g7 => .int .i64 x0.f_gap) [6] 0 0, .q 36 (fun g7 => .slice (rsp (some ⟨b0_, 0 + 0, none⟩) 8 0 (Cd.sz (cInt .u16))) (lsub (Vector.toList x0.f_g) 0 x0.f_gap).length (8 - Int.toNat 0)) [3, 7] 0 0, .st 0 (some (37, fun g7 => .int .i64 (min (List.length (lsub (Vector.toList x0.f_g) 0 x0.f_gap)) (Int.toNat (8 - 0)) : Nat))) [0, 8]] (fun g7 s => match s with | 0 => (Wd w0 (cellsE b5 (Cd.cs (cVec (cInt .u16) 8 (by decide)) (Vector.replicate 8 (0 : Int) : (Vector Int 8))) 208 :: cellsE b1 (Cd.cs (cVec (cInt .u16) 8 (by decide)) (Vector.replicate 8 (0 : Int) : (Vector Int 8))) 208 :: f_ (cellsE b0_ (Cd.cs c_colon_reader x0) 210))) | _ => (Wd w0 (cellsE b5 (Cd.cs (cVec (cInt .u16) 8 (by decide)) (vcopy (Vector.replicate 8 (0 : Int) : (Vector Int 8)) (Int.toNat 0) (List.take (Int.toNat (8 - 0)) (lsub (Vector.toList x0.f_g) 0 x0.f_gap)))) 208 :: cellsE b1 (Cd.cs (cVec (cInt .u16) 8 (by decide)) (Vector.replicate 8 (0 : Int) : (Vector Int 8))) 208 :: f_ (cellsE b0_ (Cd.cs c_colon_reader x0) 210)))) 1 (by kernel_rfl) (by kernel_rfl) (by kernel_rfl) (by kernel_rfl) (by kernel_rfl) ⟨fun _ _ _ => rfl, fun _ _ _ => rfl, fun _ _ _ => rfl, fun _ _ _ => rfl, fun _ _ _ => rfl, fun _ _ _ => rfl, fun _ _ _ => rfl, fun _ _ _ => rfl, fun _ _ _ => rfl, fun _ _ _ => rfl, trivial⟩ (by kernel_rfl) (fun _ h => ⟨fun _ => (0, none, 0, none), h.drew⟩) ⟨?_, ?_, ?_, ?_, ?_, ?_, ?_, ?_, ?_, ?_, trivial⟩ ?_
   ·intro Lx g7 s K hl hh k
    show At 63 ((0, _) :: (2, _) :: (4, _) :: Lx) _ _
    obtain rfl : s = 0 := by omega
    refine av rfl (r_slice_vec (Vector.replicate 8 (0 : Int) : (Vector Int 8)) Tryz.underlying208 Tryz.sizeOf191 rfl) ?_
    exact at_nil k
   ·intro Lx g7 s K hl hh k
    show At 63 ((0, _) :: (2, _) :: (4, _) :: Lx) _ _
    refine av rfl (r_move rfl) ?_
    exact at_nil k
   ·intro Lx g7 s K hl hh k
    show At 63 ((29, _) :: (0, _) :: (2, _) :: (4, _) :: Lx) _ _
    refine av rfl (r_nilCheck rfl) ?_
    exact at_nil k
   ·intro Lx g7 s K hl hh k
    show At 63 ((30, _) :: (0, _) :: (2, _) :: (4, _) :: Lx) _ _
    refine av rfl (r_fieldAddr (fo := 0) Tryz.underlying210 rfl rfl (fun w => ⟨_, Tryz.sizeOf208 w⟩) rfl) ?_
    exact at_nil k
   ·intro Lx g7 s K hl hh k
    show At 63 ((0, _) :: (2, _) :: (4, _) :: Lx) _ _
    refine av rfl (r_move rfl) ?_
    exact at_nil k
   ·intro Lx g7 s K hl hh k
    show At 63 ((32, _) :: (0, _) :: (2, _) :: (4, _) :: Lx) _ _
    refine av rfl (r_nilCheck rfl) ?_
    exact at_nil k
   ·intro Lx g7 s K hl hh k
    show At 63 ((33, _) :: (0, _) :: (2, _) :: (4, _) :: Lx) _ _
    refine av rfl (r_fieldAddr (fo := 9) Tryz.underlying210 rfl rfl (fun w => ⟨_, Tryz.sizeOf3 w⟩) rfl) ?_
    exact at_nil k
   ·intro Lx g7 s K hl hh k
    show At 63 ((34, _) :: (0, _) :: (2, _) :: (4, _) :: Lx) _ _
    obtain rfl : s = 0 := by omega
    refine av rfl (r_load_cell Tryz.isAgg3 rfl (lens_cell0 (c := (cInt .i64)) (y := x0.f_gap) (.s (.s (Upd.again hu_ _))) (Lens.comp (Lens.whole _ _) (fun z => { x0 with f_gap := z }) (c_colon_reader_f_gap x0)) rfl)) ?_
    exact at_nil k
   ·intro Lx g7 s K hl hh k
    show At 63 ((31, _) :: (35, _) :: (0, _) :: (2, _) :: (4, _) :: Lx) _ _
    obtain rfl : s = 0 := by omega
    refine av rfl (r_view (c := (cInt .u16)) (v := x0.f_g) (l := 0) (h := x0.f_gap) Tryz.underlying208 Tryz.sizeOf191 rfl rfl ⟨_, rfl⟩ h6) ?_
    exact at_nil k
   ·intro Lx g7 K k
    show At 63 ((28, _) :: (36, _) :: (0, _) :: (2, _) :: (4, _) :: Lx) _ _
    refine at_copy (lo := 0) (hi := 8) (xs := lsub (Vector.toList x0.f_g) 0 x0.f_gap) .z (Lens.whole _ _) rfl (by decide) Tryz.underlying218 (by kernel_rfl) rfl (rsp_zero (by decide)) (by simp) rfl rsp_some (fun w1 hw => (Row.sub (lens_row (.s (.s (Upd.again hu_ _))) (Lens.comp (Lens.whole _ _) (fun z => { x0 with f_g := z }) (c_colon_reader_f_g x0)) hw) (vbnd h6))) rfl ?_
    exact at_nil k
   intro g7
   show At 63 [(28, _), (29, _), (30, _), (31, _), (32, _), (33, _), (34, _), (35, _), (36, _), (37, _), (0, _), (2, _), (4, _)] _ _
   refine at_weak [(0, _), (2, _), (4, _)] ⟨rfl, rfl, rfl, trivial⟩ ?_
   refine at_then_normal ?_
   refine at_seq ?_
   refine at_weak [(0, _), (2, _), (4, _)] ⟨rfl, rfl, rfl, trivial⟩ ?_
   obtain ⟨h8, hF⟩ := of_guard hF
   obtain ⟨h9, hF⟩ := of_guard hF
   refine at_inv [.q 38 (fun g10 => .pointer (some ⟨b0_, 0, none⟩)) [] 0 1, .q 39 (fun g10 => .pointer (some ⟨b0_, 0, none⟩)) [0] 0 1, .q 40 (fun g10 => .pointer (some ⟨b0_, 0 + 8, none⟩)) [1] 0 0, .q 41 (fun g10 => .int .i64 x0.f_n) [2] 0 0, .q 42 (fun g10 => .int .i64 (wr .i64 (8 - x0.f_n))) [3] 0 0, .q 43 (fun g10 => .pointer (some ⟨b0_, 0, none⟩)) [] 0 1, .q 44 (fun g10 => .pointer (some ⟨b0_, 0, none⟩)) [5] 0 0, .q 45 (fun g10 => .pointer (some ⟨b0_, 0 + 9, none⟩)) [6] 0 0, .q 46 (fun g10 => .int .i64 x0.f_gap) [7] 0 0, .q 47 (fun g10 => .int .i64 (wr .i64 ((wr .i64 (8 - x0.f_n)) + x0.f_gap))) [4, 8] 0 0, .q 48 (fun g10 => .slice (rsp (some ⟨b5, 0, none⟩) 8 (wr .i64 ((wr .i64 (8 - x0.f_n)) + x0.f_gap)) (Cd.sz (cInt .u16))) (lsub (Vector.toList (vcopy (Vector.replicate 8 (0 : Int) : (Vector Int 8)) (Int.toNat 0) (List.take (Int.toNat (8 - 0)) (lsub (Vector.toList x0.f_g) 0 x0.f_gap)))) (wr .i64 ((wr .i64 (8 - x0.f_n)) + x0.f_gap)) 8).length (8 - Int.toNat (wr .i64 ((wr .i64 (8 - x0.f_n)) + x0.f_gap)))) [9] 0 0, .q 49 (fun g10 => .pointer (some ⟨b0_, 0, none⟩)) [] 0 0, .q 50 (fun g10 => .pointer (some ⟨b0_, 0, none⟩)) [11] 0 0, .q 51 (fun g10 => .pointer (some ⟨b0_, 0 + 0, none⟩)) [12] 0 0, .q 52 (fun g10 => .pointer (some ⟨b0_, 0, none⟩)) [] 0 0, .q 53 (fun g10 => .pointer (some ⟨b0_, 0, none⟩)) [14] 0 0, .q 54 (fun g10 => .pointer (some ⟨b0_, 0 + 9, none⟩)) [15] 0 0, .q 55 (fun g10 => .int .i64 x0.f_gap) [16] 0 0, .q 56 (fun g10 => .pointer (some ⟨b0_, 0, none⟩)) [] 0 0, .q 57 (fun g10 => .pointer (some ⟨b0_, 0, none⟩)) [18] 0 0, .q 58 (fun g10 => .pointer (some ⟨b0_, 0 + 8, none⟩)) [19] 0 0, .q 59 (fun g10 => .int .i64 x0.f_n) [20] 0 0, .q 60 (fun g10 => .slice (rsp (some ⟨b0_, 0 + 0, none⟩) 8 x0.f_gap (Cd.sz (cInt .u16))) (lsub (Vector.toList x0.f_g) x0.f_gap x0.f_n).length (8 - Int.toNat x0.f_gap)) [13, 17, 21] 0 0, .st 0 (some (61, fun g10 => .int .i64 (min (List.length (lsub (Vector.toList x0.f_g) x0.f_gap x0.f_n)) (Int.toNat (8 - wr .i64 ((wr .i64 (8 - x0.f_n)) + x0.f_gap))) : Nat))) [10, 22]] (fun g10 s => match s with | 0 => (Wd w0 (cellsE b5 (Cd.cs (cVec (cInt .u16) 8 (by decide)) (vcopy (Vector.replicate 8 (0 : Int) : (Vector Int 8)) (Int.toNat 0) (List.take (Int.toNat (8 - 0)) (lsub (Vector.toList x0.f_g) 0 x0.f_gap)))) 208 :: cellsE b1 (Cd.cs (cVec (cInt .u16) 8 (by decide)) (Vector.replicate 8 (0 : Int) : (Vector Int 8))) 208 :: f_ (cellsE b0_ (Cd.cs c_colon_reader x0) 210))) | _ => (Wd w0 (cellsE b5 (Cd.cs (cVec (cInt .u16) 8 (by decide)) (vcopy (vcopy (Vector.replicate 8 (0 : Int) : (Vector Int 8)) (Int.toNat 0) (List.take (Int.toNat (8 - 0)) (lsub (Vector.toList x0.f_g) 0 x0.f_gap))) (Int.toNat (wr .i64 ((wr .i64 (8 - x0.f_n)) + x0.f_gap))) (List.take (Int.toNat (8 - wr .i64 ((wr .i64 (8 - x0.f_n)) + x0.f_gap))) (lsub (Vector.toList x0.f_g) x0.f_gap x0.f_n)))) 208 :: cellsE b1 (Cd.cs (cVec (cInt .u16) 8 (by decide)) (Vector.replicate 8 (0 : Int) : (Vector Int 8))) 208 :: f_ (cellsE b0_ (Cd.cs c_colon_reader x0) 210)))) 1 (by kernel_rfl) (by kernel_rfl) (by kernel_rfl) (by kernel_rfl) (by kernel_rfl) ⟨fun _ _ _ => rfl, fun _ _ _ => rfl, fun _ _ _ => rfl, fun _ _ _ => rfl, fun _ _ _ => rfl, fun _ _ _ => rfl, fun _ _ _ => rfl, fun _ _ _ => rfl, fun _ _ _ => rfl, fun _ _ _ => rfl, fun _ _ _ => rfl, fun _ _ _ => rfl, fun _ _ _ => rfl, fun _ _ _ => rfl, fun _ _ _ => rfl, fun _ _ _ => rfl, fun _ _ _ => rfl, fun _ _ _ => rfl, fun _ _ _ => rfl, fun _ _ _ => rfl, fun _ _ _ => rfl, fun _ _ _ => rfl, fun _ _ _ => rfl, fun _ _ _ => rfl, trivial⟩ (by kernel_rfl) (fun _ h => ⟨fun _ => (0, none, 0, none), h.drew⟩) ⟨?_, ?_, ?_, ?_, ?_, ?_, ?_, ?_, ?_, ?_, ?_, ?_, ?_, ?_, ?_, ?_, ?_, ?_, ?_, ?_, ?_, ?_, ?_, ?_, trivial⟩ ?_
   ·intro Lx g10 s K hl hh k
    show At 63 ((0, _) :: (2, _) :: (4, _) :: Lx) _ _
    refine av rfl (r_move rfl) ?_
    exact at_nil k
   ·intro Lx g10 s K hl hh k
    show At 63 ((38, _) :: (0, _) :: (2, _) :: (4, _) :: Lx) _ _
    refine av rfl (r_nilCheck rfl) ?_
    exact at_nil k
   ·intro Lx g10 s K hl hh k
    show At 63 ((39, _) :: (0, _) :: (2, _) :: (4, _) :: Lx) _ _
    refine av rfl (r_fieldAddr (fo := 8) Tryz.underlying210 rfl rfl (fun w => ⟨_, Tryz.sizeOf3 w⟩) rfl) ?_
    exact at_nil k
   ·intro Lx g10 s K hl hh k
    show At 63 ((40, _) :: (0, _) :: (2, _) :: (4, _) :: Lx) _ _
    obtain rfl : s = 0 := by omega
    refine av rfl (r_load_cell Tryz.isAgg3 rfl (lens_cell0 (c := (cInt .i64)) (y := x0.f_n) (.s (.s (Upd.again hu_ _))) (Lens.comp (Lens.whole _ _) (fun z => { x0 with f_n := z }) (c_colon_reader_f_n x0)) rfl)) ?_
    exact at_nil k
   ·intro Lx g10 s K hl hh k
    show At 63 ((41, _) :: (0, _) :: (2, _) :: (4, _) :: Lx) _ _
    refine av rfl (r_isub rfl rfl) ?_
    exact at_nil k
   ·intro Lx g10 s K hl hh k
    show At 63 ((0, _) :: (2, _) :: (4, _) :: Lx) _ _
    refine av rfl (r_move rfl) ?_
    exact at_nil k
   ·intro Lx g10 s K hl hh k
    show At 63 ((43, _) :: (0, _) :: (2, _) :: (4, _) :: Lx) _ _
    refine av rfl (r_nilCheck rfl) ?_
    exact at_nil k
   ·intro Lx g10 s K hl hh k
    show At 63 ((44, _) :: (0, _) :: (2, _) :: (4, _) :: Lx) _ _
    refine av rfl (r_fieldAddr (fo := 9) Tryz.underlying210 rfl rfl (fun w => ⟨_, Tryz.sizeOf3 w⟩) rfl) ?_
    exact at_nil k
   ·intro Lx g10 s K hl hh k
    show At 63 ((45, _) :: (0, _) :: (2, _) :: (4, _) :: Lx) _ _
    obtain rfl : s = 0 := by omega
    refine av rfl (r_load_cell Tryz.isAgg3 rfl (lens_cell0 (c := (cInt .i64)) (y := x0.f_gap) (.s (.s (Upd.again hu_ _))) (Lens.comp (Lens.whole _ _) (fun z => { x0 with f_gap := z }) (c_colon_reader_f_gap x0)) rfl)) ?_
    exact at_nil k
   ·intro Lx g10 s K hl hh k
    show At 63 ((42, _) :: (46, _) :: (0, _) :: (2, _) :: (4, _) :: Lx) _ _
    refine av rfl (r_iadd rfl rfl) ?_
    exact at_nil k
   ·intro Lx g10 s K hl hh k
    show At 63 ((47, _) :: (0, _) :: (2, _) :: (4, _) :: Lx) _ _
    obtain rfl : s = 0 := by omega
    refine av rfl (r_view (c := (cInt .u16)) (v := vcopy (Vector.replicate 8 (0 : Int) : (Vector Int 8)) (Int.toNat 0) (List.take (Int.toNat (8 - 0)) (lsub (Vector.toList x0.f_g) 0 x0.f_gap))) (l := wr .i64 ((wr .i64 (8 - x0.f_n)) + x0.f_gap)) (h := 8) Tryz.underlying208 Tryz.sizeOf191 rfl ⟨_, rfl⟩ rfl h8) ?_
    exact at_nil k
   ·intro Lx g10 s K hl hh k
    show At 63 ((0, _) :: (2, _) :: (4, _) :: Lx) _ _
    refine av rfl (r_move rfl) ?_
    exact at_nil k
   ·intro Lx g10 s K hl hh k
    show At 63 ((49, _) :: (0, _) :: (2, _) :: (4, _) :: Lx) _ _
    refine av rfl (r_nilCheck rfl) ?_
    exact at_nil k
   ·intro Lx g10 s K hl hh k
    show At 63 ((50, _) :: (0, _) :: (2, _) :: (4, _) :: Lx) _ _
    refine av rfl (r_fieldAddr (fo := 0) Tryz.underlying210 rfl rfl (fun w => ⟨_, Tryz.sizeOf208 w⟩) rfl) ?_
    exact at_nil k
   ·intro Lx g10 s K hl hh k
    show At 63 ((0, _) :: (2, _) :: (4, _) :: Lx) _ _
    refine av rfl (r_move rfl) ?_
    exact at_nil k
   ·intro Lx g10 s K hl hh k
    show At 63 ((52, _) :: (0, _) :: (2, _) :: (4, _) :: Lx) _ _
    refine av rfl (r_nilCheck rfl) ?_
    exact at_nil k
   ·intro Lx g10 s K hl hh k
    show At 63 ((53, _) :: (0, _) :: (2, _) :: (4, _) :: Lx) _ _
    refine av rfl (r_fieldAddr (fo := 9) Tryz.underlying210 rfl rfl (fun w => ⟨_, Tryz.sizeOf3 w⟩) rfl) ?_
    exact at_nil k
   ·intro Lx g10 s K hl hh k
    show At 63 ((54, _) :: (0, _) :: (2, _) :: (4, _) :: Lx) _ _
    obtain rfl : s = 0 := by omega
    refine av rfl (r_load_cell Tryz.isAgg3 rfl (lens_cell0 (c := (cInt .i64)) (y := x0.f_gap) (.s (.s (Upd.again hu_ _))) (Lens.comp (Lens.whole _ _) (fun z => { x0 with f_gap := z }) (c_colon_reader_f_gap x0)) rfl)) ?_
    exact at_nil k
   ·intro Lx g10 s K hl hh k
    show At 63 ((0, _) :: (2, _) :: (4, _) :: Lx) _ _
    refine av rfl (r_move rfl) ?_
    exact at_nil k
   ·intro Lx g10 s K hl hh k
    show At 63 ((56, _) :: (0, _) :: (2, _) :: (4, _) :: Lx) _ _
    refine av rfl (r_nilCheck rfl) ?_
    exact at_nil k
   ·intro Lx g10 s K hl hh k
    show At 63 ((57, _) :: (0, _) :: (2, _) :: (4, _) :: Lx) _ _
    refine av rfl (r_fieldAddr (fo := 8) Tryz.underlying210 rfl rfl (fun w => ⟨_, Tryz.sizeOf3 w⟩) rfl) ?_
    exact at_nil k
   ·intro Lx g10 s K hl hh k
    show At 63 ((58, _) :: (0, _) :: (2, _) :: (4, _) :: Lx) _ _
    obtain rfl : s = 0 := by omega
    refine av rfl (r_load_cell Tryz.isAgg3 rfl (lens_cell0 (c := (cInt .i64)) (y := x0.f_n) (.s (.s (Upd.again hu_ _))) (Lens.comp (Lens.whole _ _) (fun z => { x0 with f_n := z }) (c_colon_reader_f_n x0)) rfl)) ?_
    exact at_nil k
   ·intro Lx g10 s K hl hh k
    show At 63 ((51, _) :: (55, _) :: (59, _) :: (0, _) :: (2, _) :: (4, _) :: Lx) _ _
    obtain rfl : s = 0 := by omega
    refine av rfl (r_view (c := (cInt .u16)) (v := x0.f_g) (l := x0.f_gap) (h := x0.f_n) Tryz.underlying208 Tryz.sizeOf191 rfl ⟨_, rfl⟩ ⟨_, rfl⟩ h9) ?_
    exact at_nil k
   ·intro Lx g10 K k
    show At 63 ((48, _) :: (60, _) :: (0, _) :: (2, _) :: (4, _) :: Lx) _ _
    refine at_copy (lo := wr .i64 ((wr .i64 (8 - x0.f_n)) + x0.f_gap)) (hi := 8) (xs := lsub (Vector.toList x0.f_g) x0.f_gap x0.f_n) .z (Lens.whole _ _) rfl h8 Tryz.underlying218 (by kernel_rfl) rfl rfl (lsub_length (vbnd h8)) rfl rsp_some (fun w1 hw => (Row.sub (lens_row (.s (.s (Upd.again hu_ _))) (Lens.comp (Lens.whole _ _) (fun z => { x0 with f_g := z }) (c_colon_reader_f_g x0)) hw) (vbnd h9))) rfl ?_
    exact at_nil k
   intro g10
   show At 63 [(38, _), (39, _), (40, _), (41, _), (42, _), (43, _), (44, _), (45, _), (46, _), (47, _), (48, _), (49, _), (50, _), (51, _), (52, _), (53, _), (54, _), (55, _), (56, _), (57, _), (58, _), (59, _), (60, _), (61, _), (0, _), (2, _), (4, _)] _ _
   refine at_weak [(2, _), (4, _)] ⟨rfl, rfl, trivial⟩ ?_
   refine at_then_normal ?_
   refine sr ?_
   refine av rfl (r_load_aggc (c := (cVec (cInt .u16) 8 (by decide))) (z := vcopy (vcopy (Vector.replicate 8 (0 : Int) : (Vector Int 8)) (Int.toNat 0) (List.take (Int.toNat (8 - 0)) (lsub (Vector.toList x0.f_g) 0 x0.f_gap))) (Int.toNat (wr .i64 ((wr .i64 (8 - x0.f_n)) + x0.f_gap))) (List.take (Int.toNat (8 - wr .i64 ((wr .i64 (8 - x0.f_n)) + x0.f_gap))) (lsub (Vector.toList x0.f_g) x0.f_gap x0.f_n))) Tryz.isAgg208 Tryz.sizeOf208 rfl (lens_cell .z (Lens.whole _ _))) ?_
   refine at_store (c := (cVec (cInt .u16) 8 (by decide))) (z := vcopy (vcopy (Vector.replicate 8 (0 : Int) : (Vector Int 8)) (Int.toNat 0) (List.take (Int.toNat (8 - 0)) (lsub (Vector.toList x0.f_g) 0 x0.f_gap))) (Int.toNat (wr .i64 ((wr .i64 (8 - x0.f_n)) + x0.f_gap))) (List.take (Int.toNat (8 - wr .i64 ((wr .i64 (8 - x0.f_n)) + x0.f_gap))) (lsub (Vector.toList x0.f_g) x0.f_gap x0.f_n))) (.s .z) (Lens.whole _ _) Tryz.sizeOf208 rfl rfl rfl ?_
   refine av rfl (r_assign rfl) ?_
   refine at_nil ?_
   refine at_drop (H := _) .z ?_
   refine at_weak [(2, _), (3, _)] ⟨rfl, rfl, trivial⟩ ?_
   refine at_then_normal ?_
   refine at_ret ?_
   have K := of_some hF
   subst K
   exact at_res2 rfl (res_cell (c := (cVec (cInt .u16) 8 (by decide))) (y := vcopy (vcopy (Vector.replicate 8 (0 : Int) : (Vector Int 8)) (Int.toNat 0) (List.take (Int.toNat (8 - 0)) (lsub (Vector.toList x0.f_g) 0 x0.f_gap))) (Int.toNat (wr .i64 ((wr .i64 (8 - x0.f_n)) + x0.f_gap))) (List.take (Int.toNat (8 - wr .i64 ((wr .i64 (8 - x0.f_n)) + x0.f_gap))) (lsub (Vector.toList x0.f_g) x0.f_gap x0.f_n))) rfl .z (Lens.whole _ _) Tryz.isAgg208 Tryz.sizeOf208 (.inl rfl)) (res_tmp rfl) (fun w1 hw => ⟨rfl, hw.pop⟩)
def colon_Parse.l0 (t5 : (Vector Int 8) × Bool × S_colon_reader) (i10 : Int) (i11 : (Vector Int 16)) : Option ((Vector Int 16)) :=
  if (decide (i10 < 8)) = true then (if (0 : Int) ≤ i10 ∧ i10 < 8 then if (0 : Int) ≤ wr .i64 (2 * i10) ∧ wr .i64 (2 * i10) < 16 then if (0 : Int) ≤ wr .i64 ((wr .i64 (2 * i10)) + 1) ∧ wr .i64 ((wr .i64 (2 * i10)) + 1) < 16 then colon_Parse.l0 t5 (wr .i64 (i10 + 1)) (vset (vset i11 (wr .i64 (2 * i10)) (wr .u8 (ishr .u16 (vget t5.1 i10) 8))) (wr .i64 ((wr .i64 (2 * i10)) + 1)) (wr .u8 (vget t5.1 i10))) else none else none else none) else (some i11)
  partial_fixpoint
def colon_Parse (x0 : ByteArray) : Option ((Vector Int 16) × Int) :=
  colon_reader_read ({ ({ f_g := (Vector.replicate 8 (0 : Int) : (Vector Int 8)), f_n := (0 : Int), f_gap := (0 : Int) } : S_colon_reader) with f_gap := (-1) }) x0 >>= fun t3 => if (!t3.1) = true then (some ((Vector.replicate 16 (0 : Int) : (Vector Int 16)), 5)) else (colon_reader_spread t3.2 >>= fun t5 => if (!t5.2.1) = true then (some ((Vector.replicate 16 (0 : Int) : (Vector Int 16)), 5)) else (colon_Parse.l0 t5 0 (Vector.replicate 16 (0 : Int) : (Vector Int 16)) >>= fun q9 => some (q9, 0)))
theorem colon_Parse_ok (x0 : ByteArray) (r : (Vector Int 16) × Int) (hF : colon_Parse x0 = some r) (w : World) (hg_strconv_ErrRange : GV_strconv_ErrRange w) (hg_strconv_ErrSyntax : GV_strconv_ErrSyntax w) :
    Calls Tryz.prog 179 #[.string x0] w (fun e w' => e = .returned (.tuple #[.agg (Cd.cs (cVec (cInt .u8) 16 (by decide)) r.1).toArray, .int .i64 r.2]) ∧ Below w.heap.size w w') := by
 unfold colon_Parse at hF
 refine calls_enter (l := [.string x0]) Tryz.func179 rfl rfl rfl ?_
 refine at_start ?_
 refine at_weak [(0, _)] ⟨rfl, trivial⟩ ?_
 refine sr ?_
 refine at_alloc (cs := Cd.cs (cVec (cInt .u8) 16 (by decide)) (Vector.replicate 16 (0 : Int) : (Vector Int 16))) Tryz.zeroValue23 rfl rfl ?_
 intro b1
 refine av rfl (r_assign rfl) ?_
 refine nws [(0, _), (2, _)] ⟨rfl, rfl, trivial⟩ ?_
 refine av rfl (r_build_struct (zs := Cd.cs c_colon_reader zqG3_0) (cs := Cd.cs c_colon_reader ({ zqG3_0 with f_gap := (-1) })) Tryz.underlying210 Tryz.zeroValue210 rfl (places_colon_reader_210) rfl (fill_step (c := (cInt .i64)) (z := (-1)) rfl (c_colon_reader_f_gap zqG3_0) rfl rfl)) ?_
 refine at_box (cs := Cd.cs c_colon_reader ({ zqG3_0 with f_gap := (-1) })) rfl rfl rfl ?_
 intro b2
 refine av rfl (r_assign rfl) ?_
 refine nwt [(0, _), (2, _), (4, _)] ⟨rfl, rfl, rfl, trivial⟩ ?_
 refine at_seq ?_
 refine sr ?_
 refine av rfl (r_move rfl) ?_
 refine av rfl (r_move rfl) ?_
 obtain ⟨t3, ht3, hF⟩ := of_bindM hF
 refine at_callP (E' := cellsE b2 (Cd.cs c_colon_reader t3.2) 210) Tryz.func197 rfl (by kernel_rfl) rfl rfl (fun w hw => colon_reader_read_ok _ _ _ _ ht3 w .z hw hg_strconv_ErrRange hg_strconv_ErrSyntax) ?_
 refine av rfl (r_not rfl) ?_
 refine nwt [(2, _), (4, _), (15, _)] ⟨rfl, rfl, rfl, trivial⟩ ?_
 rcases of_ite hF with ⟨h4, hF⟩ | ⟨h4, hF⟩
 ·refine at_cond_true rfl h4 ?_
  refine sr ?_
  refine av rfl (r_build_array (zs := Cd.cs (cVec (cInt .u8) 16 (by decide)) (Vector.replicate 16 (0 : Int) : (Vector Int 16))) (cs := Cd.cs (cVec (cInt .u8) 16 (by decide)) (Vector.replicate 16 (0 : Int) : (Vector Int 16))) Tryz.underlying23 Tryz.zeroValue23 rfl Tryz.sizeOf5 rfl rfl) ?_
  refine at_store (c := (cVec (cInt .u8) 16 (by decide))) (z := (Vector.replicate 16 (0 : Int) : (Vector Int 16))) (.s .z) (Lens.whole _ _) Tryz.sizeOf23 rfl rfl rfl ?_
  refine av rfl (r_assign rfl) ?_
  refine at_nil ?_
  refine at_drop (H := _) .z ?_
  refine at_weak [(2, _), (3, _)] ⟨rfl, rfl, trivial⟩ ?_
  refine at_then_normal ?_
  refine rt ?_
  have K := of_some hF
  subst K
  exact at_res2 rfl (res_cell (c := (cVec (cInt .u8) 16 (by decide))) (y := (Vector.replicate 16 (0 : Int) : (Vector Int 16))) rfl .z (Lens.whole _ _) Tryz.isAgg23 Tryz.sizeOf23 (.inl rfl)) (res_tmp rfl) (fun w1 hw => ⟨rfl, hw.below⟩)
 ·refine at_cond_false rfl h4 ?_
  refine sns ?_
  refine av rfl (r_move rfl) ?_
  obtain ⟨t5, ht5, hF⟩ := of_bindM hF
  refine at_callP (E' := cellsE b2 (Cd.cs c_colon_reader t5.2.2) 210) Tryz.func198 rfl (by kernel_rfl) rfl rfl (fun w hw => colon_reader_spread_ok _ _ _ ht5 w .z hw) ?_
  refine av rfl (r_move rfl) ?_
  refine av rfl (r_extract rfl rfl) ?_
  refine av rfl (r_extract rfl rfl) ?_
  refine at_alloc (cs := Cd.cs (cVec (cInt .u16) 8 (by decide)) (Vector.replicate 8 (0 : Int) : (Vector Int 8))) Tryz.zeroValue208 rfl rfl ?_
  intro b6
  refine at_store (c := (cVec (cInt .u16) 8 (by decide))) (z := t5.1) .z (Lens.whole _ _) Tryz.sizeOf208 rfl rfl rfl ?_
  refine av rfl (r_assign rfl) ?_
  refine at_nil ?_
  refine at_drop (H := _) (.s .z) ?_
  refine at_weak [(2, _), (5, _), (6, _)] ⟨rfl, rfl, rfl, trivial⟩ ?_
  refine at_then_normal ?_
  refine at_seq ?_
  refine sr ?_
  refine av rfl (r_move rfl) ?_
  refine av rfl (r_not rfl) ?_
  refine nwt [(2, _), (5, _), (23, _)] ⟨rfl, rfl, rfl, trivial⟩ ?_
  rcases of_ite hF with ⟨h7, hF⟩ | ⟨h7, hF⟩
  ·refine at_cond_true rfl h7 ?_
   refine sr ?_
   refine av rfl (r_build_array (zs := Cd.cs (cVec (cInt .u8) 16 (by decide)) (Vector.replicate 16 (0 : Int) : (Vector Int 16))) (cs := Cd.cs (cVec (cInt .u8) 16 (by decide)) (Vector.replicate 16 (0 : Int) : (Vector Int 16))) Tryz.underlying23 Tryz.zeroValue23 rfl Tryz.sizeOf5 rfl rfl) ?_
   refine at_store (c := (cVec (cInt .u8) 16 (by decide))) (z := (Vector.replicate 16 (0 : Int) : (Vector Int 16))) (.s .z) (Lens.whole _ _) Tryz.sizeOf23 rfl rfl rfl ?_
   refine av rfl (r_assign rfl) ?_
   refine at_nil ?_
   refine at_drop (H := _) .z ?_
   refine at_weak [(2, _), (3, _)] ⟨rfl, rfl, trivial⟩ ?_
   refine at_then_normal ?_
   refine rt ?_
   have K := of_some hF
   subst K
   exact at_res2 rfl (res_cell (c := (cVec (cInt .u8) 16 (by decide))) (y := (Vector.replicate 16 (0 : Int) : (Vector Int 16))) rfl .z (Lens.whole _ _) Tryz.isAgg23 Tryz.sizeOf23 (.inl rfl)) (res_tmp rfl) (fun w1 hw => ⟨rfl, hw.below⟩)
  ·refine at_cond_false rfl h7 ?_
   refine sns ?_
   refine at_alloc (cs := Cd.cs (cVec (cInt .u8) 16 (by decide)) (Vector.replicate 16 (0 : Int) : (Vector Int 16))) Tryz.zeroValue23 rfl rfl ?_
   intro b8
   refine nwt [(2, _), (5, _), (7, _)] ⟨rfl, rfl, rfl, trivial⟩ ?_
   refine at_seq ?_
   refine sr ?_
   refine av rfl (r_load_aggc (c := (cVec (cInt .u16) 8 (by decide))) (z := t5.1) Tryz.isAgg208 Tryz.sizeOf208 rfl (lens_cell (.s .z) (Lens.whole _ _))) ?_
   refine av rfl (r_move rfl) ?_
   refine at_nil ?_
   refine at_drop (H := _) (.s .z) ?_
   refine at_weak [(2, _), (7, _), (25, _), (26, _)] ⟨rfl, rfl, rfl, rfl, trivial⟩ ?_
   refine at_then_normal ?_
   refine at_block ?_
   obtain ⟨q9, hq9, hF⟩ := of_bindM hF
   refine at_weak [(2, _), (7, _), (25, _), (26, _)] ⟨rfl, rfl, rfl, rfl, trivial⟩ ?_
   refine at_loop_n (B := 0) (A := fun Y => At 44 [(2, .pointer (some ⟨b1, 0, none⟩)), (7, .pointer (some ⟨b8, 0, none⟩))] (Wd w [cellsE b8 (Cd.cs (cVec (cInt .u8) 16 (by decide)) q9) 23, cellsE b1 (Cd.cs (cVec (cInt .u8) 16 (by decide)) (Vector.replicate 16 (0 : Int) : (Vector Int 16))) 23]) Y) ?_ ?_
   ·intro K
    refine colon_Parse.l0.partial_correctness t5 (motive := fun i10 i11 x => KN (fun Y => At 44 [(2, .pointer (some ⟨b1, 0, none⟩)), (7, .pointer (some ⟨b8, 0, none⟩))] (Wd w [cellsE b8 (Cd.cs (cVec (cInt .u8) 16 (by decide)) x) 23, cellsE b1 (Cd.cs (cVec (cInt .u8) 16 (by decide)) (Vector.replicate 16 (0 : Int) : (Vector Int 16))) 23]) Y) _ 0 → Round (fun Y => At 44 [(2, .pointer (some ⟨b1, 0, none⟩)), (7, .pointer (some ⟨b8, 0, none⟩)), (25, .agg (Cd.cs (cVec (cInt .u16) 8 (by decide)) t5.1).toArray), (26, .int .i64 i10)] (Wd w [cellsE b8 (Cd.cs (cVec (cInt .u8) 16 (by decide)) i11) 23, cellsE b1 (Cd.cs (cVec (cInt .u8) 16 (by decide)) (Vector.replicate 16 (0 : Int) : (Vector Int 16))) 23]) Y) _ _ _) ?_ _ _ _ hq9 K
    ·clear K hF
     intro g ih i10 i11 x hF K
     refine at_round ?_
     refine sr ?_
     refine av rfl (r_ilss rfl rfl) ?_
     refine nwt [(2, _), (7, _), (25, _), (26, _), (27, _)] ⟨rfl, rfl, rfl, rfl, rfl, trivial⟩ ?_
     refine at_seq ?_
     rcases of_ite hF with ⟨h12, hF⟩ | ⟨h12, hF⟩
     ·refine at_cond_true rfl h12 ?_
      refine sn ?_
      refine at_seq ?_
      refine at_block ?_
      refine sr ?_
      refine av rfl (r_move rfl) ?_
      obtain ⟨h13, hF⟩ := of_guard hF
      refine av rfl (r_idxVal Tryz.underlying208 Tryz.sizeOf191 rfl rfl h13 (part_vOf (Lens.vec (cInt .u16) (by decide) t5.1 i10 h13) Tryz.isAgg191 Tryz.sizeOf191 (.inr rfl))) ?_
      refine av rfl (r_assign rfl) ?_
      refine av rfl (r_assign rfl) ?_
      refine nwt [(2, _), (7, _), (8, _), (9, _), (25, _), (26, _)] ⟨rfl, rfl, rfl, rfl, rfl, rfl, trivial⟩ ?_
      refine at_region ?_
      refine av rfl (r_move rfl) ?_
      refine av rfl (r_imul rfl rfl) ?_
      refine av rfl (r_move rfl) ?_
      refine av rfl (r_imul rfl rfl) ?_
      refine av rfl (r_iadd rfl rfl) ?_
      refine av rfl (r_move rfl) ?_
      refine av rfl (r_ishr rfl rfl (by decide)) ?_
      refine av rfl (r_conv Tryz.underlying191 Tryz.underlying5 rfl) ?_
      refine av rfl (r_move rfl) ?_
      refine av rfl (r_conv Tryz.underlying191 Tryz.underlying5 rfl) ?_
      obtain ⟨h14, hF⟩ := of_guard hF
      refine av rfl (r_idxArr Tryz.underlying23 Tryz.sizeOf5 rfl rfl h14) ?_
      refine at_store (c := (cInt .u8)) (z := wr .u8 (ishr .u16 (vget t5.1 i10) 8)) .z (Lens.comp (Lens.whole _ _) (fun z => vset i11 (wr .i64 (2 * i10)) z) (Lens.vec (cInt .u8) (by decide) i11 (wr .i64 (2 * i10)) h14)) Tryz.sizeOf5 rfl rfl rfl ?_
      obtain ⟨h15, hF⟩ := of_guard hF
      refine av rfl (r_idxArr Tryz.underlying23 Tryz.sizeOf5 rfl rfl h15) ?_
      refine at_store (c := (cInt .u8)) (z := wr .u8 (vget t5.1 i10)) .z (Lens.comp (Lens.whole _ _) (fun z => vset (vset i11 (wr .i64 (2 * i10)) (wr .u8 (ishr .u16 (vget t5.1 i10) 8))) (wr .i64 ((wr .i64 (2 * i10)) + 1)) z) (Lens.vec (cInt .u8) (by decide) (vset i11 (wr .i64 (2 * i10)) (wr .u8 (ishr .u16 (vget t5.1 i10) 8))) (wr .i64 ((wr .i64 (2 * i10)) + 1)) h15)) Tryz.sizeOf5 rfl rfl rfl ?_
      refine at_nil ?_
      refine at_weak [(2, _), (7, _), (25, _), (26, _)] ⟨rfl, rfl, rfl, rfl, trivial⟩ ?_
      refine at_blk_normal (at_then_normal ?_)
      refine at_region ?_
      refine av rfl (r_iadd rfl rfl) ?_
      refine av rfl (r_move rfl) ?_
      refine nwt [(2, _), (7, _), (25, _), (26, _)] ⟨rfl, rfl, rfl, rfl, trivial⟩ ?_
      exact at_weak_k (ih _ _ _ hF K) ⟨rfl, rfl, rfl, rfl, trivial⟩
     ·refine at_cond_false rfl h12 ?_
      refine at_exit ?_
      refine at_then_exit (at_then_exit ?_)
      obtain rfl := of_some hF
      exact at_weak_k K ⟨rfl, rfl, trivial⟩
   ·skip
    skip
    refine at_blk_same ?_
    refine at_then_normal ?_
    refine sr ?_
    refine av rfl (r_load_aggc (c := (cVec (cInt .u8) 16 (by decide))) (z := q9) Tryz.isAgg23 Tryz.sizeOf23 rfl (lens_cell .z (Lens.whole _ _))) ?_
    refine at_store (c := (cVec (cInt .u8) 16 (by decide))) (z := q9) (.s .z) (Lens.whole _ _) Tryz.sizeOf23 rfl rfl rfl ?_
    refine av rfl (r_assign rfl) ?_
    refine at_nil ?_
    refine at_drop (H := _) .z ?_
    refine at_weak [(2, _), (3, _)] ⟨rfl, rfl, trivial⟩ ?_
    refine at_then_normal ?_
    refine at_ret ?_
    have K := of_some hF
    subst K
    exact at_res2 rfl (res_cell (c := (cVec (cInt .u8) 16 (by decide))) (y := q9) rfl .z (Lens.whole _ _) Tryz.isAgg23 Tryz.sizeOf23 (.inl rfl)) (res_tmp rfl) (fun w1 hw => ⟨rfl, hw.below⟩)
def endian_sized (x0 : List Int) : Option (Bool) :=
  if (decide ((x0.length : Int) ≥ 1)) = true then (some (decide ((x0.length : Int) ≤ 8))) else (some false)
theorem endian_sized_ok (x0 : List Int) (p0_ : Option Addr) (c0_ : Nat) (r : Bool) (hF : endian_sized x0 = some r) (w : World) (hr0 : Row (cInt .u8) w p0_ c0_ x0) :
    Calls Tryz.prog 236 #[.slice p0_ x0.length c0_] w (fun e w' => e = .returned (.bool r) ∧ w' = w) := by
 unfold endian_sized at hF
 refine calls_enter (l := [.slice p0_ x0.length c0_]) Tryz.func236 rfl rfl rfl ?_
 refine at_weak [(0, _)] ⟨rfl, trivial⟩ ?_
 refine sr ?_
 refine av rfl (r_assign rfl) ?_
 refine nws [(0, _)] ⟨rfl, trivial⟩ ?_
 refine av rfl (r_move rfl) ?_
 refine av rfl (r_len_sl Tryz.underlying22 rfl) ?_
 refine av rfl (r_igeq rfl rfl) ?_
 refine av rfl (r_move rfl) ?_
 rcases of_ite hF with ⟨h1, hF⟩ | ⟨h1, hF⟩
 ·refine at_fix (g := 6) rfl h1 ?_
  refine at_guard_yes rfl rfl rfl ?_
  refine av rfl (r_move rfl) ?_
  refine at_guard_yes rfl rfl rfl ?_
  refine av rfl (r_len_sl Tryz.underlying22 rfl) ?_
  refine at_guard_yes rfl rfl rfl ?_
  refine av rfl (r_ileq rfl rfl) ?_
  refine av rfl (r_pick rfl rfl rfl) ?_
  refine av rfl (r_assign rfl) ?_
  refine nwt [(2, _)] ⟨rfl, trivial⟩ ?_
  refine at_ret ?_
  have K := of_some hF
  subst K
  exact at_return1 rfl rfl (fun w1 hw => ⟨rfl, hw⟩)
 ·refine at_fix (g := 6) rfl h1 ?_
  refine at_guard_no rfl rfl rfl rfl rfl ?_
  refine at_guard_no rfl rfl rfl rfl rfl ?_
  refine at_guard_no rfl rfl rfl rfl rfl ?_
  refine av rfl (r_pick rfl rfl rfl) ?_
  refine av rfl (r_assign rfl) ?_
  refine nwt [(2, _)] ⟨rfl, trivial⟩ ?_
  refine at_ret ?_
  have K := of_some hF
  subst K
  exact at_return1 rfl rfl (fun w1 hw => ⟨rfl, hw⟩)
def endian_OfBig.l0 (x0 : List Int) (i4 : Int) (i5 : Int) : Option (Int) :=
  if (decide (i5 < (x0.length : Int))) = true then (if (0 : Int) ≤ i5 ∧ i5 < (x0.length : Int) then endian_OfBig.l0 x0 (ior .u64 (ishl .u64 i4 8) (wr .u64 (lget x0 i5))) (wr .i64 (i5 + 1)) else none) else (some i4)
  partial_fixpoint
def endian_OfBig (x0 : List Int) : Option (Int × Int) :=
  endian_sized x0 >>= fun t1 => if (!t1) = true then (some (0, 1)) else (endian_OfBig.l0 x0 0 0 >>= fun q3 => some (q3, 0))
theorem endian_OfBig_ok (x0 : List Int) (p0_ : Option Addr) (c0_ : Nat) (r : Int × Int) (hF : endian_OfBig x0 = some r) (w : World) (hr0 : Row (cInt .u8) w p0_ c0_ x0) :
    Calls Tryz.prog 221 #[.slice p0_ x0.length c0_] w (fun e w' => e = .returned (.tuple #[.int .u64 r.1, .int .i64 r.2]) ∧ w' = w) := by
 unfold endian_OfBig at hF
 refine calls_enter (l := [.slice p0_ x0.length c0_]) Tryz.func221 rfl rfl rfl ?_
 refine at_weak [(0, _)] ⟨rfl, trivial⟩ ?_
 refine sr ?_
 refine av rfl (r_assign rfl) ?_
 refine av rfl (r_assign rfl) ?_
 refine nwt [(0, _)] ⟨rfl, trivial⟩ ?_
 refine at_seq ?_
 refine sr ?_
 refine av rfl (r_move rfl) ?_
 obtain ⟨t1, ht1, hF⟩ := of_bindM hF
 refine at_call0w Tryz.func236 rfl (by kernel_rfl) rfl rfl (fun w hw => endian_sized_ok _ _ _ _ ht1 w (hr0.below (by subst hw; exact Below.refl _ _))) ?_
 refine av rfl (r_not rfl) ?_
 refine nwt [(0, _), (9, _)] ⟨rfl, rfl, trivial⟩ ?_
 rcases of_ite hF with ⟨h2, hF⟩ | ⟨h2, hF⟩
 ·refine at_cond_true rfl h2 ?_
  refine sr ?_
  refine av rfl (r_assign rfl) ?_
  refine av rfl (r_assign rfl) ?_
  refine nwt [(2, _), (3, _)] ⟨rfl, rfl, trivial⟩ ?_
  refine rt ?_
  have K := of_some hF
  subst K
  exact at_return2 rfl rfl rfl (fun w1 hw => ⟨rfl, hw⟩)
 ·refine at_cond_false rfl h2 ?_
  refine sns ?_
  refine av rfl (r_assign rfl) ?_
  refine nwt [(0, _), (4, _)] ⟨rfl, rfl, trivial⟩ ?_
  refine at_seq ?_
  refine sr ?_
  refine av rfl (r_move rfl) ?_
  refine av rfl (r_len_sl Tryz.underlying22 rfl) ?_
  refine av rfl (r_move rfl) ?_
  refine nwt [(4, _), (10, _), (11, _), (12, _)] ⟨rfl, rfl, rfl, rfl, trivial⟩ ?_
  refine at_block ?_
  obtain ⟨q3, hq3, hF⟩ := of_bindM hF
  refine at_weak [(4, _), (10, _), (11, _), (12, _)] ⟨rfl, rfl, rfl, rfl, trivial⟩ ?_
  refine at_loop_n (B := 0) (A := fun Y => At 23 [(4, .int .u64 q3)] (fun w' => w' = w) Y) ?_ ?_
  ·intro K
   refine endian_OfBig.l0.partial_correctness x0 (motive := fun i4 i5 x => KN (fun Y => At 23 [(4, .int .u64 x)] (fun w' => w' = w) Y) _ 0 → Round (fun Y => At 23 [(4, .int .u64 i4), (10, .slice p0_ x0.length c0_), (11, .int .i64 (x0.length : Int)), (12, .int .i64 i5)] (fun w' => w' = w) Y) _ _ _) ?_ _ _ _ hq3 K
   ·clear K hF
    intro g ih i4 i5 x hF K
    refine at_round ?_
    refine sr ?_
    refine av rfl (r_ilss rfl rfl) ?_
    refine nwt [(4, _), (10, _), (11, _), (12, _), (13, _)] ⟨rfl, rfl, rfl, rfl, rfl, trivial⟩ ?_
    refine at_seq ?_
    rcases of_ite hF with ⟨h6, hF⟩ | ⟨h6, hF⟩
    ·refine at_cond_true rfl h6 ?_
     refine sn ?_
     refine at_seq ?_
     refine at_block ?_
     refine sr ?_
     obtain ⟨h7, hF⟩ := of_guard hF
     obtain ⟨b9, o10, hp8⟩ := row_ptr hr0 h7
     refine av rfl (r_idx Tryz.underlying22 Tryz.sizeOf5 rfl rfl h7 hp8) ?_
     refine av rfl (r_load_cell Tryz.isAgg5 rfl (row_cell0 (fun w1 (h : w1 = w) => by subst h; exact Below.refl _ _) hr0 h7 hp8 rfl)) ?_
     refine av rfl (r_assign rfl) ?_
     refine nwt [(4, _), (6, _), (10, _), (11, _), (12, _)] ⟨rfl, rfl, rfl, rfl, rfl, trivial⟩ ?_
     refine at_region ?_
     refine av rfl (r_move rfl) ?_
     refine av rfl (r_ishl rfl rfl (by decide)) ?_
     refine av rfl (r_move rfl) ?_
     refine av rfl (r_conv Tryz.underlying5 Tryz.underlying31 rfl) ?_
     refine av rfl (r_ior rfl rfl) ?_
     refine av rfl (r_assign rfl) ?_
     refine at_nil ?_
     refine at_weak [(4, _), (10, _), (11, _), (12, _)] ⟨rfl, rfl, rfl, rfl, trivial⟩ ?_
     refine at_blk_normal (at_then_normal ?_)
     refine at_region ?_
     refine av rfl (r_iadd rfl rfl) ?_
     refine av rfl (r_move rfl) ?_
     refine nwt [(4, _), (10, _), (11, _), (12, _)] ⟨rfl, rfl, rfl, rfl, trivial⟩ ?_
     exact at_weak_k (ih _ _ _ hF K) ⟨rfl, rfl, rfl, rfl, trivial⟩
    ·refine at_cond_false rfl h6 ?_
     refine at_exit ?_
     refine at_then_exit (at_then_exit ?_)
     obtain rfl := of_some hF
     exact at_weak_k K ⟨rfl, trivial⟩
  ·skip
   skip
   refine at_blk_same ?_
   refine at_then_normal ?_
   refine sr ?_
   refine av rfl (r_move rfl) ?_
   refine av rfl (r_assign rfl) ?_
   refine av rfl (r_assign rfl) ?_
   refine nwt [(2, _), (3, _)] ⟨rfl, rfl, trivial⟩ ?_
   refine at_ret ?_
   have K := of_some hF
   subst K
   exact at_return2 rfl rfl rfl (fun w1 hw => ⟨rfl, hw⟩)
def colon_groups.l0 (x0 : (Vector Int 16)) (i5 : Int) (i6 : (Vector Int 8)) : Option ((Vector Int 8)) :=
  if (decide (i5 < 8)) = true then (if (0 : Int) ≤ wr .i64 (2 * i5) ∧ wr .i64 (2 * i5) ≤ wr .i64 ((wr .i64 (2 * i5)) + 2) ∧ wr .i64 ((wr .i64 (2 * i5)) + 2) ≤ (16 : Int) then endian_OfBig (lsub (Vector.toList x0) (wr .i64 (2 * i5)) (wr .i64 ((wr .i64 (2 * i5)) + 2))) >>= fun t9 => if (0 : Int) ≤ i5 ∧ i5 < 8 then colon_groups.l0 x0 (wr .i64 (i5 + 1)) (vset i6 i5 (wr .u16 t9.1)) else none else none) else (some i6)
  partial_fixpoint
def colon_groups (x0 : (Vector Int 16)) : Option ((Vector Int 8)) :=
  colon_groups.l0 x0 0 (Vector.replicate 8 (0 : Int) : (Vector Int 8)) >>= fun q4 => some q4
theorem colon_groups_ok (x0 : (Vector Int 16)) (r : (Vector Int 8)) (hF : colon_groups x0 = some r) (w : World) :
    Calls Tryz.prog 199 #[.agg (Cd.cs (cVec (cInt .u8) 16 (by decide)) x0).toArray] w (fun e w' => e = .returned (.agg (Cd.cs (cVec (cInt .u16) 8 (by decide)) r).toArray) ∧ Below w.heap.size w w') := by
 unfold colon_groups at hF
 refine calls_enter (l := [.agg (Cd.cs (cVec (cInt .u8) 16 (by decide)) x0).toArray]) Tryz.func199 rfl rfl rfl ?_
 refine at_start ?_
 refine at_weak [(0, _)] ⟨rfl, trivial⟩ ?_
 refine sr ?_
 refine at_box (cs := Cd.cs (cVec (cInt .u8) 16 (by decide)) x0) rfl rfl rfl ?_
 intro b1
 refine at_alloc (cs := Cd.cs (cVec (cInt .u16) 8 (by decide)) (Vector.replicate 8 (0 : Int) : (Vector Int 8))) Tryz.zeroValue208 rfl rfl ?_
 intro b2
 refine nws [(1, _), (2, _)] ⟨rfl, rfl, trivial⟩ ?_
 refine at_alloc (cs := Cd.cs (cVec (cInt .u16) 8 (by decide)) (Vector.replicate 8 (0 : Int) : (Vector Int 8))) Tryz.zeroValue208 rfl rfl ?_
 intro b3
 refine nwt [(1, _), (2, _), (3, _)] ⟨rfl, rfl, rfl, trivial⟩ ?_
 refine at_seq ?_
 refine sr ?_
 refine av rfl (r_move rfl) ?_
 refine nwt [(1, _), (2, _), (3, _), (7, _)] ⟨rfl, rfl, rfl, rfl, trivial⟩ ?_
 refine at_block ?_
 obtain ⟨q4, hq4, hF⟩ := of_bindM hF
 refine at_weak [(1, _), (2, _), (3, _), (7, _)] ⟨rfl, rfl, rfl, rfl, trivial⟩ ?_
 refine at_loop_n (B := 0) (A := fun Y => At 26 [(2, .pointer (some ⟨b2, 0, none⟩)), (3, .pointer (some ⟨b3, 0, none⟩))] (Wd w [cellsE b3 (Cd.cs (cVec (cInt .u16) 8 (by decide)) q4) 208, cellsE b2 (Cd.cs (cVec (cInt .u16) 8 (by decide)) (Vector.replicate 8 (0 : Int) : (Vector Int 8))) 208]) Y) ?_ ?_
 ·intro K
  refine colon_groups.l0.partial_correctness x0 (motive := fun i5 i6 x => KN (fun Y => At 26 [(2, .pointer (some ⟨b2, 0, none⟩)), (3, .pointer (some ⟨b3, 0, none⟩))] (Wd w [cellsE b3 (Cd.cs (cVec (cInt .u16) 8 (by decide)) x) 208, cellsE b2 (Cd.cs (cVec (cInt .u16) 8 (by decide)) (Vector.replicate 8 (0 : Int) : (Vector Int 8))) 208]) Y) _ 0 → Round (fun Y => At 26 [(1, .pointer (some ⟨b1, 0, none⟩)), (2, .pointer (some ⟨b2, 0, none⟩)), (3, .pointer (some ⟨b3, 0, none⟩)), (7, .int .i64 i5)] (Wd w [cellsE b3 (Cd.cs (cVec (cInt .u16) 8 (by decide)) i6) 208, cellsE b2 (Cd.cs (cVec (cInt .u16) 8 (by decide)) (Vector.replicate 8 (0 : Int) : (Vector Int 8))) 208, cellsE b1 (Cd.cs (cVec (cInt .u8) 16 (by decide)) x0) 23]) Y) _ _ _) ?_ _ _ _ hq4 K
  ·clear K hF
   intro g ih i5 i6 x hF K
   refine at_round ?_
   refine sr ?_
   refine av rfl (r_ilss rfl rfl) ?_
   refine nwt [(1, _), (2, _), (3, _), (7, _), (8, _)] ⟨rfl, rfl, rfl, rfl, rfl, trivial⟩ ?_
   refine at_seq ?_
   rcases of_ite hF with ⟨h7, hF⟩ | ⟨h7, hF⟩
   ·refine at_cond_true rfl h7 ?_
    refine sn ?_
    refine at_seq ?_
    refine at_block ?_
    refine sr ?_
    refine av rfl (r_move rfl) ?_
    refine av rfl (r_assign rfl) ?_
    refine nws [(1, _), (2, _), (3, _), (4, _), (7, _)] ⟨rfl, rfl, rfl, rfl, rfl, trivial⟩ ?_
    refine av rfl (r_move rfl) ?_
    refine av rfl (r_imul rfl rfl) ?_
    refine av rfl (r_move rfl) ?_
    refine av rfl (r_imul rfl rfl) ?_
    refine av rfl (r_iadd rfl rfl) ?_
    obtain ⟨h8, hF⟩ := of_guard hF
    refine av rfl (r_view (c := (cInt .u8)) (v := x0) (l := wr .i64 (2 * i5)) (h := wr .i64 ((wr .i64 (2 * i5)) + 2)) Tryz.underlying23 Tryz.sizeOf5 rfl ⟨_, rfl⟩ ⟨_, rfl⟩ h8) ?_
    obtain ⟨t9, ht9, hF⟩ := of_bindM hF
    refine at_callB Tryz.func221 rfl (by kernel_rfl) rfl rfl (fun w hw => callB_of_call0 (endian_OfBig_ok _ _ _ _ ht9 w (Row.sub (lens_row (.s (.s .z)) (Lens.whole _ _) hw) (vbnd h8)))) ?_
    refine av rfl (r_move rfl) ?_
    refine av rfl (r_extract rfl rfl) ?_
    refine av rfl (r_extract rfl rfl) ?_
    refine av rfl (r_assign rfl) ?_
    refine av rfl (r_assign rfl) ?_
    refine nwt [(1, _), (2, _), (3, _), (4, _), (5, _), (7, _)] ⟨rfl, rfl, rfl, rfl, rfl, rfl, trivial⟩ ?_
    refine at_region ?_
    refine av rfl (r_move rfl) ?_
    refine av rfl (r_move rfl) ?_
    refine av rfl (r_conv Tryz.underlying31 Tryz.underlying191 rfl) ?_
    obtain ⟨h10, hF⟩ := of_guard hF
    refine av rfl (r_idxArr Tryz.underlying208 Tryz.sizeOf191 rfl rfl h10) ?_
    refine at_store (c := (cInt .u16)) (z := wr .u16 t9.1) .z (Lens.comp (Lens.whole _ _) (fun z => vset i6 i5 z) (Lens.vec (cInt .u16) (by decide) i6 i5 h10)) Tryz.sizeOf191 rfl rfl rfl ?_
    refine at_nil ?_
    refine at_weak [(1, _), (2, _), (3, _), (7, _)] ⟨rfl, rfl, rfl, rfl, trivial⟩ ?_
    refine at_blk_normal (at_then_normal ?_)
    refine at_region ?_
    refine av rfl (r_iadd rfl rfl) ?_
    refine av rfl (r_move rfl) ?_
    refine nwt [(1, _), (2, _), (3, _), (7, _)] ⟨rfl, rfl, rfl, rfl, trivial⟩ ?_
    exact at_weak_k (ih _ _ _ hF K) ⟨rfl, rfl, rfl, rfl, trivial⟩
   ·refine at_cond_false rfl h7 ?_
    refine at_exit ?_
    refine at_then_exit (at_then_exit ?_)
    refine at_drop (H := _) (.s (.s .z)) ?_
    obtain rfl := of_some hF
    exact at_weak_k K ⟨rfl, rfl, trivial⟩
 ·skip
  skip
  refine at_blk_same ?_
  refine at_then_normal ?_
  refine sr ?_
  refine av rfl (r_load_aggc (c := (cVec (cInt .u16) 8 (by decide))) (z := q4) Tryz.isAgg208 Tryz.sizeOf208 rfl (lens_cell .z (Lens.whole _ _))) ?_
  refine at_store (c := (cVec (cInt .u16) 8 (by decide))) (z := q4) (.s .z) (Lens.whole _ _) Tryz.sizeOf208 rfl rfl rfl ?_
  refine at_nil ?_
  refine at_drop (H := _) .z ?_
  refine at_weak [(2, _)] ⟨rfl, trivial⟩ ?_
  refine at_then_normal ?_
  refine at_ret ?_
  have K := of_some hF
  subst K
  exact at_res1 rfl (res_cell (c := (cVec (cInt .u16) 8 (by decide))) (y := q4) rfl .z (Lens.whole _ _) Tryz.isAgg208 Tryz.sizeOf208 (.inl rfl)) (fun w1 hw => ⟨rfl, hw.below⟩)
def colon_longest.l0 (x0 : (Vector Int 8)) (i3 : Int) (i4 : Int) (i5 : Int) (i6 : Int) : Option (Int × Int) :=
  if (decide (i6 < 8)) = true then (if (0 : Int) ≤ i6 ∧ i6 < 8 then if (vget x0 i6 != 0) = true then (colon_longest.l0 x0 i3 i4 0 (wr .i64 (i6 + 1))) else (if (decide (wr .i64 (i5 + 1) > i4)) = true then (colon_longest.l0 x0 (wr .i64 ((wr .i64 (i6 + 1)) - (wr .i64 (i5 + 1)))) (wr .i64 (i5 + 1)) (wr .i64 (i5 + 1)) (wr .i64 (i6 + 1))) else (colon_longest.l0 x0 i3 i4 (wr .i64 (i5 + 1)) (wr .i64 (i6 + 1)))) else none) else (some (i3, i4))
  partial_fixpoint
def colon_longest (x0 : (Vector Int 8)) : Option (Int × Int) :=
  colon_longest.l0 x0 0 0 0 0 >>= fun q2 => some (q2.1, q2.2)
theorem colon_longest_ok (x0 : (Vector Int 8)) (r : Int × Int) (hF : colon_longest x0 = some r) (w : World) :
    Calls Tryz.prog 200 #[.agg (Cd.cs (cVec (cInt .u16) 8 (by decide)) x0).toArray] w (fun e w' => e = .returned (.tuple #[.int .i64 r.1, .int .i64 r.2]) ∧ Below w.heap.size w w') := by
 unfold colon_longest at hF
 refine calls_enter (l := [.agg (Cd.cs (cVec (cInt .u16) 8 (by decide)) x0).toArray]) Tryz.func200 rfl rfl rfl ?_
 refine at_start ?_
 refine at_weak [(0, _)] ⟨rfl, trivial⟩ ?_
 refine sr ?_
 refine at_box (cs := Cd.cs (cVec (cInt .u16) 8 (by decide)) x0) rfl rfl rfl ?_
 intro b1
 refine av rfl (r_assign rfl) ?_
 refine av rfl (r_assign rfl) ?_
 refine nws [(1, _), (2, _), (3, _)] ⟨rfl, rfl, rfl, trivial⟩ ?_
 refine av rfl (r_assign rfl) ?_
 refine nwt [(1, _), (2, _), (3, _), (4, _)] ⟨rfl, rfl, rfl, rfl, trivial⟩ ?_
 refine at_seq ?_
 refine sr ?_
 refine av rfl (r_load_aggc (c := (cVec (cInt .u16) 8 (by decide))) (z := x0) Tryz.isAgg208 Tryz.sizeOf208 rfl (lens_cell .z (Lens.whole _ _))) ?_
 refine av rfl (r_move rfl) ?_
 refine at_nil ?_
 refine at_drop (H := _) .z ?_
 refine at_weak [(2, _), (3, _), (4, _), (7, _), (8, _)] ⟨rfl, rfl, rfl, rfl, rfl, trivial⟩ ?_
 refine at_then_normal ?_
 refine at_block ?_
 obtain ⟨q2, hq2, hF⟩ := of_bindM hF
 refine at_weak [(2, _), (3, _), (4, _), (7, _), (8, _)] ⟨rfl, rfl, rfl, rfl, rfl, trivial⟩ ?_
 refine at_loop_n (B := 0) (A := fun Y => At 27 [(2, .int .i64 q2.1), (3, .int .i64 q2.2)] (Wd w []) Y) ?_ ?_
 ·intro K
  refine colon_longest.l0.partial_correctness x0 (motive := fun i3 i4 i5 i6 x => KN (fun Y => At 27 [(2, .int .i64 x.1), (3, .int .i64 x.2)] (Wd w []) Y) _ 0 → Round (fun Y => At 27 [(2, .int .i64 i3), (3, .int .i64 i4), (4, .int .i64 i5), (7, .agg (Cd.cs (cVec (cInt .u16) 8 (by decide)) x0).toArray), (8, .int .i64 i6)] (Wd w []) Y) _ _ _) ?_ _ _ _ _ _ hq2 K
  ·clear K hF
   intro g ih i3 i4 i5 i6 x hF K
   refine at_round ?_
   refine sr ?_
   refine av rfl (r_ilss rfl rfl) ?_
   refine nwt [(2, _), (3, _), (4, _), (7, _), (8, _), (9, _)] ⟨rfl, rfl, rfl, rfl, rfl, rfl, trivial⟩ ?_
   refine at_seq ?_
   rcases of_ite hF with ⟨h7, hF⟩ | ⟨h7, hF⟩
   ·refine at_cond_true rfl h7 ?_
    refine sn ?_
    refine at_seq ?_
    refine at_block ?_
    refine sr ?_
    refine av rfl (r_move rfl) ?_
    obtain ⟨h8, hF⟩ := of_guard hF
    refine av rfl (r_idxVal Tryz.underlying208 Tryz.sizeOf191 rfl rfl h8 (part_vOf (Lens.vec (cInt .u16) (by decide) x0 i6 h8) Tryz.isAgg191 Tryz.sizeOf191 (.inr rfl))) ?_
    refine av rfl (r_assign rfl) ?_
    refine av rfl (r_assign rfl) ?_
    refine nwt [(2, _), (3, _), (4, _), (5, _), (6, _), (7, _), (8, _)] ⟨rfl, rfl, rfl, rfl, rfl, rfl, rfl, trivial⟩ ?_
    refine at_seq ?_
    refine sr ?_
    refine av rfl (r_move rfl) ?_
    refine av rfl (r_ineq rfl rfl) ?_
    refine nwt [(2, _), (3, _), (4, _), (5, _), (7, _), (8, _), (13, _)] ⟨rfl, rfl, rfl, rfl, rfl, rfl, rfl, trivial⟩ ?_
    rcases of_ite hF with ⟨h9, hF⟩ | ⟨h9, hF⟩
    ·refine at_cond_true rfl h9 ?_
     refine sr ?_
     refine av rfl (r_assign rfl) ?_
     refine nwt [(2, _), (3, _), (4, _), (7, _), (8, _)] ⟨rfl, rfl, rfl, rfl, rfl, trivial⟩ ?_
     refine at_exit ?_
     refine at_then_exit (at_blk_same (at_then_normal ?_))
     refine at_region ?_
     refine av rfl (r_iadd rfl rfl) ?_
     refine av rfl (r_move rfl) ?_
     refine nwt [(2, _), (3, _), (4, _), (7, _), (8, _)] ⟨rfl, rfl, rfl, rfl, rfl, trivial⟩ ?_
     exact at_weak_k (ih _ _ _ _ _ hF K) ⟨rfl, rfl, rfl, rfl, rfl, trivial⟩
    ·refine at_cond_false rfl h9 ?_
     refine sns ?_
     refine av rfl (r_move rfl) ?_
     refine av rfl (r_iadd rfl rfl) ?_
     refine av rfl (r_assign rfl) ?_
     refine nws [(2, _), (3, _), (4, _), (5, _), (7, _), (8, _)] ⟨rfl, rfl, rfl, rfl, rfl, rfl, trivial⟩ ?_
     refine av rfl (r_move rfl) ?_
     refine av rfl (r_move rfl) ?_
     refine av rfl (r_igtr rfl rfl) ?_
     refine nwt [(2, _), (3, _), (4, _), (5, _), (7, _), (8, _), (18, _)] ⟨rfl, rfl, rfl, rfl, rfl, rfl, rfl, trivial⟩ ?_
     rcases of_ite hF with ⟨h10, hF⟩ | ⟨h10, hF⟩
     ·refine at_cond_true rfl h10 ?_
      refine at_region ?_
      refine av rfl (r_move rfl) ?_
      refine av rfl (r_iadd rfl rfl) ?_
      refine av rfl (r_move rfl) ?_
      refine av rfl (r_isub rfl rfl) ?_
      refine av rfl (r_move rfl) ?_
      refine av rfl (r_assign rfl) ?_
      refine av rfl (r_assign rfl) ?_
      refine at_nil ?_
      refine at_weak [(2, _), (3, _), (4, _), (7, _), (8, _)] ⟨rfl, rfl, rfl, rfl, rfl, trivial⟩ ?_
      refine at_blk_normal (at_then_normal ?_)
      refine at_region ?_
      refine av rfl (r_iadd rfl rfl) ?_
      refine av rfl (r_move rfl) ?_
      refine nwt [(2, _), (3, _), (4, _), (7, _), (8, _)] ⟨rfl, rfl, rfl, rfl, rfl, trivial⟩ ?_
      exact at_weak_k (ih _ _ _ _ _ hF K) ⟨rfl, rfl, rfl, rfl, rfl, trivial⟩
     ·refine at_cond_false rfl h10 ?_
      refine at_skip ?_
      refine at_blk_normal (at_then_normal ?_)
      refine at_region ?_
      refine av rfl (r_iadd rfl rfl) ?_
      refine av rfl (r_move rfl) ?_
      refine nwt [(2, _), (3, _), (4, _), (7, _), (8, _)] ⟨rfl, rfl, rfl, rfl, rfl, trivial⟩ ?_
      exact at_weak_k (ih _ _ _ _ _ hF K) ⟨rfl, rfl, rfl, rfl, rfl, trivial⟩
   ·refine at_cond_false rfl h7 ?_
    refine at_exit ?_
    refine at_then_exit (at_then_exit ?_)
    obtain rfl := of_some hF
    exact at_weak_k K ⟨rfl, rfl, trivial⟩
 ·skip
  skip
  refine at_blk_same ?_
  refine at_then_normal ?_
  refine sr ?_
  refine av rfl (r_move rfl) ?_
  refine av rfl (r_move rfl) ?_
  refine av rfl (r_assign rfl) ?_
  refine av rfl (r_assign rfl) ?_
  refine nwt [(2, _), (3, _)] ⟨rfl, rfl, trivial⟩ ?_
  refine at_ret ?_
  have K := of_some hF
  subst K
  exact at_return2 rfl rfl rfl (fun w1 hw => ⟨rfl, hw.below⟩)
def hexes_Group.l0 (i2 : Int) (i3 : ByteArray) : Option (ByteArray) :=
  if (0 : Int) ≤ iand .u16 i2 15 ∧ iand .u16 i2 15 < ((⟨#[48, 49, 50, 51, 52, 53, 54, 55, 56, 57, 97, 98, 99, 100, 101, 102]⟩ : ByteArray).size : Int) then if (Utf8.encode (bt (⟨#[48, 49, 50, 51, 52, 53, 54, 55, 56, 57, 97, 98, 99, 100, 101, 102]⟩ : ByteArray) (iand .u16 i2 15))).size + i3.size ≤ 140737488355328 then if (ishr .u16 i2 4 == 0) = true then (some ((Utf8.encode (bt (⟨#[48, 49, 50, 51, 52, 53, 54, 55, 56, 57, 97, 98, 99, 100, 101, 102]⟩ : ByteArray) (iand .u16 i2 15))) ++ i3)) else (hexes_Group.l0 (ishr .u16 i2 4) ((Utf8.encode (bt (⟨#[48, 49, 50, 51, 52, 53, 54, 55, 56, 57, 97, 98, 99, 100, 101, 102]⟩ : ByteArray) (iand .u16 i2 15))) ++ i3)) else none else none
  partial_fixpoint
def hexes_Group (x0 : Int) : Option (ByteArray) :=
  hexes_Group.l0 x0 (⟨#[]⟩) >>= fun q1 => some q1
theorem hexes_Group_ok (x0 : Int) (r : ByteArray) (hF : hexes_Group x0 = some r) (w : World) :
    Calls Tryz.prog 222 #[.int .u16 x0] w (fun e w' => e = .returned (.string r) ∧ w' = w) := by
 unfold hexes_Group at hF
 refine calls_enter (l := [.int .u16 x0]) Tryz.func222 rfl rfl rfl ?_
 refine at_weak [(0, _)] ⟨rfl, trivial⟩ ?_
 refine sr ?_
 refine av rfl (r_assign rfl) ?_
 refine nws [(0, _)] ⟨rfl, trivial⟩ ?_
 refine av rfl (r_assign rfl) ?_
 refine nwt [(0, _), (3, _)] ⟨rfl, rfl, trivial⟩ ?_
 refine at_block ?_
 obtain ⟨q1, hq1, hF⟩ := of_bindM hF
 refine at_weak [(0, _), (3, _)] ⟨rfl, rfl, trivial⟩ ?_
 refine at_loop_only (r := r) (q := q1) ?_ ?_
 ·intro K
  refine hexes_Group.l0.partial_correctness  (motive := fun i2 i3 x => x = r → Round (fun Y => At 15 [(0, .int .u16 i2), (3, .string i3)] (fun w' => w' = w) Y) _ _ _) ?_ _ _ _ hq1 K
  ·clear K hF
   intro g ih i2 i3 x hF K
   refine at_round ?_
   refine at_block ?_
   refine sr ?_
   refine av rfl (r_move rfl) ?_
   refine av rfl (r_iand rfl rfl) ?_
   obtain ⟨h4, hF⟩ := of_guard hF
   refine av rfl (r_index_str Tryz.underlying9 rfl rfl h4) ?_
   refine av rfl (r_conv_str Tryz.underlying5 Tryz.underlying9 rfl) ?_
   refine av rfl (r_move rfl) ?_
   obtain ⟨h5, hF⟩ := of_guard hF
   refine av rfl (r_concat rfl rfl h5) ?_
   refine av rfl (r_assign rfl) ?_
   refine nws [(0, _), (3, _)] ⟨rfl, rfl, trivial⟩ ?_
   refine av rfl (r_move rfl) ?_
   refine av rfl (r_ishr rfl rfl (by decide)) ?_
   refine av rfl (r_assign rfl) ?_
   refine nws [(0, _), (3, _)] ⟨rfl, rfl, trivial⟩ ?_
   refine av rfl (r_move rfl) ?_
   refine av rfl (r_ieql rfl rfl) ?_
   refine nwt [(0, _), (3, _), (13, _)] ⟨rfl, rfl, rfl, trivial⟩ ?_
   rcases of_ite hF with ⟨h6, hF⟩ | ⟨h6, hF⟩
   ·refine at_cond_true rfl h6 ?_
    refine sr ?_
    refine av rfl (r_move rfl) ?_
    refine av rfl (r_assign rfl) ?_
    refine nwt [(2, _)] ⟨rfl, trivial⟩ ?_
    refine at_ret ?_
    refine at_blk_ret (at_then_ret (at_blk_ret ?_))
    obtain rfl := of_some hF
    subst K
    exact at_return1 rfl rfl (fun w1 hw => ⟨rfl, hw⟩)
   ·refine at_cond_false rfl h6 ?_
    refine at_skip ?_
    refine at_blk_normal (at_then_normal ?_)
    exact at_weak_k (ih _ _ _ hF K) ⟨rfl, rfl, trivial⟩
 ·exact of_some hF
def colon_row.l0 (x0 : List Int) (i4 : List ByteArray) (i5 : Int) : Option (List ByteArray) :=
  if (decide (i5 < (x0.length : Int))) = true then (if (0 : Int) ≤ i5 ∧ i5 < (x0.length : Int) then hexes_Group (lget x0 i5) >>= fun t15 => if (i4.length + 1) * 16 ≤ 140737488355328 then colon_row.l0 x0 (i4 ++ [t15]) (wr .i64 (i5 + 1)) else none else none) else (some i4)
  partial_fixpoint
def colon_row (x0 : List Int) : Option (ByteArray) :=
  colon_row.l0 x0 ([] : List ByteArray) 0 >>= fun q3 => if List.length q3 ≤ 140737488355328 then if (bjoin q3 (⟨#[58]⟩ : ByteArray)).size ≤ 140737488355328 then some (bjoin q3 (⟨#[58]⟩ : ByteArray)) else none else none
theorem colon_row_ok (x0 : List Int) (p0_ : Option Addr) (c0_ : Nat) (r : ByteArray) (hF : colon_row x0 = some r) (w : World) (hr0 : Row (cInt .u16) w p0_ c0_ x0) :
    Calls Tryz.prog 201 #[.slice p0_ x0.length c0_] w (fun e w' => e = .returned (.string r) ∧ Below w.heap.size w w') := by
 unfold colon_row at hF
 refine calls_enter (l := [.slice p0_ x0.length c0_]) Tryz.func201 rfl rfl rfl ?_
 refine at_start ?_
 refine at_weak [(0, _)] ⟨rfl, trivial⟩ ?_
 refine sr ?_
 refine av rfl (r_assign rfl) ?_
 refine nws [(0, _)] ⟨rfl, trivial⟩ ?_
 refine av rfl (r_assign rfl) ?_
 refine nwt [(0, _), (3, _)] ⟨rfl, rfl, trivial⟩ ?_
 refine at_seq ?_
 refine sr ?_
 refine av rfl (r_move rfl) ?_
 refine av rfl (r_len_sl Tryz.underlying218 rfl) ?_
 refine av rfl (r_move rfl) ?_
 refine nwt [(3, _), (6, _), (7, _), (8, _)] ⟨rfl, rfl, rfl, rfl, trivial⟩ ?_
 refine at_block ?_
 refine at_own_nil cStr 9 ?_
 refine at_weak [(3, .slice none ([] : List ByteArray).length 0), (6, _), (7, _), (8, _)] ⟨rfl, rfl, rfl, rfl, trivial⟩ ?_
 obtain ⟨q3, hq3, hF⟩ := of_bindM hF
 refine at_weak [(3, _), (6, _), (7, _), (8, _)] ⟨rfl, rfl, rfl, rfl, trivial⟩ ?_
 refine at_loop_n (B := 0) (A := fun Y => ∀ (p8 : Option Addr) (c9 : Nat), At 20 [(3, .slice p8 q3.length c9)] (Wd w [rowE cStr 9 p8 c9 q3]) Y) ?_ ?_
 ·intro K
  refine colon_row.l0.partial_correctness x0 (motive := fun i4 i5 x => KN (fun Y => ∀ (p8 : Option Addr) (c9 : Nat), At 20 [(3, .slice p8 x.length c9)] (Wd w [rowE cStr 9 p8 c9 x]) Y) _ 0 → Round (fun Y => ∀ (p6 : Option Addr) (c7 : Nat), At 20 [(3, .slice p6 i4.length c7), (6, .slice p0_ x0.length c0_), (7, .int .i64 (x0.length : Int)), (8, .int .i64 i5)] (Wd w [rowE cStr 9 p6 c7 i4]) Y) _ _ _) ?_ _ _ _ hq3 K none 0
  ·clear K hF
   intro g ih i4 i5 x hF K p6 c7
   refine at_round ?_
   refine sr ?_
   refine av rfl (r_ilss rfl rfl) ?_
   refine nwt [(3, _), (6, _), (7, _), (8, _), (9, _)] ⟨rfl, rfl, rfl, rfl, rfl, trivial⟩ ?_
   refine at_seq ?_
   rcases of_ite hF with ⟨h10, hF⟩ | ⟨h10, hF⟩
   ·refine at_cond_true rfl h10 ?_
    refine sn ?_
    refine at_seq ?_
    refine at_block ?_
    refine sr ?_
    obtain ⟨h11, hF⟩ := of_guard hF
    obtain ⟨b13, o14, hp12⟩ := row_ptr hr0 h11
    refine av rfl (r_idx Tryz.underlying218 Tryz.sizeOf191 rfl rfl h11 hp12) ?_
    refine av rfl (r_load_cell Tryz.isAgg191 rfl (row_cell0 (fun _ h => h.below) hr0 h11 hp12 rfl)) ?_
    refine av rfl (r_assign rfl) ?_
    refine nwt [(3, _), (5, _), (6, _), (7, _), (8, _)] ⟨rfl, rfl, rfl, rfl, rfl, trivial⟩ ?_
    refine at_region ?_
    refine av rfl (r_move rfl) ?_
    refine av rfl (r_move rfl) ?_
    obtain ⟨t15, ht15, hF⟩ := of_bindM hF
    refine at_call0 Tryz.func222 rfl (by kernel_rfl) rfl rfl (fun w => hexes_Group_ok _ _ ht15 w) ?_
    refine at_lit (cs := cStr.all ([t15] : List ByteArray)) Tryz.underlying38 Tryz.sizeOf9 Tryz.zeroValue9 rfl rfl rfl (by kernel_rfl) rfl ?_
    intro b16
    obtain ⟨h17, hF⟩ := of_guard hF
    refine at_append (z := .string ⟨#[]⟩) (c := cStr) (ys := ([t15] : List ByteArray)) (.s .z) Tryz.underlying38 infoG39 (by kernel_rfl) (by kernel_rfl) rfl rfl rfl rfl (fun _ hw => cells_src (hw.ok (Upd.mem .z))) (by kernel_rfl) h17 (app_small h17) rfl ?_
    intro p18 c19
    refine av rfl (r_assign rfl) ?_
    refine at_nil ?_
    refine at_drop (H := _) .z ?_
    refine at_weak [(3, _), (6, _), (7, _), (8, _)] ⟨rfl, rfl, rfl, rfl, trivial⟩ ?_
    refine at_blk_normal (at_then_normal ?_)
    refine at_region ?_
    refine av rfl (r_iadd rfl rfl) ?_
    refine av rfl (r_move rfl) ?_
    refine nwt [(3, _), (6, _), (7, _), (8, _)] ⟨rfl, rfl, rfl, rfl, trivial⟩ ?_
    exact at_weak_k (ih _ _ _ hF K p18 c19) ⟨rfl, rfl, rfl, rfl, trivial⟩
   ·refine at_cond_false rfl h10 ?_
    refine at_exit ?_
    refine at_then_exit (at_then_exit ?_)
    obtain rfl := of_some hF
    exact at_weak_k (K p6 c7) ⟨rfl, trivial⟩
 ·skip
  intro p8 c9
  refine at_blk_same ?_
  refine at_then_normal ?_
  refine sr ?_
  refine av rfl (r_move rfl) ?_
  obtain ⟨h20, hF⟩ := of_guard hF
  obtain ⟨h21, hF⟩ := of_guard hF
  refine at_callB Tryz.func47 rfl (by kernel_rfl) rfl rfl (fun w1 hw => join_ok _ _ h20 h21 _ _ w1 (hw.own .z).row) ?_
  refine av rfl (r_assign rfl) ?_
  refine at_nil ?_
  refine at_drop (H := _) .z ?_
  refine at_weak [(2, _)] ⟨rfl, trivial⟩ ?_
  refine at_then_normal ?_
  refine at_ret ?_
  have K := of_some hF
  subst K
  exact at_return1 rfl rfl (fun w1 hw => ⟨rfl, hw.below⟩)
def colon_Text (x0 : (Vector Int 16)) : Option (ByteArray) :=
  colon_groups x0 >>= fun t2 => colon_longest t2 >>= fun t4 => if (decide (t4.2 < 2)) = true then (colon_row (Vector.toList t2) >>= fun t6 => some t6) else (if (0 : Int) ≤ 0 ∧ 0 ≤ t4.1 ∧ t4.1 ≤ (8 : Int) then colon_row (lsub (Vector.toList t2) 0 t4.1) >>= fun t8 => if t8.size + (⟨#[58, 58]⟩ : ByteArray).size ≤ 140737488355328 then if (0 : Int) ≤ wr .i64 (t4.1 + t4.2) ∧ wr .i64 (t4.1 + t4.2) ≤ 8 ∧ 8 ≤ (8 : Int) then colon_row (lsub (Vector.toList t2) (wr .i64 (t4.1 + t4.2)) 8) >>= fun t11 => if (t8 ++ (⟨#[58, 58]⟩ : ByteArray)).size + t11.size ≤ 140737488355328 then some ((t8 ++ (⟨#[58, 58]⟩ : ByteArray)) ++ t11) else none else none else none else none)
theorem colon_Text_ok (x0 : (Vector Int 16)) (r : ByteArray) (hF : colon_Text x0 = some r) (w : World) :
    Calls Tryz.prog 184 #[.agg (Cd.cs (cVec (cInt .u8) 16 (by decide)) x0).toArray] w (fun e w' => e = .returned (.string r) ∧ Below w.heap.size w w') := by
 unfold colon_Text at hF
 refine calls_enter (l := [.agg (Cd.cs (cVec (cInt .u8) 16 (by decide)) x0).toArray]) Tryz.func184 rfl rfl rfl ?_
 refine at_start ?_
 refine at_weak [(0, _)] ⟨rfl, trivial⟩ ?_
 refine sr ?_
 refine at_box (cs := Cd.cs (cVec (cInt .u8) 16 (by decide)) x0) rfl rfl rfl ?_
 intro b1
 refine av rfl (r_assign rfl) ?_
 refine nws [(1, _)] ⟨rfl, trivial⟩ ?_
 refine av rfl (r_load_aggc (c := (cVec (cInt .u8) 16 (by decide))) (z := x0) Tryz.isAgg23 Tryz.sizeOf23 rfl (lens_cell .z (Lens.whole _ _))) ?_
 obtain ⟨t2, ht2, hF⟩ := of_bindM hF
 refine at_callB Tryz.func199 rfl (by kernel_rfl) rfl rfl (fun w hw => colon_groups_ok _ _ ht2 w) ?_
 refine at_alloc (cs := Cd.cs (cVec (cInt .u16) 8 (by decide)) (Vector.replicate 8 (0 : Int) : (Vector Int 8))) Tryz.zeroValue208 rfl rfl ?_
 intro b3
 refine at_store (c := (cVec (cInt .u16) 8 (by decide))) (z := t2) .z (Lens.whole _ _) Tryz.sizeOf208 rfl rfl rfl ?_
 refine at_nil ?_
 refine at_drop (H := _) (.s .z) ?_
 refine at_weak [(3, _)] ⟨rfl, trivial⟩ ?_
 refine at_then_normal ?_
 refine sr ?_
 refine av rfl (r_load_aggc (c := (cVec (cInt .u16) 8 (by decide))) (z := t2) Tryz.isAgg208 Tryz.sizeOf208 rfl (lens_cell .z (Lens.whole _ _))) ?_
 obtain ⟨t4, ht4, hF⟩ := of_bindM hF
 refine at_callB Tryz.func200 rfl (by kernel_rfl) rfl rfl (fun w hw => colon_longest_ok _ _ ht4 w) ?_
 refine av rfl (r_move rfl) ?_
 refine av rfl (r_extract rfl rfl) ?_
 refine av rfl (r_extract rfl rfl) ?_
 refine av rfl (r_assign rfl) ?_
 refine av rfl (r_assign rfl) ?_
 refine nwt [(3, _), (4, _), (5, _)] ⟨rfl, rfl, rfl, trivial⟩ ?_
 refine at_seq ?_
 refine sr ?_
 refine av rfl (r_move rfl) ?_
 refine av rfl (r_ilss rfl rfl) ?_
 refine nwt [(3, _), (4, _), (5, _), (14, _)] ⟨rfl, rfl, rfl, rfl, trivial⟩ ?_
 rcases of_ite hF with ⟨h5, hF⟩ | ⟨h5, hF⟩
 ·refine at_cond_true rfl h5 ?_
  refine sr ?_
  refine av rfl (r_slice_vec t2 Tryz.underlying208 Tryz.sizeOf191 rfl) ?_
  obtain ⟨t6, ht6, hF⟩ := of_bindM hF
  refine at_callB Tryz.func201 rfl (by kernel_rfl) rfl rfl (fun w hw => colon_row_ok _ _ _ _ ht6 w (vec_row (hw.ok (Upd.mem .z)))) ?_
  refine av rfl (r_assign rfl) ?_
  refine at_nil ?_
  refine at_drop (H := _) .z ?_
  refine at_weak [(2, _)] ⟨rfl, trivial⟩ ?_
  refine at_then_normal ?_
  refine rt ?_
  have K := of_some hF
  subst K
  exact at_return1 rfl rfl (fun w1 hw => ⟨rfl, hw.below⟩)
 ·refine at_cond_false rfl h5 ?_
  refine sn ?_
  refine at_seq ?_
  refine at_draw (by kernel_rfl) (by kernel_rfl) (fun _ h => h.drew) ?_
  refine atq_val rfl rfl rfl (r_move rfl) ?_
  obtain ⟨h7, hF⟩ := of_guard hF
  refine atq_val rfl rfl rfl (r_view (c := (cInt .u16)) (v := t2) (l := 0) (h := t4.1) Tryz.underlying208 Tryz.sizeOf191 rfl rfl ⟨_, rfl⟩ h7) ?_
  obtain ⟨t8, ht8, hF⟩ := of_bindM hF
  refine atq_call Tryz.func201 rfl (by kernel_rfl) rfl rfl (fun w hw => (colon_row_ok _ _ _ _ ht8 w (Row.sub (lens_row .z (Lens.whole _ _) hw) (vbnd h7))).mono fun _ _ h => ⟨h.1, hw.call h.2⟩) ?_
  obtain ⟨h9, hF⟩ := of_guard hF
  refine atq_val rfl rfl rfl (r_concat rfl rfl h9) ?_
  refine atq_val rfl rfl rfl (r_move rfl) ?_
  refine atq_val rfl rfl rfl (r_move rfl) ?_
  refine atq_val rfl rfl rfl (r_iadd rfl rfl) ?_
  obtain ⟨h10, hF⟩ := of_guard hF
  refine atq_val rfl rfl rfl (r_view (c := (cInt .u16)) (v := t2) (l := wr .i64 (t4.1 + t4.2)) (h := 8) Tryz.underlying208 Tryz.sizeOf191 rfl ⟨_, rfl⟩ rfl h10) ?_
  obtain ⟨t11, ht11, hF⟩ := of_bindM hF
  refine atq_call Tryz.func201 rfl (by kernel_rfl) rfl rfl (fun w hw => (colon_row_ok _ _ _ _ ht11 w (Row.sub (lens_row .z (Lens.whole _ _) hw) (vbnd h10))).mono fun _ _ h => ⟨h.1, hw.call h.2⟩) ?_
  obtain ⟨h12, hF⟩ := of_guard hF
  refine atq_val rfl rfl rfl (r_concat rfl rfl h12) ?_
  refine atq_val rfl rfl rfl (r_assign rfl) ?_
  refine atq_nil ?_
  refine at_drop (H := _) .z ?_
  refine at_weak [(2, _)] ⟨rfl, trivial⟩ ?_
  refine at_then_normal ?_
  refine at_ret ?_
  have K := of_some hF
  subst K
  exact at_return1 rfl rfl (fun w1 hw => ⟨rfl, hw.below⟩)
end Go.Proofs.YtkkmmpofdcccmaaGreatDoor
