/- Functions with the same answers as the Go functions that they are named for, and the proofs of it, by a program of this project (gen.py). -/
import Derived.Test.YtdhkcjddjmgciaaT
import Derived.Test.YtdhkcjddjmgciaaShelf
import Derived.Test.YtdhkcjddjmgciaaProg
import Derived.Test.YtdhkcjddjmgciaaG1
set_option linter.unusedVariables false
set_option linter.unusedSimpArgs false
namespace Go.Proofs.Ytdhkcjddjmgciaa
open E Go.RowKit

theorem infoG23_is : (Try.prog.info? 3).isSome = true := by kernel_rfl
noncomputable def infoG23_v : TypeInfo := (Try.prog.info? 3).get infoG23_is
theorem infoG23 : Try.prog.info? 3 = some infoG23_v := (Option.some_get _).symm
theorem infoG25_is : (Try.prog.info? 5).isSome = true := by kernel_rfl
noncomputable def infoG25_v : TypeInfo := (Try.prog.info? 5).get infoG25_is
theorem infoG25 : Try.prog.info? 5 = some infoG25_v := (Option.some_get _).symm

def crawlwayref01_Bit.l0 (x1 : Int) (i6 : Int) (i7 : Int) : Option (Int) :=
  if (decide (i7 > Int.tmod x1 8)) = true then (crawlwayref01_Bit.l0 x1 (wr .i64 (Int.tdiv i6 2)) (wr .i64 (i7 - 1))) else (some i6)
  partial_fixpoint
def crawlwayref01_Bit (x0 : List Int) (x1 : Int) : Option (Int) :=
  if (0 : Int) ≤ wr .i64 (Int.tdiv x1 8) ∧ wr .i64 (Int.tdiv x1 8) < (x0.length : Int) then crawlwayref01_Bit.l0 x1 (wr .i64 (lget x0 (wr .i64 (Int.tdiv x1 8)))) 7 >>= fun q5 => some (Int.tmod q5 2) else none
theorem crawlwayref01_Bit_ok (x0 : List Int) (p0_ : Option Addr) (c0_ : Nat) (x1 : Int) (r : Int) (hF : crawlwayref01_Bit x0 x1 = some r) (w : World) (hr0 : Row (cInt .u8) w p0_ c0_ x0) :
    Calls Try.prog 87 #[.slice p0_ x0.length c0_, .int .i64 x1] w (fun e w' => e = .returned (.int .i64 r) ∧ w' = w) := by
  unfold crawlwayref01_Bit at hF
  refine calls_enter (l := [.slice p0_ x0.length c0_, .int .i64 x1]) Try.func87 rfl rfl rfl ?_
  refine at_weak [(0, _), (1, _)] ⟨rfl, rfl, trivial⟩ ?_
  refine at_seq ?_
  refine at_region ?_
  refine at_val rfl rfl rfl (r_assign rfl) ?_
  refine at_nil ?_
  refine at_weak [(0, _), (1, _)] ⟨rfl, rfl, trivial⟩ ?_
  refine at_then_normal ?_
  refine at_seq ?_
  refine at_region ?_
  refine at_val rfl rfl rfl (r_move rfl) ?_
  refine at_val rfl rfl rfl (r_move rfl) ?_
  refine at_val rfl rfl rfl (r_iquo rfl rfl (by decide)) ?_
  obtain ⟨h1, hF⟩ := of_guard hF
  obtain ⟨b3, o4, hp2⟩ := row_ptr hr0 h1
  refine at_val rfl rfl rfl (r_idx Try.underlying79 Try.sizeOf5 rfl rfl h1 hp2) ?_
  refine at_val rfl rfl rfl (r_load_cell Try.isAgg5 rfl (row_cell0 (fun w1 (h : w1 = w) => by subst h; exact Below.refl _ _) hr0 h1 hp2 rfl)) ?_
  refine at_val rfl rfl rfl (r_conv Try.underlying5 Try.underlying3 rfl) ?_
  refine at_val rfl rfl rfl (r_assign rfl) ?_
  refine at_nil ?_
  refine at_weak [(1, _), (5, _)] ⟨rfl, rfl, trivial⟩ ?_
  refine at_then_normal ?_
  refine at_seq ?_
  refine at_seq ?_
  refine at_region ?_
  refine at_val rfl rfl rfl (r_assign rfl) ?_
  refine at_nil ?_
  refine at_weak [(1, _), (5, _), (6, _)] ⟨rfl, rfl, rfl, trivial⟩ ?_
  refine at_then_normal ?_
  refine at_block ?_
  obtain ⟨q5, hq5, hF⟩ := of_bindM hF
  refine at_weak [(1, _), (5, _), (6, _)] ⟨rfl, rfl, rfl, trivial⟩ ?_
  refine at_loop_n (B := 0) (A := fun Y => At 23 [(5, .int .i64 q5)] (fun w' => w' = w) Y) ?_ ?_
  · intro K
    refine crawlwayref01_Bit.l0.partial_correctness x1 (motive := fun i6 i7 x => KN (fun Y => At 23 [(5, .int .i64 x)] (fun w' => w' = w) Y) _ 0 → Round (fun Y => At 23 [(1, .int .i64 x1), (5, .int .i64 i6), (6, .int .i64 i7)] (fun w' => w' = w) Y) _ _ _) ?_ _ _ _ hq5 K
    · clear K hF
      intro g ih i6 i7 x hF K
      refine at_round ?_
      refine at_seq ?_
      refine at_seq ?_
      refine at_region ?_
      refine at_val rfl rfl rfl (r_move rfl) ?_
      refine at_val rfl rfl rfl (r_move rfl) ?_
      refine at_val rfl rfl rfl (r_irem rfl rfl (by decide)) ?_
      refine at_val rfl rfl rfl (r_igtr rfl rfl) ?_
      refine at_nil ?_
      refine at_weak [(1, _), (5, _), (6, _), (16, _)] ⟨rfl, rfl, rfl, rfl, trivial⟩ ?_
      refine at_then_normal ?_
      rcases of_ite hF with ⟨h8, hF⟩ | ⟨h8, hF⟩
      · refine at_cond_true rfl h8 ?_
        refine at_skip ?_
        refine at_then_normal ?_
        refine at_seq ?_
        refine at_block ?_
        refine at_region ?_
        refine at_val rfl rfl rfl (r_move rfl) ?_
        refine at_val rfl rfl rfl (r_iquo rfl rfl (by decide)) ?_
        refine at_val rfl rfl rfl (r_assign rfl) ?_
        refine at_nil ?_
        refine at_weak [(1, _), (5, _), (6, _)] ⟨rfl, rfl, rfl, trivial⟩ ?_
        refine at_blk_normal (at_then_normal ?_)
        refine at_region ?_
        refine at_val rfl rfl rfl (r_move rfl) ?_
        refine at_val rfl rfl rfl (r_isub rfl rfl) ?_
        refine at_val rfl rfl rfl (r_assign rfl) ?_
        refine at_nil ?_
        refine at_weak [(1, _), (5, _), (6, _)] ⟨rfl, rfl, rfl, trivial⟩ ?_
        refine at_then_normal ?_
        exact at_weak_k (ih _ _ _ hF K) ⟨rfl, rfl, rfl, trivial⟩
      · refine at_cond_false rfl h8 ?_
        refine at_exit ?_
        refine at_then_exit (at_then_exit ?_)
        obtain rfl := of_some hF
        exact at_weak_k K ⟨rfl, trivial⟩
  · skip
    skip
    refine at_blk_same ?_
    refine at_then_normal ?_
    refine at_seq ?_
    refine at_region ?_
    refine at_val rfl rfl rfl (r_move rfl) ?_
    refine at_val rfl rfl rfl (r_irem rfl rfl (by decide)) ?_
    refine at_val rfl rfl rfl (r_assign rfl) ?_
    refine at_nil ?_
    refine at_weak [(4, _)] ⟨rfl, trivial⟩ ?_
    refine at_then_normal ?_
    refine at_ret ?_
    have K := of_some hF
    subst K
    exact at_return1 rfl rfl (fun w1 hw => ⟨rfl, hw⟩)

def crawlwayref04_Signs : Option (ByteArray) :=
  some (⟨#[65, 66, 67, 68, 69, 70, 71, 72, 73, 74, 75, 76, 77, 78, 79, 80, 81, 82, 83, 84, 85, 86, 87, 88, 89, 90, 97, 98, 99, 100, 101, 102, 103, 104, 105, 106, 107, 108, 109, 110, 111, 112, 113, 114, 115, 116, 117, 118, 119, 120, 121, 122, 48, 49, 50, 51, 52, 53, 54, 55, 56, 57, 43, 47]⟩)
theorem crawlwayref04_Signs_ok (r : ByteArray) (hF : crawlwayref04_Signs  = some r) (w : World) :
    Calls Try.prog 88 #[] w (fun e w' => e = .returned (.string r) ∧ w' = w) := by
  unfold crawlwayref04_Signs at hF
  refine calls_enter (l := []) Try.func88 rfl rfl rfl ?_
  refine at_weak [] trivial ?_
  refine at_seq ?_
  refine at_region ?_
  refine at_val rfl rfl rfl (r_assign rfl) ?_
  refine at_nil ?_
  refine at_weak [] trivial ?_
  refine at_then_normal ?_
  refine at_seq ?_
  refine at_region ?_
  refine at_val rfl rfl rfl (r_assign rfl) ?_
  refine at_nil ?_
  refine at_weak [(0, _)] ⟨rfl, trivial⟩ ?_
  refine at_then_normal ?_
  refine at_ret ?_
  have K := of_some hF
  subst K
  exact at_return1 rfl rfl (fun w1 hw => ⟨rfl, hw⟩)

def crawlwayref04_Encode.l1 (x0 : List Int) (i3 : Int) (i6 : Int) (i7 : Int) : Option (Int) :=
  if (decide (i7 < wr .i64 (i3 + 6))) = true then (if (decide (i7 < wr .i64 (8 * (x0.length : Int)))) = true then (crawlwayref01_Bit x0 i7 >>= fun t10 => crawlwayref04_Encode.l1 x0 i3 (wr .i64 ((wr .i64 (2 * i6)) + t10)) (wr .i64 (i7 + 1))) else (crawlwayref04_Encode.l1 x0 i3 (wr .i64 (2 * i6)) (wr .i64 (i7 + 1)))) else (some i6)
  partial_fixpoint
def crawlwayref04_Encode.l0 (x0 : List Int) (i2 : ByteArray) (i3 : Int) : Option (ByteArray) :=
  if (decide (i3 < wr .i64 (8 * (x0.length : Int)))) = true then (crawlwayref04_Encode.l1 x0 i3 0 i3 >>= fun q5 => crawlwayref04_Signs >>= fun t11 => if (0 : Int) ≤ q5 ∧ q5 ≤ wr .i64 (q5 + 1) ∧ wr .i64 (q5 + 1) ≤ (t11.size : Int) then if i2.size + (t11.extract (Int.toNat q5) (Int.toNat (wr .i64 (q5 + 1)))).size ≤ 140737488355328 then crawlwayref04_Encode.l0 x0 (i2 ++ (t11.extract (Int.toNat q5) (Int.toNat (wr .i64 (q5 + 1))))) (wr .i64 (i3 + 6)) else none else none) else (some i2)
  partial_fixpoint
def crawlwayref04_Encode.l2 (i15 : ByteArray) : Option (ByteArray) :=
  if (Int.tmod (i15.size : Int) 4 != 0) = true then (if i15.size + (⟨#[61]⟩ : ByteArray).size ≤ 140737488355328 then crawlwayref04_Encode.l2 (i15 ++ (⟨#[61]⟩ : ByteArray)) else none) else (some i15)
  partial_fixpoint
def crawlwayref04_Encode (x0 : List Int) : Option (ByteArray) :=
  crawlwayref04_Encode.l0 x0 (⟨#[]⟩) 0 >>= fun q1 => crawlwayref04_Encode.l2 q1 >>= fun q14 => some q14
theorem crawlwayref04_Encode_ok (x0 : List Int) (p0_ : Option Addr) (c0_ : Nat) (r : ByteArray) (hF : crawlwayref04_Encode x0 = some r) (w : World) (hr0 : Row (cInt .u8) w p0_ c0_ x0) :
    Calls Try.prog 43 #[.slice p0_ x0.length c0_] w (fun e w' => e = .returned (.string r) ∧ w' = w) := by
  unfold crawlwayref04_Encode at hF
  refine calls_enter (l := [.slice p0_ x0.length c0_]) Try.func43 rfl rfl rfl ?_
  refine at_weak [(0, _)] ⟨rfl, trivial⟩ ?_
  refine at_seq ?_
  refine at_region ?_
  refine at_val rfl rfl rfl (r_assign rfl) ?_
  refine at_nil ?_
  refine at_weak [(0, _)] ⟨rfl, trivial⟩ ?_
  refine at_then_normal ?_
  refine at_seq ?_
  refine at_region ?_
  refine at_val rfl rfl rfl (r_assign rfl) ?_
  refine at_nil ?_
  refine at_weak [(0, _), (3, _)] ⟨rfl, rfl, trivial⟩ ?_
  refine at_then_normal ?_
  refine at_seq ?_
  refine at_seq ?_
  refine at_region ?_
  refine at_val rfl rfl rfl (r_assign rfl) ?_
  refine at_nil ?_
  refine at_weak [(0, _), (3, _), (4, _)] ⟨rfl, rfl, rfl, trivial⟩ ?_
  refine at_then_normal ?_
  refine at_block ?_
  obtain ⟨q1, hq1, hF⟩ := of_bindM hF
  refine at_weak [(0, _), (3, _), (4, _)] ⟨rfl, rfl, rfl, trivial⟩ ?_
  refine at_loop_n (B := 0) (A := fun Y => At 47 [(3, .string q1)] (fun w' => w' = w) Y) ?_ ?_
  · intro K
    refine crawlwayref04_Encode.l0.partial_correctness x0 (motive := fun i2 i3 x => KN (fun Y => At 47 [(3, .string x)] (fun w' => w' = w) Y) _ 0 → Round (fun Y => At 47 [(0, .slice p0_ x0.length c0_), (3, .string i2), (4, .int .i64 i3)] (fun w' => w' = w) Y) _ _ _) ?_ _ _ _ hq1 K
    · clear K hF
      intro g ih i2 i3 x hF K
      refine at_round ?_
      refine at_seq ?_
      refine at_seq ?_
      refine at_region ?_
      refine at_val rfl rfl rfl (r_move rfl) ?_
      refine at_val rfl rfl rfl (r_move rfl) ?_
      refine at_val rfl rfl rfl (r_len_sl Try.underlying79 rfl) ?_
      refine at_val rfl rfl rfl (r_imul rfl rfl) ?_
      refine at_val rfl rfl rfl (r_ilss rfl rfl) ?_
      refine at_nil ?_
      refine at_weak [(0, _), (3, _), (4, _), (11, _)] ⟨rfl, rfl, rfl, rfl, trivial⟩ ?_
      refine at_then_normal ?_
      rcases of_ite hF with ⟨h4, hF⟩ | ⟨h4, hF⟩
      · refine at_cond_true rfl h4 ?_
        refine at_skip ?_
        refine at_then_normal ?_
        refine at_seq ?_
        refine at_block ?_
        refine at_seq ?_
        refine at_region ?_
        refine at_val rfl rfl rfl (r_assign rfl) ?_
        refine at_nil ?_
        refine at_weak [(0, _), (3, _), (4, _), (5, _)] ⟨rfl, rfl, rfl, rfl, trivial⟩ ?_
        refine at_then_normal ?_
        refine at_seq ?_
        refine at_seq ?_
        refine at_region ?_
        refine at_val rfl rfl rfl (r_move rfl) ?_
        refine at_val rfl rfl rfl (r_assign rfl) ?_
        refine at_nil ?_
        refine at_weak [(0, _), (3, _), (4, _), (5, _), (6, _)] ⟨rfl, rfl, rfl, rfl, rfl, trivial⟩ ?_
        refine at_then_normal ?_
        refine at_block ?_
        obtain ⟨q5, hq5, hF⟩ := of_bindM hF
        refine at_weak [(0, _), (3, _), (4, _), (5, _), (6, _)] ⟨rfl, rfl, rfl, rfl, rfl, trivial⟩ ?_
        refine at_loop_n (B := 2) (A := fun Y => At 47 [(0, .slice p0_ x0.length c0_), (3, .string i2), (4, .int .i64 i3), (5, .int .i64 q5)] (fun w' => w' = w) Y) ?_ ?_
        · intro K
          refine crawlwayref04_Encode.l1.partial_correctness x0 i3 (motive := fun i6 i7 x => KN (fun Y => At 47 [(0, .slice p0_ x0.length c0_), (3, .string i2), (4, .int .i64 i3), (5, .int .i64 x)] (fun w' => w' = w) Y) _ 2 → Round (fun Y => At 47 [(0, .slice p0_ x0.length c0_), (3, .string i2), (4, .int .i64 i3), (5, .int .i64 i6), (6, .int .i64 i7)] (fun w' => w' = w) Y) _ _ _) ?_ _ _ _ hq5 K
          · clear K hF
            intro g ih i6 i7 x hF K
            refine at_round ?_
            refine at_seq ?_
            refine at_seq ?_
            refine at_region ?_
            refine at_val rfl rfl rfl (r_move rfl) ?_
            refine at_val rfl rfl rfl (r_move rfl) ?_
            refine at_val rfl rfl rfl (r_iadd rfl rfl) ?_
            refine at_val rfl rfl rfl (r_ilss rfl rfl) ?_
            refine at_nil ?_
            refine at_weak [(0, _), (3, _), (4, _), (5, _), (6, _), (18, _)] ⟨rfl, rfl, rfl, rfl, rfl, rfl, trivial⟩ ?_
            refine at_then_normal ?_
            rcases of_ite hF with ⟨h8, hF⟩ | ⟨h8, hF⟩
            · refine at_cond_true rfl h8 ?_
              refine at_skip ?_
              refine at_then_normal ?_
              refine at_seq ?_
              refine at_block ?_
              refine at_seq ?_
              refine at_region ?_
              refine at_val rfl rfl rfl (r_move rfl) ?_
              refine at_val rfl rfl rfl (r_imul rfl rfl) ?_
              refine at_val rfl rfl rfl (r_assign rfl) ?_
              refine at_nil ?_
              refine at_weak [(0, _), (3, _), (4, _), (5, _), (6, _)] ⟨rfl, rfl, rfl, rfl, rfl, trivial⟩ ?_
              refine at_then_normal ?_
              refine at_seq ?_
              refine at_region ?_
              refine at_val rfl rfl rfl (r_move rfl) ?_
              refine at_val rfl rfl rfl (r_move rfl) ?_
              refine at_val rfl rfl rfl (r_len_sl Try.underlying79 rfl) ?_
              refine at_val rfl rfl rfl (r_imul rfl rfl) ?_
              refine at_val rfl rfl rfl (r_ilss rfl rfl) ?_
              refine at_nil ?_
              refine at_weak [(0, _), (3, _), (4, _), (5, _), (6, _), (27, _)] ⟨rfl, rfl, rfl, rfl, rfl, rfl, trivial⟩ ?_
              refine at_then_normal ?_
              rcases of_ite hF with ⟨h9, hF⟩ | ⟨h9, hF⟩
              · refine at_cond_true rfl h9 ?_
                refine at_region ?_
                refine at_val rfl rfl rfl (r_move rfl) ?_
                refine at_val rfl rfl rfl (r_move rfl) ?_
                refine at_val rfl rfl rfl (r_move rfl) ?_
                obtain ⟨t10, ht10, hF⟩ := of_bindM hF
                refine at_call0w Try.func87 rfl (by kernel_rfl) rfl rfl (fun w hw => crawlwayref01_Bit_ok _ _ _ _ _ ht10 w (hr0.below (by subst hw; exact Below.refl _ _))) ?_
                refine at_val rfl rfl rfl (r_iadd rfl rfl) ?_
                refine at_val rfl rfl rfl (r_assign rfl) ?_
                refine at_nil ?_
                refine at_weak [(0, _), (3, _), (4, _), (5, _), (6, _)] ⟨rfl, rfl, rfl, rfl, rfl, trivial⟩ ?_
                refine at_blk_normal (at_then_normal ?_)
                refine at_region ?_
                refine at_val rfl rfl rfl (r_move rfl) ?_
                refine at_val rfl rfl rfl (r_iadd rfl rfl) ?_
                refine at_val rfl rfl rfl (r_assign rfl) ?_
                refine at_nil ?_
                refine at_weak [(0, _), (3, _), (4, _), (5, _), (6, _)] ⟨rfl, rfl, rfl, rfl, rfl, trivial⟩ ?_
                refine at_then_normal ?_
                exact at_weak_k (ih _ _ _ hF K) ⟨rfl, rfl, rfl, rfl, rfl, trivial⟩
              · refine at_cond_false rfl h9 ?_
                refine at_skip ?_
                refine at_blk_normal (at_then_normal ?_)
                refine at_region ?_
                refine at_val rfl rfl rfl (r_move rfl) ?_
                refine at_val rfl rfl rfl (r_iadd rfl rfl) ?_
                refine at_val rfl rfl rfl (r_assign rfl) ?_
                refine at_nil ?_
                refine at_weak [(0, _), (3, _), (4, _), (5, _), (6, _)] ⟨rfl, rfl, rfl, rfl, rfl, trivial⟩ ?_
                refine at_then_normal ?_
                exact at_weak_k (ih _ _ _ hF K) ⟨rfl, rfl, rfl, rfl, rfl, trivial⟩
            · refine at_cond_false rfl h8 ?_
              refine at_exit ?_
              refine at_then_exit (at_then_exit ?_)
              obtain rfl := of_some hF
              exact at_weak_k K ⟨rfl, rfl, rfl, rfl, trivial⟩
        · skip
          skip
          refine at_blk_same ?_
          refine at_then_normal ?_
          refine at_region ?_
          refine at_val rfl rfl rfl (r_move rfl) ?_
          obtain ⟨t11, ht11, hF⟩ := of_bindM hF
          refine at_call0 Try.func88 rfl (by kernel_rfl) rfl rfl (fun w => crawlwayref04_Signs_ok  _ ht11 w) ?_
          refine at_val rfl rfl rfl (r_move rfl) ?_
          refine at_val rfl rfl rfl (r_move rfl) ?_
          refine at_val rfl rfl rfl (r_iadd rfl rfl) ?_
          obtain ⟨h12, hF⟩ := of_guard hF
          refine at_val rfl rfl rfl (r_slice_str Try.underlying9 rfl ⟨_, rfl⟩ ⟨_, rfl⟩ h12) ?_
          obtain ⟨h13, hF⟩ := of_guard hF
          refine at_val rfl rfl rfl (r_concat rfl rfl h13) ?_
          refine at_val rfl rfl rfl (r_assign rfl) ?_
          refine at_nil ?_
          refine at_weak [(0, _), (3, _), (4, _)] ⟨rfl, rfl, rfl, trivial⟩ ?_
          refine at_blk_normal (at_then_normal ?_)
          refine at_region ?_
          refine at_val rfl rfl rfl (r_move rfl) ?_
          refine at_val rfl rfl rfl (r_iadd rfl rfl) ?_
          refine at_val rfl rfl rfl (r_assign rfl) ?_
          refine at_nil ?_
          refine at_weak [(0, _), (3, _), (4, _)] ⟨rfl, rfl, rfl, trivial⟩ ?_
          refine at_then_normal ?_
          exact at_weak_k (ih _ _ _ hF K) ⟨rfl, rfl, rfl, trivial⟩
      · refine at_cond_false rfl h4 ?_
        refine at_exit ?_
        refine at_then_exit (at_then_exit ?_)
        obtain rfl := of_some hF
        exact at_weak_k K ⟨rfl, trivial⟩
  · skip
    skip
    refine at_blk_same ?_
    refine at_then_normal ?_
    refine at_seq ?_
    refine at_block ?_
    obtain ⟨q14, hq14, hF⟩ := of_bindM hF
    refine at_weak [(3, _)] ⟨rfl, trivial⟩ ?_
    refine at_loop_n (B := 4) (A := fun Y => At 47 [(3, .string q14)] (fun w' => w' = w) Y) ?_ ?_
    · intro K
      refine crawlwayref04_Encode.l2.partial_correctness  (motive := fun i15 x => KN (fun Y => At 47 [(3, .string x)] (fun w' => w' = w) Y) _ 4 → Round (fun Y => At 47 [(3, .string i15)] (fun w' => w' = w) Y) _ _ _) ?_ _ _ hq14 K
      · clear K hF
        intro g ih i15 x hF K
        refine at_round ?_
        refine at_seq ?_
        refine at_seq ?_
        refine at_region ?_
        refine at_val rfl rfl rfl (r_move rfl) ?_
        refine at_val rfl rfl rfl (r_len_str Try.underlying9 rfl) ?_
        refine at_val rfl rfl rfl (r_irem rfl rfl (by decide)) ?_
        refine at_val rfl rfl rfl (r_ineq rfl rfl) ?_
        refine at_nil ?_
        refine at_weak [(3, _), (43, _)] ⟨rfl, rfl, trivial⟩ ?_
        refine at_then_normal ?_
        rcases of_ite hF with ⟨h16, hF⟩ | ⟨h16, hF⟩
        · refine at_cond_true rfl h16 ?_
          refine at_skip ?_
          refine at_then_normal ?_
          refine at_block ?_
          refine at_region ?_
          refine at_val rfl rfl rfl (r_move rfl) ?_
          obtain ⟨h17, hF⟩ := of_guard hF
          refine at_val rfl rfl rfl (r_concat rfl rfl h17) ?_
          refine at_val rfl rfl rfl (r_assign rfl) ?_
          refine at_nil ?_
          refine at_weak [(3, _)] ⟨rfl, trivial⟩ ?_
          refine at_blk_normal (at_then_normal ?_)
          exact at_weak_k (ih _ _ hF K) ⟨rfl, trivial⟩
        · refine at_cond_false rfl h16 ?_
          refine at_exit ?_
          refine at_then_exit (at_then_exit ?_)
          obtain rfl := of_some hF
          exact at_weak_k K ⟨rfl, trivial⟩
    · skip
      skip
      refine at_blk_same ?_
      refine at_then_normal ?_
      refine at_seq ?_
      refine at_region ?_
      refine at_val rfl rfl rfl (r_move rfl) ?_
      refine at_val rfl rfl rfl (r_assign rfl) ?_
      refine at_nil ?_
      refine at_weak [(2, _)] ⟨rfl, trivial⟩ ?_
      refine at_then_normal ?_
      refine at_ret ?_
      have K := of_some hF
      subst K
      exact at_return1 rfl rfl (fun w1 hw => ⟨rfl, hw⟩)

def crawlwayref04_Value.l0 (x0 : Int) (t1 : ByteArray) (i3 : Int) : Option (Ctl (Int) (Unit)) :=
  if (decide (i3 < 64)) = true then (if (0 : Int) ≤ i3 ∧ i3 < (t1.size : Int) then if (bt t1 i3 == x0) = true then (some (.ret i3)) else (crawlwayref04_Value.l0 x0 t1 (wr .i64 (i3 + 1))) else none) else (some (.nx ()))
  partial_fixpoint
def crawlwayref04_Value (x0 : Int) : Option (Int) :=
  crawlwayref04_Signs >>= fun t1 => crawlwayref04_Value.l0 x0 t1 0 >>= fun q2 => match q2 with | .ret r' => some r' | .nx sq2 => (some (-1))
theorem crawlwayref04_Value_ok (x0 : Int) (r : Int) (hF : crawlwayref04_Value x0 = some r) (w : World) :
    Calls Try.prog 115 #[.int .u8 x0] w (fun e w' => e = .returned (.int .i64 r) ∧ w' = w) := by
  unfold crawlwayref04_Value at hF
  refine calls_enter (l := [.int .u8 x0]) Try.func115 rfl rfl rfl ?_
  refine at_weak [(0, _)] ⟨rfl, trivial⟩ ?_
  refine at_seq ?_
  refine at_region ?_
  refine at_val rfl rfl rfl (r_assign rfl) ?_
  refine at_nil ?_
  refine at_weak [(0, _)] ⟨rfl, trivial⟩ ?_
  refine at_then_normal ?_
  refine at_seq ?_
  refine at_region ?_
  obtain ⟨t1, ht1, hF⟩ := of_bindM hF
  refine at_call0 Try.func88 rfl (by kernel_rfl) rfl rfl (fun w => crawlwayref04_Signs_ok  _ ht1 w) ?_
  refine at_val rfl rfl rfl (r_assign rfl) ?_
  refine at_nil ?_
  refine at_weak [(0, _), (3, _)] ⟨rfl, rfl, trivial⟩ ?_
  refine at_then_normal ?_
  refine at_seq ?_
  refine at_seq ?_
  refine at_region ?_
  refine at_val rfl rfl rfl (r_assign rfl) ?_
  refine at_nil ?_
  refine at_weak [(0, _), (3, _), (4, _)] ⟨rfl, rfl, rfl, trivial⟩ ?_
  refine at_then_normal ?_
  refine at_block ?_
  obtain ⟨q2, hq2, hF⟩ := of_bindM hF
  refine at_weak [(0, _), (3, _), (4, _)] ⟨rfl, rfl, rfl, trivial⟩ ?_
  refine at_loop_r (B := 0) (r := r) (q := q2) (A := fun (_ : Unit) Y => At 16 [] (fun w' => w' = w) Y) ?_ ?_
  · intro K
    refine crawlwayref04_Value.l0.partial_correctness x0 t1 (motive := fun i3 x => KR (fun (_ : Unit) Y => At 16 [] (fun w' => w' = w) Y) _ 0 r x → Round (fun Y => At 16 [(0, .int .u8 x0), (3, .string t1), (4, .int .i64 i3)] (fun w' => w' = w) Y) _ _ _) ?_ _ _ hq2 K
    · clear K hF
      intro g ih i3 x hF K
      refine at_round ?_
      refine at_seq ?_
      refine at_seq ?_
      refine at_region ?_
      refine at_val rfl rfl rfl (r_move rfl) ?_
      refine at_val rfl rfl rfl (r_ilss rfl rfl) ?_
      refine at_nil ?_
      refine at_weak [(0, _), (3, _), (4, _), (7, _)] ⟨rfl, rfl, rfl, rfl, trivial⟩ ?_
      refine at_then_normal ?_
      rcases of_ite hF with ⟨h4, hF⟩ | ⟨h4, hF⟩
      · refine at_cond_true rfl h4 ?_
        refine at_skip ?_
        refine at_then_normal ?_
        refine at_seq ?_
        refine at_block ?_
        refine at_seq ?_
        refine at_region ?_
        refine at_val rfl rfl rfl (r_move rfl) ?_
        refine at_val rfl rfl rfl (r_move rfl) ?_
        obtain ⟨h5, hF⟩ := of_guard hF
        refine at_val rfl rfl rfl (r_index_str Try.underlying9 rfl rfl h5) ?_
        refine at_val rfl rfl rfl (r_move rfl) ?_
        refine at_val rfl rfl rfl (r_ieql rfl rfl) ?_
        refine at_nil ?_
        refine at_weak [(0, _), (3, _), (4, _), (14, _)] ⟨rfl, rfl, rfl, rfl, trivial⟩ ?_
        refine at_then_normal ?_
        rcases of_ite hF with ⟨h6, hF⟩ | ⟨h6, hF⟩
        · refine at_cond_true rfl h6 ?_
          refine at_seq ?_
          refine at_region ?_
          refine at_val rfl rfl rfl (r_move rfl) ?_
          refine at_val rfl rfl rfl (r_assign rfl) ?_
          refine at_nil ?_
          refine at_weak [(2, _)] ⟨rfl, trivial⟩ ?_
          refine at_then_normal ?_
          refine at_ret ?_
          refine at_blk_ret (at_then_ret (at_then_ret (at_blk_ret (at_then_ret ?_))))
          obtain rfl := of_some hF
          subst K
          exact at_return1 rfl rfl (fun w1 hw => ⟨rfl, hw⟩)
        · refine at_cond_false rfl h6 ?_
          refine at_skip ?_
          refine at_blk_normal (at_then_normal ?_)
          refine at_region ?_
          refine at_val rfl rfl rfl (r_move rfl) ?_
          refine at_val rfl rfl rfl (r_iadd rfl rfl) ?_
          refine at_val rfl rfl rfl (r_assign rfl) ?_
          refine at_nil ?_
          refine at_weak [(0, _), (3, _), (4, _)] ⟨rfl, rfl, rfl, trivial⟩ ?_
          refine at_then_normal ?_
          exact at_weak_k (ih _ _ hF K) ⟨rfl, rfl, rfl, trivial⟩
      · refine at_cond_false rfl h4 ?_
        refine at_exit ?_
        refine at_then_exit (at_then_exit ?_)
        obtain rfl := of_some hF
        exact at_weak_k K trivial
  · cases q2 with
    | ret r' => exact of_some hF
    | nx sq2 =>
      skip
      refine at_blk_same ?_
      refine at_then_normal ?_
      refine at_seq ?_
      refine at_region ?_
      refine at_val rfl rfl rfl (r_assign rfl) ?_
      refine at_nil ?_
      refine at_weak [(2, _)] ⟨rfl, trivial⟩ ?_
      refine at_then_normal ?_
      refine at_ret ?_
      have K := of_some hF
      subst K
      exact at_return1 rfl rfl (fun w1 hw => ⟨rfl, hw⟩)

def crawlwayref04_Decode.l1 (t20 : Int) (i25 : List Int) (i26 : Int) : Option (List Int) :=
  if (decide (i26 > 0)) = true then (if i26 ≠ 0 then if (i25.length + 1) * 8 ≤ 140737488355328 then crawlwayref04_Decode.l1 t20 (i25 ++ [Int.tmod (wr .i64 (Int.tdiv t20 i26)) 2]) (wr .i64 (Int.tdiv i26 2)) else none else none) else (some i25)
  partial_fixpoint
def crawlwayref04_Decode.l0 (x0 : ByteArray) (q2 : Int) (i12 : List Int) (i13 : Int) : Option (Ctl (List Int × Int) (List Int)) :=
  if (decide (i13 < q2)) = true then (if (0 : Int) ≤ i13 ∧ i13 < (x0.size : Int) then crawlwayref04_Value (bt x0 i13) >>= fun t20 => if (decide (t20 < 0)) = true then (some (.ret ([], 5))) else (crawlwayref04_Decode.l1 t20 i12 32 >>= fun q24 => crawlwayref04_Decode.l0 x0 q2 q24 (wr .i64 (i13 + 1))) else none) else (some (.nx i12))
  partial_fixpoint
def crawlwayref04_Decode.l3 (sq11 : List Int) (i41 : Int) (i48 : Int) (i49 : Int) : Option (Int) :=
  if (decide (i49 < wr .i64 (i41 + 8))) = true then (if (0 : Int) ≤ i49 ∧ i49 < (sq11.length : Int) then crawlwayref04_Decode.l3 sq11 i41 (wr .i64 ((wr .i64 (2 * i48)) + (lget sq11 i49))) (wr .i64 (i49 + 1)) else none) else (some i48)
  partial_fixpoint
def crawlwayref04_Decode.l2 (sq11 : List Int) (i40 : List Int) (i41 : Int) : Option (List Int) :=
  if (decide (wr .i64 (i41 + 8) ≤ (sq11.length : Int))) = true then (crawlwayref04_Decode.l3 sq11 i41 0 i41 >>= fun q47 => if (i40.length + 1) * 1 ≤ 140737488355328 then crawlwayref04_Decode.l2 sq11 (i40 ++ [wr .u8 q47]) (wr .i64 (i41 + 8)) else none) else (some i40)
  partial_fixpoint
def crawlwayref04_Decode.l4 (sq11 : List Int) (i60 : Int) : Option (Ctl (List Int × Int) (Unit)) :=
  if (decide (i60 < (sq11.length : Int))) = true then (if (0 : Int) ≤ i60 ∧ i60 < (sq11.length : Int) then if (lget sq11 i60 != 0) = true then (some (.ret ([], 10))) else (crawlwayref04_Decode.l4 sq11 (wr .i64 (i60 + 1))) else none) else (some (.nx ()))
  partial_fixpoint
def crawlwayref04_Decode (x0 : ByteArray) : Option (List Int × Int) :=
  if (Int.tmod (x0.size : Int) 4 != 0) = true then (some ([], 5)) else ((if (decide ((x0.size : Int) > 0)) = true then (if (0 : Int) ≤ wr .i64 ((x0.size : Int) - 1) ∧ wr .i64 ((x0.size : Int) - 1) < (x0.size : Int) then if (bt x0 (wr .i64 ((x0.size : Int) - 1)) == 61) = true then (if (0 : Int) ≤ wr .i64 ((wr .i64 ((x0.size : Int) - 1)) - 1) ∧ wr .i64 ((wr .i64 ((x0.size : Int) - 1)) - 1) < (x0.size : Int) then if (bt x0 (wr .i64 ((wr .i64 ((x0.size : Int) - 1)) - 1)) == 61) = true then (some (wr .i64 ((wr .i64 ((x0.size : Int) - 1)) - 1))) else (some (wr .i64 ((x0.size : Int) - 1))) else none) else (some (x0.size : Int)) else none) else (some (x0.size : Int))) >>= fun q2 => crawlwayref04_Decode.l0 x0 q2 ([] : List Int) 0 >>= fun q11 => match q11 with | .ret r' => some r' | .nx sq11 => (crawlwayref04_Decode.l2 sq11 ([] : List Int) 0 >>= fun q39 => crawlwayref04_Decode.l4 sq11 (wr .i64 (8 * (q39.length : Int))) >>= fun q59 => match q59 with | .ret r' => some r' | .nx sq59 => (some (q39, 0))))
theorem crawlwayref04_Decode_ok (x0 : ByteArray) (r : List Int × Int) (hF : crawlwayref04_Decode x0 = some r) (w : World) :
    Calls Try.prog 91 #[.string x0] w (fun e w' => ∃ p cap, e = .returned (.tuple #[.slice p r.1.length cap, .int .i64 r.2]) ∧ Own (cInt .u8) 5 w.heap.size w' p cap r.1 ∧ Below w.heap.size w w') := by
  unfold crawlwayref04_Decode at hF
  refine calls_enter (l := [.string x0]) Try.func91 rfl rfl rfl ?_
  refine at_start ?_
  refine at_weak [(0, _)] ⟨rfl, trivial⟩ ?_
  refine at_seq ?_
  refine at_region ?_
  refine at_val rfl rfl rfl (r_assign rfl) ?_
  refine at_val rfl rfl rfl (r_assign rfl) ?_
  refine at_nil ?_
  refine at_weak [(0, _)] ⟨rfl, trivial⟩ ?_
  refine at_then_normal ?_
  refine at_seq ?_
  refine at_region ?_
  refine at_val rfl rfl rfl (r_move rfl) ?_
  refine at_val rfl rfl rfl (r_len_str Try.underlying9 rfl) ?_
  refine at_val rfl rfl rfl (r_assign rfl) ?_
  refine at_nil ?_
  refine at_weak [(0, _), (4, _)] ⟨rfl, rfl, trivial⟩ ?_
  refine at_then_normal ?_
  refine at_seq ?_
  refine at_seq ?_
  refine at_region ?_
  refine at_val rfl rfl rfl (r_move rfl) ?_
  refine at_val rfl rfl rfl (r_irem rfl rfl (by decide)) ?_
  refine at_val rfl rfl rfl (r_ineq rfl rfl) ?_
  refine at_nil ?_
  refine at_weak [(0, _), (4, _), (18, _)] ⟨rfl, rfl, rfl, trivial⟩ ?_
  refine at_then_normal ?_
  rcases of_ite hF with ⟨h1, hF⟩ | ⟨h1, hF⟩
  · refine at_cond_true rfl h1 ?_
    refine at_seq ?_
    refine at_region ?_
    refine at_val rfl rfl rfl (r_assign rfl) ?_
    refine at_val rfl rfl rfl (r_assign rfl) ?_
    refine at_nil ?_
    refine at_weak [(2, _), (3, _)] ⟨rfl, rfl, trivial⟩ ?_
    refine at_then_normal ?_
    refine at_ret ?_
    refine at_then_ret ?_
    have K := of_some hF
    subst K
    exact at_return2 rfl rfl rfl (fun w1 hw => ⟨none, 0, rfl, Own.nil _ _ _ _, hw.below⟩)
  · refine at_cond_false rfl h1 ?_
    refine at_skip ?_
    refine at_then_normal ?_
    obtain ⟨q2, hq2, hF⟩ := of_bindM hF
    refine at_joinp (A := fun Y => At 100 [(0, .string x0), (4, .int .i64 q2)] (Wd w []) Y) ?_ ?_
    · intro Y K
      replace hF := hq2
      refine at_seq ?_
      refine at_region ?_
      refine at_val rfl rfl rfl (r_move rfl) ?_
      refine at_val rfl rfl rfl (r_igtr rfl rfl) ?_
      refine at_val rfl rfl rfl (r_move rfl) ?_
      rcases of_ite hF with ⟨h4, hF⟩ | ⟨h4, hF⟩
      · refine at_fix (g := 21) rfl h4 ?_
        refine at_guard_yes rfl rfl rfl ?_
        refine at_val rfl rfl rfl (r_move rfl) ?_
        refine at_guard_yes rfl rfl rfl ?_
        refine at_val rfl rfl rfl (r_move rfl) ?_
        refine at_guard_yes rfl rfl rfl ?_
        refine at_val rfl rfl rfl (r_isub rfl rfl) ?_
        refine at_guard_yes rfl rfl rfl ?_
        obtain ⟨h5, hF⟩ := of_guard hF
        refine at_val rfl rfl rfl (r_index_str Try.underlying9 rfl rfl h5) ?_
        refine at_guard_yes rfl rfl rfl ?_
        refine at_val rfl rfl rfl (r_ieql rfl rfl) ?_
        refine at_val rfl rfl rfl (r_pick rfl rfl rfl) ?_
        refine at_nil ?_
        refine at_weak [(0, _), (4, _), (27, _)] ⟨rfl, rfl, rfl, trivial⟩ ?_
        refine at_then_normal ?_
        rcases of_ite hF with ⟨h6, hF⟩ | ⟨h6, hF⟩
        · refine at_cond_true rfl h6 ?_
          refine at_seq ?_
          refine at_region ?_
          refine at_val rfl rfl rfl (r_move rfl) ?_
          refine at_val rfl rfl rfl (r_isub rfl rfl) ?_
          refine at_val rfl rfl rfl (r_assign rfl) ?_
          refine at_nil ?_
          refine at_weak [(0, _), (4, _)] ⟨rfl, rfl, trivial⟩ ?_
          refine at_then_normal ?_
          refine at_seq ?_
          refine at_region ?_
          refine at_val rfl rfl rfl (r_move rfl) ?_
          refine at_val rfl rfl rfl (r_move rfl) ?_
          refine at_val rfl rfl rfl (r_isub rfl rfl) ?_
          obtain ⟨h7, hF⟩ := of_guard hF
          refine at_val rfl rfl rfl (r_index_str Try.underlying9 rfl rfl h7) ?_
          refine at_val rfl rfl rfl (r_ieql rfl rfl) ?_
          refine at_nil ?_
          refine at_weak [(0, _), (4, _), (34, _)] ⟨rfl, rfl, rfl, trivial⟩ ?_
          refine at_then_normal ?_
          rcases of_ite hF with ⟨h8, hF⟩ | ⟨h8, hF⟩
          · refine at_cond_true rfl h8 ?_
            refine at_region ?_
            refine at_val rfl rfl rfl (r_move rfl) ?_
            refine at_val rfl rfl rfl (r_isub rfl rfl) ?_
            refine at_val rfl rfl rfl (r_assign rfl) ?_
            refine at_nil ?_
            refine at_weak [(0, _), (4, _)] ⟨rfl, rfl, trivial⟩ ?_
            refine at_then_normal ?_
            obtain rfl := of_some hF
            exact at_weak_k K ⟨rfl, rfl, trivial⟩
          · refine at_cond_false rfl h8 ?_
            refine at_skip ?_
            refine at_then_normal ?_
            obtain rfl := of_some hF
            exact at_weak_k K ⟨rfl, rfl, trivial⟩
        · refine at_cond_false rfl h6 ?_
          refine at_skip ?_
          refine at_then_normal ?_
          obtain rfl := of_some hF
          exact at_weak_k K ⟨rfl, rfl, trivial⟩
      · refine at_fix (g := 21) rfl h4 ?_
        refine at_guard_no rfl rfl rfl rfl rfl ?_
        refine at_guard_no rfl rfl rfl rfl rfl ?_
        refine at_guard_no rfl rfl rfl rfl rfl ?_
        refine at_guard_no rfl rfl rfl rfl rfl ?_
        refine at_guard_no rfl rfl rfl rfl rfl ?_
        refine at_val rfl rfl rfl (r_pick rfl rfl rfl) ?_
        refine at_nil ?_
        refine at_weak [(0, _), (4, _), (27, _)] ⟨rfl, rfl, rfl, trivial⟩ ?_
        refine at_then_normal ?_
        refine at_cond_false rfl rfl ?_
        refine at_skip ?_
        refine at_then_normal ?_
        obtain rfl := of_some hF
        exact at_weak_k K ⟨rfl, rfl, trivial⟩
    · skip
      skip
      refine at_seq ?_
      refine at_region ?_
      refine at_val rfl rfl rfl (r_assign rfl) ?_
      refine at_nil ?_
      refine at_weak [(0, _), (4, _), (5, _)] ⟨rfl, rfl, rfl, trivial⟩ ?_
      refine at_then_normal ?_
      refine at_seq ?_
      refine at_seq ?_
      refine at_region ?_
      refine at_val rfl rfl rfl (r_assign rfl) ?_
      refine at_nil ?_
      refine at_weak [(0, _), (4, _), (5, _), (6, _)] ⟨rfl, rfl, rfl, rfl, trivial⟩ ?_
      refine at_then_normal ?_
      refine at_block ?_
      refine at_own_nil (cInt .i64) 3 ?_
      refine at_weak [(0, _), (4, _), (5, .slice none ([] : List Int).length 0), (6, _)] ⟨rfl, rfl, rfl, rfl, trivial⟩ ?_
      obtain ⟨q11, hq11, hF⟩ := of_bindM hF
      refine at_weak [(0, _), (4, _), (5, _), (6, _)] ⟨rfl, rfl, rfl, rfl, trivial⟩ ?_
      refine at_loop_r (B := 0) (r := r) (q := q11) (A := fun sq11 Y => ∀ (p16 : Option Addr) (c17 : Nat), At 100 [(5, .slice p16 sq11.length c17)] (Wd w [rowE (cInt .i64) 3 p16 c17 sq11]) Y) ?_ ?_
      · intro K
        refine crawlwayref04_Decode.l0.partial_correctness x0 q2 (motive := fun i12 i13 x => KR (fun sq11 Y => ∀ (p16 : Option Addr) (c17 : Nat), At 100 [(5, .slice p16 sq11.length c17)] (Wd w [rowE (cInt .i64) 3 p16 c17 sq11]) Y) _ 0 r x → Round (fun Y => ∀ (p14 : Option Addr) (c15 : Nat), At 100 [(0, .string x0), (4, .int .i64 q2), (5, .slice p14 i12.length c15), (6, .int .i64 i13)] (Wd w [rowE (cInt .i64) 3 p14 c15 i12]) Y) _ _ _) ?_ _ _ _ hq11 K none 0
        · clear K hF
          intro g ih i12 i13 x hF K p14 c15
          refine at_round ?_
          refine at_seq ?_
          refine at_seq ?_
          refine at_region ?_
          refine at_val rfl rfl rfl (r_move rfl) ?_
          refine at_val rfl rfl rfl (r_move rfl) ?_
          refine at_val rfl rfl rfl (r_ilss rfl rfl) ?_
          refine at_nil ?_
          refine at_weak [(0, _), (4, _), (5, _), (6, _), (39, _)] ⟨rfl, rfl, rfl, rfl, rfl, trivial⟩ ?_
          refine at_then_normal ?_
          rcases of_ite hF with ⟨h18, hF⟩ | ⟨h18, hF⟩
          · refine at_cond_true rfl h18 ?_
            refine at_skip ?_
            refine at_then_normal ?_
            refine at_seq ?_
            refine at_block ?_
            refine at_seq ?_
            refine at_region ?_
            refine at_val rfl rfl rfl (r_move rfl) ?_
            refine at_val rfl rfl rfl (r_move rfl) ?_
            obtain ⟨h19, hF⟩ := of_guard hF
            refine at_val rfl rfl rfl (r_index_str Try.underlying9 rfl rfl h19) ?_
            obtain ⟨t20, ht20, hF⟩ := of_bindM hF
            refine at_call0 Try.func115 rfl (by kernel_rfl) rfl rfl (fun w => crawlwayref04_Value_ok _ _ ht20 w) ?_
            refine at_val rfl rfl rfl (r_assign rfl) ?_
            refine at_nil ?_
            refine at_weak [(0, _), (4, _), (5, _), (6, _), (7, _)] ⟨rfl, rfl, rfl, rfl, rfl, trivial⟩ ?_
            refine at_then_normal ?_
            refine at_seq ?_
            refine at_seq ?_
            refine at_region ?_
            refine at_val rfl rfl rfl (r_move rfl) ?_
            refine at_val rfl rfl rfl (r_ilss rfl rfl) ?_
            refine at_nil ?_
            refine at_weak [(0, _), (4, _), (5, _), (6, _), (7, _), (47, _)] ⟨rfl, rfl, rfl, rfl, rfl, rfl, trivial⟩ ?_
            refine at_then_normal ?_
            rcases of_ite hF with ⟨h21, hF⟩ | ⟨h21, hF⟩
            · refine at_cond_true rfl h21 ?_
              refine at_seq ?_
              refine at_region ?_
              refine at_val rfl rfl rfl (r_assign rfl) ?_
              refine at_val rfl rfl rfl (r_assign rfl) ?_
              refine at_nil ?_
              refine at_drop (H := _) .z ?_
              refine at_weak [(2, _), (3, _)] ⟨rfl, rfl, trivial⟩ ?_
              refine at_then_normal ?_
              refine at_ret ?_
              refine at_then_ret (at_blk_ret (at_then_ret (at_then_ret (at_blk_ret (at_then_ret ?_)))))
              obtain rfl := of_some hF
              subst K
              exact at_return2 rfl rfl rfl (fun w1 hw => ⟨none, 0, rfl, Own.nil _ _ _ _, hw.below⟩)
            · refine at_cond_false rfl h21 ?_
              refine at_skip ?_
              refine at_then_normal ?_
              refine at_seq ?_
              refine at_region ?_
              refine at_val rfl rfl rfl (r_assign rfl) ?_
              refine at_nil ?_
              refine at_weak [(0, _), (4, _), (5, _), (6, _), (7, _), (8, _)] ⟨rfl, rfl, rfl, rfl, rfl, rfl, trivial⟩ ?_
              refine at_then_normal ?_
              refine at_block ?_
              obtain ⟨q24, hq24, hF⟩ := of_bindM hF
              refine at_weak [(0, _), (4, _), (5, _), (6, _), (7, _), (8, _)] ⟨rfl, rfl, rfl, rfl, rfl, rfl, trivial⟩ ?_
              refine at_loop_n (B := 2) (A := fun Y => ∀ (p29 : Option Addr) (c30 : Nat), At 100 [(0, .string x0), (4, .int .i64 q2), (5, .slice p29 q24.length c30), (6, .int .i64 i13)] (Wd w [rowE (cInt .i64) 3 p29 c30 q24]) Y) ?_ ?_
              · intro K
                refine crawlwayref04_Decode.l1.partial_correctness t20 (motive := fun i25 i26 x => KN (fun Y => ∀ (p29 : Option Addr) (c30 : Nat), At 100 [(0, .string x0), (4, .int .i64 q2), (5, .slice p29 x.length c30), (6, .int .i64 i13)] (Wd w [rowE (cInt .i64) 3 p29 c30 x]) Y) _ 2 → Round (fun Y => ∀ (p27 : Option Addr) (c28 : Nat), At 100 [(0, .string x0), (4, .int .i64 q2), (5, .slice p27 i25.length c28), (6, .int .i64 i13), (7, .int .i64 t20), (8, .int .i64 i26)] (Wd w [rowE (cInt .i64) 3 p27 c28 i25]) Y) _ _ _) ?_ _ _ _ hq24 K p14 c15
                · clear K hF
                  intro g ih i25 i26 x hF K p27 c28
                  refine at_round ?_
                  refine at_seq ?_
                  refine at_seq ?_
                  refine at_region ?_
                  refine at_val rfl rfl rfl (r_move rfl) ?_
                  refine at_val rfl rfl rfl (r_igtr rfl rfl) ?_
                  refine at_nil ?_
                  refine at_weak [(0, _), (4, _), (5, _), (6, _), (7, _), (8, _), (49, _)] ⟨rfl, rfl, rfl, rfl, rfl, rfl, rfl, trivial⟩ ?_
                  refine at_then_normal ?_
                  rcases of_ite hF with ⟨h31, hF⟩ | ⟨h31, hF⟩
                  · refine at_cond_true rfl h31 ?_
                    refine at_skip ?_
                    refine at_then_normal ?_
                    refine at_seq ?_
                    refine at_block ?_
                    refine at_region ?_
                    refine at_val rfl rfl rfl (r_move rfl) ?_
                    refine at_val rfl rfl rfl (r_move rfl) ?_
                    refine at_val rfl rfl rfl (r_move rfl) ?_
                    obtain ⟨h32, hF⟩ := of_guard hF
                    refine at_val rfl rfl rfl (r_iquo rfl rfl h32) ?_
                    refine at_val rfl rfl rfl (r_irem rfl rfl (by decide)) ?_
                    refine at_lit (cs := (cInt .i64).all ([Int.tmod (wr .i64 (Int.tdiv t20 i26)) 2] : List Int)) Try.underlying151 Try.sizeOf3 Try.zeroValue3 rfl rfl rfl (by kernel_rfl) rfl ?_
                    intro b33
                    obtain ⟨h34, hF⟩ := of_guard hF
                    refine at_append (z := .int .i64 0) (c := (cInt .i64)) (ys := ([Int.tmod (wr .i64 (Int.tdiv t20 i26)) 2] : List Int)) (.s .z) Try.underlying151 infoG23 (by kernel_rfl) (by kernel_rfl) rfl rfl rfl rfl (fun _ hw => cells_src (hw.ok (Upd.mem .z))) (by kernel_rfl) h34 (app_small h34) rfl ?_
                    intro p35 c36
                    refine at_val rfl rfl rfl (r_assign rfl) ?_
                    refine at_nil ?_
                    refine at_drop (H := _) .z ?_
                    refine at_weak [(0, _), (4, _), (5, _), (6, _), (7, _), (8, _)] ⟨rfl, rfl, rfl, rfl, rfl, rfl, trivial⟩ ?_
                    refine at_blk_normal (at_then_normal ?_)
                    refine at_region ?_
                    refine at_val rfl rfl rfl (r_move rfl) ?_
                    refine at_val rfl rfl rfl (r_iquo rfl rfl (by decide)) ?_
                    refine at_val rfl rfl rfl (r_assign rfl) ?_
                    refine at_nil ?_
                    refine at_weak [(0, _), (4, _), (5, _), (6, _), (7, _), (8, _)] ⟨rfl, rfl, rfl, rfl, rfl, rfl, trivial⟩ ?_
                    refine at_then_normal ?_
                    exact at_weak_k (ih _ _ _ hF K p35 c36) ⟨rfl, rfl, rfl, rfl, rfl, rfl, trivial⟩
                  · refine at_cond_false rfl h31 ?_
                    refine at_exit ?_
                    refine at_then_exit (at_then_exit ?_)
                    obtain rfl := of_some hF
                    exact at_weak_k (K p27 c28) ⟨rfl, rfl, rfl, rfl, trivial⟩
              · skip
                intro p29 c30
                refine at_blk_same ?_
                refine at_blk_normal (at_then_normal ?_)
                refine at_region ?_
                refine at_val rfl rfl rfl (r_move rfl) ?_
                refine at_val rfl rfl rfl (r_iadd rfl rfl) ?_
                refine at_val rfl rfl rfl (r_assign rfl) ?_
                refine at_nil ?_
                refine at_weak [(0, _), (4, _), (5, _), (6, _)] ⟨rfl, rfl, rfl, rfl, trivial⟩ ?_
                refine at_then_normal ?_
                exact at_weak_k (ih _ _ _ hF K p29 c30) ⟨rfl, rfl, rfl, rfl, trivial⟩
          · refine at_cond_false rfl h18 ?_
            refine at_exit ?_
            refine at_then_exit (at_then_exit ?_)
            obtain rfl := of_some hF
            exact at_weak_k (K p14 c15) ⟨rfl, trivial⟩
      · cases q11 with
        | ret r' => exact of_some hF
        | nx sq11 =>
          intro p16 c17
          refine at_blk_same ?_
          refine at_then_normal ?_
          refine at_seq ?_
          refine at_region ?_
          refine at_val rfl rfl rfl (r_assign rfl) ?_
          refine at_nil ?_
          refine at_weak [(5, _), (9, _)] ⟨rfl, rfl, trivial⟩ ?_
          refine at_then_normal ?_
          refine at_seq ?_
          refine at_seq ?_
          refine at_region ?_
          refine at_val rfl rfl rfl (r_assign rfl) ?_
          refine at_nil ?_
          refine at_weak [(5, _), (9, _), (10, _)] ⟨rfl, rfl, rfl, trivial⟩ ?_
          refine at_then_normal ?_
          refine at_block ?_
          refine at_own_nil (cInt .u8) 5 ?_
          refine at_weak [(5, _), (9, .slice none ([] : List Int).length 0), (10, _)] ⟨rfl, rfl, rfl, trivial⟩ ?_
          obtain ⟨q39, hq39, hF⟩ := of_bindM hF
          refine at_weak [(5, _), (9, _), (10, _)] ⟨rfl, rfl, rfl, trivial⟩ ?_
          refine at_loop_n (B := 4) (A := fun Y => ∀ (p44 : Option Addr) (c45 : Nat), At 100 [(5, .slice p16 sq11.length c17), (9, .slice p44 q39.length c45)] (Wd w [rowE (cInt .u8) 5 p44 c45 q39, rowE (cInt .i64) 3 p16 c17 sq11]) Y) ?_ ?_
          · intro K
            refine crawlwayref04_Decode.l2.partial_correctness sq11 (motive := fun i40 i41 x => KN (fun Y => ∀ (p44 : Option Addr) (c45 : Nat), At 100 [(5, .slice p16 sq11.length c17), (9, .slice p44 x.length c45)] (Wd w [rowE (cInt .u8) 5 p44 c45 x, rowE (cInt .i64) 3 p16 c17 sq11]) Y) _ 4 → Round (fun Y => ∀ (p42 : Option Addr) (c43 : Nat), At 100 [(5, .slice p16 sq11.length c17), (9, .slice p42 i40.length c43), (10, .int .i64 i41)] (Wd w [rowE (cInt .u8) 5 p42 c43 i40, rowE (cInt .i64) 3 p16 c17 sq11]) Y) _ _ _) ?_ _ _ _ hq39 K none 0
            · clear K hF
              intro g ih i40 i41 x hF K p42 c43
              refine at_round ?_
              refine at_seq ?_
              refine at_seq ?_
              refine at_region ?_
              refine at_val rfl rfl rfl (r_move rfl) ?_
              refine at_val rfl rfl rfl (r_iadd rfl rfl) ?_
              refine at_val rfl rfl rfl (r_move rfl) ?_
              refine at_val rfl rfl rfl (r_len_sl Try.underlying151 rfl) ?_
              refine at_val rfl rfl rfl (r_ileq rfl rfl) ?_
              refine at_nil ?_
              refine at_weak [(5, _), (9, _), (10, _), (63, _)] ⟨rfl, rfl, rfl, rfl, trivial⟩ ?_
              refine at_then_normal ?_
              rcases of_ite hF with ⟨h46, hF⟩ | ⟨h46, hF⟩
              · refine at_cond_true rfl h46 ?_
                refine at_skip ?_
                refine at_then_normal ?_
                refine at_seq ?_
                refine at_block ?_
                refine at_seq ?_
                refine at_region ?_
                refine at_val rfl rfl rfl (r_assign rfl) ?_
                refine at_nil ?_
                refine at_weak [(5, _), (9, _), (10, _), (11, _)] ⟨rfl, rfl, rfl, rfl, trivial⟩ ?_
                refine at_then_normal ?_
                refine at_seq ?_
                refine at_seq ?_
                refine at_region ?_
                refine at_val rfl rfl rfl (r_move rfl) ?_
                refine at_val rfl rfl rfl (r_assign rfl) ?_
                refine at_nil ?_
                refine at_weak [(5, _), (9, _), (10, _), (11, _), (12, _)] ⟨rfl, rfl, rfl, rfl, rfl, trivial⟩ ?_
                refine at_then_normal ?_
                refine at_block ?_
                obtain ⟨q47, hq47, hF⟩ := of_bindM hF
                refine at_weak [(5, _), (9, _), (10, _), (11, _), (12, _)] ⟨rfl, rfl, rfl, rfl, rfl, trivial⟩ ?_
                refine at_loop_n (B := 6) (A := fun Y => At 100 [(5, .slice p16 sq11.length c17), (9, .slice p42 i40.length c43), (10, .int .i64 i41), (11, .int .i64 q47)] (Wd w [rowE (cInt .u8) 5 p42 c43 i40, rowE (cInt .i64) 3 p16 c17 sq11]) Y) ?_ ?_
                · intro K
                  refine crawlwayref04_Decode.l3.partial_correctness sq11 i41 (motive := fun i48 i49 x => KN (fun Y => At 100 [(5, .slice p16 sq11.length c17), (9, .slice p42 i40.length c43), (10, .int .i64 i41), (11, .int .i64 x)] (Wd w [rowE (cInt .u8) 5 p42 c43 i40, rowE (cInt .i64) 3 p16 c17 sq11]) Y) _ 6 → Round (fun Y => At 100 [(5, .slice p16 sq11.length c17), (9, .slice p42 i40.length c43), (10, .int .i64 i41), (11, .int .i64 i48), (12, .int .i64 i49)] (Wd w [rowE (cInt .u8) 5 p42 c43 i40, rowE (cInt .i64) 3 p16 c17 sq11]) Y) _ _ _) ?_ _ _ _ hq47 K
                  · clear K hF
                    intro g ih i48 i49 x hF K
                    refine at_round ?_
                    refine at_seq ?_
                    refine at_seq ?_
                    refine at_region ?_
                    refine at_val rfl rfl rfl (r_move rfl) ?_
                    refine at_val rfl rfl rfl (r_move rfl) ?_
                    refine at_val rfl rfl rfl (r_iadd rfl rfl) ?_
                    refine at_val rfl rfl rfl (r_ilss rfl rfl) ?_
                    refine at_nil ?_
                    refine at_weak [(5, _), (9, _), (10, _), (11, _), (12, _), (70, _)] ⟨rfl, rfl, rfl, rfl, rfl, rfl, trivial⟩ ?_
                    refine at_then_normal ?_
                    rcases of_ite hF with ⟨h50, hF⟩ | ⟨h50, hF⟩
                    · refine at_cond_true rfl h50 ?_
                      refine at_skip ?_
                      refine at_then_normal ?_
                      refine at_seq ?_
                      refine at_block ?_
                      refine at_region ?_
                      refine at_val rfl rfl rfl (r_move rfl) ?_
                      refine at_val rfl rfl rfl (r_imul rfl rfl) ?_
                      refine at_val rfl rfl rfl (r_move rfl) ?_
                      refine at_val rfl rfl rfl (r_move rfl) ?_
                      obtain ⟨h51, hF⟩ := of_guard hF
                      refine at_pure (φ := ∃ b o, p16 = some ⟨b, o, none⟩) (fun _ hw => row_ptr (hw.own (.s .z)).row h51) ?_
                      rintro ⟨b53, o54, hp52⟩
                      refine at_val rfl rfl rfl (r_idx Try.underlying151 Try.sizeOf3 rfl rfl h51 hp52) ?_
                      refine at_val rfl rfl rfl (r_load_cell Try.isAgg3 rfl (fun _ hw => row_cell0 (W := fun w1 => w1 = _) (fun w1 h => by subst h; exact Below.refl _ _) (hw.own (.s .z)).row h51 hp52 rfl _ rfl)) ?_
                      refine at_val rfl rfl rfl (r_iadd rfl rfl) ?_
                      refine at_val rfl rfl rfl (r_assign rfl) ?_
                      refine at_nil ?_
                      refine at_weak [(5, _), (9, _), (10, _), (11, _), (12, _)] ⟨rfl, rfl, rfl, rfl, rfl, trivial⟩ ?_
                      refine at_blk_normal (at_then_normal ?_)
                      refine at_region ?_
                      refine at_val rfl rfl rfl (r_move rfl) ?_
                      refine at_val rfl rfl rfl (r_iadd rfl rfl) ?_
                      refine at_val rfl rfl rfl (r_assign rfl) ?_
                      refine at_nil ?_
                      refine at_weak [(5, _), (9, _), (10, _), (11, _), (12, _)] ⟨rfl, rfl, rfl, rfl, rfl, trivial⟩ ?_
                      refine at_then_normal ?_
                      exact at_weak_k (ih _ _ _ hF K) ⟨rfl, rfl, rfl, rfl, rfl, trivial⟩
                    · refine at_cond_false rfl h50 ?_
                      refine at_exit ?_
                      refine at_then_exit (at_then_exit ?_)
                      obtain rfl := of_some hF
                      exact at_weak_k K ⟨rfl, rfl, rfl, rfl, trivial⟩
                · skip
                  skip
                  refine at_blk_same ?_
                  refine at_then_normal ?_
                  refine at_region ?_
                  refine at_val rfl rfl rfl (r_move rfl) ?_
                  refine at_val rfl rfl rfl (r_move rfl) ?_
                  refine at_val rfl rfl rfl (r_conv Try.underlying3 Try.underlying5 rfl) ?_
                  refine at_lit (cs := (cInt .u8).all ([wr .u8 q47] : List Int)) Try.underlying79 Try.sizeOf5 Try.zeroValue5 rfl rfl rfl (by kernel_rfl) rfl ?_
                  intro b55
                  obtain ⟨h56, hF⟩ := of_guard hF
                  refine at_append (z := .int .u8 0) (c := (cInt .u8)) (ys := ([wr .u8 q47] : List Int)) (.s .z) Try.underlying79 infoG25 (by kernel_rfl) (by kernel_rfl) rfl rfl rfl rfl (fun _ hw => cells_src (hw.ok (Upd.mem .z))) (by kernel_rfl) h56 (app_small h56) rfl ?_
                  intro p57 c58
                  refine at_val rfl rfl rfl (r_assign rfl) ?_
                  refine at_nil ?_
                  refine at_drop (H := _) .z ?_
                  refine at_weak [(5, _), (9, _), (10, _)] ⟨rfl, rfl, rfl, trivial⟩ ?_
                  refine at_blk_normal (at_then_normal ?_)
                  refine at_region ?_
                  refine at_val rfl rfl rfl (r_move rfl) ?_
                  refine at_val rfl rfl rfl (r_iadd rfl rfl) ?_
                  refine at_val rfl rfl rfl (r_assign rfl) ?_
                  refine at_nil ?_
                  refine at_weak [(5, _), (9, _), (10, _)] ⟨rfl, rfl, rfl, trivial⟩ ?_
                  refine at_then_normal ?_
                  exact at_weak_k (ih _ _ _ hF K p57 c58) ⟨rfl, rfl, rfl, trivial⟩
              · refine at_cond_false rfl h46 ?_
                refine at_exit ?_
                refine at_then_exit (at_then_exit ?_)
                obtain rfl := of_some hF
                exact at_weak_k (K p42 c43) ⟨rfl, rfl, trivial⟩
          · skip
            intro p44 c45
            refine at_blk_same ?_
            refine at_then_normal ?_
            refine at_seq ?_
            refine at_seq ?_
            refine at_region ?_
            refine at_val rfl rfl rfl (r_move rfl) ?_
            refine at_val rfl rfl rfl (r_len_sl Try.underlying79 rfl) ?_
            refine at_val rfl rfl rfl (r_imul rfl rfl) ?_
            refine at_val rfl rfl rfl (r_assign rfl) ?_
            refine at_nil ?_
            refine at_weak [(5, _), (9, _), (13, _)] ⟨rfl, rfl, rfl, trivial⟩ ?_
            refine at_then_normal ?_
            refine at_block ?_
            obtain ⟨q59, hq59, hF⟩ := of_bindM hF
            refine at_weak [(5, _), (9, _), (13, _)] ⟨rfl, rfl, rfl, trivial⟩ ?_
            refine at_loop_r (B := 8) (r := r) (q := q59) (A := fun (_ : Unit) Y => At 100 [(9, .slice p44 q39.length c45)] (Wd w [rowE (cInt .u8) 5 p44 c45 q39]) Y) ?_ ?_
            · intro K
              refine crawlwayref04_Decode.l4.partial_correctness sq11 (motive := fun i60 x => KR (fun (_ : Unit) Y => At 100 [(9, .slice p44 q39.length c45)] (Wd w [rowE (cInt .u8) 5 p44 c45 q39]) Y) _ 8 r x → Round (fun Y => At 100 [(5, .slice p16 sq11.length c17), (9, .slice p44 q39.length c45), (13, .int .i64 i60)] (Wd w [rowE (cInt .u8) 5 p44 c45 q39, rowE (cInt .i64) 3 p16 c17 sq11]) Y) _ _ _) ?_ _ _ hq59 K
              · clear K hF
                intro g ih i60 x hF K
                refine at_round ?_
                refine at_seq ?_
                refine at_seq ?_
                refine at_region ?_
                refine at_val rfl rfl rfl (r_move rfl) ?_
                refine at_val rfl rfl rfl (r_move rfl) ?_
                refine at_val rfl rfl rfl (r_len_sl Try.underlying151 rfl) ?_
                refine at_val rfl rfl rfl (r_ilss rfl rfl) ?_
                refine at_nil ?_
                refine at_weak [(5, _), (9, _), (13, _), (91, _)] ⟨rfl, rfl, rfl, rfl, trivial⟩ ?_
                refine at_then_normal ?_
                rcases of_ite hF with ⟨h61, hF⟩ | ⟨h61, hF⟩
                · refine at_cond_true rfl h61 ?_
                  refine at_skip ?_
                  refine at_then_normal ?_
                  refine at_seq ?_
                  refine at_block ?_
                  refine at_seq ?_
                  refine at_region ?_
                  refine at_val rfl rfl rfl (r_move rfl) ?_
                  refine at_val rfl rfl rfl (r_move rfl) ?_
                  obtain ⟨h62, hF⟩ := of_guard hF
                  refine at_pure (φ := ∃ b o, p16 = some ⟨b, o, none⟩) (fun _ hw => row_ptr (hw.own (.s .z)).row h62) ?_
                  rintro ⟨b64, o65, hp63⟩
                  refine at_val rfl rfl rfl (r_idx Try.underlying151 Try.sizeOf3 rfl rfl h62 hp63) ?_
                  refine at_val rfl rfl rfl (r_load_cell Try.isAgg3 rfl (fun _ hw => row_cell0 (W := fun w1 => w1 = _) (fun w1 h => by subst h; exact Below.refl _ _) (hw.own (.s .z)).row h62 hp63 rfl _ rfl)) ?_
                  refine at_val rfl rfl rfl (r_ineq rfl rfl) ?_
                  refine at_nil ?_
                  refine at_weak [(5, _), (9, _), (13, _), (98, _)] ⟨rfl, rfl, rfl, rfl, trivial⟩ ?_
                  refine at_then_normal ?_
                  rcases of_ite hF with ⟨h66, hF⟩ | ⟨h66, hF⟩
                  · refine at_cond_true rfl h66 ?_
                    refine at_seq ?_
                    refine at_region ?_
                    refine at_val rfl rfl rfl (r_assign rfl) ?_
                    refine at_val rfl rfl rfl (r_assign rfl) ?_
                    refine at_nil ?_
                    refine at_drop (H := _) .z ?_
                    refine at_drop (H := _) .z ?_
                    refine at_weak [(2, _), (3, _)] ⟨rfl, rfl, trivial⟩ ?_
                    refine at_then_normal ?_
                    refine at_ret ?_
                    refine at_blk_ret (at_then_ret (at_then_ret (at_blk_ret (at_then_ret ?_))))
                    obtain rfl := of_some hF
                    subst K
                    exact at_return2 rfl rfl rfl (fun w1 hw => ⟨none, 0, rfl, Own.nil _ _ _ _, hw.below⟩)
                  · refine at_cond_false rfl h66 ?_
                    refine at_skip ?_
                    refine at_blk_normal (at_then_normal ?_)
                    refine at_region ?_
                    refine at_val rfl rfl rfl (r_move rfl) ?_
                    refine at_val rfl rfl rfl (r_iadd rfl rfl) ?_
                    refine at_val rfl rfl rfl (r_assign rfl) ?_
                    refine at_nil ?_
                    refine at_weak [(5, _), (9, _), (13, _)] ⟨rfl, rfl, rfl, trivial⟩ ?_
                    refine at_then_normal ?_
                    exact at_weak_k (ih _ _ hF K) ⟨rfl, rfl, rfl, trivial⟩
                · refine at_cond_false rfl h61 ?_
                  refine at_exit ?_
                  refine at_then_exit (at_then_exit ?_)
                  refine at_drop (H := _) (.s .z) ?_
                  obtain rfl := of_some hF
                  exact at_weak_k K ⟨rfl, trivial⟩
            · cases q59 with
              | ret r' => exact of_some hF
              | nx sq59 =>
                skip
                refine at_blk_same ?_
                refine at_then_normal ?_
                refine at_seq ?_
                refine at_region ?_
                refine at_val rfl rfl rfl (r_move rfl) ?_
                refine at_val rfl rfl rfl (r_assign rfl) ?_
                refine at_val rfl rfl rfl (r_assign rfl) ?_
                refine at_nil ?_
                refine at_weak [(2, _), (3, _)] ⟨rfl, rfl, trivial⟩ ?_
                refine at_then_normal ?_
                refine at_ret ?_
                have K := of_some hF
                subst K
                exact at_return2 rfl rfl rfl (fun w1 hw => ⟨p44, c45, rfl, hw.own .z, hw.below⟩)

def sixtyfour_value (x0 : Int) : Option (Int × Bool) :=
  some (wr .u32 (Lib.indexByte (⟨#[65, 66, 67, 68, 69, 70, 71, 72, 73, 74, 75, 76, 77, 78, 79, 80, 81, 82, 83, 84, 85, 86, 87, 88, 89, 90, 97, 98, 99, 100, 101, 102, 103, 104, 105, 106, 107, 108, 109, 110, 111, 112, 113, 114, 115, 116, 117, 118, 119, 120, 121, 122, 48, 49, 50, 51, 52, 53, 54, 55, 56, 57, 43, 47]⟩ : ByteArray).data.toList (Nat.toUInt8 (Int.toNat x0))), decide (Lib.indexByte (⟨#[65, 66, 67, 68, 69, 70, 71, 72, 73, 74, 75, 76, 77, 78, 79, 80, 81, 82, 83, 84, 85, 86, 87, 88, 89, 90, 97, 98, 99, 100, 101, 102, 103, 104, 105, 106, 107, 108, 109, 110, 111, 112, 113, 114, 115, 116, 117, 118, 119, 120, 121, 122, 48, 49, 50, 51, 52, 53, 54, 55, 56, 57, 43, 47]⟩ : ByteArray).data.toList (Nat.toUInt8 (Int.toNat x0)) ≥ 0))
theorem sixtyfour_value_ok (x0 : Int) (r : Int × Bool) (hF : sixtyfour_value x0 = some r) (w : World) :
    Calls Try.prog 145 #[.int .u8 x0] w (fun e w' => e = .returned (.tuple #[.int .u32 r.1, .bool r.2]) ∧ w' = w) := by
  unfold sixtyfour_value at hF
  refine calls_enter (l := [.int .u8 x0]) Try.func145 rfl rfl rfl ?_
  refine at_weak [(0, _)] ⟨rfl, trivial⟩ ?_
  refine at_seq ?_
  refine at_region ?_
  refine at_val rfl rfl rfl (r_assign rfl) ?_
  refine at_val rfl rfl rfl (r_assign rfl) ?_
  refine at_nil ?_
  refine at_weak [(0, _)] ⟨rfl, trivial⟩ ?_
  refine at_then_normal ?_
  refine at_seq ?_
  refine at_region ?_
  refine at_val rfl rfl rfl (r_move rfl) ?_
  refine at_call0 Try.func146 rfl (by kernel_rfl) rfl rfl (fun w => Try.strings_IndexByte _ _ w) ?_
  refine at_val rfl rfl rfl (r_assign rfl) ?_
  refine at_nil ?_
  refine at_weak [(4, _)] ⟨rfl, trivial⟩ ?_
  refine at_then_normal ?_
  refine at_seq ?_
  refine at_region ?_
  refine at_val rfl rfl rfl (r_move rfl) ?_
  refine at_val rfl rfl rfl (r_conv Try.underlying3 Try.underlying138 rfl) ?_
  refine at_val rfl rfl rfl (r_move rfl) ?_
  refine at_val rfl rfl rfl (r_igeq rfl rfl) ?_
  refine at_val rfl rfl rfl (r_assign rfl) ?_
  refine at_val rfl rfl rfl (r_assign rfl) ?_
  refine at_nil ?_
  refine at_weak [(2, _), (3, _)] ⟨rfl, rfl, trivial⟩ ?_
  refine at_then_normal ?_
  refine at_ret ?_
  have K := of_some hF
  subst K
  exact at_return2 rfl rfl rfl (fun w1 hw => ⟨rfl, hw⟩)

def sixtyfour_four.l0 (x0 : ByteArray) (i2 : Int) (i3 : Int) : Option (Ctl (List Int × Bool × Int) (Int)) :=
  if (decide (i3 < (x0.size : Int))) = true then (if (0 : Int) ≤ i3 ∧ i3 < (x0.size : Int) then sixtyfour_value (bt x0 i3) >>= fun t6 => if (!t6.2) = true then (some (.ret ([], false, 5))) else (if (0 : Int) ≤ wr .u64 (wr .i64 (18 - (wr .i64 (6 * i3)))) then sixtyfour_four.l0 x0 (ior .u32 i2 (ishl .u32 t6.1 (wr .u64 (wr .i64 (18 - (wr .i64 (6 * i3))))))) (wr .i64 (i3 + 1)) else none) else none) else (some (.nx i2))
  partial_fixpoint
def sixtyfour_four.l1 (x0 : ByteArray) (sq1 : Int) (i12 : List Int) (i13 : Int) : Option (List Int) :=
  if (decide (i13 < wr .i64 ((x0.size : Int) - 1))) = true then (if (0 : Int) ≤ wr .u64 (wr .i64 (16 - (wr .i64 (8 * i13)))) then if (i12.length + 1) * 1 ≤ 140737488355328 then sixtyfour_four.l1 x0 sq1 (i12 ++ [wr .u8 (ishr .u32 sq1 (wr .u64 (wr .i64 (16 - (wr .i64 (8 * i13))))))]) (wr .i64 (i13 + 1)) else none else none) else (some i12)
  partial_fixpoint
def sixtyfour_four (x0 : ByteArray) : Option (List Int × Bool × Int) :=
  sixtyfour_four.l0 x0 0 0 >>= fun q1 => match q1 with | .ret r' => some r' | .nx sq1 => (sixtyfour_four.l1 x0 sq1 ([] : List Int) 0 >>= fun q11 => if (0 : Int) ≤ wr .u64 (wr .i64 (8 + (wr .i64 (8 * (wr .i64 ((x0.size : Int) - 1)))))) then some (q11, (ishl .u32 sq1 (wr .u64 (wr .i64 (8 + (wr .i64 (8 * (wr .i64 ((x0.size : Int) - 1))))))) == 0), 0) else none)
theorem sixtyfour_four_ok (x0 : ByteArray) (r : List Int × Bool × Int) (hF : sixtyfour_four x0 = some r) (w : World) :
    Calls Try.prog 113 #[.string x0] w (fun e w' => ∃ p cap, e = .returned (.tuple #[.slice p r.1.length cap, .bool r.2.1, .int .i64 r.2.2]) ∧ Own (cInt .u8) 5 w.heap.size w' p cap r.1 ∧ Below w.heap.size w w') := by
  unfold sixtyfour_four at hF
  refine calls_enter (l := [.string x0]) Try.func113 rfl rfl rfl ?_
  refine at_start ?_
  refine at_weak [(0, _)] ⟨rfl, trivial⟩ ?_
  refine at_seq ?_
  refine at_region ?_
  refine at_val rfl rfl rfl (r_assign rfl) ?_
  refine at_val rfl rfl rfl (r_assign rfl) ?_
  refine at_val rfl rfl rfl (r_assign rfl) ?_
  refine at_nil ?_
  refine at_weak [(0, _), (2, _)] ⟨rfl, rfl, trivial⟩ ?_
  refine at_then_normal ?_
  refine at_seq ?_
  refine at_region ?_
  refine at_val rfl rfl rfl (r_assign rfl) ?_
  refine at_nil ?_
  refine at_weak [(0, _), (2, _), (5, _)] ⟨rfl, rfl, rfl, trivial⟩ ?_
  refine at_then_normal ?_
  refine at_seq ?_
  refine at_seq ?_
  refine at_region ?_
  refine at_val rfl rfl rfl (r_move rfl) ?_
  refine at_val rfl rfl rfl (r_len_str Try.underlying9 rfl) ?_
  refine at_val rfl rfl rfl (r_move rfl) ?_
  refine at_nil ?_
  refine at_weak [(0, _), (2, _), (5, _), (12, _), (13, _)] ⟨rfl, rfl, rfl, rfl, rfl, trivial⟩ ?_
  refine at_then_normal ?_
  refine at_block ?_
  obtain ⟨q1, hq1, hF⟩ := of_bindM hF
  refine at_weak [(0, _), (2, _), (5, _), (12, _), (13, _)] ⟨rfl, rfl, rfl, rfl, rfl, trivial⟩ ?_
  refine at_loop_r (B := 0) (r := r) (q := q1) (A := fun sq1 Y => At 60 [(0, .string x0), (2, .slice none 0 0), (5, .int .u32 sq1)] (Wd w []) Y) ?_ ?_
  · intro K
    refine sixtyfour_four.l0.partial_correctness x0 (motive := fun i2 i3 x => KR (fun sq1 Y => At 60 [(0, .string x0), (2, .slice none 0 0), (5, .int .u32 sq1)] (Wd w []) Y) _ 0 r x → Round (fun Y => At 60 [(0, .string x0), (2, .slice none 0 0), (5, .int .u32 i2), (12, .int .i64 (x0.size : Int)), (13, .int .i64 i3)] (Wd w []) Y) _ _ _) ?_ _ _ _ hq1 K
    · clear K hF
      intro g ih i2 i3 x hF K
      refine at_round ?_
      refine at_seq ?_
      refine at_region ?_
      refine at_val rfl rfl rfl (r_ilss rfl rfl) ?_
      refine at_nil ?_
      refine at_weak [(0, _), (2, _), (5, _), (12, _), (13, _), (14, _)] ⟨rfl, rfl, rfl, rfl, rfl, rfl, trivial⟩ ?_
      refine at_then_normal ?_
      refine at_seq ?_
      rcases of_ite hF with ⟨h4, hF⟩ | ⟨h4, hF⟩
      · refine at_cond_true rfl h4 ?_
        refine at_skip ?_
        refine at_then_normal ?_
        refine at_seq ?_
        refine at_block ?_
        refine at_seq ?_
        refine at_region ?_
        refine at_val rfl rfl rfl (r_move rfl) ?_
        refine at_val rfl rfl rfl (r_assign rfl) ?_
        refine at_nil ?_
        refine at_weak [(0, _), (2, _), (5, _), (6, _), (12, _), (13, _)] ⟨rfl, rfl, rfl, rfl, rfl, rfl, trivial⟩ ?_
        refine at_then_normal ?_
        refine at_seq ?_
        refine at_region ?_
        refine at_val rfl rfl rfl (r_move rfl) ?_
        refine at_val rfl rfl rfl (r_move rfl) ?_
        obtain ⟨h5, hF⟩ := of_guard hF
        refine at_val rfl rfl rfl (r_index_str Try.underlying9 rfl rfl h5) ?_
        obtain ⟨t6, ht6, hF⟩ := of_bindM hF
        refine at_call0 Try.func145 rfl (by kernel_rfl) rfl rfl (fun w => sixtyfour_value_ok _ _ ht6 w) ?_
        refine at_val rfl rfl rfl (r_move rfl) ?_
        refine at_val rfl rfl rfl (r_extract rfl rfl) ?_
        refine at_val rfl rfl rfl (r_extract rfl rfl) ?_
        refine at_val rfl rfl rfl (r_assign rfl) ?_
        refine at_val rfl rfl rfl (r_assign rfl) ?_
        refine at_nil ?_
        refine at_weak [(0, _), (2, _), (5, _), (6, _), (7, _), (8, _), (12, _), (13, _)] ⟨rfl, rfl, rfl, rfl, rfl, rfl, rfl, rfl, trivial⟩ ?_
        refine at_then_normal ?_
        refine at_seq ?_
        refine at_seq ?_
        refine at_region ?_
        refine at_val rfl rfl rfl (r_move rfl) ?_
        refine at_val rfl rfl rfl (r_not rfl) ?_
        refine at_nil ?_
        refine at_weak [(0, _), (2, _), (5, _), (6, _), (7, _), (12, _), (13, _), (24, _)] ⟨rfl, rfl, rfl, rfl, rfl, rfl, rfl, rfl, trivial⟩ ?_
        refine at_then_normal ?_
        rcases of_ite hF with ⟨h7, hF⟩ | ⟨h7, hF⟩
        · refine at_cond_true rfl h7 ?_
          refine at_seq ?_
          refine at_region ?_
          refine at_val rfl rfl rfl (r_assign rfl) ?_
          refine at_val rfl rfl rfl (r_assign rfl) ?_
          refine at_val rfl rfl rfl (r_assign rfl) ?_
          refine at_nil ?_
          refine at_weak [(2, _), (3, _), (4, _)] ⟨rfl, rfl, rfl, trivial⟩ ?_
          refine at_then_normal ?_
          refine at_ret ?_
          refine at_then_ret (at_blk_ret (at_then_ret (at_then_ret (at_blk_ret (at_then_ret ?_)))))
          obtain rfl := of_some hF
          subst K
          exact at_return3 rfl rfl rfl rfl (fun w1 hw => ⟨none, 0, rfl, Own.nil _ _ _ _, hw.below⟩)
        · refine at_cond_false rfl h7 ?_
          refine at_skip ?_
          refine at_then_normal ?_
          refine at_region ?_
          refine at_val rfl rfl rfl (r_move rfl) ?_
          refine at_val rfl rfl rfl (r_move rfl) ?_
          refine at_val rfl rfl rfl (r_move rfl) ?_
          refine at_val rfl rfl rfl (r_imul rfl rfl) ?_
          refine at_val rfl rfl rfl (r_isub rfl rfl) ?_
          refine at_val rfl rfl rfl (r_conv Try.underlying3 Try.underlying94 rfl) ?_
          obtain ⟨h8, hF⟩ := of_guard hF
          refine at_val rfl rfl rfl (r_ishl rfl rfl h8) ?_
          refine at_val rfl rfl rfl (r_ior rfl rfl) ?_
          refine at_val rfl rfl rfl (r_assign rfl) ?_
          refine at_nil ?_
          refine at_weak [(0, _), (2, _), (5, _), (12, _), (13, _)] ⟨rfl, rfl, rfl, rfl, rfl, trivial⟩ ?_
          refine at_blk_normal (at_then_normal ?_)
          refine at_region ?_
          refine at_val rfl rfl rfl (r_iadd rfl rfl) ?_
          refine at_val rfl rfl rfl (r_move rfl) ?_
          refine at_nil ?_
          refine at_weak [(0, _), (2, _), (5, _), (12, _), (13, _)] ⟨rfl, rfl, rfl, rfl, rfl, trivial⟩ ?_
          refine at_then_normal ?_
          exact at_weak_k (ih _ _ _ hF K) ⟨rfl, rfl, rfl, rfl, rfl, trivial⟩
      · refine at_cond_false rfl h4 ?_
        refine at_exit ?_
        refine at_then_exit (at_then_exit ?_)
        obtain rfl := of_some hF
        exact at_weak_k K ⟨rfl, rfl, rfl, trivial⟩
  · cases q1 with
    | ret r' => exact of_some hF
    | nx sq1 =>
      skip
      refine at_blk_same ?_
      refine at_then_normal ?_
      refine at_seq ?_
      refine at_region ?_
      refine at_val rfl rfl rfl (r_move rfl) ?_
      refine at_val rfl rfl rfl (r_len_str Try.underlying9 rfl) ?_
      refine at_val rfl rfl rfl (r_isub rfl rfl) ?_
      refine at_val rfl rfl rfl (r_assign rfl) ?_
      refine at_nil ?_
      refine at_weak [(2, _), (5, _), (9, _)] ⟨rfl, rfl, rfl, trivial⟩ ?_
      refine at_then_normal ?_
      refine at_seq ?_
      refine at_seq ?_
      refine at_region ?_
      refine at_val rfl rfl rfl (r_move rfl) ?_
      refine at_val rfl rfl rfl (r_move rfl) ?_
      refine at_nil ?_
      refine at_weak [(2, _), (5, _), (9, _), (37, _), (38, _)] ⟨rfl, rfl, rfl, rfl, rfl, trivial⟩ ?_
      refine at_then_normal ?_
      refine at_block ?_
      refine at_own_nil (cInt .u8) 5 ?_
      refine at_weak [(2, .slice none ([] : List Int).length 0), (5, _), (9, _), (37, _), (38, _)] ⟨rfl, rfl, rfl, rfl, rfl, trivial⟩ ?_
      obtain ⟨q11, hq11, hF⟩ := of_bindM hF
      refine at_weak [(2, _), (5, _), (9, _), (37, _), (38, _)] ⟨rfl, rfl, rfl, rfl, rfl, trivial⟩ ?_
      refine at_loop_n (B := 2) (A := fun Y => ∀ (p16 : Option Addr) (c17 : Nat), At 60 [(2, .slice p16 q11.length c17), (5, .int .u32 sq1), (9, .int .i64 (wr .i64 ((x0.size : Int) - 1)))] (Wd w [rowE (cInt .u8) 5 p16 c17 q11]) Y) ?_ ?_
      · intro K
        refine sixtyfour_four.l1.partial_correctness x0 sq1 (motive := fun i12 i13 x => KN (fun Y => ∀ (p16 : Option Addr) (c17 : Nat), At 60 [(2, .slice p16 x.length c17), (5, .int .u32 sq1), (9, .int .i64 (wr .i64 ((x0.size : Int) - 1)))] (Wd w [rowE (cInt .u8) 5 p16 c17 x]) Y) _ 2 → Round (fun Y => ∀ (p14 : Option Addr) (c15 : Nat), At 60 [(2, .slice p14 i12.length c15), (5, .int .u32 sq1), (9, .int .i64 (wr .i64 ((x0.size : Int) - 1))), (37, .int .i64 (wr .i64 ((x0.size : Int) - 1))), (38, .int .i64 i13)] (Wd w [rowE (cInt .u8) 5 p14 c15 i12]) Y) _ _ _) ?_ _ _ _ hq11 K none 0
        · clear K hF
          intro g ih i12 i13 x hF K p14 c15
          refine at_round ?_
          refine at_seq ?_
          refine at_region ?_
          refine at_val rfl rfl rfl (r_ilss rfl rfl) ?_
          refine at_nil ?_
          refine at_weak [(2, _), (5, _), (9, _), (37, _), (38, _), (39, _)] ⟨rfl, rfl, rfl, rfl, rfl, rfl, trivial⟩ ?_
          refine at_then_normal ?_
          refine at_seq ?_
          rcases of_ite hF with ⟨h18, hF⟩ | ⟨h18, hF⟩
          · refine at_cond_true rfl h18 ?_
            refine at_skip ?_
            refine at_then_normal ?_
            refine at_seq ?_
            refine at_block ?_
            refine at_seq ?_
            refine at_region ?_
            refine at_val rfl rfl rfl (r_move rfl) ?_
            refine at_val rfl rfl rfl (r_assign rfl) ?_
            refine at_nil ?_
            refine at_weak [(2, _), (5, _), (9, _), (10, _), (37, _), (38, _)] ⟨rfl, rfl, rfl, rfl, rfl, rfl, trivial⟩ ?_
            refine at_then_normal ?_
            refine at_region ?_
            refine at_val rfl rfl rfl (r_move rfl) ?_
            refine at_val rfl rfl rfl (r_move rfl) ?_
            refine at_val rfl rfl rfl (r_move rfl) ?_
            refine at_val rfl rfl rfl (r_imul rfl rfl) ?_
            refine at_val rfl rfl rfl (r_isub rfl rfl) ?_
            refine at_val rfl rfl rfl (r_conv Try.underlying3 Try.underlying94 rfl) ?_
            obtain ⟨h19, hF⟩ := of_guard hF
            refine at_val rfl rfl rfl (r_ishr rfl rfl h19) ?_
            refine at_val rfl rfl rfl (r_conv Try.underlying138 Try.underlying5 rfl) ?_
            refine at_lit (cs := (cInt .u8).all ([wr .u8 (ishr .u32 sq1 (wr .u64 (wr .i64 (16 - (wr .i64 (8 * i13))))))] : List Int)) Try.underlying79 Try.sizeOf5 Try.zeroValue5 rfl rfl rfl (by kernel_rfl) rfl ?_
            intro b20
            obtain ⟨h21, hF⟩ := of_guard hF
            refine at_append (z := .int .u8 0) (c := (cInt .u8)) (ys := ([wr .u8 (ishr .u32 sq1 (wr .u64 (wr .i64 (16 - (wr .i64 (8 * i13))))))] : List Int)) (.s .z) Try.underlying79 infoG25 (by kernel_rfl) (by kernel_rfl) rfl rfl rfl rfl (fun _ hw => cells_src (hw.ok (Upd.mem .z))) (by kernel_rfl) h21 (app_small h21) rfl ?_
            intro p22 c23
            refine at_val rfl rfl rfl (r_assign rfl) ?_
            refine at_nil ?_
            refine at_drop (H := _) .z ?_
            refine at_weak [(2, _), (5, _), (9, _), (37, _), (38, _)] ⟨rfl, rfl, rfl, rfl, rfl, trivial⟩ ?_
            refine at_blk_normal (at_then_normal ?_)
            refine at_region ?_
            refine at_val rfl rfl rfl (r_iadd rfl rfl) ?_
            refine at_val rfl rfl rfl (r_move rfl) ?_
            refine at_nil ?_
            refine at_weak [(2, _), (5, _), (9, _), (37, _), (38, _)] ⟨rfl, rfl, rfl, rfl, rfl, trivial⟩ ?_
            refine at_then_normal ?_
            exact at_weak_k (ih _ _ _ hF K p22 c23) ⟨rfl, rfl, rfl, rfl, rfl, trivial⟩
          · refine at_cond_false rfl h18 ?_
            refine at_exit ?_
            refine at_then_exit (at_then_exit ?_)
            obtain rfl := of_some hF
            exact at_weak_k (K p14 c15) ⟨rfl, rfl, rfl, trivial⟩
      · skip
        intro p16 c17
        refine at_blk_same ?_
        refine at_then_normal ?_
        refine at_seq ?_
        refine at_region ?_
        refine at_val rfl rfl rfl (r_move rfl) ?_
        refine at_val rfl rfl rfl (r_move rfl) ?_
        refine at_val rfl rfl rfl (r_move rfl) ?_
        refine at_val rfl rfl rfl (r_imul rfl rfl) ?_
        refine at_val rfl rfl rfl (r_iadd rfl rfl) ?_
        refine at_val rfl rfl rfl (r_conv Try.underlying3 Try.underlying94 rfl) ?_
        obtain ⟨h24, hF⟩ := of_guard hF
        refine at_val rfl rfl rfl (r_ishl rfl rfl h24) ?_
        refine at_val rfl rfl rfl (r_ieql rfl rfl) ?_
        refine at_val rfl rfl rfl (r_assign rfl) ?_
        refine at_val rfl rfl rfl (r_assign rfl) ?_
        refine at_val rfl rfl rfl (r_assign rfl) ?_
        refine at_nil ?_
        refine at_weak [(2, _), (3, _), (4, _)] ⟨rfl, rfl, rfl, trivial⟩ ?_
        refine at_then_normal ?_
        refine at_ret ?_
        have K := of_some hF
        subst K
        exact at_return3 rfl rfl rfl rfl (fun w1 hw => ⟨p16, c17, rfl, hw.own .z, hw.below⟩)

def sixtyfour_Encode.l1 (i7 : List Int) (i8 : ByteArray) (i16 : Int) (i17 : Int) : Option (Int × ByteArray) :=
  if (decide (i17 < 3)) = true then (if (decide (i17 < (if 3 < (i7.length : Int) then 3 else (i7.length : Int)))) = true then (if (0 : Int) ≤ i17 ∧ i17 < (i7.length : Int) then sixtyfour_Encode.l1 i7 i8 (ior .u32 (ishl .u32 i16 8) (wr .u32 (lget i7 i17))) (wr .i64 (i17 + 1)) else none) else (sixtyfour_Encode.l1 i7 i8 (ishl .u32 i16 8) (wr .i64 (i17 + 1)))) else (some (i16, i8))
  partial_fixpoint
def sixtyfour_Encode.l2 (i7 : List Int) (q15 : Int × ByteArray) (i27 : Int) (i28 : ByteArray) : Option (ByteArray) :=
  if (decide (i27 < wr .i64 ((if 3 < (i7.length : Int) then 3 else (i7.length : Int)) + 1))) = true then (if (0 : Int) ≤ wr .u64 (wr .i64 (18 - (wr .i64 (6 * i27)))) then if (0 : Int) ≤ iand .u32 (ishr .u32 q15.1 (wr .u64 (wr .i64 (18 - (wr .i64 (6 * i27)))))) 63 ∧ iand .u32 (ishr .u32 q15.1 (wr .u64 (wr .i64 (18 - (wr .i64 (6 * i27)))))) 63 < ((⟨#[65, 66, 67, 68, 69, 70, 71, 72, 73, 74, 75, 76, 77, 78, 79, 80, 81, 82, 83, 84, 85, 86, 87, 88, 89, 90, 97, 98, 99, 100, 101, 102, 103, 104, 105, 106, 107, 108, 109, 110, 111, 112, 113, 114, 115, 116, 117, 118, 119, 120, 121, 122, 48, 49, 50, 51, 52, 53, 54, 55, 56, 57, 43, 47]⟩ : ByteArray).size : Int) then if (0 : Int) ≤ bt (⟨#[65, 66, 67, 68, 69, 70, 71, 72, 73, 74, 75, 76, 77, 78, 79, 80, 81, 82, 83, 84, 85, 86, 87, 88, 89, 90, 97, 98, 99, 100, 101, 102, 103, 104, 105, 106, 107, 108, 109, 110, 111, 112, 113, 114, 115, 116, 117, 118, 119, 120, 121, 122, 48, 49, 50, 51, 52, 53, 54, 55, 56, 57, 43, 47]⟩ : ByteArray) (iand .u32 (ishr .u32 q15.1 (wr .u64 (wr .i64 (18 - (wr .i64 (6 * i27)))))) 63) ∧ bt (⟨#[65, 66, 67, 68, 69, 70, 71, 72, 73, 74, 75, 76, 77, 78, 79, 80, 81, 82, 83, 84, 85, 86, 87, 88, 89, 90, 97, 98, 99, 100, 101, 102, 103, 104, 105, 106, 107, 108, 109, 110, 111, 112, 113, 114, 115, 116, 117, 118, 119, 120, 121, 122, 48, 49, 50, 51, 52, 53, 54, 55, 56, 57, 43, 47]⟩ : ByteArray) (iand .u32 (ishr .u32 q15.1 (wr .u64 (wr .i64 (18 - (wr .i64 (6 * i27)))))) 63) < 256 then if i28.size + 1 ≤ 140737488355328 then sixtyfour_Encode.l2 i7 q15 (wr .i64 (i27 + 1)) (i28.push (UInt8.ofNat (Int.toNat (bt (⟨#[65, 66, 67, 68, 69, 70, 71, 72, 73, 74, 75, 76, 77, 78, 79, 80, 81, 82, 83, 84, 85, 86, 87, 88, 89, 90, 97, 98, 99, 100, 101, 102, 103, 104, 105, 106, 107, 108, 109, 110, 111, 112, 113, 114, 115, 116, 117, 118, 119, 120, 121, 122, 48, 49, 50, 51, 52, 53, 54, 55, 56, 57, 43, 47]⟩ : ByteArray) (iand .u32 (ishr .u32 q15.1 (wr .u64 (wr .i64 (18 - (wr .i64 (6 * i27)))))) 63))))) else none else none else none else none) else (some i28)
  partial_fixpoint
def sixtyfour_Encode.l0 (i7 : List Int) (i8 : ByteArray) : Option (ByteArray) :=
  if (decide ((i7.length : Int) > 0)) = true then (sixtyfour_Encode.l1 i7 i8 0 0 >>= fun q15 => sixtyfour_Encode.l2 i7 q15 0 q15.2 >>= fun q26 => if (0 : Int) ≤ wr .i64 (3 - (if 3 < (i7.length : Int) then 3 else (i7.length : Int))) ∧ wr .i64 (3 - (if 3 < (i7.length : Int) then 3 else (i7.length : Int))) ≤ 9223372036854775807 ∧ ((⟨#[61]⟩ : ByteArray).size : Int) * (wr .i64 (3 - (if 3 < (i7.length : Int) then 3 else (i7.length : Int)))) ≤ 140737488355328 then if q26.size + (brep (⟨#[61]⟩ : ByteArray) (wr .i64 (3 - (if 3 < (i7.length : Int) then 3 else (i7.length : Int))))).size ≤ 140737488355328 then if (0 : Int) ≤ (if 3 < (i7.length : Int) then 3 else (i7.length : Int)) ∧ (if 3 < (i7.length : Int) then 3 else (i7.length : Int)) ≤ (i7.length : Int) ∧ (i7.length : Int) ≤ (i7.length : Int) then sixtyfour_Encode.l0 (lsub i7 (if 3 < (i7.length : Int) then 3 else (i7.length : Int)) (i7.length : Int)) (q26 ++ (brep (⟨#[61]⟩ : ByteArray) (wr .i64 (3 - (if 3 < (i7.length : Int) then 3 else (i7.length : Int)))))) else none else none else none) else (some i8)
  partial_fixpoint
def sixtyfour_Encode (x0 : List Int) : Option (ByteArray) :=
  sixtyfour_Encode.l0 x0 ByteArray.empty >>= fun q6 => some q6
theorem sixtyfour_Encode_ok (x0 : List Int) (p0_ : Option Addr) (c0_ : Nat) (r : ByteArray) (hF : sixtyfour_Encode x0 = some r) (w : World) (hr0 : Row (cInt .u8) w p0_ c0_ x0) :
    Calls Try.prog 82 #[.slice p0_ x0.length c0_] w (fun e w' => e = .returned (.string r) ∧ Below w.heap.size w w') := by
  unfold sixtyfour_Encode at hF
  refine calls_enter (l := [.slice p0_ x0.length c0_]) Try.func82 rfl rfl rfl ?_
  refine at_start ?_
  refine at_weak [(0, _)] ⟨rfl, trivial⟩ ?_
  refine at_seq ?_
  refine at_region ?_
  refine at_val rfl rfl rfl (r_assign rfl) ?_
  refine at_nil ?_
  refine at_weak [(0, _)] ⟨rfl, trivial⟩ ?_
  refine at_then_normal ?_
  refine at_seq ?_
  refine at_region ?_
  refine at_alloc_bld (e := 5) Try.zeroValue137 rfl ?_
  intro b1
  refine at_nil ?_
  refine at_weak [(0, _), (3, _)] ⟨rfl, rfl, trivial⟩ ?_
  refine at_then_normal ?_
  refine at_seq ?_
  refine at_block ?_
  obtain ⟨q6, hq6, hF⟩ := of_bindM hF
  refine at_weak [(0, _), (3, _)] ⟨rfl, rfl, trivial⟩ ?_
  refine at_loop_n (B := 0) (A := fun Y => ∀ (g13 : Option Nat), At 53 [(3, .pointer (some ⟨b1, 0, none⟩))] (Wd w [bldE 137 5 b1 g13 q6]) Y) ?_ ?_
  · intro K
    refine sixtyfour_Encode.l0.partial_correctness  (motive := fun i7 i8 x => KN (fun Y => ∀ (g13 : Option Nat), At 53 [(3, .pointer (some ⟨b1, 0, none⟩))] (Wd w [bldE 137 5 b1 g13 x]) Y) _ 0 → Round (fun Y => ∀ (p9 : Option Addr) (c10 : Nat) (hr11 : Row (cInt .u8) w p9 c10 i7) (g12 : Option Nat), At 53 [(0, .slice p9 i7.length c10), (3, .pointer (some ⟨b1, 0, none⟩))] (Wd w [bldE 137 5 b1 g12 i8]) Y) _ _ _) ?_ _ _ _ hq6 K p0_ c0_ hr0 none
    · clear K hF
      intro g ih i7 i8 x hF K p9 c10 hr11 g12
      refine at_round ?_
      refine at_seq ?_
      refine at_seq ?_
      refine at_region ?_
      refine at_val rfl rfl rfl (r_move rfl) ?_
      refine at_val rfl rfl rfl (r_len_sl Try.underlying79 rfl) ?_
      refine at_val rfl rfl rfl (r_igtr rfl rfl) ?_
      refine at_nil ?_
      refine at_weak [(0, _), (3, _), (10, _)] ⟨rfl, rfl, rfl, trivial⟩ ?_
      refine at_then_normal ?_
      rcases of_ite hF with ⟨h14, hF⟩ | ⟨h14, hF⟩
      · refine at_cond_true rfl h14 ?_
        refine at_skip ?_
        refine at_then_normal ?_
        refine at_block ?_
        refine at_seq ?_
        refine at_region ?_
        refine at_val rfl rfl rfl (r_move rfl) ?_
        refine at_val rfl rfl rfl (r_len_sl Try.underlying79 rfl) ?_
        refine at_val rfl rfl rfl (r_min rfl rfl) ?_
        refine at_val rfl rfl rfl (r_assign rfl) ?_
        refine at_nil ?_
        refine at_weak [(0, _), (3, _), (4, _)] ⟨rfl, rfl, rfl, trivial⟩ ?_
        refine at_then_normal ?_
        refine at_seq ?_
        refine at_region ?_
        refine at_val rfl rfl rfl (r_assign rfl) ?_
        refine at_nil ?_
        refine at_weak [(0, _), (3, _), (4, _), (5, _)] ⟨rfl, rfl, rfl, rfl, trivial⟩ ?_
        refine at_then_normal ?_
        refine at_seq ?_
        refine at_seq ?_
        refine at_region ?_
        refine at_val rfl rfl rfl (r_move rfl) ?_
        refine at_nil ?_
        refine at_weak [(0, _), (3, _), (4, _), (5, _), (14, _)] ⟨rfl, rfl, rfl, rfl, rfl, trivial⟩ ?_
        refine at_then_normal ?_
        refine at_block ?_
        obtain ⟨q15, hq15, hF⟩ := of_bindM hF
        refine at_weak [(0, _), (3, _), (4, _), (5, _), (14, _)] ⟨rfl, rfl, rfl, rfl, rfl, trivial⟩ ?_
        refine at_loop_n (B := 2) (A := fun Y => ∀ (g18 : Option Nat), At 53 [(0, .slice p9 i7.length c10), (3, .pointer (some ⟨b1, 0, none⟩)), (4, .int .i64 (if 3 < (i7.length : Int) then 3 else (i7.length : Int))), (5, .int .u32 q15.1)] (Wd w [bldE 137 5 b1 g18 q15.2]) Y) ?_ ?_
        · intro K
          refine sixtyfour_Encode.l1.partial_correctness i7 i8 (motive := fun i16 i17 x => KN (fun Y => ∀ (g18 : Option Nat), At 53 [(0, .slice p9 i7.length c10), (3, .pointer (some ⟨b1, 0, none⟩)), (4, .int .i64 (if 3 < (i7.length : Int) then 3 else (i7.length : Int))), (5, .int .u32 x.1)] (Wd w [bldE 137 5 b1 g18 x.2]) Y) _ 2 → Round (fun Y => At 53 [(0, .slice p9 i7.length c10), (3, .pointer (some ⟨b1, 0, none⟩)), (4, .int .i64 (if 3 < (i7.length : Int) then 3 else (i7.length : Int))), (5, .int .u32 i16), (14, .int .i64 i17)] (Wd w [bldE 137 5 b1 g12 i8]) Y) _ _ _) ?_ _ _ _ hq15 K
          · clear K hF
            intro g ih i16 i17 x hF K
            refine at_round ?_
            refine at_seq ?_
            refine at_region ?_
            refine at_val rfl rfl rfl (r_ilss rfl rfl) ?_
            refine at_nil ?_
            refine at_weak [(0, _), (3, _), (4, _), (5, _), (14, _), (15, _)] ⟨rfl, rfl, rfl, rfl, rfl, rfl, trivial⟩ ?_
            refine at_then_normal ?_
            refine at_seq ?_
            rcases of_ite hF with ⟨h19, hF⟩ | ⟨h19, hF⟩
            · refine at_cond_true rfl h19 ?_
              refine at_skip ?_
              refine at_then_normal ?_
              refine at_seq ?_
              refine at_block ?_
              refine at_seq ?_
              refine at_region ?_
              refine at_val rfl rfl rfl (r_move rfl) ?_
              refine at_val rfl rfl rfl (r_assign rfl) ?_
              refine at_nil ?_
              refine at_weak [(0, _), (3, _), (4, _), (5, _), (6, _), (14, _)] ⟨rfl, rfl, rfl, rfl, rfl, rfl, trivial⟩ ?_
              refine at_then_normal ?_
              refine at_seq ?_
              refine at_region ?_
              refine at_val rfl rfl rfl (r_move rfl) ?_
              refine at_val rfl rfl rfl (r_ishl rfl rfl (by decide)) ?_
              refine at_val rfl rfl rfl (r_assign rfl) ?_
              refine at_nil ?_
              refine at_weak [(0, _), (3, _), (4, _), (5, _), (6, _), (14, _)] ⟨rfl, rfl, rfl, rfl, rfl, rfl, trivial⟩ ?_
              refine at_then_normal ?_
              refine at_seq ?_
              refine at_region ?_
              refine at_val rfl rfl rfl (r_move rfl) ?_
              refine at_val rfl rfl rfl (r_move rfl) ?_
              refine at_val rfl rfl rfl (r_ilss rfl rfl) ?_
              refine at_nil ?_
              refine at_weak [(0, _), (3, _), (4, _), (5, _), (6, _), (14, _), (21, _)] ⟨rfl, rfl, rfl, rfl, rfl, rfl, rfl, trivial⟩ ?_
              refine at_then_normal ?_
              rcases of_ite hF with ⟨h20, hF⟩ | ⟨h20, hF⟩
              · refine at_cond_true rfl h20 ?_
                refine at_region ?_
                refine at_val rfl rfl rfl (r_move rfl) ?_
                refine at_val rfl rfl rfl (r_move rfl) ?_
                refine at_val rfl rfl rfl (r_move rfl) ?_
                obtain ⟨h21, hF⟩ := of_guard hF
                obtain ⟨b23, o24, hp22⟩ := row_ptr hr11 h21
                refine at_val rfl rfl rfl (r_idx Try.underlying79 Try.sizeOf5 rfl rfl h21 hp22) ?_
                refine at_val rfl rfl rfl (r_load_cell Try.isAgg5 rfl (row_cell0 (fun _ h => h.below) hr11 h21 hp22 rfl)) ?_
                refine at_val rfl rfl rfl (r_conv Try.underlying5 Try.underlying138 rfl) ?_
                refine at_val rfl rfl rfl (r_ior rfl rfl) ?_
                refine at_val rfl rfl rfl (r_assign rfl) ?_
                refine at_nil ?_
                refine at_weak [(0, _), (3, _), (4, _), (5, _), (14, _)] ⟨rfl, rfl, rfl, rfl, rfl, trivial⟩ ?_
                refine at_blk_normal (at_then_normal ?_)
                refine at_region ?_
                refine at_val rfl rfl rfl (r_iadd rfl rfl) ?_
                refine at_val rfl rfl rfl (r_move rfl) ?_
                refine at_nil ?_
                refine at_weak [(0, _), (3, _), (4, _), (5, _), (14, _)] ⟨rfl, rfl, rfl, rfl, rfl, trivial⟩ ?_
                refine at_then_normal ?_
                exact at_weak_k (ih _ _ _ hF K) ⟨rfl, rfl, rfl, rfl, rfl, trivial⟩
              · refine at_cond_false rfl h20 ?_
                refine at_skip ?_
                refine at_blk_normal (at_then_normal ?_)
                refine at_region ?_
                refine at_val rfl rfl rfl (r_iadd rfl rfl) ?_
                refine at_val rfl rfl rfl (r_move rfl) ?_
                refine at_nil ?_
                refine at_weak [(0, _), (3, _), (4, _), (5, _), (14, _)] ⟨rfl, rfl, rfl, rfl, rfl, trivial⟩ ?_
                refine at_then_normal ?_
                exact at_weak_k (ih _ _ _ hF K) ⟨rfl, rfl, rfl, rfl, rfl, trivial⟩
            · refine at_cond_false rfl h19 ?_
              refine at_exit ?_
              refine at_then_exit (at_then_exit ?_)
              obtain rfl := of_some hF
              exact at_weak_k (K g12) ⟨rfl, rfl, rfl, rfl, trivial⟩
        · skip
          intro g18
          refine at_blk_same ?_
          refine at_then_normal ?_
          refine at_seq ?_
          refine at_seq ?_
          refine at_region ?_
          refine at_val rfl rfl rfl (r_move rfl) ?_
          refine at_val rfl rfl rfl (r_iadd rfl rfl) ?_
          refine at_val rfl rfl rfl (r_move rfl) ?_
          refine at_nil ?_
          refine at_weak [(0, _), (3, _), (4, _), (5, _), (31, _), (32, _)] ⟨rfl, rfl, rfl, rfl, rfl, rfl, trivial⟩ ?_
          refine at_then_normal ?_
          refine at_block ?_
          obtain ⟨q26, hq26, hF⟩ := of_bindM hF
          refine at_weak [(0, _), (3, _), (4, _), (5, _), (31, _), (32, _)] ⟨rfl, rfl, rfl, rfl, rfl, rfl, trivial⟩ ?_
          refine at_loop_n (B := 4) (A := fun Y => ∀ (g30 : Option Nat), At 53 [(0, .slice p9 i7.length c10), (3, .pointer (some ⟨b1, 0, none⟩)), (4, .int .i64 (if 3 < (i7.length : Int) then 3 else (i7.length : Int)))] (Wd w [bldE 137 5 b1 g30 q26]) Y) ?_ ?_
          · intro K
            refine sixtyfour_Encode.l2.partial_correctness i7 q15 (motive := fun i27 i28 x => KN (fun Y => ∀ (g30 : Option Nat), At 53 [(0, .slice p9 i7.length c10), (3, .pointer (some ⟨b1, 0, none⟩)), (4, .int .i64 (if 3 < (i7.length : Int) then 3 else (i7.length : Int)))] (Wd w [bldE 137 5 b1 g30 x]) Y) _ 4 → Round (fun Y => ∀ (g29 : Option Nat), At 53 [(0, .slice p9 i7.length c10), (3, .pointer (some ⟨b1, 0, none⟩)), (4, .int .i64 (if 3 < (i7.length : Int) then 3 else (i7.length : Int))), (5, .int .u32 q15.1), (31, .int .i64 (wr .i64 ((if 3 < (i7.length : Int) then 3 else (i7.length : Int)) + 1))), (32, .int .i64 i27)] (Wd w [bldE 137 5 b1 g29 i28]) Y) _ _ _) ?_ _ _ _ hq26 K g18
            · clear K hF
              intro g ih i27 i28 x hF K g29
              refine at_round ?_
              refine at_seq ?_
              refine at_region ?_
              refine at_val rfl rfl rfl (r_ilss rfl rfl) ?_
              refine at_nil ?_
              refine at_weak [(0, _), (3, _), (4, _), (5, _), (31, _), (32, _), (33, _)] ⟨rfl, rfl, rfl, rfl, rfl, rfl, rfl, trivial⟩ ?_
              refine at_then_normal ?_
              refine at_seq ?_
              rcases of_ite hF with ⟨h31, hF⟩ | ⟨h31, hF⟩
              · refine at_cond_true rfl h31 ?_
                refine at_skip ?_
                refine at_then_normal ?_
                refine at_seq ?_
                refine at_block ?_
                refine at_seq ?_
                refine at_region ?_
                refine at_val rfl rfl rfl (r_move rfl) ?_
                refine at_val rfl rfl rfl (r_assign rfl) ?_
                refine at_nil ?_
                refine at_weak [(0, _), (3, _), (4, _), (5, _), (7, _), (31, _), (32, _)] ⟨rfl, rfl, rfl, rfl, rfl, rfl, rfl, trivial⟩ ?_
                refine at_then_normal ?_
                refine at_region ?_
                refine at_val rfl rfl rfl (r_move rfl) ?_
                refine at_val rfl rfl rfl (r_move rfl) ?_
                refine at_val rfl rfl rfl (r_imul rfl rfl) ?_
                refine at_val rfl rfl rfl (r_isub rfl rfl) ?_
                refine at_val rfl rfl rfl (r_conv Try.underlying3 Try.underlying94 rfl) ?_
                obtain ⟨h32, hF⟩ := of_guard hF
                refine at_val rfl rfl rfl (r_ishr rfl rfl h32) ?_
                refine at_val rfl rfl rfl (r_iand rfl rfl) ?_
                obtain ⟨h33, hF⟩ := of_guard hF
                refine at_val rfl rfl rfl (r_index_str Try.underlying9 rfl rfl h33) ?_
                obtain ⟨h35, hF⟩ := of_guard hF
                obtain ⟨h36, hF⟩ := of_guard hF
                refine at_bld_byte (c := bt (⟨#[65, 66, 67, 68, 69, 70, 71, 72, 73, 74, 75, 76, 77, 78, 79, 80, 81, 82, 83, 84, 85, 86, 87, 88, 89, 90, 97, 98, 99, 100, 101, 102, 103, 104, 105, 106, 107, 108, 109, 110, 111, 112, 113, 114, 115, 116, 117, 118, 119, 120, 121, 122, 48, 49, 50, 51, 52, 53, 54, 55, 56, 57, 43, 47]⟩ : ByteArray) (iand .u32 (ishr .u32 q15.1 (wr .u64 (wr .i64 (18 - (wr .i64 (6 * i27)))))) 63)) .z trivial Try.func108 rfl (by kernel_rfl) rfl rfl h35 h36 Try.Builder_WriteByte_k ?_
                intro g34
                refine at_nil ?_
                refine at_weak [(0, _), (3, _), (4, _), (5, _), (31, _), (32, _)] ⟨rfl, rfl, rfl, rfl, rfl, rfl, trivial⟩ ?_
                refine at_blk_normal (at_then_normal ?_)
                refine at_region ?_
                refine at_val rfl rfl rfl (r_iadd rfl rfl) ?_
                refine at_val rfl rfl rfl (r_move rfl) ?_
                refine at_nil ?_
                refine at_weak [(0, _), (3, _), (4, _), (5, _), (31, _), (32, _)] ⟨rfl, rfl, rfl, rfl, rfl, rfl, trivial⟩ ?_
                refine at_then_normal ?_
                exact at_weak_k (ih _ _ _ hF K g34) ⟨rfl, rfl, rfl, rfl, rfl, rfl, trivial⟩
              · refine at_cond_false rfl h31 ?_
                refine at_exit ?_
                refine at_then_exit (at_then_exit ?_)
                obtain rfl := of_some hF
                exact at_weak_k (K g29) ⟨rfl, rfl, rfl, trivial⟩
          · skip
            intro g30
            refine at_blk_same ?_
            refine at_then_normal ?_
            refine at_seq ?_
            refine at_region ?_
            refine at_val rfl rfl rfl (r_move rfl) ?_
            refine at_val rfl rfl rfl (r_isub rfl rfl) ?_
            obtain ⟨h37, hF⟩ := of_guard hF
            refine at_callB Try.func110 rfl (by kernel_rfl) rfl rfl (fun w1 hw => rep_lift Try.strings_Repeat _ _ w1 h37) ?_
            obtain ⟨h39, hF⟩ := of_guard hF
            refine at_bld_str (s := (brep (⟨#[61]⟩ : ByteArray) (wr .i64 (3 - (if 3 < (i7.length : Int) then 3 else (i7.length : Int)))))) .z trivial Try.func109 rfl (by kernel_rfl) rfl rfl h39 Try.Builder_WriteString_k ?_
            intro g38
            refine at_nil ?_
            refine at_weak [(0, _), (3, _), (4, _)] ⟨rfl, rfl, rfl, trivial⟩ ?_
            refine at_then_normal ?_
            refine at_region ?_
            refine at_val rfl rfl rfl (r_move rfl) ?_
            refine at_val rfl rfl rfl (r_move rfl) ?_
            obtain ⟨h40, hF⟩ := of_guard hF
            refine at_val rfl rfl rfl (r_reslice (c := (cInt .u8)) Try.underlying79 Try.sizeOf5 rfl (Row.len hr11) ⟨_, rfl⟩ rfl h40) ?_
            refine at_val rfl rfl rfl (r_assign rfl) ?_
            refine at_nil ?_
            refine at_weak [(0, _), (3, _)] ⟨rfl, rfl, trivial⟩ ?_
            refine at_blk_normal (at_then_normal ?_)
            exact at_weak_k (ih _ _ _ hF K (rsp p9 c10 (if 3 < (i7.length : Int) then 3 else (i7.length : Int)) (Cd.sz (cInt .u8))) (c10 - Int.toNat (if 3 < (i7.length : Int) then 3 else (i7.length : Int))) (Row.sub hr11 h40) g38) ⟨rfl, rfl, trivial⟩
      · refine at_cond_false rfl h14 ?_
        refine at_exit ?_
        refine at_then_exit (at_then_exit ?_)
        obtain rfl := of_some hF
        exact at_weak_k (K g12) ⟨rfl, trivial⟩
  · skip
    intro g13
    refine at_blk_same ?_
    refine at_then_normal ?_
    refine at_seq ?_
    refine at_region ?_
    refine at_bld_string .z trivial Try.func111 rfl (by kernel_rfl) rfl rfl Try.Builder_String_any_k ?_
    intro g41
    refine at_val rfl rfl rfl (r_assign rfl) ?_
    refine at_nil ?_
    refine at_drop (H := _) .z ?_
    refine at_weak [(2, _)] ⟨rfl, trivial⟩ ?_
    refine at_then_normal ?_
    refine at_ret ?_
    have K := of_some hF
    subst K
    exact at_return1 rfl rfl (fun w1 hw => ⟨rfl, hw.below⟩)

def sixtyfour_Decode.l0 (i7 : ByteArray) (i8 : List Int) (i9 : Bool) : Option (Ctl (List Int × Int) (List Int × Bool)) :=
  if (decide ((i7.size : Int) > 0)) = true then (if (0 : Int) ≤ 0 ∧ 0 ≤ (if 4 < (i7.size : Int) then 4 else (i7.size : Int)) ∧ (if 4 < (i7.size : Int) then 4 else (i7.size : Int)) ≤ (i7.size : Int) then sixtyfour_four (i7.extract (Int.toNat 0) (Int.toNat (if 4 < (i7.size : Int) then 4 else (i7.size : Int)))) >>= fun t16 => if (t16.2.2 != 0) = true then (some (.ret ([], t16.2.2))) else (if (i8.length + t16.1.length) * 1 ≤ 140737488355328 then if i9 = true then (if (0 : Int) ≤ (if 4 < (i7.size : Int) then 4 else (i7.size : Int)) ∧ (if 4 < (i7.size : Int) then 4 else (i7.size : Int)) ≤ (i7.size : Int) ∧ (i7.size : Int) ≤ (i7.size : Int) then sixtyfour_Decode.l0 (i7.extract (Int.toNat (if 4 < (i7.size : Int) then 4 else (i7.size : Int))) (Int.toNat (i7.size : Int))) (i8 ++ t16.1) t16.2.1 else none) else (if (0 : Int) ≤ (if 4 < (i7.size : Int) then 4 else (i7.size : Int)) ∧ (if 4 < (i7.size : Int) then 4 else (i7.size : Int)) ≤ (i7.size : Int) ∧ (i7.size : Int) ≤ (i7.size : Int) then sixtyfour_Decode.l0 (i7.extract (Int.toNat (if 4 < (i7.size : Int) then 4 else (i7.size : Int))) (Int.toNat (i7.size : Int))) (i8 ++ t16.1) false else none) else none) else none) else (some (.nx (i8, i9)))
  partial_fixpoint
def sixtyfour_Decode (x0 : ByteArray) : Option (List Int × Int) :=
  if (Int.tmod (x0.size : Int) 4 != 0) = true then (some ([], 5)) else (if x0.size ≤ 9223372036854775807 then if (⟨(Lib.trimSuffix x0.data.toList (⟨#[61]⟩ : ByteArray).data.toList).toArray⟩ : ByteArray).size ≤ 9223372036854775807 then sixtyfour_Decode.l0 (⟨(Lib.trimSuffix (⟨(Lib.trimSuffix x0.data.toList (⟨#[61]⟩ : ByteArray).data.toList).toArray⟩ : ByteArray).data.toList (⟨#[61]⟩ : ByteArray).data.toList).toArray⟩ : ByteArray) ([] : List Int) true >>= fun q6 => match q6 with | .ret r' => some r' | .nx sq6 => (if (!sq6.2) = true then (some ([], 10)) else (some (sq6.1, 0))) else none else none)
theorem sixtyfour_Decode_ok (x0 : ByteArray) (r : List Int × Int) (hF : sixtyfour_Decode x0 = some r) (w : World) :
    Calls Try.prog 84 #[.string x0] w (fun e w' => ∃ p cap, e = .returned (.tuple #[.slice p r.1.length cap, .int .i64 r.2]) ∧ Own (cInt .u8) 5 w.heap.size w' p cap r.1 ∧ Below w.heap.size w w') := by
  unfold sixtyfour_Decode at hF
  refine calls_enter (l := [.string x0]) Try.func84 rfl rfl rfl ?_
  refine at_start ?_
  refine at_weak [(0, _)] ⟨rfl, trivial⟩ ?_
  refine at_seq ?_
  refine at_region ?_
  refine at_val rfl rfl rfl (r_assign rfl) ?_
  refine at_val rfl rfl rfl (r_assign rfl) ?_
  refine at_nil ?_
  refine at_weak [(0, _)] ⟨rfl, trivial⟩ ?_
  refine at_then_normal ?_
  refine at_seq ?_
  refine at_seq ?_
  refine at_region ?_
  refine at_val rfl rfl rfl (r_move rfl) ?_
  refine at_val rfl rfl rfl (r_len_str Try.underlying9 rfl) ?_
  refine at_val rfl rfl rfl (r_irem rfl rfl (by decide)) ?_
  refine at_val rfl rfl rfl (r_ineq rfl rfl) ?_
  refine at_nil ?_
  refine at_weak [(0, _), (14, _)] ⟨rfl, rfl, trivial⟩ ?_
  refine at_then_normal ?_
  rcases of_ite hF with ⟨h1, hF⟩ | ⟨h1, hF⟩
  · refine at_cond_true rfl h1 ?_
    refine at_seq ?_
    refine at_region ?_
    refine at_val rfl rfl rfl (r_assign rfl) ?_
    refine at_val rfl rfl rfl (r_assign rfl) ?_
    refine at_nil ?_
    refine at_weak [(2, _), (3, _)] ⟨rfl, rfl, trivial⟩ ?_
    refine at_then_normal ?_
    refine at_ret ?_
    refine at_then_ret ?_
    have K := of_some hF
    subst K
    exact at_return2 rfl rfl rfl (fun w1 hw => ⟨none, 0, rfl, Own.nil _ _ _ _, hw.below⟩)
  · refine at_cond_false rfl h1 ?_
    refine at_skip ?_
    refine at_then_normal ?_
    refine at_seq ?_
    refine at_region ?_
    refine at_val rfl rfl rfl (r_move rfl) ?_
    obtain ⟨h2, hF⟩ := of_guard hF
    refine at_callB Try.func112 rfl (by kernel_rfl) rfl rfl (fun w1 hw => callB_of_call0 (Try.strings_TrimSuffix _ _ w1 h2)) ?_
    obtain ⟨h3, hF⟩ := of_guard hF
    refine at_callB Try.func112 rfl (by kernel_rfl) rfl rfl (fun w1 hw => callB_of_call0 (Try.strings_TrimSuffix _ _ w1 h3)) ?_
    refine at_val rfl rfl rfl (r_assign rfl) ?_
    refine at_nil ?_
    refine at_weak [(4, _)] ⟨rfl, trivial⟩ ?_
    refine at_then_normal ?_
    refine at_seq ?_
    refine at_region ?_
    refine at_val rfl rfl rfl (r_assign rfl) ?_
    refine at_nil ?_
    refine at_weak [(4, _), (5, _)] ⟨rfl, rfl, trivial⟩ ?_
    refine at_then_normal ?_
    refine at_seq ?_
    refine at_region ?_
    refine at_val rfl rfl rfl (r_assign rfl) ?_
    refine at_nil ?_
    refine at_weak [(4, _), (5, _), (6, _)] ⟨rfl, rfl, rfl, trivial⟩ ?_
    refine at_then_normal ?_
    refine at_seq ?_
    refine at_block ?_
    refine at_own_nil (cInt .u8) 5 ?_
    refine at_weak [(4, _), (5, .slice none ([] : List Int).length 0), (6, _)] ⟨rfl, rfl, rfl, trivial⟩ ?_
    obtain ⟨q6, hq6, hF⟩ := of_bindM hF
    refine at_weak [(4, _), (5, _), (6, _)] ⟨rfl, rfl, rfl, trivial⟩ ?_
    refine at_loop_r (B := 0) (r := r) (q := q6) (A := fun sq6 Y => ∀ (p12 : Option Addr) (c13 : Nat), At 48 [(5, .slice p12 sq6.1.length c13), (6, .bool sq6.2)] (Wd w [rowE (cInt .u8) 5 p12 c13 sq6.1]) Y) ?_ ?_
    · intro K
      refine sixtyfour_Decode.l0.partial_correctness  (motive := fun i7 i8 i9 x => KR (fun sq6 Y => ∀ (p12 : Option Addr) (c13 : Nat), At 48 [(5, .slice p12 sq6.1.length c13), (6, .bool sq6.2)] (Wd w [rowE (cInt .u8) 5 p12 c13 sq6.1]) Y) _ 0 r x → Round (fun Y => ∀ (p10 : Option Addr) (c11 : Nat), At 48 [(4, .string i7), (5, .slice p10 i8.length c11), (6, .bool i9)] (Wd w [rowE (cInt .u8) 5 p10 c11 i8]) Y) _ _ _) ?_ _ _ _ _ hq6 K none 0
      · clear K hF
        intro g ih i7 i8 i9 x hF K p10 c11
        refine at_round ?_
        refine at_seq ?_
        refine at_seq ?_
        refine at_region ?_
        refine at_val rfl rfl rfl (r_move rfl) ?_
        refine at_val rfl rfl rfl (r_len_str Try.underlying9 rfl) ?_
        refine at_val rfl rfl rfl (r_igtr rfl rfl) ?_
        refine at_nil ?_
        refine at_weak [(4, _), (5, _), (6, _), (20, _)] ⟨rfl, rfl, rfl, rfl, trivial⟩ ?_
        refine at_then_normal ?_
        rcases of_ite hF with ⟨h14, hF⟩ | ⟨h14, hF⟩
        · refine at_cond_true rfl h14 ?_
          refine at_skip ?_
          refine at_then_normal ?_
          refine at_block ?_
          refine at_seq ?_
          refine at_region ?_
          refine at_val rfl rfl rfl (r_move rfl) ?_
          refine at_val rfl rfl rfl (r_len_str Try.underlying9 rfl) ?_
          refine at_val rfl rfl rfl (r_min rfl rfl) ?_
          refine at_val rfl rfl rfl (r_assign rfl) ?_
          refine at_nil ?_
          refine at_weak [(4, _), (5, _), (6, _), (7, _)] ⟨rfl, rfl, rfl, rfl, trivial⟩ ?_
          refine at_then_normal ?_
          refine at_seq ?_
          refine at_region ?_
          refine at_val rfl rfl rfl (r_move rfl) ?_
          refine at_val rfl rfl rfl (r_move rfl) ?_
          obtain ⟨h15, hF⟩ := of_guard hF
          refine at_val rfl rfl rfl (r_slice_str Try.underlying9 rfl rfl ⟨_, rfl⟩ h15) ?_
          obtain ⟨t16, ht16, hF⟩ := of_bindM hF
          refine at_callO (c := (cInt .u8)) (e := 5) (ys := t16.1) (V := fun p cap => .tuple #[.slice p t16.1.length cap, .bool t16.2.1, .int .i64 t16.2.2]) Try.func113 rfl (by kernel_rfl) rfl rfl (fun w hw => sixtyfour_four_ok _ _ ht16 w) ?_
          intro p17 c18
          refine at_val rfl rfl rfl (r_move rfl) ?_
          refine at_val rfl rfl rfl (r_extract rfl rfl) ?_
          refine at_val rfl rfl rfl (r_extract rfl rfl) ?_
          refine at_val rfl rfl rfl (r_extract rfl rfl) ?_
          refine at_val rfl rfl rfl (r_assign rfl) ?_
          refine at_val rfl rfl rfl (r_assign rfl) ?_
          refine at_val rfl rfl rfl (r_assign rfl) ?_
          refine at_nil ?_
          refine at_weak [(4, _), (5, _), (6, _), (7, _), (8, _), (9, _), (10, _)] ⟨rfl, rfl, rfl, rfl, rfl, rfl, rfl, trivial⟩ ?_
          refine at_then_normal ?_
          refine at_seq ?_
          refine at_seq ?_
          refine at_region ?_
          refine at_val rfl rfl rfl (r_move rfl) ?_
          refine at_val rfl rfl rfl (r_ineq rfl rfl) ?_
          refine at_nil ?_
          refine at_weak [(4, _), (5, _), (6, _), (7, _), (8, _), (9, _), (10, _), (33, _)] ⟨rfl, rfl, rfl, rfl, rfl, rfl, rfl, rfl, trivial⟩ ?_
          refine at_then_normal ?_
          rcases of_ite hF with ⟨h19, hF⟩ | ⟨h19, hF⟩
          · refine at_cond_true rfl h19 ?_
            refine at_seq ?_
            refine at_region ?_
            refine at_val rfl rfl rfl (r_move rfl) ?_
            refine at_val rfl rfl rfl (r_assign rfl) ?_
            refine at_val rfl rfl rfl (r_assign rfl) ?_
            refine at_nil ?_
            refine at_drop (H := _) .z ?_
            refine at_drop (H := _) .z ?_
            refine at_weak [(2, _), (3, _)] ⟨rfl, rfl, trivial⟩ ?_
            refine at_then_normal ?_
            refine at_ret ?_
            refine at_then_ret (at_blk_ret (at_then_ret (at_blk_ret (at_then_ret ?_))))
            obtain rfl := of_some hF
            subst K
            exact at_return2 rfl rfl rfl (fun w1 hw => ⟨none, 0, rfl, Own.nil _ _ _ _, hw.below⟩)
          · refine at_cond_false rfl h19 ?_
            refine at_skip ?_
            refine at_then_normal ?_
            refine at_seq ?_
            refine at_region ?_
            refine at_val rfl rfl rfl (r_move rfl) ?_
            refine at_val rfl rfl rfl (r_move rfl) ?_
            obtain ⟨h20, hF⟩ := of_guard hF
            refine at_append_row (z := .int .u8 0) (c := (cInt .u8)) (ys := t16.1) (.s .z) Try.underlying79 infoG25 (by kernel_rfl) (by kernel_rfl) rfl rfl rfl (fun w1 hw => (hw.own .z).row) (by kernel_rfl) h20 (app_small h20) rfl ?_
            intro p21 c22
            refine at_val rfl rfl rfl (r_assign rfl) ?_
            refine at_nil ?_
            refine at_drop (H := _) .z ?_
            refine at_weak [(4, _), (5, _), (6, _), (7, _), (9, _)] ⟨rfl, rfl, rfl, rfl, rfl, trivial⟩ ?_
            refine at_then_normal ?_
            refine at_seq ?_
            refine at_region ?_
            refine at_val rfl rfl rfl (r_move rfl) ?_
            refine at_val rfl rfl rfl (r_move rfl) ?_
            rcases of_ite hF with ⟨h23, hF⟩ | ⟨h23, hF⟩
            · refine at_fix (g := 39) rfl h23 ?_
              refine at_guard_yes rfl rfl rfl ?_
              refine at_val rfl rfl rfl (r_move rfl) ?_
              refine at_val rfl rfl rfl (r_pick rfl rfl rfl) ?_
              refine at_val rfl rfl rfl (r_assign rfl) ?_
              refine at_nil ?_
              refine at_weak [(4, _), (5, _), (6, _), (7, _)] ⟨rfl, rfl, rfl, rfl, trivial⟩ ?_
              refine at_then_normal ?_
              refine at_region ?_
              refine at_val rfl rfl rfl (r_move rfl) ?_
              refine at_val rfl rfl rfl (r_move rfl) ?_
              obtain ⟨h24, hF⟩ := of_guard hF
              refine at_val rfl rfl rfl (r_slice_str Try.underlying9 rfl ⟨_, rfl⟩ rfl h24) ?_
              refine at_val rfl rfl rfl (r_assign rfl) ?_
              refine at_nil ?_
              refine at_weak [(4, _), (5, _), (6, _)] ⟨rfl, rfl, rfl, trivial⟩ ?_
              refine at_blk_normal (at_then_normal ?_)
              exact at_weak_k (ih _ _ _ _ hF K p21 c22) ⟨rfl, rfl, rfl, trivial⟩
            · refine at_fix (g := 39) rfl h23 ?_
              refine at_guard_no rfl rfl rfl rfl rfl ?_
              refine at_val rfl rfl rfl (r_pick rfl rfl rfl) ?_
              refine at_val rfl rfl rfl (r_assign rfl) ?_
              refine at_nil ?_
              refine at_weak [(4, _), (5, _), (6, _), (7, _)] ⟨rfl, rfl, rfl, rfl, trivial⟩ ?_
              refine at_then_normal ?_
              refine at_region ?_
              refine at_val rfl rfl rfl (r_move rfl) ?_
              refine at_val rfl rfl rfl (r_move rfl) ?_
              obtain ⟨h25, hF⟩ := of_guard hF
              refine at_val rfl rfl rfl (r_slice_str Try.underlying9 rfl ⟨_, rfl⟩ rfl h25) ?_
              refine at_val rfl rfl rfl (r_assign rfl) ?_
              refine at_nil ?_
              refine at_weak [(4, _), (5, _), (6, _)] ⟨rfl, rfl, rfl, trivial⟩ ?_
              refine at_blk_normal (at_then_normal ?_)
              exact at_weak_k (ih _ _ _ _ hF K p21 c22) ⟨rfl, rfl, rfl, trivial⟩
        · refine at_cond_false rfl h14 ?_
          refine at_exit ?_
          refine at_then_exit (at_then_exit ?_)
          obtain rfl := of_some hF
          exact at_weak_k (K p10 c11) ⟨rfl, rfl, trivial⟩
    · cases q6 with
      | ret r' => exact of_some hF
      | nx sq6 =>
        intro p12 c13
        refine at_blk_same ?_
        refine at_then_normal ?_
        refine at_seq ?_
        refine at_seq ?_
        refine at_region ?_
        refine at_val rfl rfl rfl (r_move rfl) ?_
        refine at_val rfl rfl rfl (r_not rfl) ?_
        refine at_nil ?_
        refine at_weak [(5, _), (46, _)] ⟨rfl, rfl, trivial⟩ ?_
        refine at_then_normal ?_
        rcases of_ite hF with ⟨h26, hF⟩ | ⟨h26, hF⟩
        · refine at_cond_true rfl h26 ?_
          refine at_seq ?_
          refine at_region ?_
          refine at_val rfl rfl rfl (r_assign rfl) ?_
          refine at_val rfl rfl rfl (r_assign rfl) ?_
          refine at_nil ?_
          refine at_drop (H := _) .z ?_
          refine at_weak [(2, _), (3, _)] ⟨rfl, rfl, trivial⟩ ?_
          refine at_then_normal ?_
          refine at_ret ?_
          refine at_then_ret ?_
          have K := of_some hF
          subst K
          exact at_return2 rfl rfl rfl (fun w1 hw => ⟨none, 0, rfl, Own.nil _ _ _ _, hw.below⟩)
        · refine at_cond_false rfl h26 ?_
          refine at_skip ?_
          refine at_then_normal ?_
          refine at_seq ?_
          refine at_region ?_
          refine at_val rfl rfl rfl (r_move rfl) ?_
          refine at_val rfl rfl rfl (r_assign rfl) ?_
          refine at_val rfl rfl rfl (r_assign rfl) ?_
          refine at_nil ?_
          refine at_weak [(2, _), (3, _)] ⟨rfl, rfl, trivial⟩ ?_
          refine at_then_normal ?_
          refine at_ret ?_
          have K := of_some hF
          subst K
          exact at_return2 rfl rfl rfl (fun w1 hw => ⟨p12, c13, rfl, hw.own .z, hw.below⟩)
end Go.Proofs.Ytdhkcjddjmgciaa
