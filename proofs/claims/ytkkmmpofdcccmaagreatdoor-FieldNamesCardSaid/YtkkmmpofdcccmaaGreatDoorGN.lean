/- Functions with the same answers as the Go functions that they are named for, and the proofs of it, by a program of this project (gen.py). -/
import Derived.Test.YtkkmmpofdcccmaaGreatDoorT
import Derived.Test.YtkkmmpofdcccmaaGreatDoorShelf
import Derived.Test.YtkkmmpofdcccmaaGreatDoorW
import Derived.Test.YtkkmmpofdcccmaaGreatDoorL
import Derived.Test.YtkkmmpofdcccmaaGreatDoorS
import Derived.Test.YtkkmmpofdcccmaaGreatDoorJ
import Derived.Test.YtkkmmpofdcccmaaGreatDoorI
import Derived.Test.YtkkmmpofdcccmaaGreatDoorR
import Derived.Test.YtkkmmpofdcccmaaGreatDoorCut
import Derived.Test.YtkkmmpofdcccmaaGreatDoorMap
import Derived.Test.YtkkmmpofdcccmaaGreatDoorLit
import Derived.Test.YtkkmmpofdcccmaaGreatDoorInl
import Derived.Test.YtkkmmpofdcccmaaGreatDoorProg
import Derived.Test.YtkkmmpofdcccmaaGreatDoorG1
set_option linter.unusedVariables false
set_option linter.unusedSimpArgs false
namespace Go.Proofs.YtkkmmpofdcccmaaGreatDoor
open E Go.RowKit


def crawlwayref37_Names : Option (List ByteArray) :=
  some ([⟨#[]⟩, ⟨#[112, 114, 105, 118, 97, 116, 101, 95, 107, 101, 121]⟩, ⟨#[108, 105, 115, 116, 101, 110, 95, 112, 111, 114, 116]⟩, ⟨#[102, 119, 109, 97, 114, 107]⟩, ⟨#[114, 101, 112, 108, 97, 99, 101, 95, 112, 101, 101, 114, 115]⟩, ⟨#[112, 117, 98, 108, 105, 99, 95, 107, 101, 121]⟩, ⟨#[114, 101, 109, 111, 118, 101]⟩, ⟨#[117, 112, 100, 97, 116, 101, 95, 111, 110, 108, 121]⟩, ⟨#[112, 114, 101, 115, 104, 97, 114, 101, 100, 95, 107, 101, 121]⟩, ⟨#[101, 110, 100, 112, 111, 105, 110, 116]⟩, ⟨#[112, 101, 114, 115, 105, 115, 116, 101, 110, 116, 95, 107, 101, 101, 112, 97, 108, 105, 118, 101, 95, 105, 110, 116, 101, 114, 118, 97, 108]⟩, ⟨#[114, 101, 112, 108, 97, 99, 101, 95, 97, 108, 108, 111, 119, 101, 100, 95, 105, 112, 115]⟩, ⟨#[97, 108, 108, 111, 119, 101, 100, 95, 105, 112]⟩, ⟨#[112, 114, 111, 116, 111, 99, 111, 108, 95, 118, 101, 114, 115, 105, 111, 110]⟩, ⟨#[116, 120, 95, 98, 121, 116, 101, 115]⟩, ⟨#[114, 120, 95, 98, 121, 116, 101, 115]⟩, ⟨#[101, 114, 114, 110, 111]⟩])
theorem crawlwayref37_Names_ok (r : List ByteArray) (hF : crawlwayref37_Names  = some r) (w : World) :
    Calls Tryz.prog 14 #[] w (fun e w' => ∃ p cap, e = .returned (.slice p r.length cap) ∧ Own cStr 9 w.heap.size w' p cap r ∧ Below w.heap.size w w') := by
  unfold crawlwayref37_Names at hF
  refine calls_enter (l := []) Tryz.func14 rfl rfl rfl ?_
  refine at_start ?_
  refine at_weak [] trivial ?_
  refine at_seq ?_
  refine at_region ?_
  refine at_val rfl rfl rfl (r_assign rfl) ?_
  refine at_nil ?_
  refine at_weak [] trivial ?_
  refine at_then_normal ?_
  refine at_seq ?_
  refine at_region ?_
  refine at_lit (cs := cStr.all ([⟨#[]⟩, ⟨#[112, 114, 105, 118, 97, 116, 101, 95, 107, 101, 121]⟩, ⟨#[108, 105, 115, 116, 101, 110, 95, 112, 111, 114, 116]⟩, ⟨#[102, 119, 109, 97, 114, 107]⟩, ⟨#[114, 101, 112, 108, 97, 99, 101, 95, 112, 101, 101, 114, 115]⟩, ⟨#[112, 117, 98, 108, 105, 99, 95, 107, 101, 121]⟩, ⟨#[114, 101, 109, 111, 118, 101]⟩, ⟨#[117, 112, 100, 97, 116, 101, 95, 111, 110, 108, 121]⟩, ⟨#[112, 114, 101, 115, 104, 97, 114, 101, 100, 95, 107, 101, 121]⟩, ⟨#[101, 110, 100, 112, 111, 105, 110, 116]⟩, ⟨#[112, 101, 114, 115, 105, 115, 116, 101, 110, 116, 95, 107, 101, 101, 112, 97, 108, 105, 118, 101, 95, 105, 110, 116, 101, 114, 118, 97, 108]⟩, ⟨#[114, 101, 112, 108, 97, 99, 101, 95, 97, 108, 108, 111, 119, 101, 100, 95, 105, 112, 115]⟩, ⟨#[97, 108, 108, 111, 119, 101, 100, 95, 105, 112]⟩, ⟨#[112, 114, 111, 116, 111, 99, 111, 108, 95, 118, 101, 114, 115, 105, 111, 110]⟩, ⟨#[116, 120, 95, 98, 121, 116, 101, 115]⟩, ⟨#[114, 120, 95, 98, 121, 116, 101, 115]⟩, ⟨#[101, 114, 114, 110, 111]⟩] : List ByteArray)) Tryz.underlying38 Tryz.sizeOf9 Tryz.zeroValue9 rfl rfl rfl (by kernel_rfl) rfl ?_
  intro b1
  refine at_val rfl rfl rfl (r_assign rfl) ?_
  refine at_nil ?_
  refine at_weak [(0, _)] ⟨rfl, trivial⟩ ?_
  refine at_then_normal ?_
  refine at_ret ?_
  have K := of_some hF
  subst K
  exact at_return1 rfl rfl (fun w1 hw => ⟨(some ⟨b1, 0, none⟩), 17, rfl, Own.of_cells hw (Upd.mem .z) (by decide), hw.below⟩)

def field_Name (x0 : Int) : Option (ByteArray) :=
  if (decide (x0 < 1)) = true then (some (⟨#[]⟩)) else (if (decide (x0 > 16)) = true then (some (⟨#[]⟩)) else (if (0 : Int) ≤ x0 ∧ x0 < 17 then some (vget gval_field_names x0) else none))
theorem field_Name_ok (x0 : Int) (r : ByteArray) (hF : field_Name x0 = some r) (w : World) (hg_field_names : GV_field_names w) :
    Calls Tryz.prog 15 #[.int .i64 x0] w (fun e w' => e = .returned (.string r) ∧ w' = w) := by
  unfold field_Name at hF
  refine calls_enter (l := [.int .i64 x0]) Tryz.func15 rfl rfl rfl ?_
  refine at_weak [(0, _)] ⟨rfl, trivial⟩ ?_
  refine at_seq ?_
  refine at_region ?_
  refine at_val rfl rfl rfl (r_assign rfl) ?_
  refine at_nil ?_
  refine at_weak [(0, _)] ⟨rfl, trivial⟩ ?_
  refine at_then_normal ?_
  refine at_seq ?_
  refine at_seq ?_
  refine at_region ?_
  refine at_val rfl rfl rfl (r_move rfl) ?_
  refine at_val rfl rfl rfl (r_ilss rfl rfl) ?_
  refine at_val rfl rfl rfl (r_move rfl) ?_
  rcases of_ite hF with ⟨h1, hF⟩ | ⟨h1, hF⟩
  · refine at_fix (g := 5) rfl h1 ?_
    refine at_guard_no rfl rfl rfl rfl rfl ?_
    refine at_guard_no rfl rfl rfl rfl rfl ?_
    refine at_val rfl rfl rfl (r_pick rfl rfl rfl) ?_
    refine at_nil ?_
    refine at_weak [(0, _), (8, _)] ⟨rfl, rfl, trivial⟩ ?_
    refine at_then_normal ?_
    refine at_cond_true rfl rfl ?_
    refine at_seq ?_
    refine at_region ?_
    refine at_val rfl rfl rfl (r_assign rfl) ?_
    refine at_nil ?_
    refine at_weak [(2, _)] ⟨rfl, trivial⟩ ?_
    refine at_then_normal ?_
    refine at_ret ?_
    refine at_then_ret ?_
    have K := of_some hF
    subst K
    exact at_return1 rfl rfl (fun w1 hw => ⟨rfl, hw⟩)
  · refine at_fix (g := 5) rfl h1 ?_
    refine at_guard_yes rfl rfl rfl ?_
    refine at_val rfl rfl rfl (r_move rfl) ?_
    refine at_guard_yes rfl rfl rfl ?_
    refine at_val rfl rfl rfl (r_igtr rfl rfl) ?_
    refine at_val rfl rfl rfl (r_pick rfl rfl rfl) ?_
    refine at_nil ?_
    refine at_weak [(0, _), (8, _)] ⟨rfl, rfl, trivial⟩ ?_
    refine at_then_normal ?_
    rcases of_ite hF with ⟨h2, hF⟩ | ⟨h2, hF⟩
    · refine at_cond_true rfl h2 ?_
      refine at_seq ?_
      refine at_region ?_
      refine at_val rfl rfl rfl (r_assign rfl) ?_
      refine at_nil ?_
      refine at_weak [(2, _)] ⟨rfl, trivial⟩ ?_
      refine at_then_normal ?_
      refine at_ret ?_
      refine at_then_ret ?_
      have K := of_some hF
      subst K
      exact at_return1 rfl rfl (fun w1 hw => ⟨rfl, hw⟩)
    · refine at_cond_false rfl h2 ?_
      refine at_skip ?_
      refine at_then_normal ?_
      refine at_seq ?_
      refine at_region ?_
      refine at_val rfl rfl rfl (r_move rfl) ?_
      obtain ⟨h3, hF⟩ := of_guard hF
      refine at_val rfl rfl rfl (r_idxArr Tryz.underlying75 Tryz.sizeOf9 rfl rfl h3) ?_
      refine at_val rfl rfl rfl (r_load_cell Tryz.isAgg9 rfl (glob_cell0 (c' := cStr) (y := vget gval_field_names x0) (fun w1 (h : w1 = w) => by subst h; exact Below.refl _ _) hg_field_names g_field_names (Lens.comp (Lens.whole _ _) (fun z => vset gval_field_names x0 z) (Lens.vec cStr (by decide) gval_field_names x0 h3)) rfl)) ?_
      refine at_val rfl rfl rfl (r_assign rfl) ?_
      refine at_nil ?_
      refine at_weak [(2, _)] ⟨rfl, trivial⟩ ?_
      refine at_then_normal ?_
      refine at_ret ?_
      have K := of_some hF
      subst K
      exact at_return1 rfl rfl (fun w1 hw => ⟨rfl, hw⟩)

def slices_Index_string.l0 (x0 : List ByteArray) (x1 : ByteArray) (i2 : Int) : Option (Ctl (Int) (Unit)) :=
  if (decide (i2 < (x0.length : Int))) = true then (if (0 : Int) ≤ i2 ∧ i2 < (x0.length : Int) then if (seq x1 (lget x0 i2)) = true then (some (.ret i2)) else (slices_Index_string.l0 x0 x1 (wr .i64 (i2 + 1))) else none) else (some (.nx ()))
  partial_fixpoint
def slices_Index_string (x0 : List ByteArray) (x1 : ByteArray) : Option (Int) :=
  slices_Index_string.l0 x0 x1 0 >>= fun q1 => match q1 with | .ret r' => some r' | .nx sq1 => (some (-1))
theorem slices_Index_string_ok (x0 : List ByteArray) (p0_ : Option Addr) (c0_ : Nat) (x1 : ByteArray) (r : Int) (hF : slices_Index_string x0 x1 = some r) (w : World) (hr0 : Row cStr w p0_ c0_ x0) :
    Calls Tryz.prog 36 #[.slice p0_ x0.length c0_, .string x1] w (fun e w' => e = .returned (.int .i64 r) ∧ w' = w) := by
  unfold slices_Index_string at hF
  refine calls_enter (l := [.slice p0_ x0.length c0_, .string x1]) Tryz.func36 rfl rfl rfl ?_
  refine at_weak [(0, _), (1, _)] ⟨rfl, rfl, trivial⟩ ?_
  refine at_seq ?_
  refine at_region ?_
  refine at_val rfl rfl rfl (r_assign rfl) ?_
  refine at_nil ?_
  refine at_weak [(0, _), (1, _)] ⟨rfl, rfl, trivial⟩ ?_
  refine at_then_normal ?_
  refine at_seq ?_
  refine at_seq ?_
  refine at_region ?_
  refine at_val rfl rfl rfl (r_move rfl) ?_
  refine at_val rfl rfl rfl (r_len_sl Tryz.underlying38 rfl) ?_
  refine at_val rfl rfl rfl (r_move rfl) ?_
  refine at_nil ?_
  refine at_weak [(0, _), (1, _), (7, _), (8, _)] ⟨rfl, rfl, rfl, rfl, trivial⟩ ?_
  refine at_then_normal ?_
  refine at_block ?_
  obtain ⟨q1, hq1, hF⟩ := of_bindM hF
  refine at_weak [(0, _), (1, _), (7, _), (8, _)] ⟨rfl, rfl, rfl, rfl, trivial⟩ ?_
  refine at_loop_r (B := 0) (r := r) (q := q1) (A := fun (_ : Unit) Y => At 19 [] (fun w' => w' = w) Y) ?_ ?_
  · intro K
    refine slices_Index_string.l0.partial_correctness x0 x1 (motive := fun i2 x => KR (fun (_ : Unit) Y => At 19 [] (fun w' => w' = w) Y) _ 0 r x → Round (fun Y => At 19 [(0, .slice p0_ x0.length c0_), (1, .string x1), (7, .int .i64 (x0.length : Int)), (8, .int .i64 i2)] (fun w' => w' = w) Y) _ _ _) ?_ _ _ hq1 K
    · clear K hF
      intro g ih i2 x hF K
      refine at_round ?_
      refine at_seq ?_
      refine at_region ?_
      refine at_val rfl rfl rfl (r_ilss rfl rfl) ?_
      refine at_nil ?_
      refine at_weak [(0, _), (1, _), (7, _), (8, _), (9, _)] ⟨rfl, rfl, rfl, rfl, rfl, trivial⟩ ?_
      refine at_then_normal ?_
      refine at_seq ?_
      rcases of_ite hF with ⟨h3, hF⟩ | ⟨h3, hF⟩
      · refine at_cond_true rfl h3 ?_
        refine at_skip ?_
        refine at_then_normal ?_
        refine at_seq ?_
        refine at_block ?_
        refine at_seq ?_
        refine at_region ?_
        refine at_val rfl rfl rfl (r_move rfl) ?_
        refine at_val rfl rfl rfl (r_assign rfl) ?_
        refine at_nil ?_
        refine at_weak [(0, _), (1, _), (5, _), (7, _), (8, _)] ⟨rfl, rfl, rfl, rfl, rfl, trivial⟩ ?_
        refine at_then_normal ?_
        refine at_seq ?_
        refine at_region ?_
        refine at_val rfl rfl rfl (r_move rfl) ?_
        refine at_val rfl rfl rfl (r_move rfl) ?_
        refine at_val rfl rfl rfl (r_move rfl) ?_
        obtain ⟨h4, hF⟩ := of_guard hF
        obtain ⟨b6, o7, hp5⟩ := row_ptr hr0 h4
        refine at_val rfl rfl rfl (r_idx Tryz.underlying38 Tryz.sizeOf9 rfl rfl h4 hp5) ?_
        refine at_val rfl rfl rfl (r_load_cell Tryz.isAgg9 rfl (row_cell0 (fun w1 (h : w1 = w) => by subst h; exact Below.refl _ _) hr0 h4 hp5 rfl)) ?_
        refine at_val rfl rfl rfl (r_seql rfl rfl) ?_
        refine at_nil ?_
        refine at_weak [(0, _), (1, _), (5, _), (7, _), (8, _), (16, _)] ⟨rfl, rfl, rfl, rfl, rfl, rfl, trivial⟩ ?_
        refine at_then_normal ?_
        rcases of_ite hF with ⟨h8, hF⟩ | ⟨h8, hF⟩
        · refine at_cond_true rfl h8 ?_
          refine at_seq ?_
          refine at_region ?_
          refine at_val rfl rfl rfl (r_move rfl) ?_
          refine at_val rfl rfl rfl (r_assign rfl) ?_
          refine at_nil ?_
          refine at_weak [(4, _)] ⟨rfl, trivial⟩ ?_
          refine at_then_normal ?_
          refine at_ret ?_
          refine at_blk_ret (at_then_ret (at_then_ret (at_blk_ret (at_then_ret ?_))))
          obtain rfl := of_some hF
          subst K
          exact at_return1 rfl rfl (fun w1 hw => ⟨rfl, hw⟩)
        · refine at_cond_false rfl h8 ?_
          refine at_skip ?_
          refine at_blk_normal (at_then_normal ?_)
          refine at_region ?_
          refine at_val rfl rfl rfl (r_iadd rfl rfl) ?_
          refine at_val rfl rfl rfl (r_move rfl) ?_
          refine at_nil ?_
          refine at_weak [(0, _), (1, _), (7, _), (8, _)] ⟨rfl, rfl, rfl, rfl, trivial⟩ ?_
          refine at_then_normal ?_
          exact at_weak_k (ih _ _ hF K) ⟨rfl, rfl, rfl, rfl, trivial⟩
      · refine at_cond_false rfl h3 ?_
        refine at_exit ?_
        refine at_then_exit (at_then_exit ?_)
        obtain rfl := of_some hF
        exact at_weak_k K trivial
  · cases q1 with
    | ret r' => exact of_some hF
    | nx sq1 =>
      skip
      refine at_blk_same ?_
      refine at_then_normal ?_
      refine at_seq ?_
      refine at_region ?_
      refine at_val rfl rfl rfl (r_assign rfl) ?_
      refine at_nil ?_
      refine at_weak [(4, _)] ⟨rfl, trivial⟩ ?_
      refine at_then_normal ?_
      refine at_ret ?_
      have K := of_some hF
      subst K
      exact at_return1 rfl rfl (fun w1 hw => ⟨rfl, hw⟩)

def field_Word (x0 : ByteArray) : Option (Int) :=
  slices_Index_string (Vector.toList gval_field_names) x0 >>= fun t1 => some (if t1 < 0 then 0 else t1)
theorem field_Word_ok (x0 : ByteArray) (r : Int) (hF : field_Word x0 = some r) (w : World) (hg_field_names : GV_field_names w) :
    Calls Tryz.prog 16 #[.string x0] w (fun e w' => e = .returned (.int .i64 r) ∧ w' = w) := by
  unfold field_Word at hF
  refine calls_enter (l := [.string x0]) Tryz.func16 rfl rfl rfl ?_
  refine at_weak [(0, _)] ⟨rfl, trivial⟩ ?_
  refine at_seq ?_
  refine at_region ?_
  refine at_val rfl rfl rfl (r_assign rfl) ?_
  refine at_nil ?_
  refine at_weak [(0, _)] ⟨rfl, trivial⟩ ?_
  refine at_then_normal ?_
  refine at_seq ?_
  refine at_region ?_
  refine at_val rfl rfl rfl (r_slice_vec gval_field_names Tryz.underlying75 Tryz.sizeOf9 rfl) ?_
  refine at_val rfl rfl rfl (r_move rfl) ?_
  obtain ⟨t1, ht1, hF⟩ := of_bindM hF
  refine at_call0w Tryz.func36 rfl (by kernel_rfl) rfl rfl (fun w hw => slices_Index_string_ok _ _ _ _ _ ht1 w (glob_row (hg_field_names.on (by subst hw; exact Below.refl _ _)) g_field_names)) ?_
  refine at_val rfl rfl rfl (r_max rfl rfl) ?_
  refine at_val rfl rfl rfl (r_assign rfl) ?_
  refine at_nil ?_
  refine at_weak [(2, _)] ⟨rfl, trivial⟩ ?_
  refine at_then_normal ?_
  refine at_ret ?_
  have K := of_some hF
  subst K
  exact at_return1 rfl rfl (fun w1 hw => ⟨rfl, hw⟩)

def crawlwayref37_Word.l0 (x0 : ByteArray) (t1 : List ByteArray) (i5 : Int) : Option (Ctl (Int) (Unit)) :=
  if (decide (i5 ≤ 16)) = true then (if (0 : Int) ≤ i5 ∧ i5 < (t1.length : Int) then if (seq (lget t1 i5) x0) = true then (some (.ret i5)) else (crawlwayref37_Word.l0 x0 t1 (wr .i64 (i5 + 1))) else none) else (some (.nx ()))
  partial_fixpoint
def crawlwayref37_Word (x0 : ByteArray) : Option (Int) :=
  crawlwayref37_Names >>= fun t1 => crawlwayref37_Word.l0 x0 t1 1 >>= fun q4 => match q4 with | .ret r' => some r' | .nx sq4 => (some 0)
theorem crawlwayref37_Word_ok (x0 : ByteArray) (r : Int) (hF : crawlwayref37_Word x0 = some r) (w : World) :
    Calls Tryz.prog 17 #[.string x0] w (fun e w' => e = .returned (.int .i64 r) ∧ Below w.heap.size w w') := by
  unfold crawlwayref37_Word at hF
  refine calls_enter (l := [.string x0]) Tryz.func17 rfl rfl rfl ?_
  refine at_start ?_
  refine at_weak [(0, _)] ⟨rfl, trivial⟩ ?_
  refine at_seq ?_
  refine at_region ?_
  refine at_val rfl rfl rfl (r_assign rfl) ?_
  refine at_nil ?_
  refine at_weak [(0, _)] ⟨rfl, trivial⟩ ?_
  refine at_then_normal ?_
  refine at_seq ?_
  refine at_region ?_
  obtain ⟨t1, ht1, hF⟩ := of_bindM hF
  refine at_callO (c := cStr) (e := 9) (ys := t1) (V := fun p cap => .slice p t1.length cap) Tryz.func14 rfl (by kernel_rfl) rfl rfl (fun w hw => crawlwayref37_Names_ok  _ ht1 w) ?_
  intro p2 c3
  refine at_val rfl rfl rfl (r_assign rfl) ?_
  refine at_nil ?_
  refine at_weak [(0, _), (3, _)] ⟨rfl, rfl, trivial⟩ ?_
  refine at_then_normal ?_
  refine at_seq ?_
  refine at_seq ?_
  refine at_region ?_
  refine at_val rfl rfl rfl (r_assign rfl) ?_
  refine at_nil ?_
  refine at_weak [(0, _), (3, _), (4, _)] ⟨rfl, rfl, rfl, trivial⟩ ?_
  refine at_then_normal ?_
  refine at_block ?_
  obtain ⟨q4, hq4, hF⟩ := of_bindM hF
  refine at_weak [(0, _), (3, _), (4, _)] ⟨rfl, rfl, rfl, trivial⟩ ?_
  refine at_loop_r (B := 0) (r := r) (q := q4) (A := fun (_ : Unit) Y => At 17 [] (Wd w []) Y) ?_ ?_
  · intro K
    refine crawlwayref37_Word.l0.partial_correctness x0 t1 (motive := fun i5 x => KR (fun (_ : Unit) Y => At 17 [] (Wd w []) Y) _ 0 r x → Round (fun Y => At 17 [(0, .string x0), (3, .slice p2 t1.length c3), (4, .int .i64 i5)] (Wd w [rowE cStr 9 p2 c3 t1]) Y) _ _ _) ?_ _ _ hq4 K
    · clear K hF
      intro g ih i5 x hF K
      refine at_round ?_
      refine at_seq ?_
      refine at_seq ?_
      refine at_region ?_
      refine at_val rfl rfl rfl (r_move rfl) ?_
      refine at_val rfl rfl rfl (r_ileq rfl rfl) ?_
      refine at_nil ?_
      refine at_weak [(0, _), (3, _), (4, _), (7, _)] ⟨rfl, rfl, rfl, rfl, trivial⟩ ?_
      refine at_then_normal ?_
      rcases of_ite hF with ⟨h6, hF⟩ | ⟨h6, hF⟩
      · refine at_cond_true rfl h6 ?_
        refine at_skip ?_
        refine at_then_normal ?_
        refine at_seq ?_
        refine at_block ?_
        refine at_seq ?_
        refine at_region ?_
        refine at_val rfl rfl rfl (r_move rfl) ?_
        refine at_val rfl rfl rfl (r_move rfl) ?_
        obtain ⟨h7, hF⟩ := of_guard hF
        refine at_pure (φ := ∃ b o, p2 = some ⟨b, o, none⟩) (fun _ hw => row_ptr (hw.own .z).row h7) ?_
        rintro ⟨b9, o10, hp8⟩
        refine at_val rfl rfl rfl (r_idx Tryz.underlying38 Tryz.sizeOf9 rfl rfl h7 hp8) ?_
        refine at_val rfl rfl rfl (r_load_cell Tryz.isAgg9 rfl (fun _ hw => row_cell0 (W := fun w1 => w1 = _) (fun w1 h => by subst h; exact Below.refl _ _) (hw.own .z).row h7 hp8 rfl _ rfl)) ?_
        refine at_val rfl rfl rfl (r_move rfl) ?_
        refine at_val rfl rfl rfl (r_seql rfl rfl) ?_
        refine at_nil ?_
        refine at_weak [(0, _), (3, _), (4, _), (15, _)] ⟨rfl, rfl, rfl, rfl, trivial⟩ ?_
        refine at_then_normal ?_
        rcases of_ite hF with ⟨h11, hF⟩ | ⟨h11, hF⟩
        · refine at_cond_true rfl h11 ?_
          refine at_seq ?_
          refine at_region ?_
          refine at_val rfl rfl rfl (r_move rfl) ?_
          refine at_val rfl rfl rfl (r_assign rfl) ?_
          refine at_nil ?_
          refine at_drop (H := _) .z ?_
          refine at_weak [(2, _)] ⟨rfl, trivial⟩ ?_
          refine at_then_normal ?_
          refine at_ret ?_
          refine at_blk_ret (at_then_ret (at_then_ret (at_blk_ret (at_then_ret ?_))))
          obtain rfl := of_some hF
          subst K
          exact at_return1 rfl rfl (fun w1 hw => ⟨rfl, hw.below⟩)
        · refine at_cond_false rfl h11 ?_
          refine at_skip ?_
          refine at_blk_normal (at_then_normal ?_)
          refine at_region ?_
          refine at_val rfl rfl rfl (r_move rfl) ?_
          refine at_val rfl rfl rfl (r_iadd rfl rfl) ?_
          refine at_val rfl rfl rfl (r_assign rfl) ?_
          refine at_nil ?_
          refine at_weak [(0, _), (3, _), (4, _)] ⟨rfl, rfl, rfl, trivial⟩ ?_
          refine at_then_normal ?_
          exact at_weak_k (ih _ _ hF K) ⟨rfl, rfl, rfl, trivial⟩
      · refine at_cond_false rfl h6 ?_
        refine at_exit ?_
        refine at_then_exit (at_then_exit ?_)
        refine at_drop (H := _) .z ?_
        obtain rfl := of_some hF
        exact at_weak_k K trivial
  · cases q4 with
    | ret r' => exact of_some hF
    | nx sq4 =>
      skip
      refine at_blk_same ?_
      refine at_then_normal ?_
      refine at_seq ?_
      refine at_region ?_
      refine at_val rfl rfl rfl (r_assign rfl) ?_
      refine at_nil ?_
      refine at_weak [(2, _)] ⟨rfl, trivial⟩ ?_
      refine at_then_normal ?_
      refine at_ret ?_
      have K := of_some hF
      subst K
      exact at_return1 rfl rfl (fun w1 hw => ⟨rfl, hw.below⟩)

def field_counted_1 (x0 : ByteArray) (x1 : S_api_Field) (x2 : Int) (x3 : Int) : Option (Int × S_api_Field) :=
  decimal_Read x0 x2 >>= fun t1 => if (t1.2 == 0) = true then (if (decide (t1.1 < x3)) = true then (some (6, { x1 with f_N := t1.1 })) else (some (t1.2, { x1 with f_N := t1.1 }))) else (some (t1.2, { x1 with f_N := t1.1 }))
theorem field_counted_1_ok (x0 : ByteArray) (x1 : S_api_Field) (b1_ : Nat) (b2_ : Nat) (x2 : Int) (b3_ : Nat) (x3 : Int) (r : Int × S_api_Field) (hF : field_counted_1 x0 x1 x2 x3 = some r) (w : World) {w0 : World} {H_ G_ : List Ent} {f_ : Ent → List Ent} (hu_ : Upd H_ (cellsE b1_ (Cd.cs c_api_Field x1) 46) f_ G_) (hw_ : Wd w0 H_ w) (hc2 : ∀ (X_ : Ent) (w_ : World), Wd w0 (f_ X_) w_ → w_.cell? ⟨b2_, 0, none⟩ = some (.int .u64 x2)) (hc3 : ∀ (X_ : Ent) (w_ : World), Wd w0 (f_ X_) w_ → w_.cell? ⟨b3_, 0, none⟩ = some (.int .u64 x3)) (hg_strconv_ErrRange : GV_strconv_ErrRange w0) (hg_strconv_ErrSyntax : GV_strconv_ErrSyntax w0) :
    Calls Tryz.prog 110 #[.string x0, .pointer (some ⟨b1_, 0, none⟩), .pointer (some ⟨b2_, 0, none⟩), .pointer (some ⟨b3_, 0, none⟩)] w (fun e w' => e = .returned (.int .i64 r.1) ∧ Wd w0 (f_ (cellsE b1_ (Cd.cs c_api_Field r.2) 46)) w') := by
  unfold field_counted_1 at hF
  refine calls_enter (l := [.string x0, .pointer (some ⟨b1_, 0, none⟩), .pointer (some ⟨b2_, 0, none⟩), .pointer (some ⟨b3_, 0, none⟩)]) Tryz.func110 rfl rfl rfl ?_
  refine at_enter_ptr hu_ hw_ ?_
  refine at_weak [(0, _), (1, _), (2, _), (3, _)] ⟨rfl, rfl, rfl, rfl, trivial⟩ ?_
  refine at_seq ?_
  refine at_region ?_
  refine at_val rfl rfl rfl (r_assign rfl) ?_
  refine at_nil ?_
  refine at_weak [(0, _), (1, _), (2, _), (3, _)] ⟨rfl, rfl, rfl, rfl, trivial⟩ ?_
  refine at_then_normal ?_
  refine at_seq ?_
  refine at_region ?_
  refine at_val rfl rfl rfl (r_move rfl) ?_
  refine at_val rfl rfl rfl (r_load_cell Tryz.isAgg31 rfl (fun w1 hw => hc2 _ _ hw)) ?_
  obtain ⟨t1, ht1, hF⟩ := of_bindM hF
  refine at_callB Tryz.func111 rfl (by kernel_rfl) rfl rfl (fun w hw => decimal_Read_ok _ _ _ ht1 w (hg_strconv_ErrRange.on hw.below) (hg_strconv_ErrSyntax.on hw.below)) ?_
  refine at_val rfl rfl rfl (r_move rfl) ?_
  refine at_val rfl rfl rfl (r_extract rfl rfl) ?_
  refine at_val rfl rfl rfl (r_extract rfl rfl) ?_
  refine at_val rfl rfl rfl (r_assign rfl) ?_
  refine at_val rfl rfl rfl (r_assign rfl) ?_
  refine at_nil ?_
  refine at_weak [(1, _), (3, _), (7, _), (8, _)] ⟨rfl, rfl, rfl, rfl, trivial⟩ ?_
  refine at_then_normal ?_
  refine at_seq ?_
  refine at_seq ?_
  refine at_region ?_
  refine at_val rfl rfl rfl (r_move rfl) ?_
  refine at_val rfl rfl rfl (r_ieql rfl rfl) ?_
  refine at_val rfl rfl rfl (r_move rfl) ?_
  rcases of_ite hF with ⟨h2, hF⟩ | ⟨h2, hF⟩
  · refine at_fix (g := 17) rfl h2 ?_
    refine at_guard_yes rfl rfl rfl ?_
    refine at_val rfl rfl rfl (r_move rfl) ?_
    refine at_guard_yes rfl rfl rfl ?_
    refine at_val rfl rfl rfl (r_load_cell Tryz.isAgg31 rfl (fun w1 hw => hc3 _ _ hw)) ?_
    refine at_guard_yes rfl rfl rfl ?_
    refine at_val rfl rfl rfl (r_ilss rfl rfl) ?_
    refine at_val rfl rfl rfl (r_pick rfl rfl rfl) ?_
    refine at_nil ?_
    refine at_weak [(1, _), (7, _), (8, _), (21, _)] ⟨rfl, rfl, rfl, rfl, trivial⟩ ?_
    refine at_then_normal ?_
    rcases of_ite hF with ⟨h3, hF⟩ | ⟨h3, hF⟩
    · refine at_cond_true rfl h3 ?_
      refine at_region ?_
      refine at_val rfl rfl rfl (r_assign rfl) ?_
      refine at_nil ?_
      refine at_weak [(1, _), (7, _), (8, _)] ⟨rfl, rfl, rfl, trivial⟩ ?_
      refine at_then_normal ?_
      refine at_seq ?_
      refine at_region ?_
      refine at_val rfl rfl rfl (r_move rfl) ?_
      refine at_val rfl rfl rfl (r_move rfl) ?_
      refine at_val rfl rfl rfl (r_nilCheck rfl) ?_
      refine at_val rfl rfl rfl (r_fieldAddr (fo := 33) Tryz.underlying46 rfl rfl (fun w => ⟨_, Tryz.sizeOf31 w⟩) rfl) ?_
      refine at_store (c := (cInt .u64)) (z := t1.1) (Upd.again hu_ _) (Lens.comp (Lens.whole _ _) (fun z => { x1 with f_N := z }) (c_api_Field_f_N x1)) Tryz.sizeOf31 rfl rfl rfl ?_
      refine at_nil ?_
      refine at_weak [(8, _)] ⟨rfl, trivial⟩ ?_
      refine at_then_normal ?_
      refine at_seq ?_
      refine at_region ?_
      refine at_val rfl rfl rfl (r_move rfl) ?_
      refine at_val rfl rfl rfl (r_assign rfl) ?_
      refine at_nil ?_
      refine at_weak [(6, _)] ⟨rfl, trivial⟩ ?_
      refine at_then_normal ?_
      refine at_ret ?_
      have K := of_some hF
      subst K
      exact at_return1 rfl rfl (fun w1 hw => ⟨rfl, hw⟩)
    · refine at_cond_false rfl h3 ?_
      refine at_skip ?_
      refine at_then_normal ?_
      refine at_seq ?_
      refine at_region ?_
      refine at_val rfl rfl rfl (r_move rfl) ?_
      refine at_val rfl rfl rfl (r_move rfl) ?_
      refine at_val rfl rfl rfl (r_nilCheck rfl) ?_
      refine at_val rfl rfl rfl (r_fieldAddr (fo := 33) Tryz.underlying46 rfl rfl (fun w => ⟨_, Tryz.sizeOf31 w⟩) rfl) ?_
      refine at_store (c := (cInt .u64)) (z := t1.1) (Upd.again hu_ _) (Lens.comp (Lens.whole _ _) (fun z => { x1 with f_N := z }) (c_api_Field_f_N x1)) Tryz.sizeOf31 rfl rfl rfl ?_
      refine at_nil ?_
      refine at_weak [(8, _)] ⟨rfl, trivial⟩ ?_
      refine at_then_normal ?_
      refine at_seq ?_
      refine at_region ?_
      refine at_val rfl rfl rfl (r_move rfl) ?_
      refine at_val rfl rfl rfl (r_assign rfl) ?_
      refine at_nil ?_
      refine at_weak [(6, _)] ⟨rfl, trivial⟩ ?_
      refine at_then_normal ?_
      refine at_ret ?_
      have K := of_some hF
      subst K
      exact at_return1 rfl rfl (fun w1 hw => ⟨rfl, hw⟩)
  · refine at_fix (g := 17) rfl h2 ?_
    refine at_guard_no rfl rfl rfl rfl rfl ?_
    refine at_guard_no rfl rfl rfl rfl rfl ?_
    refine at_guard_no rfl rfl rfl rfl rfl ?_
    refine at_val rfl rfl rfl (r_pick rfl rfl rfl) ?_
    refine at_nil ?_
    refine at_weak [(1, _), (7, _), (8, _), (21, _)] ⟨rfl, rfl, rfl, rfl, trivial⟩ ?_
    refine at_then_normal ?_
    refine at_cond_false rfl rfl ?_
    refine at_skip ?_
    refine at_then_normal ?_
    refine at_seq ?_
    refine at_region ?_
    refine at_val rfl rfl rfl (r_move rfl) ?_
    refine at_val rfl rfl rfl (r_move rfl) ?_
    refine at_val rfl rfl rfl (r_nilCheck rfl) ?_
    refine at_val rfl rfl rfl (r_fieldAddr (fo := 33) Tryz.underlying46 rfl rfl (fun w => ⟨_, Tryz.sizeOf31 w⟩) rfl) ?_
    refine at_store (c := (cInt .u64)) (z := t1.1) (Upd.again hu_ _) (Lens.comp (Lens.whole _ _) (fun z => { x1 with f_N := z }) (c_api_Field_f_N x1)) Tryz.sizeOf31 rfl rfl rfl ?_
    refine at_nil ?_
    refine at_weak [(8, _)] ⟨rfl, trivial⟩ ?_
    refine at_then_normal ?_
    refine at_seq ?_
    refine at_region ?_
    refine at_val rfl rfl rfl (r_move rfl) ?_
    refine at_val rfl rfl rfl (r_assign rfl) ?_
    refine at_nil ?_
    refine at_weak [(6, _)] ⟨rfl, trivial⟩ ?_
    refine at_then_normal ?_
    refine at_ret ?_
    have K := of_some hF
    subst K
    exact at_return1 rfl rfl (fun w1 hw => ⟨rfl, hw⟩)

inductive Sh_81 where
  | s0
  | s1
  | s2
  | s3 (a0 : Int) (a1 : Int)
  | s4
  deriving DecidableEq, Inhabited
def Sh_81.ok (r : Sh_81) (v : Value) (lo : Nat) (w : World) : Prop := match r with
  | .s0 => v = .agg #[.func (.func 93) #[] #[], .func (.func 95) #[] #[], .func (.func 97) #[] #[]]
  | .s1 => v = .agg #[.func (.func 98) #[] #[], .func (.func 100) #[] #[], .func (.func 103) #[] #[]]
  | .s2 => v = .agg #[.func (.func 104) #[] #[], .func (.func 106) #[] #[], .func (.func 109) #[] #[]]
  | .s3 a0 a1 => ∃ b0 b1, v = .agg #[.func (.func 110) #[] #[.pointer (some ⟨b0, 0, none⟩), .pointer (some ⟨b1, 0, none⟩)], .func (.func 112) #[] #[.pointer (some ⟨b1, 0, none⟩), .pointer (some ⟨b0, 0, none⟩)], .func (.func 114) #[] #[]] ∧ (cellsE b0 [.int .u64 a0] 31).ok w ∧ (cellsE b1 [.int .u64 a1] 31).ok w ∧ (lo ≤ b0 ∧ b0 < w.heap.size) ∧ (lo ≤ b1 ∧ b1 < w.heap.size) ∧ b0 ≠ b1
  | .s4 => v = .agg #[.func (.func 115) #[] #[], .func (.func 116) #[] #[], .func (.func 117) #[] #[]]
def field_shapeOf (x0 : Int) : Option (Sh_81) :=
  if (x0 == 1) = true then (some (Sh_81.s0)) else (if (x0 == 5) = true then (some (Sh_81.s0)) else (if (x0 == 8) = true then (some (Sh_81.s0)) else (if (x0 == 9) = true then (some (Sh_81.s1)) else (if (x0 == 12) = true then (some (Sh_81.s2)) else (if (x0 == 2) = true then (some (Sh_81.s3 65535 0)) else (if (x0 == 10) = true then (some (Sh_81.s3 65535 0)) else (if (x0 == 3) = true then (some (Sh_81.s3 4294967295 0)) else (if (x0 == 13) = true then (some (Sh_81.s3 1 1)) else (if (x0 == 14) = true then (some (Sh_81.s3 18446744073709551615 0)) else (if (x0 == 15) = true then (some (Sh_81.s3 18446744073709551615 0)) else (if (x0 == 16) = true then (some (Sh_81.s3 20 0)) else (some (Sh_81.s4)))))))))))))
set_option maxHeartbeats 3200000 in
theorem field_shapeOf_ok (x0 : Int) (r : Sh_81) (hF : field_shapeOf x0 = some r) (w : World) :
    Calls Tryz.prog 37 #[.int .i64 x0] w (fun e w' => ∃ v, e = .returned v ∧ Sh_81.ok r v w.heap.size w' ∧ Below w.heap.size w w') := by
  unfold field_shapeOf at hF
  refine calls_enter (l := [.int .i64 x0]) Tryz.func37 rfl rfl rfl ?_
  refine at_start ?_
  refine at_weak [(0, _)] ⟨rfl, trivial⟩ ?_
  refine at_seq ?_
  refine at_region ?_
  refine at_alloc (cs := [.nilFunc, .nilFunc, .nilFunc]) Tryz.zeroValue81 rfl rfl ?_
  intro b1
  refine at_nil ?_
  refine at_weak [(0, _), (2, _)] ⟨rfl, rfl, trivial⟩ ?_
  refine at_then_normal ?_
  refine at_seq ?_
  refine at_seq ?_
  refine at_region ?_
  refine at_val rfl rfl rfl (r_move rfl) ?_
  refine at_nil ?_
  refine at_weak [(2, _), (3, _)] ⟨rfl, rfl, trivial⟩ ?_
  refine at_then_normal ?_
  refine at_block ?_
  refine at_seq ?_
  refine at_seq ?_
  refine at_region ?_
  refine at_val rfl rfl rfl (r_ieql rfl rfl) ?_
  refine at_val rfl rfl rfl (r_assign rfl) ?_
  refine at_nil ?_
  refine at_weak [(2, _), (3, _), (4, _)] ⟨rfl, rfl, rfl, trivial⟩ ?_
  refine at_then_normal ?_
  rcases of_ite hF with ⟨h2, hF⟩ | ⟨h2, hF⟩
  · refine at_cond_true rfl h2 ?_
    refine at_fix (g := 4) rfl h2 ?_
    refine at_skip ?_
    refine at_then_normal ?_
    refine at_cond_true rfl rfl ?_
    refine at_seq ?_
    refine at_region ?_
    refine at_callI Tryz.func62 rfl (by kernel_rfl) rfl rfl rfl rfl ?_
    refine at_weak [] trivial ?_
    refine at_seq ?_
    refine at_region ?_
    refine at_alloc (cs := [.nilFunc, .nilFunc, .nilFunc]) Tryz.zeroValue81 rfl rfl ?_
    intro b3
    refine at_nil ?_
    refine at_weak [(0, _)] ⟨rfl, trivial⟩ ?_
    refine at_then_normal ?_
    refine at_seq ?_
    refine at_region ?_
    refine at_val rfl rfl rfl (r_build_struct (zs := [.nilFunc, .nilFunc, .nilFunc]) (cs := [.func (.func 93) #[] #[], .func (.func 95) #[] #[], .func (.func 97) #[] #[]]) Tryz.underlying81 Tryz.zeroValue81 rfl placesR_81 rfl rfl) ?_
    refine at_storeAll (k := 3) (cs := [.func (.func 93) #[] #[], .func (.func 95) #[] #[], .func (.func 97) #[] #[]]) .z (by decide) ⟨rfl, by simp [Value.oneCell']⟩ ⟨rfl, by simp [Value.oneCell']⟩ Tryz.sizeOf81 rfl rfl rfl ?_
    refine at_nil ?_
    refine at_weak [(0, _)] ⟨rfl, trivial⟩ ?_
    refine at_then_normal ?_
    refine at_ret ?_
    refine at_resI1 rfl (res_cell (c := cK 3 (by decide)) (y := ⟨[.func (.func 93) #[] #[], .func (.func 95) #[] #[], .func (.func 97) #[] #[]], rfl, by simp [Value.oneCell']⟩) rfl .z (Lens.whole _ _) Tryz.isAgg81 Tryz.sizeOf81 (.inl rfl)) ?_
    refine at_storeAll (k := 3) (cs := [.func (.func 93) #[] #[], .func (.func 95) #[] #[], .func (.func 97) #[] #[]]) (.s .z) (by decide) ⟨rfl, by simp [Value.oneCell']⟩ ⟨rfl, by simp [Value.oneCell']⟩ Tryz.sizeOf81 rfl rfl rfl ?_
    refine at_nil ?_
    refine at_drop (H := _) .z ?_
    refine at_weak [(2, _)] ⟨rfl, trivial⟩ ?_
    refine at_then_normal ?_
    refine at_ret ?_
    refine at_blk_ret (at_then_ret ?_)
    have K := of_some hF
    subst K
    exact at_res1 rfl (res_cell (c := cK 3 (by decide)) (y := ⟨[.func (.func 93) #[] #[], .func (.func 95) #[] #[], .func (.func 97) #[] #[]], rfl, by simp [Value.oneCell']⟩) rfl .z (Lens.whole _ _) Tryz.isAgg81 Tryz.sizeOf81 (.inl rfl)) (fun w1 hw => ⟨_, rfl, rfl, hw.below⟩)
  · refine at_cond_false rfl h2 ?_
    refine at_seq ?_
    refine at_region ?_
    refine at_val rfl rfl rfl (r_ieql rfl rfl) ?_
    refine at_val rfl rfl rfl (r_assign rfl) ?_
    refine at_nil ?_
    refine at_weak [(2, _), (3, _), (4, _)] ⟨rfl, rfl, rfl, trivial⟩ ?_
    refine at_then_normal ?_
    rcases of_ite hF with ⟨h4, hF⟩ | ⟨h4, hF⟩
    · refine at_cond_true rfl h4 ?_
      refine at_fix (g := 4) rfl h4 ?_
      refine at_skip ?_
      refine at_then_normal ?_
      refine at_cond_true rfl rfl ?_
      refine at_seq ?_
      refine at_region ?_
      refine at_callI Tryz.func62 rfl (by kernel_rfl) rfl rfl rfl rfl ?_
      refine at_weak [] trivial ?_
      refine at_seq ?_
      refine at_region ?_
      refine at_alloc (cs := [.nilFunc, .nilFunc, .nilFunc]) Tryz.zeroValue81 rfl rfl ?_
      intro b5
      refine at_nil ?_
      refine at_weak [(0, _)] ⟨rfl, trivial⟩ ?_
      refine at_then_normal ?_
      refine at_seq ?_
      refine at_region ?_
      refine at_val rfl rfl rfl (r_build_struct (zs := [.nilFunc, .nilFunc, .nilFunc]) (cs := [.func (.func 93) #[] #[], .func (.func 95) #[] #[], .func (.func 97) #[] #[]]) Tryz.underlying81 Tryz.zeroValue81 rfl placesR_81 rfl rfl) ?_
      refine at_storeAll (k := 3) (cs := [.func (.func 93) #[] #[], .func (.func 95) #[] #[], .func (.func 97) #[] #[]]) .z (by decide) ⟨rfl, by simp [Value.oneCell']⟩ ⟨rfl, by simp [Value.oneCell']⟩ Tryz.sizeOf81 rfl rfl rfl ?_
      refine at_nil ?_
      refine at_weak [(0, _)] ⟨rfl, trivial⟩ ?_
      refine at_then_normal ?_
      refine at_ret ?_
      refine at_resI1 rfl (res_cell (c := cK 3 (by decide)) (y := ⟨[.func (.func 93) #[] #[], .func (.func 95) #[] #[], .func (.func 97) #[] #[]], rfl, by simp [Value.oneCell']⟩) rfl .z (Lens.whole _ _) Tryz.isAgg81 Tryz.sizeOf81 (.inl rfl)) ?_
      refine at_storeAll (k := 3) (cs := [.func (.func 93) #[] #[], .func (.func 95) #[] #[], .func (.func 97) #[] #[]]) (.s .z) (by decide) ⟨rfl, by simp [Value.oneCell']⟩ ⟨rfl, by simp [Value.oneCell']⟩ Tryz.sizeOf81 rfl rfl rfl ?_
      refine at_nil ?_
      refine at_drop (H := _) .z ?_
      refine at_weak [(2, _)] ⟨rfl, trivial⟩ ?_
      refine at_then_normal ?_
      refine at_ret ?_
      refine at_blk_ret (at_then_ret ?_)
      have K := of_some hF
      subst K
      exact at_res1 rfl (res_cell (c := cK 3 (by decide)) (y := ⟨[.func (.func 93) #[] #[], .func (.func 95) #[] #[], .func (.func 97) #[] #[]], rfl, by simp [Value.oneCell']⟩) rfl .z (Lens.whole _ _) Tryz.isAgg81 Tryz.sizeOf81 (.inl rfl)) (fun w1 hw => ⟨_, rfl, rfl, hw.below⟩)
    · refine at_cond_false rfl h4 ?_
      refine at_region ?_
      refine at_val rfl rfl rfl (r_ieql rfl rfl) ?_
      refine at_val rfl rfl rfl (r_assign rfl) ?_
      refine at_nil ?_
      refine at_weak [(2, _), (3, _), (4, _)] ⟨rfl, rfl, rfl, trivial⟩ ?_
      refine at_then_normal ?_
      rcases of_ite hF with ⟨h6, hF⟩ | ⟨h6, hF⟩
      · refine at_cond_true rfl h6 ?_
        refine at_seq ?_
        refine at_region ?_
        refine at_callI Tryz.func62 rfl (by kernel_rfl) rfl rfl rfl rfl ?_
        refine at_weak [] trivial ?_
        refine at_seq ?_
        refine at_region ?_
        refine at_alloc (cs := [.nilFunc, .nilFunc, .nilFunc]) Tryz.zeroValue81 rfl rfl ?_
        intro b7
        refine at_nil ?_
        refine at_weak [(0, _)] ⟨rfl, trivial⟩ ?_
        refine at_then_normal ?_
        refine at_seq ?_
        refine at_region ?_
        refine at_val rfl rfl rfl (r_build_struct (zs := [.nilFunc, .nilFunc, .nilFunc]) (cs := [.func (.func 93) #[] #[], .func (.func 95) #[] #[], .func (.func 97) #[] #[]]) Tryz.underlying81 Tryz.zeroValue81 rfl placesR_81 rfl rfl) ?_
        refine at_storeAll (k := 3) (cs := [.func (.func 93) #[] #[], .func (.func 95) #[] #[], .func (.func 97) #[] #[]]) .z (by decide) ⟨rfl, by simp [Value.oneCell']⟩ ⟨rfl, by simp [Value.oneCell']⟩ Tryz.sizeOf81 rfl rfl rfl ?_
        refine at_nil ?_
        refine at_weak [(0, _)] ⟨rfl, trivial⟩ ?_
        refine at_then_normal ?_
        refine at_ret ?_
        refine at_resI1 rfl (res_cell (c := cK 3 (by decide)) (y := ⟨[.func (.func 93) #[] #[], .func (.func 95) #[] #[], .func (.func 97) #[] #[]], rfl, by simp [Value.oneCell']⟩) rfl .z (Lens.whole _ _) Tryz.isAgg81 Tryz.sizeOf81 (.inl rfl)) ?_
        refine at_storeAll (k := 3) (cs := [.func (.func 93) #[] #[], .func (.func 95) #[] #[], .func (.func 97) #[] #[]]) (.s .z) (by decide) ⟨rfl, by simp [Value.oneCell']⟩ ⟨rfl, by simp [Value.oneCell']⟩ Tryz.sizeOf81 rfl rfl rfl ?_
        refine at_nil ?_
        refine at_drop (H := _) .z ?_
        refine at_weak [(2, _)] ⟨rfl, trivial⟩ ?_
        refine at_then_normal ?_
        refine at_ret ?_
        refine at_blk_ret (at_then_ret ?_)
        have K := of_some hF
        subst K
        exact at_res1 rfl (res_cell (c := cK 3 (by decide)) (y := ⟨[.func (.func 93) #[] #[], .func (.func 95) #[] #[], .func (.func 97) #[] #[]], rfl, by simp [Value.oneCell']⟩) rfl .z (Lens.whole _ _) Tryz.isAgg81 Tryz.sizeOf81 (.inl rfl)) (fun w1 hw => ⟨_, rfl, rfl, hw.below⟩)
      · refine at_cond_false rfl h6 ?_
        refine at_seq ?_
        refine at_region ?_
        refine at_val rfl rfl rfl (r_ieql rfl rfl) ?_
        refine at_val rfl rfl rfl (r_assign rfl) ?_
        refine at_nil ?_
        refine at_weak [(2, _), (3, _), (9, _)] ⟨rfl, rfl, rfl, trivial⟩ ?_
        refine at_then_normal ?_
        rcases of_ite hF with ⟨h8, hF⟩ | ⟨h8, hF⟩
        · refine at_cond_true rfl h8 ?_
          refine at_seq ?_
          refine at_region ?_
          refine at_callI Tryz.func63 rfl (by kernel_rfl) rfl rfl rfl rfl ?_
          refine at_weak [] trivial ?_
          refine at_seq ?_
          refine at_region ?_
          refine at_alloc (cs := [.nilFunc, .nilFunc, .nilFunc]) Tryz.zeroValue81 rfl rfl ?_
          intro b9
          refine at_nil ?_
          refine at_weak [(0, _)] ⟨rfl, trivial⟩ ?_
          refine at_then_normal ?_
          refine at_seq ?_
          refine at_region ?_
          refine at_val rfl rfl rfl (r_build_struct (zs := [.nilFunc, .nilFunc, .nilFunc]) (cs := [.func (.func 98) #[] #[], .func (.func 100) #[] #[], .func (.func 103) #[] #[]]) Tryz.underlying81 Tryz.zeroValue81 rfl placesR_81 rfl rfl) ?_
          refine at_storeAll (k := 3) (cs := [.func (.func 98) #[] #[], .func (.func 100) #[] #[], .func (.func 103) #[] #[]]) .z (by decide) ⟨rfl, by simp [Value.oneCell']⟩ ⟨rfl, by simp [Value.oneCell']⟩ Tryz.sizeOf81 rfl rfl rfl ?_
          refine at_nil ?_
          refine at_weak [(0, _)] ⟨rfl, trivial⟩ ?_
          refine at_then_normal ?_
          refine at_ret ?_
          refine at_resI1 rfl (res_cell (c := cK 3 (by decide)) (y := ⟨[.func (.func 98) #[] #[], .func (.func 100) #[] #[], .func (.func 103) #[] #[]], rfl, by simp [Value.oneCell']⟩) rfl .z (Lens.whole _ _) Tryz.isAgg81 Tryz.sizeOf81 (.inl rfl)) ?_
          refine at_storeAll (k := 3) (cs := [.func (.func 98) #[] #[], .func (.func 100) #[] #[], .func (.func 103) #[] #[]]) (.s .z) (by decide) ⟨rfl, by simp [Value.oneCell']⟩ ⟨rfl, by simp [Value.oneCell']⟩ Tryz.sizeOf81 rfl rfl rfl ?_
          refine at_nil ?_
          refine at_drop (H := _) .z ?_
          refine at_weak [(2, _)] ⟨rfl, trivial⟩ ?_
          refine at_then_normal ?_
          refine at_ret ?_
          refine at_blk_ret (at_then_ret ?_)
          have K := of_some hF
          subst K
          exact at_res1 rfl (res_cell (c := cK 3 (by decide)) (y := ⟨[.func (.func 98) #[] #[], .func (.func 100) #[] #[], .func (.func 103) #[] #[]], rfl, by simp [Value.oneCell']⟩) rfl .z (Lens.whole _ _) Tryz.isAgg81 Tryz.sizeOf81 (.inl rfl)) (fun w1 hw => ⟨_, rfl, rfl, hw.below⟩)
        · refine at_cond_false rfl h8 ?_
          refine at_seq ?_
          refine at_region ?_
          refine at_val rfl rfl rfl (r_ieql rfl rfl) ?_
          refine at_val rfl rfl rfl (r_assign rfl) ?_
          refine at_nil ?_
          refine at_weak [(2, _), (3, _), (12, _)] ⟨rfl, rfl, rfl, trivial⟩ ?_
          refine at_then_normal ?_
          rcases of_ite hF with ⟨h10, hF⟩ | ⟨h10, hF⟩
          · refine at_cond_true rfl h10 ?_
            refine at_seq ?_
            refine at_region ?_
            refine at_callI Tryz.func64 rfl (by kernel_rfl) rfl rfl rfl rfl ?_
            refine at_weak [] trivial ?_
            refine at_seq ?_
            refine at_region ?_
            refine at_alloc (cs := [.nilFunc, .nilFunc, .nilFunc]) Tryz.zeroValue81 rfl rfl ?_
            intro b11
            refine at_nil ?_
            refine at_weak [(0, _)] ⟨rfl, trivial⟩ ?_
            refine at_then_normal ?_
            refine at_seq ?_
            refine at_region ?_
            refine at_val rfl rfl rfl (r_build_struct (zs := [.nilFunc, .nilFunc, .nilFunc]) (cs := [.func (.func 104) #[] #[], .func (.func 106) #[] #[], .func (.func 109) #[] #[]]) Tryz.underlying81 Tryz.zeroValue81 rfl placesR_81 rfl rfl) ?_
            refine at_storeAll (k := 3) (cs := [.func (.func 104) #[] #[], .func (.func 106) #[] #[], .func (.func 109) #[] #[]]) .z (by decide) ⟨rfl, by simp [Value.oneCell']⟩ ⟨rfl, by simp [Value.oneCell']⟩ Tryz.sizeOf81 rfl rfl rfl ?_
            refine at_nil ?_
            refine at_weak [(0, _)] ⟨rfl, trivial⟩ ?_
            refine at_then_normal ?_
            refine at_ret ?_
            refine at_resI1 rfl (res_cell (c := cK 3 (by decide)) (y := ⟨[.func (.func 104) #[] #[], .func (.func 106) #[] #[], .func (.func 109) #[] #[]], rfl, by simp [Value.oneCell']⟩) rfl .z (Lens.whole _ _) Tryz.isAgg81 Tryz.sizeOf81 (.inl rfl)) ?_
            refine at_storeAll (k := 3) (cs := [.func (.func 104) #[] #[], .func (.func 106) #[] #[], .func (.func 109) #[] #[]]) (.s .z) (by decide) ⟨rfl, by simp [Value.oneCell']⟩ ⟨rfl, by simp [Value.oneCell']⟩ Tryz.sizeOf81 rfl rfl rfl ?_
            refine at_nil ?_
            refine at_drop (H := _) .z ?_
            refine at_weak [(2, _)] ⟨rfl, trivial⟩ ?_
            refine at_then_normal ?_
            refine at_ret ?_
            refine at_blk_ret (at_then_ret ?_)
            have K := of_some hF
            subst K
            exact at_res1 rfl (res_cell (c := cK 3 (by decide)) (y := ⟨[.func (.func 104) #[] #[], .func (.func 106) #[] #[], .func (.func 109) #[] #[]], rfl, by simp [Value.oneCell']⟩) rfl .z (Lens.whole _ _) Tryz.isAgg81 Tryz.sizeOf81 (.inl rfl)) (fun w1 hw => ⟨_, rfl, rfl, hw.below⟩)
          · refine at_cond_false rfl h10 ?_
            refine at_seq ?_
            refine at_seq ?_
            refine at_region ?_
            refine at_val rfl rfl rfl (r_ieql rfl rfl) ?_
            refine at_val rfl rfl rfl (r_assign rfl) ?_
            refine at_nil ?_
            refine at_weak [(2, _), (3, _), (15, _)] ⟨rfl, rfl, rfl, trivial⟩ ?_
            refine at_then_normal ?_
            rcases of_ite hF with ⟨h12, hF⟩ | ⟨h12, hF⟩
            · refine at_cond_true rfl h12 ?_
              refine at_fix (g := 15) rfl h12 ?_
              refine at_skip ?_
              refine at_then_normal ?_
              refine at_cond_true rfl rfl ?_
              refine at_seq ?_
              refine at_region ?_
              refine at_callI Tryz.func65 rfl (by kernel_rfl) rfl rfl rfl rfl ?_
              refine at_weak [(0, _), (1, _)] ⟨rfl, rfl, trivial⟩ ?_
              refine at_seq ?_
              refine at_region ?_
              refine at_box (cs := Cd.cs (cInt .u64) 0) rfl rfl rfl ?_
              intro b13
              refine at_box (cs := Cd.cs (cInt .u64) 65535) rfl rfl rfl ?_
              intro b14
              refine at_alloc (cs := [.nilFunc, .nilFunc, .nilFunc]) Tryz.zeroValue81 rfl rfl ?_
              intro b15
              refine at_nil ?_
              refine at_weak [(2, _), (3, _), (4, _)] ⟨rfl, rfl, rfl, trivial⟩ ?_
              refine at_then_normal ?_
              refine at_seq ?_
              refine at_region ?_
              refine at_val rfl rfl rfl (r_makeFunc rfl) ?_
              refine at_val rfl rfl rfl (r_makeFunc rfl) ?_
              refine at_val rfl rfl rfl (r_build_struct (zs := [.nilFunc, .nilFunc, .nilFunc]) (cs := [.func (.func 110) #[] #[.pointer (some ⟨b14, 0, none⟩), .pointer (some ⟨b13, 0, none⟩)], .func (.func 112) #[] #[.pointer (some ⟨b13, 0, none⟩), .pointer (some ⟨b14, 0, none⟩)], .func (.func 114) #[] #[]]) Tryz.underlying81 Tryz.zeroValue81 rfl placesR_81 rfl rfl) ?_
              refine at_storeAll (k := 3) (cs := [.func (.func 110) #[] #[.pointer (some ⟨b14, 0, none⟩), .pointer (some ⟨b13, 0, none⟩)], .func (.func 112) #[] #[.pointer (some ⟨b13, 0, none⟩), .pointer (some ⟨b14, 0, none⟩)], .func (.func 114) #[] #[]]) .z (by decide) ⟨rfl, by simp [Value.oneCell']⟩ ⟨rfl, by simp [Value.oneCell']⟩ Tryz.sizeOf81 rfl rfl rfl ?_
              refine at_nil ?_
              refine at_weak [(4, _)] ⟨rfl, trivial⟩ ?_
              refine at_then_normal ?_
              refine at_ret ?_
              refine at_resI1 rfl (res_cell (c := cK 3 (by decide)) (y := ⟨[.func (.func 110) #[] #[.pointer (some ⟨b14, 0, none⟩), .pointer (some ⟨b13, 0, none⟩)], .func (.func 112) #[] #[.pointer (some ⟨b13, 0, none⟩), .pointer (some ⟨b14, 0, none⟩)], .func (.func 114) #[] #[]], rfl, by simp [Value.oneCell']⟩) rfl .z (Lens.whole _ _) Tryz.isAgg81 Tryz.sizeOf81 (.inl rfl)) ?_
              refine at_storeAll (k := 3) (cs := [.func (.func 110) #[] #[.pointer (some ⟨b14, 0, none⟩), .pointer (some ⟨b13, 0, none⟩)], .func (.func 112) #[] #[.pointer (some ⟨b13, 0, none⟩), .pointer (some ⟨b14, 0, none⟩)], .func (.func 114) #[] #[]]) (.s (.s (.s .z))) (by decide) ⟨rfl, by simp [Value.oneCell']⟩ ⟨rfl, by simp [Value.oneCell']⟩ Tryz.sizeOf81 rfl rfl rfl ?_
              refine at_nil ?_
              refine at_drop (H := _) .z ?_
              refine at_weak [(2, _)] ⟨rfl, trivial⟩ ?_
              refine at_then_normal ?_
              refine at_ret ?_
              refine at_blk_ret (at_then_ret ?_)
              have K := of_some hF
              subst K
              exact at_res1 rfl (res_cell (c := cK 3 (by decide)) (y := ⟨[.func (.func 110) #[] #[.pointer (some ⟨b14, 0, none⟩), .pointer (some ⟨b13, 0, none⟩)], .func (.func 112) #[] #[.pointer (some ⟨b13, 0, none⟩), .pointer (some ⟨b14, 0, none⟩)], .func (.func 114) #[] #[]], rfl, by simp [Value.oneCell']⟩) rfl (.s (.s .z)) (Lens.whole _ _) Tryz.isAgg81 Tryz.sizeOf81 (.inl rfl)) (fun w1 hw => ⟨_, rfl, ⟨b14, b13, rfl, hw.ok (Upd.mem .z), hw.ok (Upd.mem (.s .z)), hw.fp (Upd.mem .z) _ (by simp [cellsE]), hw.fp (Upd.mem (.s .z)) _ (by simp [cellsE]), fun e => Sep.apart .z hw.sep b14 (by simp [cellsE]) _ (Upd.mem .z) (by simp [cellsE, e])⟩, hw.below⟩)
            · refine at_cond_false rfl h12 ?_
              refine at_region ?_
              refine at_val rfl rfl rfl (r_ieql rfl rfl) ?_
              refine at_val rfl rfl rfl (r_assign rfl) ?_
              refine at_nil ?_
              refine at_weak [(2, _), (3, _), (15, _)] ⟨rfl, rfl, rfl, trivial⟩ ?_
              refine at_then_normal ?_
              rcases of_ite hF with ⟨h16, hF⟩ | ⟨h16, hF⟩
              · refine at_cond_true rfl h16 ?_
                refine at_seq ?_
                refine at_region ?_
                refine at_callI Tryz.func65 rfl (by kernel_rfl) rfl rfl rfl rfl ?_
                refine at_weak [(0, _), (1, _)] ⟨rfl, rfl, trivial⟩ ?_
                refine at_seq ?_
                refine at_region ?_
                refine at_box (cs := Cd.cs (cInt .u64) 0) rfl rfl rfl ?_
                intro b17
                refine at_box (cs := Cd.cs (cInt .u64) 65535) rfl rfl rfl ?_
                intro b18
                refine at_alloc (cs := [.nilFunc, .nilFunc, .nilFunc]) Tryz.zeroValue81 rfl rfl ?_
                intro b19
                refine at_nil ?_
                refine at_weak [(2, _), (3, _), (4, _)] ⟨rfl, rfl, rfl, trivial⟩ ?_
                refine at_then_normal ?_
                refine at_seq ?_
                refine at_region ?_
                refine at_val rfl rfl rfl (r_makeFunc rfl) ?_
                refine at_val rfl rfl rfl (r_makeFunc rfl) ?_
                refine at_val rfl rfl rfl (r_build_struct (zs := [.nilFunc, .nilFunc, .nilFunc]) (cs := [.func (.func 110) #[] #[.pointer (some ⟨b18, 0, none⟩), .pointer (some ⟨b17, 0, none⟩)], .func (.func 112) #[] #[.pointer (some ⟨b17, 0, none⟩), .pointer (some ⟨b18, 0, none⟩)], .func (.func 114) #[] #[]]) Tryz.underlying81 Tryz.zeroValue81 rfl placesR_81 rfl rfl) ?_
                refine at_storeAll (k := 3) (cs := [.func (.func 110) #[] #[.pointer (some ⟨b18, 0, none⟩), .pointer (some ⟨b17, 0, none⟩)], .func (.func 112) #[] #[.pointer (some ⟨b17, 0, none⟩), .pointer (some ⟨b18, 0, none⟩)], .func (.func 114) #[] #[]]) .z (by decide) ⟨rfl, by simp [Value.oneCell']⟩ ⟨rfl, by simp [Value.oneCell']⟩ Tryz.sizeOf81 rfl rfl rfl ?_
                refine at_nil ?_
                refine at_weak [(4, _)] ⟨rfl, trivial⟩ ?_
                refine at_then_normal ?_
                refine at_ret ?_
                refine at_resI1 rfl (res_cell (c := cK 3 (by decide)) (y := ⟨[.func (.func 110) #[] #[.pointer (some ⟨b18, 0, none⟩), .pointer (some ⟨b17, 0, none⟩)], .func (.func 112) #[] #[.pointer (some ⟨b17, 0, none⟩), .pointer (some ⟨b18, 0, none⟩)], .func (.func 114) #[] #[]], rfl, by simp [Value.oneCell']⟩) rfl .z (Lens.whole _ _) Tryz.isAgg81 Tryz.sizeOf81 (.inl rfl)) ?_
                refine at_storeAll (k := 3) (cs := [.func (.func 110) #[] #[.pointer (some ⟨b18, 0, none⟩), .pointer (some ⟨b17, 0, none⟩)], .func (.func 112) #[] #[.pointer (some ⟨b17, 0, none⟩), .pointer (some ⟨b18, 0, none⟩)], .func (.func 114) #[] #[]]) (.s (.s (.s .z))) (by decide) ⟨rfl, by simp [Value.oneCell']⟩ ⟨rfl, by simp [Value.oneCell']⟩ Tryz.sizeOf81 rfl rfl rfl ?_
                refine at_nil ?_
                refine at_drop (H := _) .z ?_
                refine at_weak [(2, _)] ⟨rfl, trivial⟩ ?_
                refine at_then_normal ?_
                refine at_ret ?_
                refine at_blk_ret (at_then_ret ?_)
                have K := of_some hF
                subst K
                exact at_res1 rfl (res_cell (c := cK 3 (by decide)) (y := ⟨[.func (.func 110) #[] #[.pointer (some ⟨b18, 0, none⟩), .pointer (some ⟨b17, 0, none⟩)], .func (.func 112) #[] #[.pointer (some ⟨b17, 0, none⟩), .pointer (some ⟨b18, 0, none⟩)], .func (.func 114) #[] #[]], rfl, by simp [Value.oneCell']⟩) rfl (.s (.s .z)) (Lens.whole _ _) Tryz.isAgg81 Tryz.sizeOf81 (.inl rfl)) (fun w1 hw => ⟨_, rfl, ⟨b18, b17, rfl, hw.ok (Upd.mem .z), hw.ok (Upd.mem (.s .z)), hw.fp (Upd.mem .z) _ (by simp [cellsE]), hw.fp (Upd.mem (.s .z)) _ (by simp [cellsE]), fun e => Sep.apart .z hw.sep b18 (by simp [cellsE]) _ (Upd.mem .z) (by simp [cellsE, e])⟩, hw.below⟩)
              · refine at_cond_false rfl h16 ?_
                refine at_seq ?_
                refine at_region ?_
                refine at_val rfl rfl rfl (r_ieql rfl rfl) ?_
                refine at_val rfl rfl rfl (r_assign rfl) ?_
                refine at_nil ?_
                refine at_weak [(2, _), (3, _), (19, _)] ⟨rfl, rfl, rfl, trivial⟩ ?_
                refine at_then_normal ?_
                rcases of_ite hF with ⟨h20, hF⟩ | ⟨h20, hF⟩
                · refine at_cond_true rfl h20 ?_
                  refine at_seq ?_
                  refine at_region ?_
                  refine at_callI Tryz.func65 rfl (by kernel_rfl) rfl rfl rfl rfl ?_
                  refine at_weak [(0, _), (1, _)] ⟨rfl, rfl, trivial⟩ ?_
                  refine at_seq ?_
                  refine at_region ?_
                  refine at_box (cs := Cd.cs (cInt .u64) 0) rfl rfl rfl ?_
                  intro b21
                  refine at_box (cs := Cd.cs (cInt .u64) 4294967295) rfl rfl rfl ?_
                  intro b22
                  refine at_alloc (cs := [.nilFunc, .nilFunc, .nilFunc]) Tryz.zeroValue81 rfl rfl ?_
                  intro b23
                  refine at_nil ?_
                  refine at_weak [(2, _), (3, _), (4, _)] ⟨rfl, rfl, rfl, trivial⟩ ?_
                  refine at_then_normal ?_
                  refine at_seq ?_
                  refine at_region ?_
                  refine at_val rfl rfl rfl (r_makeFunc rfl) ?_
                  refine at_val rfl rfl rfl (r_makeFunc rfl) ?_
                  refine at_val rfl rfl rfl (r_build_struct (zs := [.nilFunc, .nilFunc, .nilFunc]) (cs := [.func (.func 110) #[] #[.pointer (some ⟨b22, 0, none⟩), .pointer (some ⟨b21, 0, none⟩)], .func (.func 112) #[] #[.pointer (some ⟨b21, 0, none⟩), .pointer (some ⟨b22, 0, none⟩)], .func (.func 114) #[] #[]]) Tryz.underlying81 Tryz.zeroValue81 rfl placesR_81 rfl rfl) ?_
                  refine at_storeAll (k := 3) (cs := [.func (.func 110) #[] #[.pointer (some ⟨b22, 0, none⟩), .pointer (some ⟨b21, 0, none⟩)], .func (.func 112) #[] #[.pointer (some ⟨b21, 0, none⟩), .pointer (some ⟨b22, 0, none⟩)], .func (.func 114) #[] #[]]) .z (by decide) ⟨rfl, by simp [Value.oneCell']⟩ ⟨rfl, by simp [Value.oneCell']⟩ Tryz.sizeOf81 rfl rfl rfl ?_
                  refine at_nil ?_
                  refine at_weak [(4, _)] ⟨rfl, trivial⟩ ?_
                  refine at_then_normal ?_
                  refine at_ret ?_
                  refine at_resI1 rfl (res_cell (c := cK 3 (by decide)) (y := ⟨[.func (.func 110) #[] #[.pointer (some ⟨b22, 0, none⟩), .pointer (some ⟨b21, 0, none⟩)], .func (.func 112) #[] #[.pointer (some ⟨b21, 0, none⟩), .pointer (some ⟨b22, 0, none⟩)], .func (.func 114) #[] #[]], rfl, by simp [Value.oneCell']⟩) rfl .z (Lens.whole _ _) Tryz.isAgg81 Tryz.sizeOf81 (.inl rfl)) ?_
                  refine at_storeAll (k := 3) (cs := [.func (.func 110) #[] #[.pointer (some ⟨b22, 0, none⟩), .pointer (some ⟨b21, 0, none⟩)], .func (.func 112) #[] #[.pointer (some ⟨b21, 0, none⟩), .pointer (some ⟨b22, 0, none⟩)], .func (.func 114) #[] #[]]) (.s (.s (.s .z))) (by decide) ⟨rfl, by simp [Value.oneCell']⟩ ⟨rfl, by simp [Value.oneCell']⟩ Tryz.sizeOf81 rfl rfl rfl ?_
                  refine at_nil ?_
                  refine at_drop (H := _) .z ?_
                  refine at_weak [(2, _)] ⟨rfl, trivial⟩ ?_
                  refine at_then_normal ?_
                  refine at_ret ?_
                  refine at_blk_ret (at_then_ret ?_)
                  have K := of_some hF
                  subst K
                  exact at_res1 rfl (res_cell (c := cK 3 (by decide)) (y := ⟨[.func (.func 110) #[] #[.pointer (some ⟨b22, 0, none⟩), .pointer (some ⟨b21, 0, none⟩)], .func (.func 112) #[] #[.pointer (some ⟨b21, 0, none⟩), .pointer (some ⟨b22, 0, none⟩)], .func (.func 114) #[] #[]], rfl, by simp [Value.oneCell']⟩) rfl (.s (.s .z)) (Lens.whole _ _) Tryz.isAgg81 Tryz.sizeOf81 (.inl rfl)) (fun w1 hw => ⟨_, rfl, ⟨b22, b21, rfl, hw.ok (Upd.mem .z), hw.ok (Upd.mem (.s .z)), hw.fp (Upd.mem .z) _ (by simp [cellsE]), hw.fp (Upd.mem (.s .z)) _ (by simp [cellsE]), fun e => Sep.apart .z hw.sep b22 (by simp [cellsE]) _ (Upd.mem .z) (by simp [cellsE, e])⟩, hw.below⟩)
                · refine at_cond_false rfl h20 ?_
                  refine at_seq ?_
                  refine at_region ?_
                  refine at_val rfl rfl rfl (r_ieql rfl rfl) ?_
                  refine at_val rfl rfl rfl (r_assign rfl) ?_
                  refine at_nil ?_
                  refine at_weak [(2, _), (3, _), (22, _)] ⟨rfl, rfl, rfl, trivial⟩ ?_
                  refine at_then_normal ?_
                  rcases of_ite hF with ⟨h24, hF⟩ | ⟨h24, hF⟩
                  · refine at_cond_true rfl h24 ?_
                    refine at_seq ?_
                    refine at_region ?_
                    refine at_callI Tryz.func65 rfl (by kernel_rfl) rfl rfl rfl rfl ?_
                    refine at_weak [(0, _), (1, _)] ⟨rfl, rfl, trivial⟩ ?_
                    refine at_seq ?_
                    refine at_region ?_
                    refine at_box (cs := Cd.cs (cInt .u64) 1) rfl rfl rfl ?_
                    intro b25
                    refine at_box (cs := Cd.cs (cInt .u64) 1) rfl rfl rfl ?_
                    intro b26
                    refine at_alloc (cs := [.nilFunc, .nilFunc, .nilFunc]) Tryz.zeroValue81 rfl rfl ?_
                    intro b27
                    refine at_nil ?_
                    refine at_weak [(2, _), (3, _), (4, _)] ⟨rfl, rfl, rfl, trivial⟩ ?_
                    refine at_then_normal ?_
                    refine at_seq ?_
                    refine at_region ?_
                    refine at_val rfl rfl rfl (r_makeFunc rfl) ?_
                    refine at_val rfl rfl rfl (r_makeFunc rfl) ?_
                    refine at_val rfl rfl rfl (r_build_struct (zs := [.nilFunc, .nilFunc, .nilFunc]) (cs := [.func (.func 110) #[] #[.pointer (some ⟨b26, 0, none⟩), .pointer (some ⟨b25, 0, none⟩)], .func (.func 112) #[] #[.pointer (some ⟨b25, 0, none⟩), .pointer (some ⟨b26, 0, none⟩)], .func (.func 114) #[] #[]]) Tryz.underlying81 Tryz.zeroValue81 rfl placesR_81 rfl rfl) ?_
                    refine at_storeAll (k := 3) (cs := [.func (.func 110) #[] #[.pointer (some ⟨b26, 0, none⟩), .pointer (some ⟨b25, 0, none⟩)], .func (.func 112) #[] #[.pointer (some ⟨b25, 0, none⟩), .pointer (some ⟨b26, 0, none⟩)], .func (.func 114) #[] #[]]) .z (by decide) ⟨rfl, by simp [Value.oneCell']⟩ ⟨rfl, by simp [Value.oneCell']⟩ Tryz.sizeOf81 rfl rfl rfl ?_
                    refine at_nil ?_
                    refine at_weak [(4, _)] ⟨rfl, trivial⟩ ?_
                    refine at_then_normal ?_
                    refine at_ret ?_
                    refine at_resI1 rfl (res_cell (c := cK 3 (by decide)) (y := ⟨[.func (.func 110) #[] #[.pointer (some ⟨b26, 0, none⟩), .pointer (some ⟨b25, 0, none⟩)], .func (.func 112) #[] #[.pointer (some ⟨b25, 0, none⟩), .pointer (some ⟨b26, 0, none⟩)], .func (.func 114) #[] #[]], rfl, by simp [Value.oneCell']⟩) rfl .z (Lens.whole _ _) Tryz.isAgg81 Tryz.sizeOf81 (.inl rfl)) ?_
                    refine at_storeAll (k := 3) (cs := [.func (.func 110) #[] #[.pointer (some ⟨b26, 0, none⟩), .pointer (some ⟨b25, 0, none⟩)], .func (.func 112) #[] #[.pointer (some ⟨b25, 0, none⟩), .pointer (some ⟨b26, 0, none⟩)], .func (.func 114) #[] #[]]) (.s (.s (.s .z))) (by decide) ⟨rfl, by simp [Value.oneCell']⟩ ⟨rfl, by simp [Value.oneCell']⟩ Tryz.sizeOf81 rfl rfl rfl ?_
                    refine at_nil ?_
                    refine at_drop (H := _) .z ?_
                    refine at_weak [(2, _)] ⟨rfl, trivial⟩ ?_
                    refine at_then_normal ?_
                    refine at_ret ?_
                    refine at_blk_ret (at_then_ret ?_)
                    have K := of_some hF
                    subst K
                    exact at_res1 rfl (res_cell (c := cK 3 (by decide)) (y := ⟨[.func (.func 110) #[] #[.pointer (some ⟨b26, 0, none⟩), .pointer (some ⟨b25, 0, none⟩)], .func (.func 112) #[] #[.pointer (some ⟨b25, 0, none⟩), .pointer (some ⟨b26, 0, none⟩)], .func (.func 114) #[] #[]], rfl, by simp [Value.oneCell']⟩) rfl (.s (.s .z)) (Lens.whole _ _) Tryz.isAgg81 Tryz.sizeOf81 (.inl rfl)) (fun w1 hw => ⟨_, rfl, ⟨b26, b25, rfl, hw.ok (Upd.mem .z), hw.ok (Upd.mem (.s .z)), hw.fp (Upd.mem .z) _ (by simp [cellsE]), hw.fp (Upd.mem (.s .z)) _ (by simp [cellsE]), fun e => Sep.apart .z hw.sep b26 (by simp [cellsE]) _ (Upd.mem .z) (by simp [cellsE, e])⟩, hw.below⟩)
                  · refine at_cond_false rfl h24 ?_
                    refine at_seq ?_
                    refine at_seq ?_
                    refine at_region ?_
                    refine at_val rfl rfl rfl (r_ieql rfl rfl) ?_
                    refine at_val rfl rfl rfl (r_assign rfl) ?_
                    refine at_nil ?_
                    refine at_weak [(2, _), (3, _), (25, _)] ⟨rfl, rfl, rfl, trivial⟩ ?_
                    refine at_then_normal ?_
                    rcases of_ite hF with ⟨h28, hF⟩ | ⟨h28, hF⟩
                    · refine at_cond_true rfl h28 ?_
                      refine at_fix (g := 25) rfl h28 ?_
                      refine at_skip ?_
                      refine at_then_normal ?_
                      refine at_cond_true rfl rfl ?_
                      refine at_seq ?_
                      refine at_region ?_
                      refine at_callI Tryz.func65 rfl (by kernel_rfl) rfl rfl rfl rfl ?_
                      refine at_weak [(0, _), (1, _)] ⟨rfl, rfl, trivial⟩ ?_
                      refine at_seq ?_
                      refine at_region ?_
                      refine at_box (cs := Cd.cs (cInt .u64) 0) rfl rfl rfl ?_
                      intro b29
                      refine at_box (cs := Cd.cs (cInt .u64) 18446744073709551615) rfl rfl rfl ?_
                      intro b30
                      refine at_alloc (cs := [.nilFunc, .nilFunc, .nilFunc]) Tryz.zeroValue81 rfl rfl ?_
                      intro b31
                      refine at_nil ?_
                      refine at_weak [(2, _), (3, _), (4, _)] ⟨rfl, rfl, rfl, trivial⟩ ?_
                      refine at_then_normal ?_
                      refine at_seq ?_
                      refine at_region ?_
                      refine at_val rfl rfl rfl (r_makeFunc rfl) ?_
                      refine at_val rfl rfl rfl (r_makeFunc rfl) ?_
                      refine at_val rfl rfl rfl (r_build_struct (zs := [.nilFunc, .nilFunc, .nilFunc]) (cs := [.func (.func 110) #[] #[.pointer (some ⟨b30, 0, none⟩), .pointer (some ⟨b29, 0, none⟩)], .func (.func 112) #[] #[.pointer (some ⟨b29, 0, none⟩), .pointer (some ⟨b30, 0, none⟩)], .func (.func 114) #[] #[]]) Tryz.underlying81 Tryz.zeroValue81 rfl placesR_81 rfl rfl) ?_
                      refine at_storeAll (k := 3) (cs := [.func (.func 110) #[] #[.pointer (some ⟨b30, 0, none⟩), .pointer (some ⟨b29, 0, none⟩)], .func (.func 112) #[] #[.pointer (some ⟨b29, 0, none⟩), .pointer (some ⟨b30, 0, none⟩)], .func (.func 114) #[] #[]]) .z (by decide) ⟨rfl, by simp [Value.oneCell']⟩ ⟨rfl, by simp [Value.oneCell']⟩ Tryz.sizeOf81 rfl rfl rfl ?_
                      refine at_nil ?_
                      refine at_weak [(4, _)] ⟨rfl, trivial⟩ ?_
                      refine at_then_normal ?_
                      refine at_ret ?_
                      refine at_resI1 rfl (res_cell (c := cK 3 (by decide)) (y := ⟨[.func (.func 110) #[] #[.pointer (some ⟨b30, 0, none⟩), .pointer (some ⟨b29, 0, none⟩)], .func (.func 112) #[] #[.pointer (some ⟨b29, 0, none⟩), .pointer (some ⟨b30, 0, none⟩)], .func (.func 114) #[] #[]], rfl, by simp [Value.oneCell']⟩) rfl .z (Lens.whole _ _) Tryz.isAgg81 Tryz.sizeOf81 (.inl rfl)) ?_
                      refine at_storeAll (k := 3) (cs := [.func (.func 110) #[] #[.pointer (some ⟨b30, 0, none⟩), .pointer (some ⟨b29, 0, none⟩)], .func (.func 112) #[] #[.pointer (some ⟨b29, 0, none⟩), .pointer (some ⟨b30, 0, none⟩)], .func (.func 114) #[] #[]]) (.s (.s (.s .z))) (by decide) ⟨rfl, by simp [Value.oneCell']⟩ ⟨rfl, by simp [Value.oneCell']⟩ Tryz.sizeOf81 rfl rfl rfl ?_
                      refine at_nil ?_
                      refine at_drop (H := _) .z ?_
                      refine at_weak [(2, _)] ⟨rfl, trivial⟩ ?_
                      refine at_then_normal ?_
                      refine at_ret ?_
                      refine at_blk_ret (at_then_ret ?_)
                      have K := of_some hF
                      subst K
                      exact at_res1 rfl (res_cell (c := cK 3 (by decide)) (y := ⟨[.func (.func 110) #[] #[.pointer (some ⟨b30, 0, none⟩), .pointer (some ⟨b29, 0, none⟩)], .func (.func 112) #[] #[.pointer (some ⟨b29, 0, none⟩), .pointer (some ⟨b30, 0, none⟩)], .func (.func 114) #[] #[]], rfl, by simp [Value.oneCell']⟩) rfl (.s (.s .z)) (Lens.whole _ _) Tryz.isAgg81 Tryz.sizeOf81 (.inl rfl)) (fun w1 hw => ⟨_, rfl, ⟨b30, b29, rfl, hw.ok (Upd.mem .z), hw.ok (Upd.mem (.s .z)), hw.fp (Upd.mem .z) _ (by simp [cellsE]), hw.fp (Upd.mem (.s .z)) _ (by simp [cellsE]), fun e => Sep.apart .z hw.sep b30 (by simp [cellsE]) _ (Upd.mem .z) (by simp [cellsE, e])⟩, hw.below⟩)
                    · refine at_cond_false rfl h28 ?_
                      refine at_region ?_
                      refine at_val rfl rfl rfl (r_ieql rfl rfl) ?_
                      refine at_val rfl rfl rfl (r_assign rfl) ?_
                      refine at_nil ?_
                      refine at_weak [(2, _), (3, _), (25, _)] ⟨rfl, rfl, rfl, trivial⟩ ?_
                      refine at_then_normal ?_
                      rcases of_ite hF with ⟨h32, hF⟩ | ⟨h32, hF⟩
                      · refine at_cond_true rfl h32 ?_
                        refine at_seq ?_
                        refine at_region ?_
                        refine at_callI Tryz.func65 rfl (by kernel_rfl) rfl rfl rfl rfl ?_
                        refine at_weak [(0, _), (1, _)] ⟨rfl, rfl, trivial⟩ ?_
                        refine at_seq ?_
                        refine at_region ?_
                        refine at_box (cs := Cd.cs (cInt .u64) 0) rfl rfl rfl ?_
                        intro b33
                        refine at_box (cs := Cd.cs (cInt .u64) 18446744073709551615) rfl rfl rfl ?_
                        intro b34
                        refine at_alloc (cs := [.nilFunc, .nilFunc, .nilFunc]) Tryz.zeroValue81 rfl rfl ?_
                        intro b35
                        refine at_nil ?_
                        refine at_weak [(2, _), (3, _), (4, _)] ⟨rfl, rfl, rfl, trivial⟩ ?_
                        refine at_then_normal ?_
                        refine at_seq ?_
                        refine at_region ?_
                        refine at_val rfl rfl rfl (r_makeFunc rfl) ?_
                        refine at_val rfl rfl rfl (r_makeFunc rfl) ?_
                        refine at_val rfl rfl rfl (r_build_struct (zs := [.nilFunc, .nilFunc, .nilFunc]) (cs := [.func (.func 110) #[] #[.pointer (some ⟨b34, 0, none⟩), .pointer (some ⟨b33, 0, none⟩)], .func (.func 112) #[] #[.pointer (some ⟨b33, 0, none⟩), .pointer (some ⟨b34, 0, none⟩)], .func (.func 114) #[] #[]]) Tryz.underlying81 Tryz.zeroValue81 rfl placesR_81 rfl rfl) ?_
                        refine at_storeAll (k := 3) (cs := [.func (.func 110) #[] #[.pointer (some ⟨b34, 0, none⟩), .pointer (some ⟨b33, 0, none⟩)], .func (.func 112) #[] #[.pointer (some ⟨b33, 0, none⟩), .pointer (some ⟨b34, 0, none⟩)], .func (.func 114) #[] #[]]) .z (by decide) ⟨rfl, by simp [Value.oneCell']⟩ ⟨rfl, by simp [Value.oneCell']⟩ Tryz.sizeOf81 rfl rfl rfl ?_
                        refine at_nil ?_
                        refine at_weak [(4, _)] ⟨rfl, trivial⟩ ?_
                        refine at_then_normal ?_
                        refine at_ret ?_
                        refine at_resI1 rfl (res_cell (c := cK 3 (by decide)) (y := ⟨[.func (.func 110) #[] #[.pointer (some ⟨b34, 0, none⟩), .pointer (some ⟨b33, 0, none⟩)], .func (.func 112) #[] #[.pointer (some ⟨b33, 0, none⟩), .pointer (some ⟨b34, 0, none⟩)], .func (.func 114) #[] #[]], rfl, by simp [Value.oneCell']⟩) rfl .z (Lens.whole _ _) Tryz.isAgg81 Tryz.sizeOf81 (.inl rfl)) ?_
                        refine at_storeAll (k := 3) (cs := [.func (.func 110) #[] #[.pointer (some ⟨b34, 0, none⟩), .pointer (some ⟨b33, 0, none⟩)], .func (.func 112) #[] #[.pointer (some ⟨b33, 0, none⟩), .pointer (some ⟨b34, 0, none⟩)], .func (.func 114) #[] #[]]) (.s (.s (.s .z))) (by decide) ⟨rfl, by simp [Value.oneCell']⟩ ⟨rfl, by simp [Value.oneCell']⟩ Tryz.sizeOf81 rfl rfl rfl ?_
                        refine at_nil ?_
                        refine at_drop (H := _) .z ?_
                        refine at_weak [(2, _)] ⟨rfl, trivial⟩ ?_
                        refine at_then_normal ?_
                        refine at_ret ?_
                        refine at_blk_ret (at_then_ret ?_)
                        have K := of_some hF
                        subst K
                        exact at_res1 rfl (res_cell (c := cK 3 (by decide)) (y := ⟨[.func (.func 110) #[] #[.pointer (some ⟨b34, 0, none⟩), .pointer (some ⟨b33, 0, none⟩)], .func (.func 112) #[] #[.pointer (some ⟨b33, 0, none⟩), .pointer (some ⟨b34, 0, none⟩)], .func (.func 114) #[] #[]], rfl, by simp [Value.oneCell']⟩) rfl (.s (.s .z)) (Lens.whole _ _) Tryz.isAgg81 Tryz.sizeOf81 (.inl rfl)) (fun w1 hw => ⟨_, rfl, ⟨b34, b33, rfl, hw.ok (Upd.mem .z), hw.ok (Upd.mem (.s .z)), hw.fp (Upd.mem .z) _ (by simp [cellsE]), hw.fp (Upd.mem (.s .z)) _ (by simp [cellsE]), fun e => Sep.apart .z hw.sep b34 (by simp [cellsE]) _ (Upd.mem .z) (by simp [cellsE, e])⟩, hw.below⟩)
                      · refine at_cond_false rfl h32 ?_
                        refine at_seq ?_
                        refine at_region ?_
                        refine at_val rfl rfl rfl (r_ieql rfl rfl) ?_
                        refine at_val rfl rfl rfl (r_assign rfl) ?_
                        refine at_nil ?_
                        refine at_weak [(2, _), (29, _)] ⟨rfl, rfl, trivial⟩ ?_
                        refine at_then_normal ?_
                        rcases of_ite hF with ⟨h36, hF⟩ | ⟨h36, hF⟩
                        · refine at_cond_true rfl h36 ?_
                          refine at_seq ?_
                          refine at_region ?_
                          refine at_callI Tryz.func65 rfl (by kernel_rfl) rfl rfl rfl rfl ?_
                          refine at_weak [(0, _), (1, _)] ⟨rfl, rfl, trivial⟩ ?_
                          refine at_seq ?_
                          refine at_region ?_
                          refine at_box (cs := Cd.cs (cInt .u64) 0) rfl rfl rfl ?_
                          intro b37
                          refine at_box (cs := Cd.cs (cInt .u64) 20) rfl rfl rfl ?_
                          intro b38
                          refine at_alloc (cs := [.nilFunc, .nilFunc, .nilFunc]) Tryz.zeroValue81 rfl rfl ?_
                          intro b39
                          refine at_nil ?_
                          refine at_weak [(2, _), (3, _), (4, _)] ⟨rfl, rfl, rfl, trivial⟩ ?_
                          refine at_then_normal ?_
                          refine at_seq ?_
                          refine at_region ?_
                          refine at_val rfl rfl rfl (r_makeFunc rfl) ?_
                          refine at_val rfl rfl rfl (r_makeFunc rfl) ?_
                          refine at_val rfl rfl rfl (r_build_struct (zs := [.nilFunc, .nilFunc, .nilFunc]) (cs := [.func (.func 110) #[] #[.pointer (some ⟨b38, 0, none⟩), .pointer (some ⟨b37, 0, none⟩)], .func (.func 112) #[] #[.pointer (some ⟨b37, 0, none⟩), .pointer (some ⟨b38, 0, none⟩)], .func (.func 114) #[] #[]]) Tryz.underlying81 Tryz.zeroValue81 rfl placesR_81 rfl rfl) ?_
                          refine at_storeAll (k := 3) (cs := [.func (.func 110) #[] #[.pointer (some ⟨b38, 0, none⟩), .pointer (some ⟨b37, 0, none⟩)], .func (.func 112) #[] #[.pointer (some ⟨b37, 0, none⟩), .pointer (some ⟨b38, 0, none⟩)], .func (.func 114) #[] #[]]) .z (by decide) ⟨rfl, by simp [Value.oneCell']⟩ ⟨rfl, by simp [Value.oneCell']⟩ Tryz.sizeOf81 rfl rfl rfl ?_
                          refine at_nil ?_
                          refine at_weak [(4, _)] ⟨rfl, trivial⟩ ?_
                          refine at_then_normal ?_
                          refine at_ret ?_
                          refine at_resI1 rfl (res_cell (c := cK 3 (by decide)) (y := ⟨[.func (.func 110) #[] #[.pointer (some ⟨b38, 0, none⟩), .pointer (some ⟨b37, 0, none⟩)], .func (.func 112) #[] #[.pointer (some ⟨b37, 0, none⟩), .pointer (some ⟨b38, 0, none⟩)], .func (.func 114) #[] #[]], rfl, by simp [Value.oneCell']⟩) rfl .z (Lens.whole _ _) Tryz.isAgg81 Tryz.sizeOf81 (.inl rfl)) ?_
                          refine at_storeAll (k := 3) (cs := [.func (.func 110) #[] #[.pointer (some ⟨b38, 0, none⟩), .pointer (some ⟨b37, 0, none⟩)], .func (.func 112) #[] #[.pointer (some ⟨b37, 0, none⟩), .pointer (some ⟨b38, 0, none⟩)], .func (.func 114) #[] #[]]) (.s (.s (.s .z))) (by decide) ⟨rfl, by simp [Value.oneCell']⟩ ⟨rfl, by simp [Value.oneCell']⟩ Tryz.sizeOf81 rfl rfl rfl ?_
                          refine at_nil ?_
                          refine at_drop (H := _) .z ?_
                          refine at_weak [(2, _)] ⟨rfl, trivial⟩ ?_
                          refine at_then_normal ?_
                          refine at_ret ?_
                          refine at_blk_ret (at_then_ret ?_)
                          have K := of_some hF
                          subst K
                          exact at_res1 rfl (res_cell (c := cK 3 (by decide)) (y := ⟨[.func (.func 110) #[] #[.pointer (some ⟨b38, 0, none⟩), .pointer (some ⟨b37, 0, none⟩)], .func (.func 112) #[] #[.pointer (some ⟨b37, 0, none⟩), .pointer (some ⟨b38, 0, none⟩)], .func (.func 114) #[] #[]], rfl, by simp [Value.oneCell']⟩) rfl (.s (.s .z)) (Lens.whole _ _) Tryz.isAgg81 Tryz.sizeOf81 (.inl rfl)) (fun w1 hw => ⟨_, rfl, ⟨b38, b37, rfl, hw.ok (Upd.mem .z), hw.ok (Upd.mem (.s .z)), hw.fp (Upd.mem .z) _ (by simp [cellsE]), hw.fp (Upd.mem (.s .z)) _ (by simp [cellsE]), fun e => Sep.apart .z hw.sep b38 (by simp [cellsE]) _ (Upd.mem .z) (by simp [cellsE, e])⟩, hw.below⟩)
                        · refine at_cond_false rfl h36 ?_
                          refine at_skip ?_
                          refine at_blk_normal (at_then_normal ?_)
                          refine at_seq ?_
                          refine at_region ?_
                          refine at_callI Tryz.func66 rfl (by kernel_rfl) rfl rfl rfl rfl ?_
                          refine at_weak [] trivial ?_
                          refine at_seq ?_
                          refine at_region ?_
                          refine at_alloc (cs := [.nilFunc, .nilFunc, .nilFunc]) Tryz.zeroValue81 rfl rfl ?_
                          intro b40
                          refine at_nil ?_
                          refine at_weak [(0, _)] ⟨rfl, trivial⟩ ?_
                          refine at_then_normal ?_
                          refine at_seq ?_
                          refine at_region ?_
                          refine at_val rfl rfl rfl (r_build_struct (zs := [.nilFunc, .nilFunc, .nilFunc]) (cs := [.func (.func 115) #[] #[], .func (.func 116) #[] #[], .func (.func 117) #[] #[]]) Tryz.underlying81 Tryz.zeroValue81 rfl placesR_81 rfl rfl) ?_
                          refine at_storeAll (k := 3) (cs := [.func (.func 115) #[] #[], .func (.func 116) #[] #[], .func (.func 117) #[] #[]]) .z (by decide) ⟨rfl, by simp [Value.oneCell']⟩ ⟨rfl, by simp [Value.oneCell']⟩ Tryz.sizeOf81 rfl rfl rfl ?_
                          refine at_nil ?_
                          refine at_weak [(0, _)] ⟨rfl, trivial⟩ ?_
                          refine at_then_normal ?_
                          refine at_ret ?_
                          refine at_resI1 rfl (res_cell (c := cK 3 (by decide)) (y := ⟨[.func (.func 115) #[] #[], .func (.func 116) #[] #[], .func (.func 117) #[] #[]], rfl, by simp [Value.oneCell']⟩) rfl .z (Lens.whole _ _) Tryz.isAgg81 Tryz.sizeOf81 (.inl rfl)) ?_
                          refine at_storeAll (k := 3) (cs := [.func (.func 115) #[] #[], .func (.func 116) #[] #[], .func (.func 117) #[] #[]]) (.s .z) (by decide) ⟨rfl, by simp [Value.oneCell']⟩ ⟨rfl, by simp [Value.oneCell']⟩ Tryz.sizeOf81 rfl rfl rfl ?_
                          refine at_nil ?_
                          refine at_drop (H := _) .z ?_
                          refine at_weak [(2, _)] ⟨rfl, trivial⟩ ?_
                          refine at_then_normal ?_
                          refine at_ret ?_
                          have K := of_some hF
                          subst K
                          exact at_res1 rfl (res_cell (c := cK 3 (by decide)) (y := ⟨[.func (.func 115) #[] #[], .func (.func 116) #[] #[], .func (.func 117) #[] #[]], rfl, by simp [Value.oneCell']⟩) rfl .z (Lens.whole _ _) Tryz.isAgg81 Tryz.sizeOf81 (.inl rfl)) (fun w1 hw => ⟨_, rfl, rfl, hw.below⟩)
end Go.Proofs.YtkkmmpofdcccmaaGreatDoor
