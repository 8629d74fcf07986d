/- Texts of this claim, those in one that belong together; printed by a program of this project. -/
import Derived.Test.YtkkmmpofdcccmaaGreatDoorProg
import Derived.Test.YtkkmmpofdcccmaaGreatDoorKScriptSame0
set_option linter.unusedVariables false
set_option linter.unusedSimpArgs false
namespace Go.Proofs.YtkkmmpofdcccmaaGreatDoor
open E Go.RowKit
theorem infoG39_is : (Tryz.prog.info? 9).isSome = true := by kernel_rfl
noncomputable def infoG39_v : TypeInfo := (Tryz.prog.info? 9).get infoG39_is
theorem infoG39 : Tryz.prog.info? 9 = some infoG39_v := (Option.some_get _).symm
def endian_sized (x0 : List Int) : Option (Bool) :=
  if (decide ((x0.length : Int) ≥ 1)) = true then (some (decide ((x0.length : Int) ≤ 8))) else (some false)
theorem endian_sized_ok (x0 : List Int) (p0_ : Option Addr) (c0_ : Nat) (r : Bool) (hF : endian_sized x0 = some r) (w : World) (hr0 : Row (cInt .u8) w p0_ c0_ x0) :
    Calls Tryz.prog 236 #[.slice p0_ x0.length c0_] w (fun e w' => e = .returned (.bool r) ∧ w' = w) := by
 unfold endian_sized at hF
 refine calls_enter (l := [.slice p0_ x0.length c0_]) Tryz.func236 rfl rfl rfl ?_
 refine at_weak [(0, _)] ⟨rfl, trivial⟩ ?_
 refine sr ?_
 refine av rfl (r_assign rfl) ?_
 refine nws [(0, _)] ⟨rfl, trivial⟩ ?_
 refine av rfl (r_move rfl) ?_
 refine av rfl (r_len_sl Tryz.underlying22 rfl) ?_
 refine av rfl (r_igeq rfl rfl) ?_
 refine av rfl (r_move rfl) ?_
 rcases of_ite hF with ⟨h1, hF⟩ | ⟨h1, hF⟩
 ·refine at_fix (g := 6) rfl h1 ?_
  refine at_guard_yes rfl rfl rfl ?_
  refine av rfl (r_move rfl) ?_
  refine at_guard_yes rfl rfl rfl ?_
  refine av rfl (r_len_sl Tryz.underlying22 rfl) ?_
  refine at_guard_yes rfl rfl rfl ?_
  refine av rfl (r_ileq rfl rfl) ?_
  refine av rfl (r_pick rfl rfl rfl) ?_
  refine av rfl (r_assign rfl) ?_
  refine nwt [(2, _)] ⟨rfl, trivial⟩ ?_
  refine at_ret ?_
  have K := of_some hF
  subst K
  exact at_return1 rfl rfl (fun w1 hw => ⟨rfl, hw⟩)
 ·refine at_fix (g := 6) rfl h1 ?_
  refine at_guard_no rfl rfl rfl rfl rfl ?_
  refine at_guard_no rfl rfl rfl rfl rfl ?_
  refine at_guard_no rfl rfl rfl rfl rfl ?_
  refine av rfl (r_pick rfl rfl rfl) ?_
  refine av rfl (r_assign rfl) ?_
  refine nwt [(2, _)] ⟨rfl, trivial⟩ ?_
  refine at_ret ?_
  have K := of_some hF
  subst K
  exact at_return1 rfl rfl (fun w1 hw => ⟨rfl, hw⟩)
def endian_OfBig.l0 (x0 : List Int) (i4 : Int) (i5 : Int) : Option (Int) :=
  if (decide (i5 < (x0.length : Int))) = true then (if (0 : Int) ≤ i5 ∧ i5 < (x0.length : Int) then endian_OfBig.l0 x0 (ior .u64 (ishl .u64 i4 8) (wr .u64 (lget x0 i5))) (wr .i64 (i5 + 1)) else none) else (some i4)
  partial_fixpoint
def endian_OfBig (x0 : List Int) : Option (Int × Int) :=
  endian_sized x0 >>= fun t1 => if (!t1) = true then (some (0, 1)) else (endian_OfBig.l0 x0 0 0 >>= fun q3 => some (q3, 0))
theorem endian_OfBig_ok (x0 : List Int) (p0_ : Option Addr) (c0_ : Nat) (r : Int × Int) (hF : endian_OfBig x0 = some r) (w : World) (hr0 : Row (cInt .u8) w p0_ c0_ x0) :
    Calls Tryz.prog 221 #[.slice p0_ x0.length c0_] w (fun e w' => e = .returned (.tuple #[.int .u64 r.1, .int .i64 r.2]) ∧ w' = w) := by
 unfold endian_OfBig at hF
 refine calls_enter (l := [.slice p0_ x0.length c0_]) Tryz.func221 rfl rfl rfl ?_
 refine at_weak [(0, _)] ⟨rfl, trivial⟩ ?_
 refine sr ?_
 refine av rfl (r_assign rfl) ?_
 refine av rfl (r_assign rfl) ?_
 refine nwt [(0, _)] ⟨rfl, trivial⟩ ?_
 refine at_seq ?_
 refine sr ?_
 refine av rfl (r_move rfl) ?_
 obtain ⟨t1, ht1, hF⟩ := of_bindM hF
 refine at_call0w Tryz.func236 rfl (by kernel_rfl) rfl rfl (fun w hw => endian_sized_ok _ _ _ _ ht1 w (hr0.below (by subst hw; exact Below.refl _ _))) ?_
 refine av rfl (r_not rfl) ?_
 refine nwt [(0, _), (9, _)] ⟨rfl, rfl, trivial⟩ ?_
 rcases of_ite hF with ⟨h2, hF⟩ | ⟨h2, hF⟩
 ·refine at_cond_true rfl h2 ?_
  refine sr ?_
  refine av rfl (r_assign rfl) ?_
  refine av rfl (r_assign rfl) ?_
  refine nwt [(2, _), (3, _)] ⟨rfl, rfl, trivial⟩ ?_
  refine rt ?_
  have K := of_some hF
  subst K
  exact at_return2 rfl rfl rfl (fun w1 hw => ⟨rfl, hw⟩)
 ·refine at_cond_false rfl h2 ?_
  refine sns ?_
  refine av rfl (r_assign rfl) ?_
  refine nwt [(0, _), (4, _)] ⟨rfl, rfl, trivial⟩ ?_
  refine at_seq ?_
  refine sr ?_
  refine av rfl (r_move rfl) ?_
  refine av rfl (r_len_sl Tryz.underlying22 rfl) ?_
  refine av rfl (r_move rfl) ?_
  refine nwt [(4, _), (10, _), (11, _), (12, _)] ⟨rfl, rfl, rfl, rfl, trivial⟩ ?_
  refine at_block ?_
  obtain ⟨q3, hq3, hF⟩ := of_bindM hF
  refine at_weak [(4, _), (10, _), (11, _), (12, _)] ⟨rfl, rfl, rfl, rfl, trivial⟩ ?_
  refine at_loop_n (B := 0) (A := fun Y => At 23 [(4, .int .u64 q3)] (fun w' => w' = w) Y) ?_ ?_
  ·intro K
   refine endian_OfBig.l0.partial_correctness x0 (motive := fun i4 i5 x => KN (fun Y => At 23 [(4, .int .u64 x)] (fun w' => w' = w) Y) _ 0 → Round (fun Y => At 23 [(4, .int .u64 i4), (10, .slice p0_ x0.length c0_), (11, .int .i64 (x0.length : Int)), (12, .int .i64 i5)] (fun w' => w' = w) Y) _ _ _) ?_ _ _ _ hq3 K
   ·clear K hF
    intro g ih i4 i5 x hF K
    refine at_round ?_
    refine sr ?_
    refine av rfl (r_ilss rfl rfl) ?_
    refine nwt [(4, _), (10, _), (11, _), (12, _), (13, _)] ⟨rfl, rfl, rfl, rfl, rfl, trivial⟩ ?_
    refine at_seq ?_
    rcases of_ite hF with ⟨h6, hF⟩ | ⟨h6, hF⟩
    ·refine at_cond_true rfl h6 ?_
     refine sn ?_
     refine at_seq ?_
     refine at_block ?_
     refine sr ?_
     obtain ⟨h7, hF⟩ := of_guard hF
     obtain ⟨b9, o10, hp8⟩ := row_ptr hr0 h7
     refine av rfl (r_idx Tryz.underlying22 Tryz.sizeOf5 rfl rfl h7 hp8) ?_
     refine av rfl (r_load_cell Tryz.isAgg5 rfl (row_cell0 (fun w1 (h : w1 = w) => by subst h; exact Below.refl _ _) hr0 h7 hp8 rfl)) ?_
     refine av rfl (r_assign rfl) ?_
     refine nwt [(4, _), (6, _), (10, _), (11, _), (12, _)] ⟨rfl, rfl, rfl, rfl, rfl, trivial⟩ ?_
     refine at_region ?_
     refine av rfl (r_move rfl) ?_
     refine av rfl (r_ishl rfl rfl (by decide)) ?_
     refine av rfl (r_move rfl) ?_
     refine av rfl (r_conv Tryz.underlying5 Tryz.underlying31 rfl) ?_
     refine av rfl (r_ior rfl rfl) ?_
     refine av rfl (r_assign rfl) ?_
     refine at_nil ?_
     refine at_weak [(4, _), (10, _), (11, _), (12, _)] ⟨rfl, rfl, rfl, rfl, trivial⟩ ?_
     refine at_blk_normal (at_then_normal ?_)
     refine at_region ?_
     refine av rfl (r_iadd rfl rfl) ?_
     refine av rfl (r_move rfl) ?_
     refine nwt [(4, _), (10, _), (11, _), (12, _)] ⟨rfl, rfl, rfl, rfl, trivial⟩ ?_
     exact at_weak_k (ih _ _ _ hF K) ⟨rfl, rfl, rfl, rfl, trivial⟩
    ·refine at_cond_false rfl h6 ?_
     refine at_exit ?_
     refine at_then_exit (at_then_exit ?_)
     obtain rfl := of_some hF
     exact at_weak_k K ⟨rfl, trivial⟩
  ·skip
   skip
   refine at_blk_same ?_
   refine at_then_normal ?_
   refine sr ?_
   refine av rfl (r_move rfl) ?_
   refine av rfl (r_assign rfl) ?_
   refine av rfl (r_assign rfl) ?_
   refine nwt [(2, _), (3, _)] ⟨rfl, rfl, trivial⟩ ?_
   refine at_ret ?_
   have K := of_some hF
   subst K
   exact at_return2 rfl rfl rfl (fun w1 hw => ⟨rfl, hw⟩)
def colon_groups.l0 (x0 : (Vector Int 16)) (i5 : Int) (i6 : (Vector Int 8)) : Option ((Vector Int 8)) :=
  if (decide (i5 < 8)) = true then (if (0 : Int) ≤ wr .i64 (2 * i5) ∧ wr .i64 (2 * i5) ≤ wr .i64 ((wr .i64 (2 * i5)) + 2) ∧ wr .i64 ((wr .i64 (2 * i5)) + 2) ≤ (16 : Int) then endian_OfBig (lsub (Vector.toList x0) (wr .i64 (2 * i5)) (wr .i64 ((wr .i64 (2 * i5)) + 2))) >>= fun t9 => if (0 : Int) ≤ i5 ∧ i5 < 8 then colon_groups.l0 x0 (wr .i64 (i5 + 1)) (vset i6 i5 (wr .u16 t9.1)) else none else none) else (some i6)
  partial_fixpoint
def colon_groups (x0 : (Vector Int 16)) : Option ((Vector Int 8)) :=
  colon_groups.l0 x0 0 (Vector.replicate 8 (0 : Int) : (Vector Int 8)) >>= fun q4 => some q4
theorem colon_groups_ok (x0 : (Vector Int 16)) (r : (Vector Int 8)) (hF : colon_groups x0 = some r) (w : World) :
    Calls Tryz.prog 199 #[.agg (Cd.cs (cVec (cInt .u8) 16 (by decide)) x0).toArray] w (fun e w' => e = .returned (.agg (Cd.cs (cVec (cInt .u16) 8 (by decide)) r).toArray) ∧ Below w.heap.size w w') := by
 unfold colon_groups at hF
 refine calls_enter (l := [.agg (Cd.cs (cVec (cInt .u8) 16 (by decide)) x0).toArray]) Tryz.func199 rfl rfl rfl ?_
 refine at_start ?_
 refine at_weak [(0, _)] ⟨rfl, trivial⟩ ?_
 refine sr ?_
 refine at_box (cs := Cd.cs (cVec (cInt .u8) 16 (by decide)) x0) rfl rfl rfl ?_
 intro b1
 refine at_alloc (cs := Cd.cs (cVec (cInt .u16) 8 (by decide)) (Vector.replicate 8 (0 : Int) : (Vector Int 8))) Tryz.zeroValue208 rfl rfl ?_
 intro b2
 refine nws [(1, _), (2, _)] ⟨rfl, rfl, trivial⟩ ?_
 refine at_alloc (cs := Cd.cs (cVec (cInt .u16) 8 (by decide)) (Vector.replicate 8 (0 : Int) : (Vector Int 8))) Tryz.zeroValue208 rfl rfl ?_
 intro b3
 refine nwt [(1, _), (2, _), (3, _)] ⟨rfl, rfl, rfl, trivial⟩ ?_
 refine at_seq ?_
 refine sr ?_
 refine av rfl (r_move rfl) ?_
 refine nwt [(1, _), (2, _), (3, _), (7, _)] ⟨rfl, rfl, rfl, rfl, trivial⟩ ?_
 refine at_block ?_
 obtain ⟨q4, hq4, hF⟩ := of_bindM hF
 refine at_weak [(1, _), (2, _), (3, _), (7, _)] ⟨rfl, rfl, rfl, rfl, trivial⟩ ?_
 refine at_loop_n (B := 0) (A := fun Y => At 26 [(2, .pointer (some ⟨b2, 0, none⟩)), (3, .pointer (some ⟨b3, 0, none⟩))] (Wd w [cellsE b3 (Cd.cs (cVec (cInt .u16) 8 (by decide)) q4) 208, cellsE b2 (Cd.cs (cVec (cInt .u16) 8 (by decide)) (Vector.replicate 8 (0 : Int) : (Vector Int 8))) 208]) Y) ?_ ?_
 ·intro K
  refine colon_groups.l0.partial_correctness x0 (motive := fun i5 i6 x => KN (fun Y => At 26 [(2, .pointer (some ⟨b2, 0, none⟩)), (3, .pointer (some ⟨b3, 0, none⟩))] (Wd w [cellsE b3 (Cd.cs (cVec (cInt .u16) 8 (by decide)) x) 208, cellsE b2 (Cd.cs (cVec (cInt .u16) 8 (by decide)) (Vector.replicate 8 (0 : Int) : (Vector Int 8))) 208]) Y) _ 0 → Round (fun Y => At 26 [(1, .pointer (some ⟨b1, 0, none⟩)), (2, .pointer (some ⟨b2, 0, none⟩)), (3, .pointer (some ⟨b3, 0, none⟩)), (7, .int .i64 i5)] (Wd w [cellsE b3 (Cd.cs (cVec (cInt .u16) 8 (by decide)) i6) 208, cellsE b2 (Cd.cs (cVec (cInt .u16) 8 (by decide)) (Vector.replicate 8 (0 : Int) : (Vector Int 8))) 208, cellsE b1 (Cd.cs (cVec (cInt .u8) 16 (by decide)) x0) 23]) Y) _ _ _) ?_ _ _ _ hq4 K
  ·clear K hF
   intro g ih i5 i6 x hF K
   refine at_round ?_
   refine sr ?_
   refine av rfl (r_ilss rfl rfl) ?_
   refine nwt [(1, _), (2, _), (3, _), (7, _), (8, _)] ⟨rfl, rfl, rfl, rfl, rfl, trivial⟩ ?_
   refine at_seq ?_
   rcases of_ite hF with ⟨h7, hF⟩ | ⟨h7, hF⟩
   ·refine at_cond_true rfl h7 ?_
    refine sn ?_
    refine at_seq ?_
    refine at_block ?_
    refine sr ?_
    refine av rfl (r_move rfl) ?_
    refine av rfl (r_assign rfl) ?_
    refine nws [(1, _), (2, _), (3, _), (4, _), (7, _)] ⟨rfl, rfl, rfl, rfl, rfl, trivial⟩ ?_
    refine av rfl (r_move rfl) ?_
    refine av rfl (r_imul rfl rfl) ?_
    refine av rfl (r_move rfl) ?_
    refine av rfl (r_imul rfl rfl) ?_
    refine av rfl (r_iadd rfl rfl) ?_
    obtain ⟨h8, hF⟩ := of_guard hF
    refine av rfl (r_view (c := (cInt .u8)) (v := x0) (l := wr .i64 (2 * i5)) (h := wr .i64 ((wr .i64 (2 * i5)) + 2)) Tryz.underlying23 Tryz.sizeOf5 rfl ⟨_, rfl⟩ ⟨_, rfl⟩ h8) ?_
    obtain ⟨t9, ht9, hF⟩ := of_bindM hF
    refine at_callB Tryz.func221 rfl (by kernel_rfl) rfl rfl (fun w hw => callB_of_call0 (endian_OfBig_ok _ _ _ _ ht9 w (Row.sub (lens_row (.s (.s .z)) (Lens.whole _ _) hw) (vbnd h8)))) ?_
    refine av rfl (r_move rfl) ?_
    refine av rfl (r_extract rfl rfl) ?_
    refine av rfl (r_extract rfl rfl) ?_
    refine av rfl (r_assign rfl) ?_
    refine av rfl (r_assign rfl) ?_
    refine nwt [(1, _), (2, _), (3, _), (4, _), (5, _), (7, _)] ⟨rfl, rfl, rfl, rfl, rfl, rfl, trivial⟩ ?_
    refine at_region ?_
    refine av rfl (r_move rfl) ?_
    refine av rfl (r_move rfl) ?_
    refine av rfl (r_conv Tryz.underlying31 Tryz.underlying191 rfl) ?_
    obtain ⟨h10, hF⟩ := of_guard hF
    refine av rfl (r_idxArr Tryz.underlying208 Tryz.sizeOf191 rfl rfl h10) ?_
    refine at_store (c := (cInt .u16)) (z := wr .u16 t9.1) .z (Lens.comp (Lens.whole _ _) (fun z => vset i6 i5 z) (Lens.vec (cInt .u16) (by decide) i6 i5 h10)) Tryz.sizeOf191 rfl rfl rfl ?_
    refine at_nil ?_
    refine at_weak [(1, _), (2, _), (3, _), (7, _)] ⟨rfl, rfl, rfl, rfl, trivial⟩ ?_
    refine at_blk_normal (at_then_normal ?_)
    refine at_region ?_
    refine av rfl (r_iadd rfl rfl) ?_
    refine av rfl (r_move rfl) ?_
    refine nwt [(1, _), (2, _), (3, _), (7, _)] ⟨rfl, rfl, rfl, rfl, trivial⟩ ?_
    exact at_weak_k (ih _ _ _ hF K) ⟨rfl, rfl, rfl, rfl, trivial⟩
   ·refine at_cond_false rfl h7 ?_
    refine at_exit ?_
    refine at_then_exit (at_then_exit ?_)
    refine at_drop (H := _) (.s (.s .z)) ?_
    obtain rfl := of_some hF
    exact at_weak_k K ⟨rfl, rfl, trivial⟩
 ·skip
  skip
  refine at_blk_same ?_
  refine at_then_normal ?_
  refine sr ?_
  refine av rfl (r_load_aggc (c := (cVec (cInt .u16) 8 (by decide))) (z := q4) Tryz.isAgg208 Tryz.sizeOf208 rfl (lens_cell .z (Lens.whole _ _))) ?_
  refine at_store (c := (cVec (cInt .u16) 8 (by decide))) (z := q4) (.s .z) (Lens.whole _ _) Tryz.sizeOf208 rfl rfl rfl ?_
  refine at_nil ?_
  refine at_drop (H := _) .z ?_
  refine at_weak [(2, _)] ⟨rfl, trivial⟩ ?_
  refine at_then_normal ?_
  refine at_ret ?_
  have K := of_some hF
  subst K
  exact at_res1 rfl (res_cell (c := (cVec (cInt .u16) 8 (by decide))) (y := q4) rfl .z (Lens.whole _ _) Tryz.isAgg208 Tryz.sizeOf208 (.inl rfl)) (fun w1 hw => ⟨rfl, hw.below⟩)
def colon_longest.l0 (x0 : (Vector Int 8)) (i3 : Int) (i4 : Int) (i5 : Int) (i6 : Int) : Option (Int × Int) :=
  if (decide (i6 < 8)) = true then (if (0 : Int) ≤ i6 ∧ i6 < 8 then if (vget x0 i6 != 0) = true then (colon_longest.l0 x0 i3 i4 0 (wr .i64 (i6 + 1))) else (if (decide (wr .i64 (i5 + 1) > i4)) = true then (colon_longest.l0 x0 (wr .i64 ((wr .i64 (i6 + 1)) - (wr .i64 (i5 + 1)))) (wr .i64 (i5 + 1)) (wr .i64 (i5 + 1)) (wr .i64 (i6 + 1))) else (colon_longest.l0 x0 i3 i4 (wr .i64 (i5 + 1)) (wr .i64 (i6 + 1)))) else none) else (some (i3, i4))
  partial_fixpoint
def colon_longest (x0 : (Vector Int 8)) : Option (Int × Int) :=
  colon_longest.l0 x0 0 0 0 0 >>= fun q2 => some (q2.1, q2.2)
theorem colon_longest_ok (x0 : (Vector Int 8)) (r : Int × Int) (hF : colon_longest x0 = some r) (w : World) :
    Calls Tryz.prog 200 #[.agg (Cd.cs (cVec (cInt .u16) 8 (by decide)) x0).toArray] w (fun e w' => e = .returned (.tuple #[.int .i64 r.1, .int .i64 r.2]) ∧ Below w.heap.size w w') := by
 unfold colon_longest at hF
 refine calls_enter (l := [.agg (Cd.cs (cVec (cInt .u16) 8 (by decide)) x0).toArray]) Tryz.func200 rfl rfl rfl ?_
 refine at_start ?_
 refine at_weak [(0, _)] ⟨rfl, trivial⟩ ?_
 refine sr ?_
 refine at_box (cs := Cd.cs (cVec (cInt .u16) 8 (by decide)) x0) rfl rfl rfl ?_
 intro b1
 refine av rfl (r_assign rfl) ?_
 refine av rfl (r_assign rfl) ?_
 refine nws [(1, _), (2, _), (3, _)] ⟨rfl, rfl, rfl, trivial⟩ ?_
 refine av rfl (r_assign rfl) ?_
 refine nwt [(1, _), (2, _), (3, _), (4, _)] ⟨rfl, rfl, rfl, rfl, trivial⟩ ?_
 refine at_seq ?_
 refine sr ?_
 refine av rfl (r_load_aggc (c := (cVec (cInt .u16) 8 (by decide))) (z := x0) Tryz.isAgg208 Tryz.sizeOf208 rfl (lens_cell .z (Lens.whole _ _))) ?_
 refine av rfl (r_move rfl) ?_
 refine at_nil ?_
 refine at_drop (H := _) .z ?_
 refine at_weak [(2, _), (3, _), (4, _), (7, _), (8, _)] ⟨rfl, rfl, rfl, rfl, rfl, trivial⟩ ?_
 refine at_then_normal ?_
 refine at_block ?_
 obtain ⟨q2, hq2, hF⟩ := of_bindM hF
 refine at_weak [(2, _), (3, _), (4, _), (7, _), (8, _)] ⟨rfl, rfl, rfl, rfl, rfl, trivial⟩ ?_
 refine at_loop_n (B := 0) (A := fun Y => At 27 [(2, .int .i64 q2.1), (3, .int .i64 q2.2)] (Wd w []) Y) ?_ ?_
 ·intro K
  refine colon_longest.l0.partial_correctness x0 (motive := fun i3 i4 i5 i6 x => KN (fun Y => At 27 [(2, .int .i64 x.1), (3, .int .i64 x.2)] (Wd w []) Y) _ 0 → Round (fun Y => At 27 [(2, .int .i64 i3), (3, .int .i64 i4), (4, .int .i64 i5), (7, .agg (Cd.cs (cVec (cInt .u16) 8 (by decide)) x0).toArray), (8, .int .i64 i6)] (Wd w []) Y) _ _ _) ?_ _ _ _ _ _ hq2 K
  ·clear K hF
   intro g ih i3 i4 i5 i6 x hF K
   refine at_round ?_
   refine sr ?_
   refine av rfl (r_ilss rfl rfl) ?_
   refine nwt [(2, _), (3, _), (4, _), (7, _), (8, _), (9, _)] ⟨rfl, rfl, rfl, rfl, rfl, rfl, trivial⟩ ?_
   refine at_seq ?_
   rcases of_ite hF with ⟨h7, hF⟩ | ⟨h7, hF⟩
   ·refine at_cond_true rfl h7 ?_
    refine sn ?_
    refine at_seq ?_
    refine at_block ?_
    refine sr ?_
    refine av rfl (r_move rfl) ?_
    obtain ⟨h8, hF⟩ := of_guard hF
    refine av rfl (r_idxVal Tryz.underlying208 Tryz.sizeOf191 rfl rfl h8 (part_vOf (Lens.vec (cInt .u16) (by decide) x0 i6 h8) Tryz.isAgg191 Tryz.sizeOf191 (.inr rfl))) ?_
    refine av rfl (r_assign rfl) ?_
    refine av rfl (r_assign rfl) ?_
    refine nwt [(2, _), (3, _), (4, _), (5, _), (6, _), (7, _), (8, _)] ⟨rfl, rfl, rfl, rfl, rfl, rfl, rfl, trivial⟩ ?_
    refine at_seq ?_
    refine sr ?_
    refine av rfl (r_move rfl) ?_
    refine av rfl (r_ineq rfl rfl) ?_
    refine nwt [(2, _), (3, _), (4, _), (5, _), (7, _), (8, _), (13, _)] ⟨rfl, rfl, rfl, rfl, rfl, rfl, rfl, trivial⟩ ?_
    rcases of_ite hF with ⟨h9, hF⟩ | ⟨h9, hF⟩
    ·refine at_cond_true rfl h9 ?_
     refine sr ?_
     refine av rfl (r_assign rfl) ?_
     refine nwt [(2, _), (3, _), (4, _), (7, _), (8, _)] ⟨rfl, rfl, rfl, rfl, rfl, trivial⟩ ?_
     refine at_exit ?_
     refine at_then_exit (at_blk_same (at_then_normal ?_))
     refine at_region ?_
     refine av rfl (r_iadd rfl rfl) ?_
     refine av rfl (r_move rfl) ?_
     refine nwt [(2, _), (3, _), (4, _), (7, _), (8, _)] ⟨rfl, rfl, rfl, rfl, rfl, trivial⟩ ?_
     exact at_weak_k (ih _ _ _ _ _ hF K) ⟨rfl, rfl, rfl, rfl, rfl, trivial⟩
    ·refine at_cond_false rfl h9 ?_
     refine sns ?_
     refine av rfl (r_move rfl) ?_
     refine av rfl (r_iadd rfl rfl) ?_
     refine av rfl (r_assign rfl) ?_
     refine nws [(2, _), (3, _), (4, _), (5, _), (7, _), (8, _)] ⟨rfl, rfl, rfl, rfl, rfl, rfl, trivial⟩ ?_
     refine av rfl (r_move rfl) ?_
     refine av rfl (r_move rfl) ?_
     refine av rfl (r_igtr rfl rfl) ?_
     refine nwt [(2, _), (3, _), (4, _), (5, _), (7, _), (8, _), (18, _)] ⟨rfl, rfl, rfl, rfl, rfl, rfl, rfl, trivial⟩ ?_
     rcases of_ite hF with ⟨h10, hF⟩ | ⟨h10, hF⟩
     ·refine at_cond_true rfl h10 ?_
      refine at_region ?_
      refine av rfl (r_move rfl) ?_
      refine av rfl (r_iadd rfl rfl) ?_
      refine av rfl (r_move rfl) ?_
      refine av rfl (r_isub rfl rfl) ?_
      refine av rfl (r_move rfl) ?_
      refine av rfl (r_assign rfl) ?_
      refine av rfl (r_assign rfl) ?_
      refine at_nil ?_
      refine at_weak [(2, _), (3, _), (4, _), (7, _), (8, _)] ⟨rfl, rfl, rfl, rfl, rfl, trivial⟩ ?_
      refine at_blk_normal (at_then_normal ?_)
      refine at_region ?_
      refine av rfl (r_iadd rfl rfl) ?_
      refine av rfl (r_move rfl) ?_
      refine nwt [(2, _), (3, _), (4, _), (7, _), (8, _)] ⟨rfl, rfl, rfl, rfl, rfl, trivial⟩ ?_
      exact at_weak_k (ih _ _ _ _ _ hF K) ⟨rfl, rfl, rfl, rfl, rfl, trivial⟩
     ·refine at_cond_false rfl h10 ?_
      refine at_skip ?_
      refine at_blk_normal (at_then_normal ?_)
      refine at_region ?_
      refine av rfl (r_iadd rfl rfl) ?_
      refine av rfl (r_move rfl) ?_
      refine nwt [(2, _), (3, _), (4, _), (7, _), (8, _)] ⟨rfl, rfl, rfl, rfl, rfl, trivial⟩ ?_
      exact at_weak_k (ih _ _ _ _ _ hF K) ⟨rfl, rfl, rfl, rfl, rfl, trivial⟩
   ·refine at_cond_false rfl h7 ?_
    refine at_exit ?_
    refine at_then_exit (at_then_exit ?_)
    obtain rfl := of_some hF
    exact at_weak_k K ⟨rfl, rfl, trivial⟩
 ·skip
  skip
  refine at_blk_same ?_
  refine at_then_normal ?_
  refine sr ?_
  refine av rfl (r_move rfl) ?_
  refine av rfl (r_move rfl) ?_
  refine av rfl (r_assign rfl) ?_
  refine av rfl (r_assign rfl) ?_
  refine nwt [(2, _), (3, _)] ⟨rfl, rfl, trivial⟩ ?_
  refine at_ret ?_
  have K := of_some hF
  subst K
  exact at_return2 rfl rfl rfl (fun w1 hw => ⟨rfl, hw.below⟩)
def hexes_Group.l0 (i2 : Int) (i3 : ByteArray) : Option (ByteArray) :=
  if (0 : Int) ≤ iand .u16 i2 15 ∧ iand .u16 i2 15 < ((⟨#[48, 49, 50, 51, 52, 53, 54, 55, 56, 57, 97, 98, 99, 100, 101, 102]⟩ : ByteArray).size : Int) then if (Utf8.encode (bt (⟨#[48, 49, 50, 51, 52, 53, 54, 55, 56, 57, 97, 98, 99, 100, 101, 102]⟩ : ByteArray) (iand .u16 i2 15))).size + i3.size ≤ 140737488355328 then if (ishr .u16 i2 4 == 0) = true then (some ((Utf8.encode (bt (⟨#[48, 49, 50, 51, 52, 53, 54, 55, 56, 57, 97, 98, 99, 100, 101, 102]⟩ : ByteArray) (iand .u16 i2 15))) ++ i3)) else (hexes_Group.l0 (ishr .u16 i2 4) ((Utf8.encode (bt (⟨#[48, 49, 50, 51, 52, 53, 54, 55, 56, 57, 97, 98, 99, 100, 101, 102]⟩ : ByteArray) (iand .u16 i2 15))) ++ i3)) else none else none
  partial_fixpoint
def hexes_Group (x0 : Int) : Option (ByteArray) :=
  hexes_Group.l0 x0 (⟨#[]⟩) >>= fun q1 => some q1
theorem hexes_Group_ok (x0 : Int) (r : ByteArray) (hF : hexes_Group x0 = some r) (w : World) :
    Calls Tryz.prog 222 #[.int .u16 x0] w (fun e w' => e = .returned (.string r) ∧ w' = w) := by
 unfold hexes_Group at hF
 refine calls_enter (l := [.int .u16 x0]) Tryz.func222 rfl rfl rfl ?_
 refine at_weak [(0, _)] ⟨rfl, trivial⟩ ?_
 refine sr ?_
 refine av rfl (r_assign rfl) ?_
 refine nws [(0, _)] ⟨rfl, trivial⟩ ?_
 refine av rfl (r_assign rfl) ?_
 refine nwt [(0, _), (3, _)] ⟨rfl, rfl, trivial⟩ ?_
 refine at_block ?_
 obtain ⟨q1, hq1, hF⟩ := of_bindM hF
 refine at_weak [(0, _), (3, _)] ⟨rfl, rfl, trivial⟩ ?_
 refine at_loop_only (r := r) (q := q1) ?_ ?_
 ·intro K
  refine hexes_Group.l0.partial_correctness  (motive := fun i2 i3 x => x = r → Round (fun Y => At 15 [(0, .int .u16 i2), (3, .string i3)] (fun w' => w' = w) Y) _ _ _) ?_ _ _ _ hq1 K
  ·clear K hF
   intro g ih i2 i3 x hF K
   refine at_round ?_
   refine at_block ?_
   refine sr ?_
   refine av rfl (r_move rfl) ?_
   refine av rfl (r_iand rfl rfl) ?_
   obtain ⟨h4, hF⟩ := of_guard hF
   refine av rfl (r_index_str Tryz.underlying9 rfl rfl h4) ?_
   refine av rfl (r_conv_str Tryz.underlying5 Tryz.underlying9 rfl) ?_
   refine av rfl (r_move rfl) ?_
   obtain ⟨h5, hF⟩ := of_guard hF
   refine av rfl (r_concat rfl rfl h5) ?_
   refine av rfl (r_assign rfl) ?_
   refine nws [(0, _), (3, _)] ⟨rfl, rfl, trivial⟩ ?_
   refine av rfl (r_move rfl) ?_
   refine av rfl (r_ishr rfl rfl (by decide)) ?_
   refine av rfl (r_assign rfl) ?_
   refine nws [(0, _), (3, _)] ⟨rfl, rfl, trivial⟩ ?_
   refine av rfl (r_move rfl) ?_
   refine av rfl (r_ieql rfl rfl) ?_
   refine nwt [(0, _), (3, _), (13, _)] ⟨rfl, rfl, rfl, trivial⟩ ?_
   rcases of_ite hF with ⟨h6, hF⟩ | ⟨h6, hF⟩
   ·refine at_cond_true rfl h6 ?_
    refine sr ?_
    refine av rfl (r_move rfl) ?_
    refine av rfl (r_assign rfl) ?_
    refine nwt [(2, _)] ⟨rfl, trivial⟩ ?_
    refine at_ret ?_
    refine at_blk_ret (at_then_ret (at_blk_ret ?_))
    obtain rfl := of_some hF
    subst K
    exact at_return1 rfl rfl (fun w1 hw => ⟨rfl, hw⟩)
   ·refine at_cond_false rfl h6 ?_
    refine at_skip ?_
    refine at_blk_normal (at_then_normal ?_)
    exact at_weak_k (ih _ _ _ hF K) ⟨rfl, rfl, trivial⟩
 ·exact of_some hF
def colon_row.l0 (x0 : List Int) (i4 : List ByteArray) (i5 : Int) : Option (List ByteArray) :=
  if (decide (i5 < (x0.length : Int))) = true then (if (0 : Int) ≤ i5 ∧ i5 < (x0.length : Int) then hexes_Group (lget x0 i5) >>= fun t15 => if (i4.length + 1) * 16 ≤ 140737488355328 then colon_row.l0 x0 (i4 ++ [t15]) (wr .i64 (i5 + 1)) else none else none) else (some i4)
  partial_fixpoint
def colon_row (x0 : List Int) : Option (ByteArray) :=
  colon_row.l0 x0 ([] : List ByteArray) 0 >>= fun q3 => if List.length q3 ≤ 140737488355328 then if (bjoin q3 (⟨#[58]⟩ : ByteArray)).size ≤ 140737488355328 then some (bjoin q3 (⟨#[58]⟩ : ByteArray)) else none else none
theorem colon_row_ok (x0 : List Int) (p0_ : Option Addr) (c0_ : Nat) (r : ByteArray) (hF : colon_row x0 = some r) (w : World) (hr0 : Row (cInt .u16) w p0_ c0_ x0) :
    Calls Tryz.prog 201 #[.slice p0_ x0.length c0_] w (fun e w' => e = .returned (.string r) ∧ Below w.heap.size w w') := by
 unfold colon_row at hF
 refine calls_enter (l := [.slice p0_ x0.length c0_]) Tryz.func201 rfl rfl rfl ?_
 refine at_start ?_
 refine at_weak [(0, _)] ⟨rfl, trivial⟩ ?_
 refine sr ?_
 refine av rfl (r_assign rfl) ?_
 refine nws [(0, _)] ⟨rfl, trivial⟩ ?_
 refine av rfl (r_assign rfl) ?_
 refine nwt [(0, _), (3, _)] ⟨rfl, rfl, trivial⟩ ?_
 refine at_seq ?_
 refine sr ?_
 refine av rfl (r_move rfl) ?_
 refine av rfl (r_len_sl Tryz.underlying218 rfl) ?_
 refine av rfl (r_move rfl) ?_
 refine nwt [(3, _), (6, _), (7, _), (8, _)] ⟨rfl, rfl, rfl, rfl, trivial⟩ ?_
 refine at_block ?_
 refine at_own_nil cStr 9 ?_
 refine at_weak [(3, .slice none ([] : List ByteArray).length 0), (6, _), (7, _), (8, _)] ⟨rfl, rfl, rfl, rfl, trivial⟩ ?_
 obtain ⟨q3, hq3, hF⟩ := of_bindM hF
 refine at_weak [(3, _), (6, _), (7, _), (8, _)] ⟨rfl, rfl, rfl, rfl, trivial⟩ ?_
 refine at_loop_n (B := 0) (A := fun Y => ∀ (p8 : Option Addr) (c9 : Nat), At 20 [(3, .slice p8 q3.length c9)] (Wd w [rowE cStr 9 p8 c9 q3]) Y) ?_ ?_
 ·intro K
  refine colon_row.l0.partial_correctness x0 (motive := fun i4 i5 x => KN (fun Y => ∀ (p8 : Option Addr) (c9 : Nat), At 20 [(3, .slice p8 x.length c9)] (Wd w [rowE cStr 9 p8 c9 x]) Y) _ 0 → Round (fun Y => ∀ (p6 : Option Addr) (c7 : Nat), At 20 [(3, .slice p6 i4.length c7), (6, .slice p0_ x0.length c0_), (7, .int .i64 (x0.length : Int)), (8, .int .i64 i5)] (Wd w [rowE cStr 9 p6 c7 i4]) Y) _ _ _) ?_ _ _ _ hq3 K none 0
  ·clear K hF
   intro g ih i4 i5 x hF K p6 c7
   refine at_round ?_
   refine sr ?_
   refine av rfl (r_ilss rfl rfl) ?_
   refine nwt [(3, _), (6, _), (7, _), (8, _), (9, _)] ⟨rfl, rfl, rfl, rfl, rfl, trivial⟩ ?_
   refine at_seq ?_
   rcases of_ite hF with ⟨h10, hF⟩ | ⟨h10, hF⟩
   ·refine at_cond_true rfl h10 ?_
    refine sn ?_
    refine at_seq ?_
    refine at_block ?_
    refine sr ?_
    obtain ⟨h11, hF⟩ := of_guard hF
    obtain ⟨b13, o14, hp12⟩ := row_ptr hr0 h11
    refine av rfl (r_idx Tryz.underlying218 Tryz.sizeOf191 rfl rfl h11 hp12) ?_
    refine av rfl (r_load_cell Tryz.isAgg191 rfl (row_cell0 (fun _ h => h.below) hr0 h11 hp12 rfl)) ?_
    refine av rfl (r_assign rfl) ?_
    refine nwt [(3, _), (5, _), (6, _), (7, _), (8, _)] ⟨rfl, rfl, rfl, rfl, rfl, trivial⟩ ?_
    refine at_region ?_
    refine av rfl (r_move rfl) ?_
    refine av rfl (r_move rfl) ?_
    obtain ⟨t15, ht15, hF⟩ := of_bindM hF
    refine at_call0 Tryz.func222 rfl (by kernel_rfl) rfl rfl (fun w => hexes_Group_ok _ _ ht15 w) ?_
    refine at_lit (cs := cStr.all ([t15] : List ByteArray)) Tryz.underlying38 Tryz.sizeOf9 Tryz.zeroValue9 rfl rfl rfl (by kernel_rfl) rfl ?_
    intro b16
    obtain ⟨h17, hF⟩ := of_guard hF
    refine at_append (z := .string ⟨#[]⟩) (c := cStr) (ys := ([t15] : List ByteArray)) (.s .z) Tryz.underlying38 infoG39 (by kernel_rfl) (by kernel_rfl) rfl rfl rfl rfl (fun _ hw => cells_src (hw.ok (Upd.mem .z))) (by kernel_rfl) h17 (app_small h17) rfl ?_
    intro p18 c19
    refine av rfl (r_assign rfl) ?_
    refine at_nil ?_
    refine at_drop (H := _) .z ?_
    refine at_weak [(3, _), (6, _), (7, _), (8, _)] ⟨rfl, rfl, rfl, rfl, trivial⟩ ?_
    refine at_blk_normal (at_then_normal ?_)
    refine at_region ?_
    refine av rfl (r_iadd rfl rfl) ?_
    refine av rfl (r_move rfl) ?_
    refine nwt [(3, _), (6, _), (7, _), (8, _)] ⟨rfl, rfl, rfl, rfl, trivial⟩ ?_
    exact at_weak_k (ih _ _ _ hF K p18 c19) ⟨rfl, rfl, rfl, rfl, trivial⟩
   ·refine at_cond_false rfl h10 ?_
    refine at_exit ?_
    refine at_then_exit (at_then_exit ?_)
    obtain rfl := of_some hF
    exact at_weak_k (K p6 c7) ⟨rfl, trivial⟩
 ·skip
  intro p8 c9
  refine at_blk_same ?_
  refine at_then_normal ?_
  refine sr ?_
  refine av rfl (r_move rfl) ?_
  obtain ⟨h20, hF⟩ := of_guard hF
  obtain ⟨h21, hF⟩ := of_guard hF
  refine at_callB Tryz.func47 rfl (by kernel_rfl) rfl rfl (fun w1 hw => join_ok _ _ h20 h21 _ _ w1 (hw.own .z).row) ?_
  refine av rfl (r_assign rfl) ?_
  refine at_nil ?_
  refine at_drop (H := _) .z ?_
  refine at_weak [(2, _)] ⟨rfl, trivial⟩ ?_
  refine at_then_normal ?_
  refine at_ret ?_
  have K := of_some hF
  subst K
  exact at_return1 rfl rfl (fun w1 hw => ⟨rfl, hw.below⟩)
def colon_Text (x0 : (Vector Int 16)) : Option (ByteArray) :=
  colon_groups x0 >>= fun t2 => colon_longest t2 >>= fun t4 => if (decide (t4.2 < 2)) = true then (colon_row (Vector.toList t2) >>= fun t6 => some t6) else (if (0 : Int) ≤ 0 ∧ 0 ≤ t4.1 ∧ t4.1 ≤ (8 : Int) then colon_row (lsub (Vector.toList t2) 0 t4.1) >>= fun t8 => if t8.size + (⟨#[58, 58]⟩ : ByteArray).size ≤ 140737488355328 then if (0 : Int) ≤ wr .i64 (t4.1 + t4.2) ∧ wr .i64 (t4.1 + t4.2) ≤ 8 ∧ 8 ≤ (8 : Int) then colon_row (lsub (Vector.toList t2) (wr .i64 (t4.1 + t4.2)) 8) >>= fun t11 => if (t8 ++ (⟨#[58, 58]⟩ : ByteArray)).size + t11.size ≤ 140737488355328 then some ((t8 ++ (⟨#[58, 58]⟩ : ByteArray)) ++ t11) else none else none else none else none)
theorem colon_Text_ok (x0 : (Vector Int 16)) (r : ByteArray) (hF : colon_Text x0 = some r) (w : World) :
    Calls Tryz.prog 184 #[.agg (Cd.cs (cVec (cInt .u8) 16 (by decide)) x0).toArray] w (fun e w' => e = .returned (.string r) ∧ Below w.heap.size w w') := by
 unfold colon_Text at hF
 refine calls_enter (l := [.agg (Cd.cs (cVec (cInt .u8) 16 (by decide)) x0).toArray]) Tryz.func184 rfl rfl rfl ?_
 refine at_start ?_
 refine at_weak [(0, _)] ⟨rfl, trivial⟩ ?_
 refine sr ?_
 refine at_box (cs := Cd.cs (cVec (cInt .u8) 16 (by decide)) x0) rfl rfl rfl ?_
 intro b1
 refine av rfl (r_assign rfl) ?_
 refine nws [(1, _)] ⟨rfl, trivial⟩ ?_
 refine av rfl (r_load_aggc (c := (cVec (cInt .u8) 16 (by decide))) (z := x0) Tryz.isAgg23 Tryz.sizeOf23 rfl (lens_cell .z (Lens.whole _ _))) ?_
 obtain ⟨t2, ht2, hF⟩ := of_bindM hF
 refine at_callB Tryz.func199 rfl (by kernel_rfl) rfl rfl (fun w hw => colon_groups_ok _ _ ht2 w) ?_
 refine at_alloc (cs := Cd.cs (cVec (cInt .u16) 8 (by decide)) (Vector.replicate 8 (0 : Int) : (Vector Int 8))) Tryz.zeroValue208 rfl rfl ?_
 intro b3
 refine at_store (c := (cVec (cInt .u16) 8 (by decide))) (z := t2) .z (Lens.whole _ _) Tryz.sizeOf208 rfl rfl rfl ?_
 refine at_nil ?_
 refine at_drop (H := _) (.s .z) ?_
 refine at_weak [(3, _)] ⟨rfl, trivial⟩ ?_
 refine at_then_normal ?_
 refine sr ?_
 refine av rfl (r_load_aggc (c := (cVec (cInt .u16) 8 (by decide))) (z := t2) Tryz.isAgg208 Tryz.sizeOf208 rfl (lens_cell .z (Lens.whole _ _))) ?_
 obtain ⟨t4, ht4, hF⟩ := of_bindM hF
 refine at_callB Tryz.func200 rfl (by kernel_rfl) rfl rfl (fun w hw => colon_longest_ok _ _ ht4 w) ?_
 refine av rfl (r_move rfl) ?_
 refine av rfl (r_extract rfl rfl) ?_
 refine av rfl (r_extract rfl rfl) ?_
 refine av rfl (r_assign rfl) ?_
 refine av rfl (r_assign rfl) ?_
 refine nwt [(3, _), (4, _), (5, _)] ⟨rfl, rfl, rfl, trivial⟩ ?_
 refine at_seq ?_
 refine sr ?_
 refine av rfl (r_move rfl) ?_
 refine av rfl (r_ilss rfl rfl) ?_
 refine nwt [(3, _), (4, _), (5, _), (14, _)] ⟨rfl, rfl, rfl, rfl, trivial⟩ ?_
 rcases of_ite hF with ⟨h5, hF⟩ | ⟨h5, hF⟩
 ·refine at_cond_true rfl h5 ?_
  refine sr ?_
  refine av rfl (r_slice_vec t2 Tryz.underlying208 Tryz.sizeOf191 rfl) ?_
  obtain ⟨t6, ht6, hF⟩ := of_bindM hF
  refine at_callB Tryz.func201 rfl (by kernel_rfl) rfl rfl (fun w hw => colon_row_ok _ _ _ _ ht6 w (vec_row (hw.ok (Upd.mem .z)))) ?_
  refine av rfl (r_assign rfl) ?_
  refine at_nil ?_
  refine at_drop (H := _) .z ?_
  refine at_weak [(2, _)] ⟨rfl, trivial⟩ ?_
  refine at_then_normal ?_
  refine rt ?_
  have K := of_some hF
  subst K
  exact at_return1 rfl rfl (fun w1 hw => ⟨rfl, hw.below⟩)
 ·refine at_cond_false rfl h5 ?_
  refine sn ?_
  refine at_seq ?_
  refine at_draw (by kernel_rfl) (by kernel_rfl) (fun _ h => h.drew) ?_
  refine atq_val rfl rfl rfl (r_move rfl) ?_
  obtain ⟨h7, hF⟩ := of_guard hF
  refine atq_val rfl rfl rfl (r_view (c := (cInt .u16)) (v := t2) (l := 0) (h := t4.1) Tryz.underlying208 Tryz.sizeOf191 rfl rfl ⟨_, rfl⟩ h7) ?_
  obtain ⟨t8, ht8, hF⟩ := of_bindM hF
  refine atq_call Tryz.func201 rfl (by kernel_rfl) rfl rfl (fun w hw => (colon_row_ok _ _ _ _ ht8 w (Row.sub (lens_row .z (Lens.whole _ _) hw) (vbnd h7))).mono fun _ _ h => ⟨h.1, hw.call h.2⟩) ?_
  obtain ⟨h9, hF⟩ := of_guard hF
  refine atq_val rfl rfl rfl (r_concat rfl rfl h9) ?_
  refine atq_val rfl rfl rfl (r_move rfl) ?_
  refine atq_val rfl rfl rfl (r_move rfl) ?_
  refine atq_val rfl rfl rfl (r_iadd rfl rfl) ?_
  obtain ⟨h10, hF⟩ := of_guard hF
  refine atq_val rfl rfl rfl (r_view (c := (cInt .u16)) (v := t2) (l := wr .i64 (t4.1 + t4.2)) (h := 8) Tryz.underlying208 Tryz.sizeOf191 rfl ⟨_, rfl⟩ rfl h10) ?_
  obtain ⟨t11, ht11, hF⟩ := of_bindM hF
  refine atq_call Tryz.func201 rfl (by kernel_rfl) rfl rfl (fun w hw => (colon_row_ok _ _ _ _ ht11 w (Row.sub (lens_row .z (Lens.whole _ _) hw) (vbnd h10))).mono fun _ _ h => ⟨h.1, hw.call h.2⟩) ?_
  obtain ⟨h12, hF⟩ := of_guard hF
  refine atq_val rfl rfl rfl (r_concat rfl rfl h12) ?_
  refine atq_val rfl rfl rfl (r_assign rfl) ?_
  refine atq_nil ?_
  refine at_drop (H := _) .z ?_
  refine at_weak [(2, _)] ⟨rfl, trivial⟩ ?_
  refine at_then_normal ?_
  refine at_ret ?_
  have K := of_some hF
  subst K
  exact at_return1 rfl rfl (fun w1 hw => ⟨rfl, hw.below⟩)
end Go.Proofs.YtkkmmpofdcccmaaGreatDoor
namespace Go.Proofs.YtkkmmpofdcccmaaGreatDoor
open E Go.RowKit
abbrev zqG5_0 : S_api_Addr := ({ f_V := (0 : Int), f_B := (Vector.replicate 16 (0 : Int) : (Vector Int 16)) } : S_api_Addr)
def addr_Four (x0 : (Vector Int 4)) : Option (S_api_Addr) :=
  some ({ { ({ f_V := (0 : Int), f_B := (Vector.replicate 16 (0 : Int) : (Vector Int 16)) } : S_api_Addr) with f_V := 4 } with f_B := vcopy (({ ({ f_V := (0 : Int), f_B := (Vector.replicate 16 (0 : Int) : (Vector Int 16)) } : S_api_Addr) with f_V := 4 }).f_B) (Int.toNat 0) (List.take (Int.toNat (16 - 0)) (Vector.toList x0)) })
set_option maxHeartbeats 3200000 in
theorem addr_Four_ok (x0 : (Vector Int 4)) (r : S_api_Addr) (hF : addr_Four x0 = some r) (w : World) :
    Calls Tryz.prog 182 #[.agg (Cd.cs (cVec (cInt .u8) 4 (by decide)) x0).toArray] w (fun e w' => e = .returned (.agg (Cd.cs c_api_Addr r).toArray) ∧ Below w.heap.size w w') := by
 unfold addr_Four at hF
 refine calls_enter (l := [.agg (Cd.cs (cVec (cInt .u8) 4 (by decide)) x0).toArray]) Tryz.func182 rfl rfl rfl ?_
 refine at_start ?_
 refine at_weak [(0, _)] ⟨rfl, trivial⟩ ?_
 refine sr ?_
 refine at_box (cs := Cd.cs (cVec (cInt .u8) 4 (by decide)) x0) rfl rfl rfl ?_
 intro b1
 refine at_alloc (cs := Cd.cs c_api_Addr zqG5_0) Tryz.zeroValue25 rfl rfl ?_
 intro b2
 refine nws [(1, _), (2, _)] ⟨rfl, rfl, trivial⟩ ?_
 refine av rfl (r_build_struct (zs := Cd.cs c_api_Addr zqG5_0) (cs := Cd.cs c_api_Addr ({ zqG5_0 with f_V := 4 })) Tryz.underlying25 Tryz.zeroValue25 rfl (places_api_Addr_25) rfl (fill_step (c := (cInt .i64)) (z := 4) rfl (c_api_Addr_f_V zqG5_0) rfl rfl)) ?_
 refine at_alloc (cs := Cd.cs c_api_Addr zqG5_0) Tryz.zeroValue25 rfl rfl ?_
 intro b3
 refine at_store (c := c_api_Addr) (z := { zqG5_0 with f_V := 4 }) .z (Lens.whole _ _) Tryz.sizeOf25 rfl rfl rfl ?_
 refine nwt [(1, _), (2, _), (3, _)] ⟨rfl, rfl, rfl, trivial⟩ ?_
 refine at_seq ?_
 refine at_weak [(1, _), (2, _), (3, _)] ⟨rfl, rfl, rfl, trivial⟩ ?_
 refine at_inv [.q 5 (fun g4 => .pointer (some ⟨b3, 0 + 1, none⟩)) [] 0 0, .q 6 (fun g4 => .slice (some ⟨b3, 0 + 1, none⟩) (Vector.toList (({ zqG5_0 with f_V := 4 }).f_B)).length 16) [0] 0 0, .q 7 (fun g4 => .slice (some ⟨b1, 0, none⟩) (Vector.toList x0).length 4) [] 0 0, .st 0 (some (8, fun g4 => .int .i64 (min (List.length (Vector.toList x0)) (Int.toNat (16 - 0)) : Nat))) [1, 2]] (fun g4 s => match s with | 0 => (Wd w [cellsE b3 (Cd.cs c_api_Addr ({ zqG5_0 with f_V := 4 })) 25, cellsE b2 (Cd.cs c_api_Addr zqG5_0) 25, cellsE b1 (Cd.cs (cVec (cInt .u8) 4 (by decide)) x0) 159]) | _ => (Wd w [cellsE b3 (Cd.cs c_api_Addr ({ { zqG5_0 with f_V := 4 } with f_B := vcopy (({ zqG5_0 with f_V := 4 }).f_B) (Int.toNat 0) (List.take (Int.toNat (16 - 0)) (Vector.toList x0)) })) 25, cellsE b2 (Cd.cs c_api_Addr zqG5_0) 25, cellsE b1 (Cd.cs (cVec (cInt .u8) 4 (by decide)) x0) 159])) 1 (by kernel_rfl) (by kernel_rfl) (by kernel_rfl) (by kernel_rfl) (by kernel_rfl) ⟨fun _ _ _ => rfl, fun _ _ _ => rfl, fun _ _ _ => rfl, fun _ _ _ => rfl, trivial⟩ (by kernel_rfl) (fun w_ h => ⟨fun _ => g3 0 none 0 none w_, h.drew⟩) ⟨?_, ?_, ?_, ?_, trivial⟩ ?_
 ·intro Lx g4 s K hl hh k
  show At 10 ((1, _) :: (2, _) :: (3, _) :: Lx) _ _
  refine av rfl (r_fieldAddr (fo := 1) Tryz.underlying25 rfl rfl (fun w => ⟨_, Tryz.sizeOf23 w⟩) rfl) ?_
  exact at_nil k
 ·intro Lx g4 s K hl hh k
  show At 10 ((5, _) :: (1, _) :: (2, _) :: (3, _) :: Lx) _ _
  obtain rfl : s = 0 := by omega
  refine av rfl (r_view_all (c := (cInt .u8)) (({ zqG5_0 with f_V := 4 }).f_B) (by decide) Tryz.underlying23 Tryz.sizeOf5 rfl) ?_
  exact at_nil k
 ·intro Lx g4 s K hl hh k
  show At 10 ((1, _) :: (2, _) :: (3, _) :: Lx) _ _
  obtain rfl : s = 0 := by omega
  refine av rfl (r_slice_vec x0 Tryz.underlying159 Tryz.sizeOf5 rfl) ?_
  exact at_nil k
 ·intro Lx g4 K k
  show At 10 ((6, _) :: (7, _) :: (1, _) :: (2, _) :: (3, _) :: Lx) _ _
  refine at_copy (lo := 0) (hi := 16) (xs := Vector.toList x0) .z (Lens.comp (Lens.whole _ _) (fun z => { { zqG5_0 with f_V := 4 } with f_B := z }) (c_api_Addr_f_B ({ zqG5_0 with f_V := 4 }))) rfl (by decide) Tryz.underlying22 (by kernel_rfl) rfl (rsp_zero (by decide)) (by simp) rfl ⟨_, rfl⟩ (fun w1 hw => (vec_row (hw.ok (Upd.mem (.s (.s .z)))))) rfl ?_
  exact at_nil k
 intro g4
 show At 10 [(5, _), (6, _), (7, _), (8, _), (1, _), (2, _), (3, _)] _ _
 refine at_drop (H := _) (.s (.s .z)) ?_
 refine at_weak [(2, _), (3, _)] ⟨rfl, rfl, trivial⟩ ?_
 refine at_then_normal ?_
 refine sr ?_
 refine av rfl (r_load_aggc (c := c_api_Addr) (z := { { zqG5_0 with f_V := 4 } with f_B := vcopy (({ zqG5_0 with f_V := 4 }).f_B) (Int.toNat 0) (List.take (Int.toNat (16 - 0)) (Vector.toList x0)) }) Tryz.isAgg25 Tryz.sizeOf25 rfl (lens_cell .z (Lens.whole _ _))) ?_
 refine at_store (c := c_api_Addr) (z := { { zqG5_0 with f_V := 4 } with f_B := vcopy (({ zqG5_0 with f_V := 4 }).f_B) (Int.toNat 0) (List.take (Int.toNat (16 - 0)) (Vector.toList x0)) }) (.s .z) (Lens.whole _ _) Tryz.sizeOf25 rfl rfl rfl ?_
 refine at_nil ?_
 refine at_drop (H := _) .z ?_
 refine at_weak [(2, _)] ⟨rfl, trivial⟩ ?_
 refine at_then_normal ?_
 refine at_ret ?_
 have K := of_some hF
 subst K
 exact at_res1 rfl (res_cell (c := c_api_Addr) (y := { { zqG5_0 with f_V := 4 } with f_B := vcopy (({ zqG5_0 with f_V := 4 }).f_B) (Int.toNat 0) (List.take (Int.toNat (16 - 0)) (Vector.toList x0)) }) rfl .z (Lens.whole _ _) Tryz.isAgg25 Tryz.sizeOf25 (.inl rfl)) (fun w1 hw => ⟨rfl, hw.below⟩)
def addr_Right (x0 : S_api_Addr) : Option (Bool) :=
  if (x0.f_V == 6) = true then (some true) else (if (x0.f_V == 4) = true then (if 4 ≤ (lsub (Vector.toList x0.f_B) 0 4).length then addr_Four (lvec 4 (lsub (Vector.toList x0.f_B) 0 4)) >>= fun t8 => some (decide (x0 = t8)) else none) else (some false))
theorem addr_Right_ok (x0 : S_api_Addr) (r : Bool) (hF : addr_Right x0 = some r) (w : World) :
    Calls Tryz.prog 158 #[.agg (Cd.cs c_api_Addr x0).toArray] w (fun e w' => e = .returned (.bool r) ∧ Below w.heap.size w w') := by
 unfold addr_Right at hF
 refine calls_enter (l := [.agg (Cd.cs c_api_Addr x0).toArray]) Tryz.func158 rfl rfl rfl ?_
 refine at_start ?_
 refine at_weak [(0, _)] ⟨rfl, trivial⟩ ?_
 refine sr ?_
 refine at_box (cs := Cd.cs c_api_Addr x0) rfl rfl rfl ?_
 intro b1
 refine av rfl (r_assign rfl) ?_
 refine nwt [(1, _)] ⟨rfl, trivial⟩ ?_
 refine at_seq ?_
 refine at_draw (by kernel_rfl) (by kernel_rfl) (fun _ h => h.drew) ?_
 refine atq_val rfl rfl rfl (r_fieldAddr (fo := 0) Tryz.underlying25 rfl rfl (fun w => ⟨_, Tryz.sizeOf3 w⟩) rfl) ?_
 refine atq_val rfl rfl rfl (r_load_cell Tryz.isAgg3 rfl (lens_cell0 (c := (cInt .i64)) (y := x0.f_V) .z (Lens.comp (Lens.whole _ _) (fun z => { x0 with f_V := z }) (c_api_Addr_f_V x0)) rfl)) ?_
 refine atq_val rfl rfl rfl (r_ieql rfl rfl) ?_
 refine atq_val rfl rfl rfl (r_move rfl) ?_
 rcases of_ite hF with ⟨h2, hF⟩ | ⟨h2, hF⟩
 ·refine atq_fix (g := 6) rfl h2 ?_
  refine atq_guard_no rfl rfl rfl rfl rfl ?_
  refine atq_guard_no rfl rfl rfl rfl rfl ?_
  refine atq_guard_no rfl rfl rfl rfl rfl ?_
  refine atq_guard_no rfl rfl rfl rfl rfl ?_
  refine atq_guard_undef rfl rfl rfl rfl ?_
  refine atq_guard_undef rfl rfl rfl rfl ?_
  refine atq_guard_undef rfl rfl rfl rfl ?_
  refine atq_guard_undef rfl rfl rfl rfl ?_
  refine atq_guard_undef rfl rfl rfl rfl ?_
  refine atq_guard_undef rfl rfl rfl rfl ?_
  refine atq_guard_undef rfl rfl rfl rfl ?_
  refine atq_guard_no rfl rfl rfl rfl rfl ?_
  refine atq_val rfl rfl rfl (r_pick rfl rfl rfl) ?_
  refine atq_val rfl rfl rfl (r_assign rfl) ?_
  refine atq_nil ?_
  refine at_drop (H := _) .z ?_
  refine at_weak [(2, _)] ⟨rfl, trivial⟩ ?_
  refine at_then_normal ?_
  refine at_ret ?_
  have K := of_some hF
  subst K
  exact at_return1 rfl rfl (fun w1 hw => ⟨rfl, hw.below⟩)
 ·refine atq_fix (g := 6) rfl h2 ?_
  refine atq_guard_yes rfl rfl rfl ?_
  refine atq_val rfl rfl rfl (r_fieldAddr (fo := 0) Tryz.underlying25 rfl rfl (fun w => ⟨_, Tryz.sizeOf3 w⟩) rfl) ?_
  refine atq_guard_yes rfl rfl rfl ?_
  refine atq_val rfl rfl rfl (r_load_cell Tryz.isAgg3 rfl (lens_cell0 (c := (cInt .i64)) (y := x0.f_V) .z (Lens.comp (Lens.whole _ _) (fun z => { x0 with f_V := z }) (c_api_Addr_f_V x0)) rfl)) ?_
  refine atq_guard_yes rfl rfl rfl ?_
  refine atq_val rfl rfl rfl (r_ieql rfl rfl) ?_
  refine atq_guard_yes rfl rfl rfl ?_
  refine atq_val rfl rfl rfl (r_move rfl) ?_
  rcases of_ite hF with ⟨h3, hF⟩ | ⟨h3, hF⟩
  ·refine atq_fix (g := 10) rfl h3 ?_
   refine atq_guard_yes rfl rfl rfl ?_
   refine atq_val rfl rfl rfl (r_load_aggc (c := c_api_Addr) (z := x0) Tryz.isAgg25 Tryz.sizeOf25 rfl (lens_cell .z (Lens.whole _ _))) ?_
   refine atq_guard_yes rfl rfl rfl ?_
   refine atq_val rfl rfl rfl (r_fieldAddr (fo := 1) Tryz.underlying25 rfl rfl (fun w => ⟨_, Tryz.sizeOf23 w⟩) rfl) ?_
   refine atq_guard_yes rfl rfl rfl ?_
   refine atq_val rfl rfl rfl (r_view (c := (cInt .u8)) (v := x0.f_B) (l := 0) (h := 4) Tryz.underlying23 Tryz.sizeOf5 rfl rfl ⟨_, rfl⟩ (by decide)) ?_
   refine atq_guard_yes rfl rfl rfl ?_
   obtain ⟨h4, hF⟩ := of_guard hF
   refine atq_val rfl rfl rfl (r_arrptr Tryz.underlying159 rfl h4) ?_
   refine atq_guard_yes rfl rfl rfl ?_
   obtain ⟨b5, o6, hp7⟩ : ∃ b o, rsp (some ⟨b1, 0 + 1, none⟩) 16 0 (Cd.sz (cInt .u8)) = some ⟨b, o, none⟩ := rsp_plain
   refine atq_val rfl rfl rfl (r_load_aggc (c := (cVec (cInt .u8) 4 (by decide))) (z := lvec 4 (lsub (Vector.toList x0.f_B) 0 4)) Tryz.isAgg159 Tryz.sizeOf159 (by rw [← hp7]; rfl) (fun w1 hw => row_lvec (Row.sub (lens_row .z (Lens.comp (Lens.whole _ _) (fun z => { x0 with f_B := z }) (c_api_Addr_f_B x0)) hw) (vbnd (by decide))) h4 hp7)) ?_
   refine atq_guard_yes rfl rfl rfl ?_
   obtain ⟨t8, ht8, hF⟩ := of_bindM hF
   refine atq_call Tryz.func182 rfl (by kernel_rfl) rfl rfl (fun w hw => (addr_Four_ok _ _ ht8 w).mono fun _ _ h => ⟨h.1, hw.call h.2⟩) ?_
   refine atq_guard_yes rfl rfl rfl ?_
   refine atq_val rfl rfl rfl (r_eqagg (c := c_api_Addr) (a := x0) (b := t8) (eq_api_Addr_25) rfl Tryz.eqGuardType25 rfl rfl (.inl rfl) rfl) ?_
   refine atq_guard_yes rfl rfl rfl ?_
   refine atq_val rfl rfl rfl (r_pick rfl rfl rfl) ?_
   refine atq_val rfl rfl rfl (r_pick rfl rfl rfl) ?_
   refine atq_val rfl rfl rfl (r_assign rfl) ?_
   refine atq_nil ?_
   refine at_drop (H := _) .z ?_
   refine at_weak [(2, _)] ⟨rfl, trivial⟩ ?_
   refine at_then_normal ?_
   refine at_ret ?_
   have K := of_some hF
   subst K
   exact at_return1 rfl rfl (fun w1 hw => ⟨rfl, hw.below⟩)
  ·refine atq_fix (g := 10) rfl h3 ?_
   refine atq_guard_no rfl rfl rfl rfl rfl ?_
   refine atq_guard_no rfl rfl rfl rfl rfl ?_
   refine atq_guard_no rfl rfl rfl rfl rfl ?_
   refine atq_guard_no rfl rfl rfl rfl rfl ?_
   refine atq_guard_no rfl rfl rfl rfl rfl ?_
   refine atq_guard_no rfl rfl rfl rfl rfl ?_
   refine atq_guard_no rfl rfl rfl rfl rfl ?_
   refine atq_guard_yes rfl rfl rfl ?_
   refine atq_val rfl rfl rfl (r_pick rfl rfl rfl) ?_
   refine atq_val rfl rfl rfl (r_pick rfl rfl rfl) ?_
   refine atq_val rfl rfl rfl (r_assign rfl) ?_
   refine atq_nil ?_
   refine at_drop (H := _) .z ?_
   refine at_weak [(2, _)] ⟨rfl, trivial⟩ ?_
   refine at_then_normal ?_
   refine at_ret ?_
   have K := of_some hF
   subst K
   exact at_return1 rfl rfl (fun w1 hw => ⟨rfl, hw.below⟩)
def addr_Width (x0 : S_api_Addr) : Option (Int) :=
  addr_Right x0 >>= fun t2 => if (!t2) = true then (some 0) else (if (x0.f_V == 4) = true then (some 32) else (some 128))
theorem addr_Width_ok (x0 : S_api_Addr) (r : Int) (hF : addr_Width x0 = some r) (w : World) :
    Calls Tryz.prog 156 #[.agg (Cd.cs c_api_Addr x0).toArray] w (fun e w' => e = .returned (.int .i64 r) ∧ Below w.heap.size w w') := by
 unfold addr_Width at hF
 refine calls_enter (l := [.agg (Cd.cs c_api_Addr x0).toArray]) Tryz.func156 rfl rfl rfl ?_
 refine at_start ?_
 refine at_weak [(0, _)] ⟨rfl, trivial⟩ ?_
 refine sr ?_
 refine at_box (cs := Cd.cs c_api_Addr x0) rfl rfl rfl ?_
 intro b1
 refine av rfl (r_assign rfl) ?_
 refine nwt [(1, _)] ⟨rfl, trivial⟩ ?_
 refine at_seq ?_
 refine at_block ?_
 refine sr ?_
 refine av rfl (r_load_aggc (c := c_api_Addr) (z := x0) Tryz.isAgg25 Tryz.sizeOf25 rfl (lens_cell .z (Lens.whole _ _))) ?_
 obtain ⟨t2, ht2, hF⟩ := of_bindM hF
 refine at_callB Tryz.func158 rfl (by kernel_rfl) rfl rfl (fun w hw => addr_Right_ok _ _ ht2 w) ?_
 refine av rfl (r_not rfl) ?_
 refine av rfl (r_assign rfl) ?_
 refine nwt [(1, _), (3, _)] ⟨rfl, rfl, trivial⟩ ?_
 rcases of_ite hF with ⟨h3, hF⟩ | ⟨h3, hF⟩
 ·refine at_cond_true rfl h3 ?_
  refine sr ?_
  refine av rfl (r_assign rfl) ?_
  refine at_nil ?_
  refine at_drop (H := _) .z ?_
  refine at_weak [(2, _)] ⟨rfl, trivial⟩ ?_
  refine at_then_normal ?_
  refine at_ret ?_
  refine at_blk_ret (at_then_ret ?_)
  have K := of_some hF
  subst K
  exact at_return1 rfl rfl (fun w1 hw => ⟨rfl, hw.below⟩)
 ·refine at_cond_false rfl h3 ?_
  refine sr ?_
  refine av rfl (r_fieldAddr (fo := 0) Tryz.underlying25 rfl rfl (fun w => ⟨_, Tryz.sizeOf3 w⟩) rfl) ?_
  refine av rfl (r_load_cell Tryz.isAgg3 rfl (lens_cell0 (c := (cInt .i64)) (y := x0.f_V) .z (Lens.comp (Lens.whole _ _) (fun z => { x0 with f_V := z }) (c_api_Addr_f_V x0)) rfl)) ?_
  refine av rfl (r_ieql rfl rfl) ?_
  refine av rfl (r_assign rfl) ?_
  refine at_nil ?_
  refine at_drop (H := _) .z ?_
  refine at_weak [(7, _)] ⟨rfl, trivial⟩ ?_
  refine at_then_normal ?_
  rcases of_ite hF with ⟨h4, hF⟩ | ⟨h4, hF⟩
  ·refine at_cond_true rfl h4 ?_
   refine sr ?_
   refine av rfl (r_assign rfl) ?_
   refine nwt [(2, _)] ⟨rfl, trivial⟩ ?_
   refine at_ret ?_
   refine at_blk_ret (at_then_ret ?_)
   have K := of_some hF
   subst K
   exact at_return1 rfl rfl (fun w1 hw => ⟨rfl, hw.below⟩)
  ·refine at_cond_false rfl h4 ?_
   refine at_skip ?_
   refine at_blk_normal (at_then_normal ?_)
   refine sr ?_
   refine av rfl (r_assign rfl) ?_
   refine nwt [(2, _)] ⟨rfl, trivial⟩ ?_
   refine at_ret ?_
   have K := of_some hF
   subst K
   exact at_return1 rfl rfl (fun w1 hw => ⟨rfl, hw.below⟩)
def addr_Text (x0 : S_api_Addr) : Option (ByteArray) :=
  addr_Right x0 >>= fun t2 => if (!t2) = true then (some (⟨#[]⟩)) else (if (x0.f_V == 4) = true then (if 4 ≤ (lsub (Vector.toList x0.f_B) 0 4).length then quad_Text (lvec 4 (lsub (Vector.toList x0.f_B) 0 4)) >>= fun t9 => some t9 else none) else (colon_Text x0.f_B >>= fun t10 => some t10))
theorem addr_Text_ok (x0 : S_api_Addr) (r : ByteArray) (hF : addr_Text x0 = some r) (w : World) (hg_strconv_uint64pow10 : GV_strconv_uint64pow10 w) :
    Calls Tryz.prog 157 #[.agg (Cd.cs c_api_Addr x0).toArray] w (fun e w' => e = .returned (.string r) ∧ Below w.heap.size w w') := by
 unfold addr_Text at hF
 refine calls_enter (l := [.agg (Cd.cs c_api_Addr x0).toArray]) Tryz.func157 rfl rfl rfl ?_
 refine at_start ?_
 refine at_weak [(0, _)] ⟨rfl, trivial⟩ ?_
 refine sr ?_
 refine at_box (cs := Cd.cs c_api_Addr x0) rfl rfl rfl ?_
 intro b1
 refine av rfl (r_assign rfl) ?_
 refine nwt [(1, _)] ⟨rfl, trivial⟩ ?_
 refine at_seq ?_
 refine at_block ?_
 refine sr ?_
 refine av rfl (r_load_aggc (c := c_api_Addr) (z := x0) Tryz.isAgg25 Tryz.sizeOf25 rfl (lens_cell .z (Lens.whole _ _))) ?_
 obtain ⟨t2, ht2, hF⟩ := of_bindM hF
 refine at_callB Tryz.func158 rfl (by kernel_rfl) rfl rfl (fun w hw => addr_Right_ok _ _ ht2 w) ?_
 refine av rfl (r_not rfl) ?_
 refine av rfl (r_assign rfl) ?_
 refine nwt [(1, _), (3, _)] ⟨rfl, rfl, trivial⟩ ?_
 rcases of_ite hF with ⟨h3, hF⟩ | ⟨h3, hF⟩
 ·refine at_cond_true rfl h3 ?_
  refine sr ?_
  refine av rfl (r_assign rfl) ?_
  refine at_nil ?_
  refine at_drop (H := _) .z ?_
  refine at_weak [(2, _)] ⟨rfl, trivial⟩ ?_
  refine at_then_normal ?_
  refine at_ret ?_
  refine at_blk_ret (at_then_ret ?_)
  have K := of_some hF
  subst K
  exact at_return1 rfl rfl (fun w1 hw => ⟨rfl, hw.below⟩)
 ·refine at_cond_false rfl h3 ?_
  refine sr ?_
  refine av rfl (r_fieldAddr (fo := 0) Tryz.underlying25 rfl rfl (fun w => ⟨_, Tryz.sizeOf3 w⟩) rfl) ?_
  refine av rfl (r_load_cell Tryz.isAgg3 rfl (lens_cell0 (c := (cInt .i64)) (y := x0.f_V) .z (Lens.comp (Lens.whole _ _) (fun z => { x0 with f_V := z }) (c_api_Addr_f_V x0)) rfl)) ?_
  refine av rfl (r_ieql rfl rfl) ?_
  refine av rfl (r_assign rfl) ?_
  refine nwt [(1, _), (7, _)] ⟨rfl, rfl, trivial⟩ ?_
  rcases of_ite hF with ⟨h4, hF⟩ | ⟨h4, hF⟩
  ·refine at_cond_true rfl h4 ?_
   refine sr ?_
   refine av rfl (r_fieldAddr (fo := 1) Tryz.underlying25 rfl rfl (fun w => ⟨_, Tryz.sizeOf23 w⟩) rfl) ?_
   refine av rfl (r_view (c := (cInt .u8)) (v := x0.f_B) (l := 0) (h := 4) Tryz.underlying23 Tryz.sizeOf5 rfl rfl ⟨_, rfl⟩ (by decide)) ?_
   obtain ⟨h5, hF⟩ := of_guard hF
   refine av rfl (r_arrptr Tryz.underlying159 rfl h5) ?_
   obtain ⟨b6, o7, hp8⟩ : ∃ b o, rsp (some ⟨b1, 0 + 1, none⟩) 16 0 (Cd.sz (cInt .u8)) = some ⟨b, o, none⟩ := rsp_plain
   refine av rfl (r_load_aggc (c := (cVec (cInt .u8) 4 (by decide))) (z := lvec 4 (lsub (Vector.toList x0.f_B) 0 4)) Tryz.isAgg159 Tryz.sizeOf159 (by rw [← hp8]; rfl) (fun w1 hw => row_lvec (Row.sub (lens_row .z (Lens.comp (Lens.whole _ _) (fun z => { x0 with f_B := z }) (c_api_Addr_f_B x0)) hw) (vbnd (by decide))) h5 hp8)) ?_
   obtain ⟨t9, ht9, hF⟩ := of_bindM hF
   refine at_callB Tryz.func183 rfl (by kernel_rfl) rfl rfl (fun w hw => quad_Text_ok _ _ ht9 w (hg_strconv_uint64pow10.on hw.below)) ?_
   refine av rfl (r_assign rfl) ?_
   refine at_nil ?_
   refine at_drop (H := _) .z ?_
   refine at_weak [(2, _)] ⟨rfl, trivial⟩ ?_
   refine at_then_normal ?_
   refine at_ret ?_
   refine at_blk_ret (at_then_ret ?_)
   have K := of_some hF
   subst K
   exact at_return1 rfl rfl (fun w1 hw => ⟨rfl, hw.below⟩)
  ·refine at_cond_false rfl h4 ?_
   refine at_skip ?_
   refine at_blk_normal (at_then_normal ?_)
   refine sr ?_
   refine av rfl (r_fieldAddr (fo := 1) Tryz.underlying25 rfl rfl (fun w => ⟨_, Tryz.sizeOf23 w⟩) rfl) ?_
   refine av rfl (r_load_aggc (c := (cVec (cInt .u8) 16 (by decide))) (z := x0.f_B) Tryz.isAgg23 Tryz.sizeOf23 rfl (lens_cell .z (Lens.comp (Lens.whole _ _) (fun z => { x0 with f_B := z }) (c_api_Addr_f_B x0)))) ?_
   obtain ⟨t10, ht10, hF⟩ := of_bindM hF
   refine at_callB Tryz.func184 rfl (by kernel_rfl) rfl rfl (fun w hw => colon_Text_ok _ _ ht10 w) ?_
   refine av rfl (r_assign rfl) ?_
   refine at_nil ?_
   refine at_drop (H := _) .z ?_
   refine at_weak [(2, _)] ⟨rfl, trivial⟩ ?_
   refine at_then_normal ?_
   refine at_ret ?_
   have K := of_some hF
   subst K
   exact at_return1 rfl rfl (fun w1 hw => ⟨rfl, hw.below⟩)
end Go.Proofs.YtkkmmpofdcccmaaGreatDoor
namespace Go.Proofs.YtkkmmpofdcccmaaGreatDoor
open E Go.RowKit
def hostport_Right (x0 : S_api_Endpoint) : Option (Bool) :=
  addr_Right x0.f_A >>= fun t2 => if t2 = true then (if (decide (x0.f_Port ≥ 1)) = true then (some (decide (x0.f_Port ≤ 65535))) else (some false)) else (some false)
theorem hostport_Right_ok (x0 : S_api_Endpoint) (r : Bool) (hF : hostport_Right x0 = some r) (w : World) :
    Calls Tryz.prog 102 #[.agg (Cd.cs c_api_Endpoint x0).toArray] w (fun e w' => e = .returned (.bool r) ∧ Below w.heap.size w w') := by
 unfold hostport_Right at hF
 refine calls_enter (l := [.agg (Cd.cs c_api_Endpoint x0).toArray]) Tryz.func102 rfl rfl rfl ?_
 refine at_start ?_
 refine at_weak [(0, _)] ⟨rfl, trivial⟩ ?_
 refine sr ?_
 refine at_box (cs := Cd.cs c_api_Endpoint x0) rfl rfl rfl ?_
 intro b1
 refine av rfl (r_assign rfl) ?_
 refine nws [(1, _)] ⟨rfl, trivial⟩ ?_
 refine av rfl (r_fieldAddr (fo := 0) Tryz.underlying27 rfl rfl (fun w => ⟨_, Tryz.sizeOf25 w⟩) rfl) ?_
 refine av rfl (r_load_aggc (c := c_api_Addr) (z := x0.f_A) Tryz.isAgg25 Tryz.sizeOf25 rfl (lens_cell .z (Lens.comp (Lens.whole _ _) (fun z => { x0 with f_A := z }) (c_api_Endpoint_f_A x0)))) ?_
 obtain ⟨t2, ht2, hF⟩ := of_bindM hF
 refine at_callB Tryz.func158 rfl (by kernel_rfl) rfl rfl (fun w hw => addr_Right_ok _ _ ht2 w) ?_
 refine av rfl (r_move rfl) ?_
 rcases of_ite hF with ⟨h3, hF⟩ | ⟨h3, hF⟩
 ·refine at_fix (g := 6) rfl h3 ?_
  refine at_guard_yes rfl rfl rfl ?_
  refine av rfl (r_fieldAddr (fo := 17) Tryz.underlying27 rfl rfl (fun w => ⟨_, Tryz.sizeOf3 w⟩) rfl) ?_
  refine at_guard_yes rfl rfl rfl ?_
  refine av rfl (r_load_cell Tryz.isAgg3 rfl (lens_cell0 (c := (cInt .i64)) (y := x0.f_Port) .z (Lens.comp (Lens.whole _ _) (fun z => { x0 with f_Port := z }) (c_api_Endpoint_f_Port x0)) rfl)) ?_
  refine at_guard_yes rfl rfl rfl ?_
  refine av rfl (r_igeq rfl rfl) ?_
  refine av rfl (r_pick rfl rfl rfl) ?_
  refine av rfl (r_move rfl) ?_
  rcases of_ite hF with ⟨h4, hF⟩ | ⟨h4, hF⟩
  ·refine at_fix (g := 11) rfl h4 ?_
   refine at_guard_yes rfl rfl rfl ?_
   refine av rfl (r_fieldAddr (fo := 17) Tryz.underlying27 rfl rfl (fun w => ⟨_, Tryz.sizeOf3 w⟩) rfl) ?_
   refine at_guard_yes rfl rfl rfl ?_
   refine av rfl (r_load_cell Tryz.isAgg3 rfl (lens_cell0 (c := (cInt .i64)) (y := x0.f_Port) .z (Lens.comp (Lens.whole _ _) (fun z => { x0 with f_Port := z }) (c_api_Endpoint_f_Port x0)) rfl)) ?_
   refine at_guard_yes rfl rfl rfl ?_
   refine av rfl (r_ileq rfl rfl) ?_
   refine av rfl (r_pick rfl rfl rfl) ?_
   refine av rfl (r_assign rfl) ?_
   refine at_nil ?_
   refine at_drop (H := _) .z ?_
   refine at_weak [(2, _)] ⟨rfl, trivial⟩ ?_
   refine at_then_normal ?_
   refine at_ret ?_
   have K := of_some hF
   subst K
   exact at_return1 rfl rfl (fun w1 hw => ⟨rfl, hw.below⟩)
  ·refine at_fix (g := 11) rfl h4 ?_
   refine at_guard_no rfl rfl rfl rfl rfl ?_
   refine at_guard_no rfl rfl rfl rfl rfl ?_
   refine at_guard_no rfl rfl rfl rfl rfl ?_
   refine av rfl (r_pick rfl rfl rfl) ?_
   refine av rfl (r_assign rfl) ?_
   refine at_nil ?_
   refine at_drop (H := _) .z ?_
   refine at_weak [(2, _)] ⟨rfl, trivial⟩ ?_
   refine at_then_normal ?_
   refine at_ret ?_
   have K := of_some hF
   subst K
   exact at_return1 rfl rfl (fun w1 hw => ⟨rfl, hw.below⟩)
 ·refine at_fix (g := 6) rfl h3 ?_
  refine at_guard_no rfl rfl rfl rfl rfl ?_
  refine at_guard_no rfl rfl rfl rfl rfl ?_
  refine at_guard_no rfl rfl rfl rfl rfl ?_
  refine av rfl (r_pick rfl rfl rfl) ?_
  refine av rfl (r_move rfl) ?_
  refine at_guard_no rfl rfl rfl rfl rfl ?_
  refine at_guard_no rfl rfl rfl rfl rfl ?_
  refine at_guard_no rfl rfl rfl rfl rfl ?_
  refine av rfl (r_pick rfl rfl rfl) ?_
  refine av rfl (r_assign rfl) ?_
  refine at_nil ?_
  refine at_drop (H := _) .z ?_
  refine at_weak [(2, _)] ⟨rfl, trivial⟩ ?_
  refine at_then_normal ?_
  refine at_ret ?_
  have K := of_some hF
  subst K
  exact at_return1 rfl rfl (fun w1 hw => ⟨rfl, hw.below⟩)
def hostport_Text (x0 : S_api_Endpoint) : Option (ByteArray) :=
  hostport_Right x0 >>= fun t2 => if (!t2) = true then (some (⟨#[]⟩)) else (decimal_Text (wr .u64 x0.f_Port) >>= fun t4 => addr_Width x0.f_A >>= fun t5 => if (decide (t5 > 32)) = true then (addr_Text x0.f_A >>= fun t7 => if (⟨#[91]⟩ : ByteArray).size + t7.size ≤ 140737488355328 then if ((⟨#[91]⟩ : ByteArray) ++ t7).size + (⟨#[93, 58]⟩ : ByteArray).size ≤ 140737488355328 then if (((⟨#[91]⟩ : ByteArray) ++ t7) ++ (⟨#[93, 58]⟩ : ByteArray)).size + t4.size ≤ 140737488355328 then some ((((⟨#[91]⟩ : ByteArray) ++ t7) ++ (⟨#[93, 58]⟩ : ByteArray)) ++ t4) else none else none else none) else (addr_Text x0.f_A >>= fun t11 => if t11.size + (⟨#[58]⟩ : ByteArray).size ≤ 140737488355328 then if (t11 ++ (⟨#[58]⟩ : ByteArray)).size + t4.size ≤ 140737488355328 then some ((t11 ++ (⟨#[58]⟩ : ByteArray)) ++ t4) else none else none))
theorem hostport_Text_ok (x0 : S_api_Endpoint) (r : ByteArray) (hF : hostport_Text x0 = some r) (w : World) (hg_strconv_uint64pow10 : GV_strconv_uint64pow10 w) :
    Calls Tryz.prog 101 #[.agg (Cd.cs c_api_Endpoint x0).toArray] w (fun e w' => e = .returned (.string r) ∧ Below w.heap.size w w') := by
 unfold hostport_Text at hF
 refine calls_enter (l := [.agg (Cd.cs c_api_Endpoint x0).toArray]) Tryz.func101 rfl rfl rfl ?_
 refine at_start ?_
 refine at_weak [(0, _)] ⟨rfl, trivial⟩ ?_
 refine sr ?_
 refine at_box (cs := Cd.cs c_api_Endpoint x0) rfl rfl rfl ?_
 intro b1
 refine av rfl (r_assign rfl) ?_
 refine nwt [(1, _)] ⟨rfl, trivial⟩ ?_
 refine at_seq ?_
 refine sr ?_
 refine av rfl (r_load_aggc (c := c_api_Endpoint) (z := x0) Tryz.isAgg27 Tryz.sizeOf27 rfl (lens_cell .z (Lens.whole _ _))) ?_
 obtain ⟨t2, ht2, hF⟩ := of_bindM hF
 refine at_callB Tryz.func102 rfl (by kernel_rfl) rfl rfl (fun w hw => hostport_Right_ok _ _ ht2 w) ?_
 refine av rfl (r_not rfl) ?_
 refine nwt [(1, _), (6, _)] ⟨rfl, rfl, trivial⟩ ?_
 rcases of_ite hF with ⟨h3, hF⟩ | ⟨h3, hF⟩
 ·refine at_cond_true rfl h3 ?_
  refine sr ?_
  refine av rfl (r_assign rfl) ?_
  refine at_nil ?_
  refine at_drop (H := _) .z ?_
  refine at_weak [(2, _)] ⟨rfl, trivial⟩ ?_
  refine at_then_normal ?_
  refine rt ?_
  have K := of_some hF
  subst K
  exact at_return1 rfl rfl (fun w1 hw => ⟨rfl, hw.below⟩)
 ·refine at_cond_false rfl h3 ?_
  refine sns ?_
  refine av rfl (r_fieldAddr (fo := 17) Tryz.underlying27 rfl rfl (fun w => ⟨_, Tryz.sizeOf3 w⟩) rfl) ?_
  refine av rfl (r_load_cell Tryz.isAgg3 rfl (lens_cell0 (c := (cInt .i64)) (y := x0.f_Port) .z (Lens.comp (Lens.whole _ _) (fun z => { x0 with f_Port := z }) (c_api_Endpoint_f_Port x0)) rfl)) ?_
  refine av rfl (r_conv Tryz.underlying3 Tryz.underlying31 rfl) ?_
  obtain ⟨t4, ht4, hF⟩ := of_bindM hF
  refine at_callB Tryz.func113 rfl (by kernel_rfl) rfl rfl (fun w hw => decimal_Text_ok _ _ ht4 w (hg_strconv_uint64pow10.on hw.below)) ?_
  refine av rfl (r_assign rfl) ?_
  refine nwt [(1, _), (3, _)] ⟨rfl, rfl, trivial⟩ ?_
  refine at_seq ?_
  refine sr ?_
  refine av rfl (r_fieldAddr (fo := 0) Tryz.underlying27 rfl rfl (fun w => ⟨_, Tryz.sizeOf25 w⟩) rfl) ?_
  refine av rfl (r_load_aggc (c := c_api_Addr) (z := x0.f_A) Tryz.isAgg25 Tryz.sizeOf25 rfl (lens_cell .z (Lens.comp (Lens.whole _ _) (fun z => { x0 with f_A := z }) (c_api_Endpoint_f_A x0)))) ?_
  obtain ⟨t5, ht5, hF⟩ := of_bindM hF
  refine at_callB Tryz.func156 rfl (by kernel_rfl) rfl rfl (fun w hw => addr_Width_ok _ _ ht5 w) ?_
  refine av rfl (r_igtr rfl rfl) ?_
  refine nwt [(1, _), (3, _), (14, _)] ⟨rfl, rfl, rfl, trivial⟩ ?_
  rcases of_ite hF with ⟨h6, hF⟩ | ⟨h6, hF⟩
  ·refine at_cond_true rfl h6 ?_
   refine sr ?_
   refine av rfl (r_fieldAddr (fo := 0) Tryz.underlying27 rfl rfl (fun w => ⟨_, Tryz.sizeOf25 w⟩) rfl) ?_
   refine av rfl (r_load_aggc (c := c_api_Addr) (z := x0.f_A) Tryz.isAgg25 Tryz.sizeOf25 rfl (lens_cell .z (Lens.comp (Lens.whole _ _) (fun z => { x0 with f_A := z }) (c_api_Endpoint_f_A x0)))) ?_
   obtain ⟨t7, ht7, hF⟩ := of_bindM hF
   refine at_callB Tryz.func157 rfl (by kernel_rfl) rfl rfl (fun w hw => addr_Text_ok _ _ ht7 w (hg_strconv_uint64pow10.on hw.below)) ?_
   obtain ⟨h8, hF⟩ := of_guard hF
   refine av rfl (r_concat rfl rfl h8) ?_
   obtain ⟨h9, hF⟩ := of_guard hF
   refine av rfl (r_concat rfl rfl h9) ?_
   refine av rfl (r_move rfl) ?_
   obtain ⟨h10, hF⟩ := of_guard hF
   refine av rfl (r_concat rfl rfl h10) ?_
   refine av rfl (r_assign rfl) ?_
   refine at_nil ?_
   refine at_drop (H := _) .z ?_
   refine at_weak [(2, _)] ⟨rfl, trivial⟩ ?_
   refine at_then_normal ?_
   refine rt ?_
   have K := of_some hF
   subst K
   exact at_return1 rfl rfl (fun w1 hw => ⟨rfl, hw.below⟩)
  ·refine at_cond_false rfl h6 ?_
   refine sns ?_
   refine av rfl (r_fieldAddr (fo := 0) Tryz.underlying27 rfl rfl (fun w => ⟨_, Tryz.sizeOf25 w⟩) rfl) ?_
   refine av rfl (r_load_aggc (c := c_api_Addr) (z := x0.f_A) Tryz.isAgg25 Tryz.sizeOf25 rfl (lens_cell .z (Lens.comp (Lens.whole _ _) (fun z => { x0 with f_A := z }) (c_api_Endpoint_f_A x0)))) ?_
   obtain ⟨t11, ht11, hF⟩ := of_bindM hF
   refine at_callB Tryz.func157 rfl (by kernel_rfl) rfl rfl (fun w hw => addr_Text_ok _ _ ht11 w (hg_strconv_uint64pow10.on hw.below)) ?_
   obtain ⟨h12, hF⟩ := of_guard hF
   refine av rfl (r_concat rfl rfl h12) ?_
   refine av rfl (r_move rfl) ?_
   obtain ⟨h13, hF⟩ := of_guard hF
   refine av rfl (r_concat rfl rfl h13) ?_
   refine av rfl (r_assign rfl) ?_
   refine at_nil ?_
   refine at_drop (H := _) .z ?_
   refine at_weak [(2, _)] ⟨rfl, trivial⟩ ?_
   refine at_then_normal ?_
   refine at_ret ?_
   have K := of_some hF
   subst K
   exact at_return1 rfl rfl (fun w1 hw => ⟨rfl, hw.below⟩)
end Go.Proofs.YtkkmmpofdcccmaaGreatDoor
namespace Go.Proofs.YtkkmmpofdcccmaaGreatDoor
open E Go.RowKit
def hexes_Encode.l0 (x0 : List Int) (i4 : Int) (i5 : ByteArray) : Option (ByteArray) :=
  if (decide (i4 < (x0.length : Int))) = true then (if (0 : Int) ≤ i4 ∧ i4 < (x0.length : Int) then if (0 : Int) ≤ ishr .u8 (lget x0 i4) 4 ∧ ishr .u8 (lget x0 i4) 4 < ((⟨#[48, 49, 50, 51, 52, 53, 54, 55, 56, 57, 97, 98, 99, 100, 101, 102]⟩ : ByteArray).size : Int) then if (0 : Int) ≤ bt (⟨#[48, 49, 50, 51, 52, 53, 54, 55, 56, 57, 97, 98, 99, 100, 101, 102]⟩ : ByteArray) (ishr .u8 (lget x0 i4) 4) ∧ bt (⟨#[48, 49, 50, 51, 52, 53, 54, 55, 56, 57, 97, 98, 99, 100, 101, 102]⟩ : ByteArray) (ishr .u8 (lget x0 i4) 4) < 256 then if i5.size + 1 ≤ 140737488355328 then if (0 : Int) ≤ iand .u8 (lget x0 i4) 15 ∧ iand .u8 (lget x0 i4) 15 < ((⟨#[48, 49, 50, 51, 52, 53, 54, 55, 56, 57, 97, 98, 99, 100, 101, 102]⟩ : ByteArray).size : Int) then if (0 : Int) ≤ bt (⟨#[48, 49, 50, 51, 52, 53, 54, 55, 56, 57, 97, 98, 99, 100, 101, 102]⟩ : ByteArray) (iand .u8 (lget x0 i4) 15) ∧ bt (⟨#[48, 49, 50, 51, 52, 53, 54, 55, 56, 57, 97, 98, 99, 100, 101, 102]⟩ : ByteArray) (iand .u8 (lget x0 i4) 15) < 256 then if (i5.push (UInt8.ofNat (Int.toNat (bt (⟨#[48, 49, 50, 51, 52, 53, 54, 55, 56, 57, 97, 98, 99, 100, 101, 102]⟩ : ByteArray) (ishr .u8 (lget x0 i4) 4))))).size + 1 ≤ 140737488355328 then hexes_Encode.l0 x0 (wr .i64 (i4 + 1)) ((i5.push (UInt8.ofNat (Int.toNat (bt (⟨#[48, 49, 50, 51, 52, 53, 54, 55, 56, 57, 97, 98, 99, 100, 101, 102]⟩ : ByteArray) (ishr .u8 (lget x0 i4) 4))))).push (UInt8.ofNat (Int.toNat (bt (⟨#[48, 49, 50, 51, 52, 53, 54, 55, 56, 57, 97, 98, 99, 100, 101, 102]⟩ : ByteArray) (iand .u8 (lget x0 i4) 15))))) else none else none else none else none else none else none else none) else (some i5)
  partial_fixpoint
def hexes_Encode (x0 : List Int) : Option (ByteArray) :=
  hexes_Encode.l0 x0 0 ByteArray.empty >>= fun q3 => some q3
theorem hexes_Encode_ok (x0 : List Int) (p0_ : Option Addr) (c0_ : Nat) (r : ByteArray) (hF : hexes_Encode x0 = some r) (w : World) (hr0 : Row (cInt .u8) w p0_ c0_ x0) :
    Calls Tryz.prog 153 #[.slice p0_ x0.length c0_] w (fun e w' => e = .returned (.string r) ∧ Below w.heap.size w w') := by
 unfold hexes_Encode at hF
 refine calls_enter (l := [.slice p0_ x0.length c0_]) Tryz.func153 rfl rfl rfl ?_
 refine at_start ?_
 refine at_weak [(0, _)] ⟨rfl, trivial⟩ ?_
 refine sr ?_
 refine av rfl (r_assign rfl) ?_
 refine nws [(0, _)] ⟨rfl, trivial⟩ ?_
 refine at_alloc_bld (e := 5) Tryz.zeroValue137 rfl ?_
 intro b1
 refine nwt [(0, _), (3, _)] ⟨rfl, rfl, trivial⟩ ?_
 refine at_seq ?_
 refine sr ?_
 refine av rfl (r_move rfl) ?_
 refine av rfl (r_len_sl Tryz.underlying22 rfl) ?_
 refine av rfl (r_move rfl) ?_
 refine nwt [(3, _), (6, _), (7, _), (8, _)] ⟨rfl, rfl, rfl, rfl, trivial⟩ ?_
 refine at_block ?_
 obtain ⟨q3, hq3, hF⟩ := of_bindM hF
 refine at_weak [(3, _), (6, _), (7, _), (8, _)] ⟨rfl, rfl, rfl, rfl, trivial⟩ ?_
 refine at_loop_n (B := 0) (A := fun Y => ∀ (g7 : Option Nat), At 22 [(3, .pointer (some ⟨b1, 0, none⟩))] (Wd w [bldE 137 5 b1 g7 q3]) Y) ?_ ?_
 ·intro K
  refine hexes_Encode.l0.partial_correctness x0 (motive := fun i4 i5 x => KN (fun Y => ∀ (g7 : Option Nat), At 22 [(3, .pointer (some ⟨b1, 0, none⟩))] (Wd w [bldE 137 5 b1 g7 x]) Y) _ 0 → Round (fun Y => ∀ (g6 : Option Nat), At 22 [(3, .pointer (some ⟨b1, 0, none⟩)), (6, .slice p0_ x0.length c0_), (7, .int .i64 (x0.length : Int)), (8, .int .i64 i4)] (Wd w [bldE 137 5 b1 g6 i5]) Y) _ _ _) ?_ _ _ _ hq3 K none
  ·clear K hF
   intro g ih i4 i5 x hF K g6
   refine at_round ?_
   refine sr ?_
   refine av rfl (r_ilss rfl rfl) ?_
   refine nwt [(3, _), (6, _), (7, _), (8, _), (9, _)] ⟨rfl, rfl, rfl, rfl, rfl, trivial⟩ ?_
   refine at_seq ?_
   rcases of_ite hF with ⟨h8, hF⟩ | ⟨h8, hF⟩
   ·refine at_cond_true rfl h8 ?_
    refine sn ?_
    refine at_seq ?_
    refine at_block ?_
    refine sr ?_
    obtain ⟨h9, hF⟩ := of_guard hF
    obtain ⟨b11, o12, hp10⟩ := row_ptr hr0 h9
    refine av rfl (r_idx Tryz.underlying22 Tryz.sizeOf5 rfl rfl h9 hp10) ?_
    refine av rfl (r_load_cell Tryz.isAgg5 rfl (row_cell0 (fun _ h => h.below) hr0 h9 hp10 rfl)) ?_
    refine av rfl (r_assign rfl) ?_
    refine nws [(3, _), (5, _), (6, _), (7, _), (8, _)] ⟨rfl, rfl, rfl, rfl, rfl, trivial⟩ ?_
    refine av rfl (r_move rfl) ?_
    refine av rfl (r_ishr rfl rfl (by decide)) ?_
    obtain ⟨h13, hF⟩ := of_guard hF
    refine av rfl (r_index_str Tryz.underlying9 rfl rfl h13) ?_
    obtain ⟨h15, hF⟩ := of_guard hF
    obtain ⟨h16, hF⟩ := of_guard hF
    refine at_bld_byte (c := bt (⟨#[48, 49, 50, 51, 52, 53, 54, 55, 56, 57, 97, 98, 99, 100, 101, 102]⟩ : ByteArray) (ishr .u8 (lget x0 i4) 4)) .z trivial Tryz.func175 rfl (by kernel_rfl) rfl rfl h15 h16 Tryz.Builder_WriteByte_k ?_
    intro g14
    refine nwt [(3, _), (5, _), (6, _), (7, _), (8, _)] ⟨rfl, rfl, rfl, rfl, rfl, trivial⟩ ?_
    refine at_region ?_
    refine av rfl (r_move rfl) ?_
    refine av rfl (r_iand rfl rfl) ?_
    obtain ⟨h17, hF⟩ := of_guard hF
    refine av rfl (r_index_str Tryz.underlying9 rfl rfl h17) ?_
    obtain ⟨h19, hF⟩ := of_guard hF
    obtain ⟨h20, hF⟩ := of_guard hF
    refine at_bld_byte (c := bt (⟨#[48, 49, 50, 51, 52, 53, 54, 55, 56, 57, 97, 98, 99, 100, 101, 102]⟩ : ByteArray) (iand .u8 (lget x0 i4) 15)) .z trivial Tryz.func175 rfl (by kernel_rfl) rfl rfl h19 h20 Tryz.Builder_WriteByte_k ?_
    intro g18
    refine at_nil ?_
    refine at_weak [(3, _), (6, _), (7, _), (8, _)] ⟨rfl, rfl, rfl, rfl, trivial⟩ ?_
    refine at_blk_normal (at_then_normal ?_)
    refine at_region ?_
    refine av rfl (r_iadd rfl rfl) ?_
    refine av rfl (r_move rfl) ?_
    refine nwt [(3, _), (6, _), (7, _), (8, _)] ⟨rfl, rfl, rfl, rfl, trivial⟩ ?_
    exact at_weak_k (ih _ _ _ hF K g18) ⟨rfl, rfl, rfl, rfl, trivial⟩
   ·refine at_cond_false rfl h8 ?_
    refine at_exit ?_
    refine at_then_exit (at_then_exit ?_)
    obtain rfl := of_some hF
    exact at_weak_k (K g6) ⟨rfl, trivial⟩
 ·skip
  intro g7
  refine at_blk_same ?_
  refine at_then_normal ?_
  refine sr ?_
  refine at_bld_string .z trivial Tryz.func85 rfl (by kernel_rfl) rfl rfl Tryz.Builder_String_any_k ?_
  intro g21
  refine av rfl (r_assign rfl) ?_
  refine at_nil ?_
  refine at_drop (H := _) .z ?_
  refine at_weak [(2, _)] ⟨rfl, trivial⟩ ?_
  refine at_then_normal ?_
  refine at_ret ?_
  have K := of_some hF
  subst K
  exact at_return1 rfl rfl (fun w1 hw => ⟨rfl, hw.below⟩)
def keys_Hex (x0 : (Vector Int 32)) : Option (ByteArray) :=
  hexes_Encode (Vector.toList x0) >>= fun t2 => some t2
theorem keys_Hex_ok (x0 : (Vector Int 32)) (r : ByteArray) (hF : keys_Hex x0 = some r) (w : World) :
    Calls Tryz.prog 96 #[.agg (Cd.cs (cVec (cInt .u8) 32 (by decide)) x0).toArray] w (fun e w' => e = .returned (.string r) ∧ Below w.heap.size w w') := by
 unfold keys_Hex at hF
 refine calls_enter (l := [.agg (Cd.cs (cVec (cInt .u8) 32 (by decide)) x0).toArray]) Tryz.func96 rfl rfl rfl ?_
 refine at_start ?_
 refine at_weak [(0, _)] ⟨rfl, trivial⟩ ?_
 refine sr ?_
 refine at_box (cs := Cd.cs (cVec (cInt .u8) 32 (by decide)) x0) rfl rfl rfl ?_
 intro b1
 refine av rfl (r_assign rfl) ?_
 refine nws [(1, _)] ⟨rfl, trivial⟩ ?_
 refine av rfl (r_slice_vec x0 Tryz.underlying29 Tryz.sizeOf5 rfl) ?_
 obtain ⟨t2, ht2, hF⟩ := of_bindM hF
 refine at_callB Tryz.func153 rfl (by kernel_rfl) rfl rfl (fun w hw => hexes_Encode_ok _ _ _ _ ht2 w (vec_row (hw.ok (Upd.mem .z)))) ?_
 refine av rfl (r_assign rfl) ?_
 refine at_nil ?_
 refine at_drop (H := _) .z ?_
 refine at_weak [(2, _)] ⟨rfl, trivial⟩ ?_
 refine at_then_normal ?_
 refine at_ret ?_
 have K := of_some hF
 subst K
 exact at_return1 rfl rfl (fun w1 hw => ⟨rfl, hw.below⟩)
end Go.Proofs.YtkkmmpofdcccmaaGreatDoor
namespace Go.Proofs.YtkkmmpofdcccmaaGreatDoor
open E Go.RowKit
def script_key : Option (Unit) :=
  some ()
theorem script_key_ok (r : Unit) (hF : script_key  = some r) (w : World) :
    Calls Tryz.prog 81 #[] w (fun e w' => e = .returned (.agg #[.func (.func 136) #[] #[], .func (.func 137) #[] #[], .func (.func 138) #[] #[]]) ∧ Below w.heap.size w w') := by
 unfold script_key at hF
 refine calls_enter (l := []) Tryz.func81 rfl rfl rfl ?_
 refine at_start ?_
 refine at_weak [] trivial ?_
 refine sr ?_
 refine at_alloc (cs := [.nilFunc, .nilFunc, .nilFunc]) Tryz.zeroValue104 rfl rfl ?_
 intro b1
 refine nws [(0, _)] ⟨rfl, trivial⟩ ?_
 refine av rfl (r_build_struct (zs := [.nilFunc, .nilFunc, .nilFunc]) (cs := [.func (.func 136) #[] #[], .func (.func 137) #[] #[], .func (.func 138) #[] #[]]) Tryz.underlying104 Tryz.zeroValue104 rfl placesR_104 rfl rfl) ?_
 refine at_storeAll (k := 3) (cs := [.func (.func 136) #[] #[], .func (.func 137) #[] #[], .func (.func 138) #[] #[]]) .z (by decide) ⟨rfl, by simp [Value.oneCell']⟩ ⟨rfl, by simp [Value.oneCell']⟩ Tryz.sizeOf104 rfl rfl rfl ?_
 refine nwt [(0, _)] ⟨rfl, trivial⟩ ?_
 refine at_ret ?_
 have K := of_some hF
 subst K
 exact at_res1 rfl (res_cell (c := cK 3 (by decide)) (y := ⟨[.func (.func 136) #[] #[], .func (.func 137) #[] #[], .func (.func 138) #[] #[]], rfl, by simp [Value.oneCell']⟩) rfl .z (Lens.whole _ _) Tryz.isAgg104 Tryz.sizeOf104 (.inl rfl)) (fun w1 hw => ⟨rfl, hw.below⟩)
def script_next : Option (Unit) :=
  some ()
theorem script_next_ok (r : Unit) (hF : script_next  = some r) (w : World) :
    Calls Tryz.prog 82 #[] w (fun e w' => e = .returned (.agg #[.func (.func 139) #[] #[], .func (.func 140) #[] #[], .func (.func 141) #[] #[]]) ∧ Below w.heap.size w w') := by
 unfold script_next at hF
 refine calls_enter (l := []) Tryz.func82 rfl rfl rfl ?_
 refine at_start ?_
 refine at_weak [] trivial ?_
 refine sr ?_
 refine at_alloc (cs := [.nilFunc, .nilFunc, .nilFunc]) Tryz.zeroValue104 rfl rfl ?_
 intro b1
 refine nws [(0, _)] ⟨rfl, trivial⟩ ?_
 refine av rfl (r_build_struct (zs := [.nilFunc, .nilFunc, .nilFunc]) (cs := [.func (.func 139) #[] #[], .func (.func 140) #[] #[], .func (.func 141) #[] #[]]) Tryz.underlying104 Tryz.zeroValue104 rfl placesR_104 rfl rfl) ?_
 refine at_storeAll (k := 3) (cs := [.func (.func 139) #[] #[], .func (.func 140) #[] #[], .func (.func 141) #[] #[]]) .z (by decide) ⟨rfl, by simp [Value.oneCell']⟩ ⟨rfl, by simp [Value.oneCell']⟩ Tryz.sizeOf104 rfl rfl rfl ?_
 refine nwt [(0, _)] ⟨rfl, trivial⟩ ?_
 refine at_ret ?_
 have K := of_some hF
 subst K
 exact at_res1 rfl (res_cell (c := cK 3 (by decide)) (y := ⟨[.func (.func 139) #[] #[], .func (.func 140) #[] #[], .func (.func 141) #[] #[]], rfl, by simp [Value.oneCell']⟩) rfl .z (Lens.whole _ _) Tryz.isAgg104 Tryz.sizeOf104 (.inl rfl)) (fun w1 hw => ⟨rfl, hw.below⟩)
def crawlwayref49_Large.l0 (x0 : List S_api_Item) (i3 : Int) : Option (Ctl (Bool) (Unit)) :=
  if (decide (i3 < (x0.length : Int))) = true then (if (0 : Int) ≤ i3 ∧ i3 < (x0.length : Int) then if (decide ((((lget x0 i3).f_Bytes).length : Int) > 6000)) = true then (some (.ret true)) else (if (0 : Int) ≤ i3 ∧ i3 < (x0.length : Int) then if (decide ((((lget x0 i3).f_Result).length : Int) > 7000)) = true then (some (.ret true)) else (crawlwayref49_Large.l0 x0 (wr .i64 (i3 + 1))) else none) else none) else (some (.nx ()))
  partial_fixpoint
def crawlwayref49_Large (x0 : List S_api_Item) : Option (Bool) :=
  if (decide ((x0.length : Int) > 40)) = true then (some true) else (crawlwayref49_Large.l0 x0 0 >>= fun q2 => match q2 with | .ret r' => some r' | .nx sq2 => (some false))
theorem crawlwayref49_Large_ok (x0 : List S_api_Item) (p0_ : Option Addr) (c0_ : Nat) (r : Bool) (hF : crawlwayref49_Large x0 = some r) (w : World) (hr0 : NR_api_Item w p0_ c0_ x0) :
    Calls Tryz.prog 10 #[.slice p0_ x0.length c0_] w (fun e w' => e = .returned (.bool r) ∧ w' = w) := by
 unfold crawlwayref49_Large at hF
 refine calls_enter (l := [.slice p0_ x0.length c0_]) Tryz.func10 rfl rfl rfl ?_
 refine at_weak [(0, _)] ⟨rfl, trivial⟩ ?_
 refine sr ?_
 refine av rfl (r_assign rfl) ?_
 refine nwt [(0, _)] ⟨rfl, trivial⟩ ?_
 refine at_seq ?_
 refine sr ?_
 refine av rfl (r_move rfl) ?_
 refine av rfl (r_len_sl Tryz.underlying35 rfl) ?_
 refine av rfl (r_igtr rfl rfl) ?_
 refine nwt [(0, _), (6, _)] ⟨rfl, rfl, trivial⟩ ?_
 rcases of_ite hF with ⟨h1, hF⟩ | ⟨h1, hF⟩
 ·refine at_cond_true rfl h1 ?_
  refine sr ?_
  refine av rfl (r_assign rfl) ?_
  refine nwt [(2, _)] ⟨rfl, trivial⟩ ?_
  refine rt ?_
  have K := of_some hF
  subst K
  exact at_return1 rfl rfl (fun w1 hw => ⟨rfl, hw⟩)
 ·refine at_cond_false rfl h1 ?_
  refine sn ?_
  refine at_seq ?_
  refine sr ?_
  refine av rfl (r_assign rfl) ?_
  refine nwt [(0, _), (3, _)] ⟨rfl, rfl, trivial⟩ ?_
  refine at_block ?_
  obtain ⟨q2, hq2, hF⟩ := of_bindM hF
  refine at_weak [(0, _), (3, _)] ⟨rfl, rfl, trivial⟩ ?_
  refine at_loop_r (B := 0) (r := r) (q := q2) (A := fun (_ : Unit) Y => At 29 [] (fun w' => w' = w) Y) ?_ ?_
  ·intro K
   refine crawlwayref49_Large.l0.partial_correctness x0 (motive := fun i3 x => KR (fun (_ : Unit) Y => At 29 [] (fun w' => w' = w) Y) _ 0 r x → Round (fun Y => At 29 [(0, .slice p0_ x0.length c0_), (3, .int .i64 i3)] (fun w' => w' = w) Y) _ _ _) ?_ _ _ hq2 K
   ·clear K hF
    intro g ih i3 x hF K
    refine at_round ?_
    refine at_seq ?_
    refine sr ?_
    refine av rfl (r_move rfl) ?_
    refine av rfl (r_move rfl) ?_
    refine av rfl (r_len_sl Tryz.underlying35 rfl) ?_
    refine av rfl (r_ilss rfl rfl) ?_
    refine nwt [(0, _), (3, _), (10, _)] ⟨rfl, rfl, rfl, trivial⟩ ?_
    rcases of_ite hF with ⟨h4, hF⟩ | ⟨h4, hF⟩
    ·refine at_cond_true rfl h4 ?_
     refine sn ?_
     refine at_seq ?_
     refine at_block ?_
     refine sr ?_
     refine av rfl (r_move rfl) ?_
     refine av rfl (r_move rfl) ?_
     obtain ⟨h5, hF⟩ := of_guard hF
     obtain ⟨zs9, hz10, hr11, hn12⟩ := id hr0
     obtain ⟨b7, o8, hp6⟩ := row_ptr hr11 (zidx hz10 h5)
     obtain ⟨g13, hg14⟩ := zget hz10 i3
     refine av rfl (r_idx Tryz.underlying35 Tryz.sizeOf33 rfl rfl h5 hp6) ?_
     refine av rfl (r_fieldAddr (fo := 1) Tryz.underlying33 rfl rfl (fun w => ⟨_, Tryz.sizeOf22 w⟩) rfl) ?_
     refine av rfl (r_load_cell Tryz.isAgg22 rfl (nlens0 (c' := cHd) (y := ⟨g13.1.1, List.length ((lget x0 i3).f_Bytes), g13.1.2⟩) (fun w1 (h : w1 = w) => by subst h; exact Below.refl _ _) hr11 (zidx hz10 h5) hp6 hg14 (c_api_Item_f_Bytes g13 (lget x0 i3)) rfl)) ?_
     refine av rfl (r_len_sl Tryz.underlying22 rfl) ?_
     refine av rfl (r_igtr rfl rfl) ?_
     refine av rfl (r_move rfl) ?_
     rcases of_ite hF with ⟨h15, hF⟩ | ⟨h15, hF⟩
     ·refine at_fix (g := 20) rfl h15 ?_
      refine at_guard_no rfl rfl rfl rfl rfl ?_
      refine at_guard_no rfl rfl rfl rfl rfl ?_
      refine at_guard_no rfl rfl rfl rfl rfl ?_
      refine at_guard_no rfl rfl rfl rfl rfl ?_
      refine at_guard_no rfl rfl rfl rfl rfl ?_
      refine at_guard_no rfl rfl rfl rfl rfl ?_
      refine at_guard_no rfl rfl rfl rfl rfl ?_
      refine av rfl (r_pick rfl rfl rfl) ?_
      refine nwt [(0, _), (3, _), (28, _)] ⟨rfl, rfl, rfl, trivial⟩ ?_
      refine at_cond_true rfl rfl ?_
      refine sr ?_
      refine av rfl (r_assign rfl) ?_
      refine nwt [(2, _)] ⟨rfl, trivial⟩ ?_
      refine at_ret ?_
      refine at_blk_ret (at_then_ret (at_then_ret (at_blk_ret (at_then_ret ?_))))
      obtain rfl := of_some hF
      subst K
      exact at_return1 rfl rfl (fun w1 hw => ⟨rfl, hw⟩)
     ·refine at_fix (g := 20) rfl h15 ?_
      refine at_guard_yes rfl rfl rfl ?_
      refine av rfl (r_move rfl) ?_
      refine at_guard_yes rfl rfl rfl ?_
      refine av rfl (r_move rfl) ?_
      refine at_guard_yes rfl rfl rfl ?_
      obtain ⟨h16, hF⟩ := of_guard hF
      obtain ⟨zs20, hz21, hr22, hn23⟩ := id hr0
      obtain ⟨b18, o19, hp17⟩ := row_ptr hr22 (zidx hz21 h16)
      obtain ⟨g24, hg25⟩ := zget hz21 i3
      refine av rfl (r_idx Tryz.underlying35 Tryz.sizeOf33 rfl rfl h16 hp17) ?_
      refine at_guard_yes rfl rfl rfl ?_
      refine av rfl (r_fieldAddr (fo := 20) Tryz.underlying33 rfl rfl (fun w => ⟨_, Tryz.sizeOf22 w⟩) rfl) ?_
      refine at_guard_yes rfl rfl rfl ?_
      refine av rfl (r_load_cell Tryz.isAgg22 rfl (nlens0 (c' := cHd) (y := ⟨g24.2.1, List.length ((lget x0 i3).f_Result), g24.2.2⟩) (fun w1 (h : w1 = w) => by subst h; exact Below.refl _ _) hr22 (zidx hz21 h16) hp17 hg25 (c_api_Item_f_Result g24 (lget x0 i3)) rfl)) ?_
      refine at_guard_yes rfl rfl rfl ?_
      refine av rfl (r_len_sl Tryz.underlying22 rfl) ?_
      refine at_guard_yes rfl rfl rfl ?_
      refine av rfl (r_igtr rfl rfl) ?_
      refine av rfl (r_pick rfl rfl rfl) ?_
      refine nwt [(0, _), (3, _), (28, _)] ⟨rfl, rfl, rfl, trivial⟩ ?_
      rcases of_ite hF with ⟨h26, hF⟩ | ⟨h26, hF⟩
      ·refine at_cond_true rfl h26 ?_
       refine sr ?_
       refine av rfl (r_assign rfl) ?_
       refine nwt [(2, _)] ⟨rfl, trivial⟩ ?_
       refine at_ret ?_
       refine at_blk_ret (at_then_ret (at_then_ret (at_blk_ret (at_then_ret ?_))))
       obtain rfl := of_some hF
       subst K
       exact at_return1 rfl rfl (fun w1 hw => ⟨rfl, hw⟩)
      ·refine at_cond_false rfl h26 ?_
       refine at_skip ?_
       refine at_blk_normal (at_then_normal ?_)
       refine at_region ?_
       refine av rfl (r_move rfl) ?_
       refine av rfl (r_iadd rfl rfl) ?_
       refine av rfl (r_assign rfl) ?_
       refine nwt [(0, _), (3, _)] ⟨rfl, rfl, trivial⟩ ?_
       exact at_weak_k (ih _ _ hF K) ⟨rfl, rfl, trivial⟩
    ·refine at_cond_false rfl h4 ?_
     refine at_exit ?_
     refine at_then_exit (at_then_exit ?_)
     obtain rfl := of_some hF
     exact at_weak_k K trivial
  ·cases q2 with
   | ret r' => exact of_some hF
   | nx sq2 =>
    skip
    refine at_blk_same ?_
    refine at_then_normal ?_
    refine sr ?_
    refine av rfl (r_assign rfl) ?_
    refine nwt [(2, _)] ⟨rfl, trivial⟩ ?_
    refine at_ret ?_
    have K := of_some hF
    subst K
    exact at_return1 rfl rfl (fun w1 hw => ⟨rfl, hw⟩)
def bytes_Equal (x0 : List Int) (x1 : List Int) : Option (Bool) :=
  some (seq (⟨(unb x0).toArray⟩ : ByteArray) (⟨(unb x1).toArray⟩ : ByteArray))
theorem bytes_Equal_ok (x0 : List Int) (p0_ : Option Addr) (c0_ : Nat) (x1 : List Int) (p1_ : Option Addr) (c1_ : Nat) (r : Bool) (hF : bytes_Equal x0 x1 = some r) (w : World) (hr0 : Row (cInt .u8) w p0_ c0_ x0) (hr1 : Row (cInt .u8) w p1_ c1_ x1) :
    Calls Tryz.prog 34 #[.slice p0_ x0.length c0_, .slice p1_ x1.length c1_] w (fun e w' => e = .returned (.bool r) ∧ w' = w) := by
 unfold bytes_Equal at hF
 refine calls_enter (l := [.slice p0_ x0.length c0_, .slice p1_ x1.length c1_]) Tryz.func34 rfl rfl rfl ?_
 refine at_weak [(0, _), (1, _)] ⟨rfl, rfl, trivial⟩ ?_
 refine sr ?_
 refine av rfl (r_assign rfl) ?_
 refine nws [(0, _), (1, _)] ⟨rfl, rfl, trivial⟩ ?_
 refine av rfl (r_move rfl) ?_
 refine av rfl (r_conv_bytes (xs := (x0 : List Int)) Tryz.underlying22 Tryz.underlying5 Tryz.underlying9 rfl (fun w1 hw => (hr0.below (by subst hw; exact Below.refl _ _)))) ?_
 refine av rfl (r_move rfl) ?_
 refine av rfl (r_conv_bytes (xs := (x1 : List Int)) Tryz.underlying22 Tryz.underlying5 Tryz.underlying9 rfl (fun w1 hw => (hr1.below (by subst hw; exact Below.refl _ _)))) ?_
 refine av rfl (r_seql rfl rfl) ?_
 refine av rfl (r_assign rfl) ?_
 refine nwt [(4, _)] ⟨rfl, trivial⟩ ?_
 refine at_ret ?_
 have K := of_some hF
 subst K
 exact at_return1 rfl rfl (fun w1 hw => ⟨rfl, hw⟩)
def crawlwayref01_Same.l0 (x0 : List Int) (x1 : List Int) (i3 : Int) : Option (Ctl (Bool) (Unit)) :=
  if (decide (i3 < (x0.length : Int))) = true then (if (0 : Int) ≤ i3 ∧ i3 < (x0.length : Int) then if (0 : Int) ≤ i3 ∧ i3 < (x1.length : Int) then if (lget x0 i3 != lget x1 i3) = true then (some (.ret false)) else (crawlwayref01_Same.l0 x0 x1 (wr .i64 (i3 + 1))) else none else none) else (some (.nx ()))
  partial_fixpoint
def crawlwayref01_Same (x0 : List Int) (x1 : List Int) : Option (Bool) :=
  if ((x0.length : Int) != (x1.length : Int)) = true then (some false) else (crawlwayref01_Same.l0 x0 x1 0 >>= fun q2 => match q2 with | .ret r' => some r' | .nx sq2 => (some true))
theorem crawlwayref01_Same_ok (x0 : List Int) (p0_ : Option Addr) (c0_ : Nat) (x1 : List Int) (p1_ : Option Addr) (c1_ : Nat) (r : Bool) (hF : crawlwayref01_Same x0 x1 = some r) (w : World) (hr0 : Row (cInt .u8) w p0_ c0_ x0) (hr1 : Row (cInt .u8) w p1_ c1_ x1) :
    Calls Tryz.prog 35 #[.slice p0_ x0.length c0_, .slice p1_ x1.length c1_] w (fun e w' => e = .returned (.bool r) ∧ Below w.heap.size w w') := by
 unfold crawlwayref01_Same at hF
 refine calls_enter (l := [.slice p0_ x0.length c0_, .slice p1_ x1.length c1_]) Tryz.func35 rfl rfl rfl ?_
 refine at_start ?_
 refine at_weak [(0, _), (1, _)] ⟨rfl, rfl, trivial⟩ ?_
 refine sr ?_
 refine av rfl (r_assign rfl) ?_
 refine nwt [(0, _), (1, _)] ⟨rfl, rfl, trivial⟩ ?_
 refine at_seq ?_
 refine sr ?_
 refine av rfl (r_move rfl) ?_
 refine av rfl (r_len_sl Tryz.underlying22 rfl) ?_
 refine av rfl (r_move rfl) ?_
 refine av rfl (r_len_sl Tryz.underlying22 rfl) ?_
 refine av rfl (r_ineq rfl rfl) ?_
 refine nwt [(0, _), (1, _), (10, _)] ⟨rfl, rfl, rfl, trivial⟩ ?_
 rcases of_ite hF with ⟨h1, hF⟩ | ⟨h1, hF⟩
 ·refine at_cond_true rfl h1 ?_
  refine sr ?_
  refine av rfl (r_assign rfl) ?_
  refine nwt [(4, _)] ⟨rfl, trivial⟩ ?_
  refine rt ?_
  have K := of_some hF
  subst K
  exact at_return1 rfl rfl (fun w1 hw => ⟨rfl, hw.below⟩)
 ·refine at_cond_false rfl h1 ?_
  refine sn ?_
  refine at_seq ?_
  refine sr ?_
  refine av rfl (r_assign rfl) ?_
  refine nwt [(0, _), (1, _), (5, _)] ⟨rfl, rfl, rfl, trivial⟩ ?_
  refine at_block ?_
  obtain ⟨q2, hq2, hF⟩ := of_bindM hF
  refine at_weak [(0, _), (1, _), (5, _)] ⟨rfl, rfl, rfl, trivial⟩ ?_
  refine at_loop_r (B := 0) (r := r) (q := q2) (A := fun (_ : Unit) Y => At 26 [] (Wd w []) Y) ?_ ?_
  ·intro K
   refine crawlwayref01_Same.l0.partial_correctness x0 x1 (motive := fun i3 x => KR (fun (_ : Unit) Y => At 26 [] (Wd w []) Y) _ 0 r x → Round (fun Y => At 26 [(0, .slice p0_ x0.length c0_), (1, .slice p1_ x1.length c1_), (5, .int .i64 i3)] (Wd w []) Y) _ _ _) ?_ _ _ hq2 K
   ·clear K hF
    intro g ih i3 x hF K
    refine at_round ?_
    refine at_seq ?_
    refine sr ?_
    refine av rfl (r_move rfl) ?_
    refine av rfl (r_move rfl) ?_
    refine av rfl (r_len_sl Tryz.underlying22 rfl) ?_
    refine av rfl (r_ilss rfl rfl) ?_
    refine nwt [(0, _), (1, _), (5, _), (14, _)] ⟨rfl, rfl, rfl, rfl, trivial⟩ ?_
    rcases of_ite hF with ⟨h4, hF⟩ | ⟨h4, hF⟩
    ·refine at_cond_true rfl h4 ?_
     refine sn ?_
     refine at_seq ?_
     refine at_block ?_
     refine at_seq ?_
     refine at_draw (by kernel_rfl) (by kernel_rfl) (fun _ h => h.drew) ?_
     refine atq_val rfl rfl rfl (r_move rfl) ?_
     refine atq_val rfl rfl rfl (r_move rfl) ?_
     obtain ⟨h5, hF⟩ := of_guard hF
     obtain ⟨b7, o8, hp6⟩ := row_ptr hr0 h5
     refine atq_val rfl rfl rfl (r_idx Tryz.underlying22 Tryz.sizeOf5 rfl rfl h5 hp6) ?_
     refine atq_val rfl rfl rfl (r_load_cell Tryz.isAgg5 rfl (row_cell0 (fun _ h => h.below) hr0 h5 hp6 rfl)) ?_
     refine atq_val rfl rfl rfl (r_move rfl) ?_
     refine atq_val rfl rfl rfl (r_move rfl) ?_
     obtain ⟨h9, hF⟩ := of_guard hF
     obtain ⟨b11, o12, hp10⟩ := row_ptr hr1 h9
     refine atq_val rfl rfl rfl (r_idx Tryz.underlying22 Tryz.sizeOf5 rfl rfl h9 hp10) ?_
     refine atq_val rfl rfl rfl (r_load_cell Tryz.isAgg5 rfl (row_cell0 (fun _ h => h.below) hr1 h9 hp10 rfl)) ?_
     refine atq_val rfl rfl rfl (r_ineq rfl rfl) ?_
     refine atq_nil ?_
     refine at_weak [(0, _), (1, _), (5, _), (25, _)] ⟨rfl, rfl, rfl, rfl, trivial⟩ ?_
     refine at_then_normal ?_
     rcases of_ite hF with ⟨h13, hF⟩ | ⟨h13, hF⟩
     ·refine at_cond_true rfl h13 ?_
      refine sr ?_
      refine av rfl (r_assign rfl) ?_
      refine nwt [(4, _)] ⟨rfl, trivial⟩ ?_
      refine at_ret ?_
      refine at_blk_ret (at_then_ret (at_then_ret (at_blk_ret (at_then_ret ?_))))
      obtain rfl := of_some hF
      subst K
      exact at_return1 rfl rfl (fun w1 hw => ⟨rfl, hw.below⟩)
     ·refine at_cond_false rfl h13 ?_
      refine at_skip ?_
      refine at_blk_normal (at_then_normal ?_)
      refine at_region ?_
      refine av rfl (r_move rfl) ?_
      refine av rfl (r_iadd rfl rfl) ?_
      refine av rfl (r_assign rfl) ?_
      refine nwt [(0, _), (1, _), (5, _)] ⟨rfl, rfl, rfl, trivial⟩ ?_
      exact at_weak_k (ih _ _ hF K) ⟨rfl, rfl, rfl, trivial⟩
    ·refine at_cond_false rfl h4 ?_
     refine at_exit ?_
     refine at_then_exit (at_then_exit ?_)
     obtain rfl := of_some hF
     exact at_weak_k K trivial
  ·cases q2 with
   | ret r' => exact of_some hF
   | nx sq2 =>
    skip
    refine at_blk_same ?_
    refine at_then_normal ?_
    refine sr ?_
    refine av rfl (r_assign rfl) ?_
    refine nwt [(4, _)] ⟨rfl, trivial⟩ ?_
    refine at_ret ?_
    have K := of_some hF
    subst K
    exact at_return1 rfl rfl (fun w1 hw => ⟨rfl, hw.below⟩)
def crawlwayref50_Same (x0 : S_api_Item) (x1 : S_api_Item) : Option (Bool) :=
  if (x0.f_Kind == x1.f_Kind) = true then (crawlwayref01_Same x0.f_Bytes x1.f_Bytes >>= fun t4 => if t4 = true then (if (decide (x0.f_From = x1.f_From)) = true then (crawlwayref01_Same x0.f_Result x1.f_Result >>= fun t7 => if t7 = true then (if (x0.f_Ok == x1.f_Ok) = true then (if (decide (x0.f_Key = x1.f_Key)) = true then (if (x0.f_Local == x1.f_Local) = true then (if (x0.f_Remote == x1.f_Remote) = true then (some (x0.f_Next == x1.f_Next)) else (some false)) else (some false)) else (some false)) else (some false)) else (some false)) else (some false)) else (some false)) else (some false)
theorem crawlwayref50_Same_ok (g0_ : G_api_Item) (x0 : S_api_Item) (g1_ : G_api_Item) (x1 : S_api_Item) (r : Bool) (hF : crawlwayref50_Same x0 x1 = some r) (w : World) (hn0 : N_api_Item w (g0_, x0)) (hn1 : N_api_Item w (g1_, x1)) :
    Calls Tryz.prog 13 #[.agg (Cd.cs c_api_Item (g0_, x0)).toArray, .agg (Cd.cs c_api_Item (g1_, x1)).toArray] w (fun e w' => e = .returned (.bool r) ∧ Below w.heap.size w w') := by
 unfold crawlwayref50_Same at hF
 refine calls_enter (l := [.agg (Cd.cs c_api_Item (g0_, x0)).toArray, .agg (Cd.cs c_api_Item (g1_, x1)).toArray]) Tryz.func13 rfl rfl rfl ?_
 refine at_start ?_
 refine at_weak [(0, _), (1, _)] ⟨rfl, rfl, trivial⟩ ?_
 refine sr ?_
 refine at_box (cs := Cd.cs c_api_Item (g0_, x0)) rfl rfl rfl ?_
 intro b1
 refine at_box (cs := Cd.cs c_api_Item (g1_, x1)) rfl rfl rfl ?_
 intro b2
 refine av rfl (r_assign rfl) ?_
 refine nws [(2, _), (3, _)] ⟨rfl, rfl, trivial⟩ ?_
 refine av rfl (r_fieldAddr (fo := 0) Tryz.underlying33 rfl rfl (fun w => ⟨_, Tryz.sizeOf3 w⟩) rfl) ?_
 refine av rfl (r_load_cell Tryz.isAgg3 rfl (lens_cell0 (c := (cInt .i64)) (y := x0.f_Kind) (.s .z) (c_api_Item_f_Kind g0_ x0) rfl)) ?_
 refine av rfl (r_fieldAddr (fo := 0) Tryz.underlying33 rfl rfl (fun w => ⟨_, Tryz.sizeOf3 w⟩) rfl) ?_
 refine av rfl (r_load_cell Tryz.isAgg3 rfl (lens_cell0 (c := (cInt .i64)) (y := x1.f_Kind) .z (c_api_Item_f_Kind g1_ x1) rfl)) ?_
 refine av rfl (r_ieql rfl rfl) ?_
 refine av rfl (r_move rfl) ?_
 rcases of_ite hF with ⟨h3, hF⟩ | ⟨h3, hF⟩
 ·refine at_fix (g := 10) rfl h3 ?_
  refine at_guard_yes rfl rfl rfl ?_
  refine av rfl (r_fieldAddr (fo := 1) Tryz.underlying33 rfl rfl (fun w => ⟨_, Tryz.sizeOf22 w⟩) rfl) ?_
  refine at_guard_yes rfl rfl rfl ?_
  refine av rfl (r_load_cell Tryz.isAgg22 rfl (lens_cell0 (c := cHd) (y := ⟨g0_.1.1, List.length x0.f_Bytes, g0_.1.2⟩) (.s .z) (c_api_Item_f_Bytes g0_ x0) rfl)) ?_
  refine at_guard_yes rfl rfl rfl ?_
  refine av rfl (r_fieldAddr (fo := 1) Tryz.underlying33 rfl rfl (fun w => ⟨_, Tryz.sizeOf22 w⟩) rfl) ?_
  refine at_guard_yes rfl rfl rfl ?_
  refine av rfl (r_load_cell Tryz.isAgg22 rfl (lens_cell0 (c := cHd) (y := ⟨g1_.1.1, List.length x1.f_Bytes, g1_.1.2⟩) .z (c_api_Item_f_Bytes g1_ x1) rfl)) ?_
  refine at_guard_yes rfl rfl rfl ?_
  obtain ⟨t4, ht4, hF⟩ := of_bindM hF
  refine at_callB Tryz.func35 rfl (by kernel_rfl) rfl rfl (fun w hw => crawlwayref01_Same_ok _ _ _ _ _ _ _ ht4 w ((hn0).1.below hw.below) ((hn1).1.below hw.below)) ?_
  refine av rfl (r_pick rfl rfl rfl) ?_
  refine av rfl (r_move rfl) ?_
  rcases of_ite hF with ⟨h5, hF⟩ | ⟨h5, hF⟩
  ·refine at_fix (g := 17) rfl h5 ?_
   refine at_guard_yes rfl rfl rfl ?_
   refine av rfl (r_fieldAddr (fo := 2) Tryz.underlying33 rfl rfl (fun w => ⟨_, Tryz.sizeOf27 w⟩) rfl) ?_
   refine at_guard_yes rfl rfl rfl ?_
   refine av rfl (r_load_aggc (c := c_api_Endpoint) (z := x0.f_From) Tryz.isAgg27 Tryz.sizeOf27 rfl (lens_cell (.s .z) (c_api_Item_f_From g0_ x0))) ?_
   refine at_guard_yes rfl rfl rfl ?_
   refine av rfl (r_fieldAddr (fo := 2) Tryz.underlying33 rfl rfl (fun w => ⟨_, Tryz.sizeOf27 w⟩) rfl) ?_
   refine at_guard_yes rfl rfl rfl ?_
   refine av rfl (r_load_aggc (c := c_api_Endpoint) (z := x1.f_From) Tryz.isAgg27 Tryz.sizeOf27 rfl (lens_cell .z (c_api_Item_f_From g1_ x1))) ?_
   refine at_guard_yes rfl rfl rfl ?_
   refine av rfl (r_eqagg (c := c_api_Endpoint) (a := x0.f_From) (b := x1.f_From) (eq_api_Endpoint_27) rfl Tryz.eqGuardType27 rfl rfl (.inl rfl) rfl) ?_
   refine av rfl (r_pick rfl rfl rfl) ?_
   refine av rfl (r_move rfl) ?_
   rcases of_ite hF with ⟨h6, hF⟩ | ⟨h6, hF⟩
   ·refine at_fix (g := 24) rfl h6 ?_
    refine at_guard_yes rfl rfl rfl ?_
    refine av rfl (r_fieldAddr (fo := 20) Tryz.underlying33 rfl rfl (fun w => ⟨_, Tryz.sizeOf22 w⟩) rfl) ?_
    refine at_guard_yes rfl rfl rfl ?_
    refine av rfl (r_load_cell Tryz.isAgg22 rfl (lens_cell0 (c := cHd) (y := ⟨g0_.2.1, List.length x0.f_Result, g0_.2.2⟩) (.s .z) (c_api_Item_f_Result g0_ x0) rfl)) ?_
    refine at_guard_yes rfl rfl rfl ?_
    refine av rfl (r_fieldAddr (fo := 20) Tryz.underlying33 rfl rfl (fun w => ⟨_, Tryz.sizeOf22 w⟩) rfl) ?_
    refine at_guard_yes rfl rfl rfl ?_
    refine av rfl (r_load_cell Tryz.isAgg22 rfl (lens_cell0 (c := cHd) (y := ⟨g1_.2.1, List.length x1.f_Result, g1_.2.2⟩) .z (c_api_Item_f_Result g1_ x1) rfl)) ?_
    refine at_guard_yes rfl rfl rfl ?_
    obtain ⟨t7, ht7, hF⟩ := of_bindM hF
    refine at_callB Tryz.func35 rfl (by kernel_rfl) rfl rfl (fun w hw => crawlwayref01_Same_ok _ _ _ _ _ _ _ ht7 w ((hn0).2.below hw.below) ((hn1).2.below hw.below)) ?_
    refine av rfl (r_pick rfl rfl rfl) ?_
    refine av rfl (r_move rfl) ?_
    rcases of_ite hF with ⟨h8, hF⟩ | ⟨h8, hF⟩
    ·refine at_fix (g := 31) rfl h8 ?_
     refine at_guard_yes rfl rfl rfl ?_
     refine av rfl (r_fieldAddr (fo := 21) Tryz.underlying33 rfl rfl (fun w => ⟨_, Tryz.sizeOf4 w⟩) rfl) ?_
     refine at_guard_yes rfl rfl rfl ?_
     refine av rfl (r_load_cell Tryz.isAgg4 rfl (lens_cell0 (c := cBool) (y := x0.f_Ok) (.s .z) (c_api_Item_f_Ok g0_ x0) rfl)) ?_
     refine at_guard_yes rfl rfl rfl ?_
     refine av rfl (r_fieldAddr (fo := 21) Tryz.underlying33 rfl rfl (fun w => ⟨_, Tryz.sizeOf4 w⟩) rfl) ?_
     refine at_guard_yes rfl rfl rfl ?_
     refine av rfl (r_load_cell Tryz.isAgg4 rfl (lens_cell0 (c := cBool) (y := x1.f_Ok) .z (c_api_Item_f_Ok g1_ x1) rfl)) ?_
     refine at_guard_yes rfl rfl rfl ?_
     refine av rfl (r_bool Tryz.underlying4 rfl rfl (.inl rfl) rfl) ?_
     refine av rfl (r_pick rfl rfl rfl) ?_
     refine av rfl (r_move rfl) ?_
     rcases of_ite hF with ⟨h9, hF⟩ | ⟨h9, hF⟩
     ·refine at_fix (g := 38) rfl h9 ?_
      refine at_guard_yes rfl rfl rfl ?_
      refine av rfl (r_fieldAddr (fo := 22) Tryz.underlying33 rfl rfl (fun w => ⟨_, Tryz.sizeOf29 w⟩) rfl) ?_
      refine at_guard_yes rfl rfl rfl ?_
      refine av rfl (r_load_aggc (c := (cVec (cInt .u8) 32 (by decide))) (z := x0.f_Key) Tryz.isAgg29 Tryz.sizeOf29 rfl (lens_cell (.s .z) (c_api_Item_f_Key g0_ x0))) ?_
      refine at_guard_yes rfl rfl rfl ?_
      refine av rfl (r_fieldAddr (fo := 22) Tryz.underlying33 rfl rfl (fun w => ⟨_, Tryz.sizeOf29 w⟩) rfl) ?_
      refine at_guard_yes rfl rfl rfl ?_
      refine av rfl (r_load_aggc (c := (cVec (cInt .u8) 32 (by decide))) (z := x1.f_Key) Tryz.isAgg29 Tryz.sizeOf29 rfl (lens_cell .z (c_api_Item_f_Key g1_ x1))) ?_
      refine at_guard_yes rfl rfl rfl ?_
      refine av rfl (r_eqagg (c := (cVec (cInt .u8) 32 (by decide))) (a := x0.f_Key) (b := x1.f_Key) (eqs_vec Tryz.underlying29 infoT5 Tryz.sizeOf5 Tryz.isAgg5 (.inr rfl) (eqs_int Tryz.underlying5)) rfl Tryz.eqGuardType29 rfl rfl (.inl rfl) rfl) ?_
      refine av rfl (r_pick rfl rfl rfl) ?_
      refine av rfl (r_move rfl) ?_
      rcases of_ite hF with ⟨h10, hF⟩ | ⟨h10, hF⟩
      ·refine at_fix (g := 45) rfl h10 ?_
       refine at_guard_yes rfl rfl rfl ?_
       refine av rfl (r_fieldAddr (fo := 54) Tryz.underlying33 rfl rfl (fun w => ⟨_, Tryz.sizeOf30 w⟩) rfl) ?_
       refine at_guard_yes rfl rfl rfl ?_
       refine av rfl (r_load_cell Tryz.isAgg30 rfl (lens_cell0 (c := (cInt .u32)) (y := x0.f_Local) (.s .z) (c_api_Item_f_Local g0_ x0) rfl)) ?_
       refine at_guard_yes rfl rfl rfl ?_
       refine av rfl (r_fieldAddr (fo := 54) Tryz.underlying33 rfl rfl (fun w => ⟨_, Tryz.sizeOf30 w⟩) rfl) ?_
       refine at_guard_yes rfl rfl rfl ?_
       refine av rfl (r_load_cell Tryz.isAgg30 rfl (lens_cell0 (c := (cInt .u32)) (y := x1.f_Local) .z (c_api_Item_f_Local g1_ x1) rfl)) ?_
       refine at_guard_yes rfl rfl rfl ?_
       refine av rfl (r_ieql rfl rfl) ?_
       refine av rfl (r_pick rfl rfl rfl) ?_
       refine av rfl (r_move rfl) ?_
       rcases of_ite hF with ⟨h11, hF⟩ | ⟨h11, hF⟩
       ·refine at_fix (g := 52) rfl h11 ?_
        refine at_guard_yes rfl rfl rfl ?_
        refine av rfl (r_fieldAddr (fo := 55) Tryz.underlying33 rfl rfl (fun w => ⟨_, Tryz.sizeOf30 w⟩) rfl) ?_
        refine at_guard_yes rfl rfl rfl ?_
        refine av rfl (r_load_cell Tryz.isAgg30 rfl (lens_cell0 (c := (cInt .u32)) (y := x0.f_Remote) (.s .z) (c_api_Item_f_Remote g0_ x0) rfl)) ?_
        refine at_guard_yes rfl rfl rfl ?_
        refine av rfl (r_fieldAddr (fo := 55) Tryz.underlying33 rfl rfl (fun w => ⟨_, Tryz.sizeOf30 w⟩) rfl) ?_
        refine at_guard_yes rfl rfl rfl ?_
        refine av rfl (r_load_cell Tryz.isAgg30 rfl (lens_cell0 (c := (cInt .u32)) (y := x1.f_Remote) .z (c_api_Item_f_Remote g1_ x1) rfl)) ?_
        refine at_guard_yes rfl rfl rfl ?_
        refine av rfl (r_ieql rfl rfl) ?_
        refine av rfl (r_pick rfl rfl rfl) ?_
        refine av rfl (r_move rfl) ?_
        rcases of_ite hF with ⟨h12, hF⟩ | ⟨h12, hF⟩
        ·refine at_fix (g := 59) rfl h12 ?_
         refine at_guard_yes rfl rfl rfl ?_
         refine av rfl (r_fieldAddr (fo := 56) Tryz.underlying33 rfl rfl (fun w => ⟨_, Tryz.sizeOf31 w⟩) rfl) ?_
         refine at_guard_yes rfl rfl rfl ?_
         refine av rfl (r_load_cell Tryz.isAgg31 rfl (lens_cell0 (c := (cInt .u64)) (y := x0.f_Next) (.s .z) (c_api_Item_f_Next g0_ x0) rfl)) ?_
         refine at_guard_yes rfl rfl rfl ?_
         refine av rfl (r_fieldAddr (fo := 56) Tryz.underlying33 rfl rfl (fun w => ⟨_, Tryz.sizeOf31 w⟩) rfl) ?_
         refine at_guard_yes rfl rfl rfl ?_
         refine av rfl (r_load_cell Tryz.isAgg31 rfl (lens_cell0 (c := (cInt .u64)) (y := x1.f_Next) .z (c_api_Item_f_Next g1_ x1) rfl)) ?_
         refine at_guard_yes rfl rfl rfl ?_
         refine av rfl (r_ieql rfl rfl) ?_
         refine av rfl (r_pick rfl rfl rfl) ?_
         refine av rfl (r_assign rfl) ?_
         refine at_nil ?_
         refine at_drop (H := _) .z ?_
         refine at_drop (H := _) .z ?_
         refine at_weak [(4, _)] ⟨rfl, trivial⟩ ?_
         refine at_then_normal ?_
         refine at_ret ?_
         have K := of_some hF
         subst K
         exact at_return1 rfl rfl (fun w1 hw => ⟨rfl, hw.below⟩)
        ·refine at_fix (g := 59) rfl h12 ?_
         refine at_guard_no rfl rfl rfl rfl rfl ?_
         refine at_guard_no rfl rfl rfl rfl rfl ?_
         refine at_guard_no rfl rfl rfl rfl rfl ?_
         refine at_guard_no rfl rfl rfl rfl rfl ?_
         refine at_guard_no rfl rfl rfl rfl rfl ?_
         refine av rfl (r_pick rfl rfl rfl) ?_
         refine av rfl (r_assign rfl) ?_
         refine at_nil ?_
         refine at_drop (H := _) .z ?_
         refine at_drop (H := _) .z ?_
         refine at_weak [(4, _)] ⟨rfl, trivial⟩ ?_
         refine at_then_normal ?_
         refine at_ret ?_
         have K := of_some hF
         subst K
         exact at_return1 rfl rfl (fun w1 hw => ⟨rfl, hw.below⟩)
       ·refine at_fix (g := 52) rfl h11 ?_
        refine at_guard_no rfl rfl rfl rfl rfl ?_
        refine at_guard_no rfl rfl rfl rfl rfl ?_
        refine at_guard_no rfl rfl rfl rfl rfl ?_
        refine at_guard_no rfl rfl rfl rfl rfl ?_
        refine at_guard_no rfl rfl rfl rfl rfl ?_
        refine av rfl (r_pick rfl rfl rfl) ?_
        refine av rfl (r_move rfl) ?_
        refine at_guard_no rfl rfl rfl rfl rfl ?_
        refine at_guard_no rfl rfl rfl rfl rfl ?_
        refine at_guard_no rfl rfl rfl rfl rfl ?_
        refine at_guard_no rfl rfl rfl rfl rfl ?_
        refine at_guard_no rfl rfl rfl rfl rfl ?_
        refine av rfl (r_pick rfl rfl rfl) ?_
        refine av rfl (r_assign rfl) ?_
        refine at_nil ?_
        refine at_drop (H := _) .z ?_
        refine at_drop (H := _) .z ?_
        refine at_weak [(4, _)] ⟨rfl, trivial⟩ ?_
        refine at_then_normal ?_
        refine at_ret ?_
        have K := of_some hF
        subst K
        exact at_return1 rfl rfl (fun w1 hw => ⟨rfl, hw.below⟩)
      ·refine at_fix (g := 45) rfl h10 ?_
       refine at_guard_no rfl rfl rfl rfl rfl ?_
       refine at_guard_no rfl rfl rfl rfl rfl ?_
       refine at_guard_no rfl rfl rfl rfl rfl ?_
       refine at_guard_no rfl rfl rfl rfl rfl ?_
       refine at_guard_no rfl rfl rfl rfl rfl ?_
       refine av rfl (r_pick rfl rfl rfl) ?_
       refine av rfl (r_move rfl) ?_
       refine at_guard_no rfl rfl rfl rfl rfl ?_
       refine at_guard_no rfl rfl rfl rfl rfl ?_
       refine at_guard_no rfl rfl rfl rfl rfl ?_
       refine at_guard_no rfl rfl rfl rfl rfl ?_
       refine at_guard_no rfl rfl rfl rfl rfl ?_
       refine av rfl (r_pick rfl rfl rfl) ?_
       refine av rfl (r_move rfl) ?_
       refine at_guard_no rfl rfl rfl rfl rfl ?_
       refine at_guard_no rfl rfl rfl rfl rfl ?_
       refine at_guard_no rfl rfl rfl rfl rfl ?_
       refine at_guard_no rfl rfl rfl rfl rfl ?_
       refine at_guard_no rfl rfl rfl rfl rfl ?_
       refine av rfl (r_pick rfl rfl rfl) ?_
       refine av rfl (r_assign rfl) ?_
       refine at_nil ?_
       refine at_drop (H := _) .z ?_
       refine at_drop (H := _) .z ?_
       refine at_weak [(4, _)] ⟨rfl, trivial⟩ ?_
       refine at_then_normal ?_
       refine at_ret ?_
       have K := of_some hF
       subst K
       exact at_return1 rfl rfl (fun w1 hw => ⟨rfl, hw.below⟩)
     ·refine at_fix (g := 38) rfl h9 ?_
      refine at_guard_no rfl rfl rfl rfl rfl ?_
      refine at_guard_no rfl rfl rfl rfl rfl ?_
      refine at_guard_no rfl rfl rfl rfl rfl ?_
      refine at_guard_no rfl rfl rfl rfl rfl ?_
      refine at_guard_no rfl rfl rfl rfl rfl ?_
      refine av rfl (r_pick rfl rfl rfl) ?_
      refine av rfl (r_move rfl) ?_
      refine at_guard_no rfl rfl rfl rfl rfl ?_
      refine at_guard_no rfl rfl rfl rfl rfl ?_
      refine at_guard_no rfl rfl rfl rfl rfl ?_
      refine at_guard_no rfl rfl rfl rfl rfl ?_
      refine at_guard_no rfl rfl rfl rfl rfl ?_
      refine av rfl (r_pick rfl rfl rfl) ?_
      refine av rfl (r_move rfl) ?_
      refine at_guard_no rfl rfl rfl rfl rfl ?_
      refine at_guard_no rfl rfl rfl rfl rfl ?_
      refine at_guard_no rfl rfl rfl rfl rfl ?_
      refine at_guard_no rfl rfl rfl rfl rfl ?_
      refine at_guard_no rfl rfl rfl rfl rfl ?_
      refine av rfl (r_pick rfl rfl rfl) ?_
      refine av rfl (r_move rfl) ?_
      refine at_guard_no rfl rfl rfl rfl rfl ?_
      refine at_guard_no rfl rfl rfl rfl rfl ?_
      refine at_guard_no rfl rfl rfl rfl rfl ?_
      refine at_guard_no rfl rfl rfl rfl rfl ?_
      refine at_guard_no rfl rfl rfl rfl rfl ?_
      refine av rfl (r_pick rfl rfl rfl) ?_
      refine av rfl (r_assign rfl) ?_
      refine at_nil ?_
      refine at_drop (H := _) .z ?_
      refine at_drop (H := _) .z ?_
      refine at_weak [(4, _)] ⟨rfl, trivial⟩ ?_
      refine at_then_normal ?_
      refine at_ret ?_
      have K := of_some hF
      subst K
      exact at_return1 rfl rfl (fun w1 hw => ⟨rfl, hw.below⟩)
    ·refine at_fix (g := 31) rfl h8 ?_
     refine at_guard_no rfl rfl rfl rfl rfl ?_
     refine at_guard_no rfl rfl rfl rfl rfl ?_
     refine at_guard_no rfl rfl rfl rfl rfl ?_
     refine at_guard_no rfl rfl rfl rfl rfl ?_
     refine at_guard_no rfl rfl rfl rfl rfl ?_
     refine av rfl (r_pick rfl rfl rfl) ?_
     refine av rfl (r_move rfl) ?_
     refine at_guard_no rfl rfl rfl rfl rfl ?_
     refine at_guard_no rfl rfl rfl rfl rfl ?_
     refine at_guard_no rfl rfl rfl rfl rfl ?_
     refine at_guard_no rfl rfl rfl rfl rfl ?_
     refine at_guard_no rfl rfl rfl rfl rfl ?_
     refine av rfl (r_pick rfl rfl rfl) ?_
     refine av rfl (r_move rfl) ?_
     refine at_guard_no rfl rfl rfl rfl rfl ?_
     refine at_guard_no rfl rfl rfl rfl rfl ?_
     refine at_guard_no rfl rfl rfl rfl rfl ?_
     refine at_guard_no rfl rfl rfl rfl rfl ?_
     refine at_guard_no rfl rfl rfl rfl rfl ?_
     refine av rfl (r_pick rfl rfl rfl) ?_
     refine av rfl (r_move rfl) ?_
     refine at_guard_no rfl rfl rfl rfl rfl ?_
     refine at_guard_no rfl rfl rfl rfl rfl ?_
     refine at_guard_no rfl rfl rfl rfl rfl ?_
     refine at_guard_no rfl rfl rfl rfl rfl ?_
     refine at_guard_no rfl rfl rfl rfl rfl ?_
     refine av rfl (r_pick rfl rfl rfl) ?_
     refine av rfl (r_move rfl) ?_
     refine at_guard_no rfl rfl rfl rfl rfl ?_
     refine at_guard_no rfl rfl rfl rfl rfl ?_
     refine at_guard_no rfl rfl rfl rfl rfl ?_
     refine at_guard_no rfl rfl rfl rfl rfl ?_
     refine at_guard_no rfl rfl rfl rfl rfl ?_
     refine av rfl (r_pick rfl rfl rfl) ?_
     refine av rfl (r_assign rfl) ?_
     refine at_nil ?_
     refine at_drop (H := _) .z ?_
     refine at_drop (H := _) .z ?_
     refine at_weak [(4, _)] ⟨rfl, trivial⟩ ?_
     refine at_then_normal ?_
     refine at_ret ?_
     have K := of_some hF
     subst K
     exact at_return1 rfl rfl (fun w1 hw => ⟨rfl, hw.below⟩)
   ·refine at_fix (g := 24) rfl h6 ?_
    refine at_guard_no rfl rfl rfl rfl rfl ?_
    refine at_guard_no rfl rfl rfl rfl rfl ?_
    refine at_guard_no rfl rfl rfl rfl rfl ?_
    refine at_guard_no rfl rfl rfl rfl rfl ?_
    refine at_guard_no rfl rfl rfl rfl rfl ?_
    refine av rfl (r_pick rfl rfl rfl) ?_
    refine av rfl (r_move rfl) ?_
    refine at_guard_no rfl rfl rfl rfl rfl ?_
    refine at_guard_no rfl rfl rfl rfl rfl ?_
    refine at_guard_no rfl rfl rfl rfl rfl ?_
    refine at_guard_no rfl rfl rfl rfl rfl ?_
    refine at_guard_no rfl rfl rfl rfl rfl ?_
    refine av rfl (r_pick rfl rfl rfl) ?_
    refine av rfl (r_move rfl) ?_
    refine at_guard_no rfl rfl rfl rfl rfl ?_
    refine at_guard_no rfl rfl rfl rfl rfl ?_
    refine at_guard_no rfl rfl rfl rfl rfl ?_
    refine at_guard_no rfl rfl rfl rfl rfl ?_
    refine at_guard_no rfl rfl rfl rfl rfl ?_
    refine av rfl (r_pick rfl rfl rfl) ?_
    refine av rfl (r_move rfl) ?_
    refine at_guard_no rfl rfl rfl rfl rfl ?_
    refine at_guard_no rfl rfl rfl rfl rfl ?_
    refine at_guard_no rfl rfl rfl rfl rfl ?_
    refine at_guard_no rfl rfl rfl rfl rfl ?_
    refine at_guard_no rfl rfl rfl rfl rfl ?_
    refine av rfl (r_pick rfl rfl rfl) ?_
    refine av rfl (r_move rfl) ?_
    refine at_guard_no rfl rfl rfl rfl rfl ?_
    refine at_guard_no rfl rfl rfl rfl rfl ?_
    refine at_guard_no rfl rfl rfl rfl rfl ?_
    refine at_guard_no rfl rfl rfl rfl rfl ?_
    refine at_guard_no rfl rfl rfl rfl rfl ?_
    refine av rfl (r_pick rfl rfl rfl) ?_
    refine av rfl (r_move rfl) ?_
    refine at_guard_no rfl rfl rfl rfl rfl ?_
    refine at_guard_no rfl rfl rfl rfl rfl ?_
    refine at_guard_no rfl rfl rfl rfl rfl ?_
    refine at_guard_no rfl rfl rfl rfl rfl ?_
    refine at_guard_no rfl rfl rfl rfl rfl ?_
    refine av rfl (r_pick rfl rfl rfl) ?_
    refine av rfl (r_assign rfl) ?_
    refine at_nil ?_
    refine at_drop (H := _) .z ?_
    refine at_drop (H := _) .z ?_
    refine at_weak [(4, _)] ⟨rfl, trivial⟩ ?_
    refine at_then_normal ?_
    refine at_ret ?_
    have K := of_some hF
    subst K
    exact at_return1 rfl rfl (fun w1 hw => ⟨rfl, hw.below⟩)
  ·refine at_fix (g := 17) rfl h5 ?_
   refine at_guard_no rfl rfl rfl rfl rfl ?_
   refine at_guard_no rfl rfl rfl rfl rfl ?_
   refine at_guard_no rfl rfl rfl rfl rfl ?_
   refine at_guard_no rfl rfl rfl rfl rfl ?_
   refine at_guard_no rfl rfl rfl rfl rfl ?_
   refine av rfl (r_pick rfl rfl rfl) ?_
   refine av rfl (r_move rfl) ?_
   refine at_guard_no rfl rfl rfl rfl rfl ?_
   refine at_guard_no rfl rfl rfl rfl rfl ?_
   refine at_guard_no rfl rfl rfl rfl rfl ?_
   refine at_guard_no rfl rfl rfl rfl rfl ?_
   refine at_guard_no rfl rfl rfl rfl rfl ?_
   refine av rfl (r_pick rfl rfl rfl) ?_
   refine av rfl (r_move rfl) ?_
   refine at_guard_no rfl rfl rfl rfl rfl ?_
   refine at_guard_no rfl rfl rfl rfl rfl ?_
   refine at_guard_no rfl rfl rfl rfl rfl ?_
   refine at_guard_no rfl rfl rfl rfl rfl ?_
   refine at_guard_no rfl rfl rfl rfl rfl ?_
   refine av rfl (r_pick rfl rfl rfl) ?_
   refine av rfl (r_move rfl) ?_
   refine at_guard_no rfl rfl rfl rfl rfl ?_
   refine at_guard_no rfl rfl rfl rfl rfl ?_
   refine at_guard_no rfl rfl rfl rfl rfl ?_
   refine at_guard_no rfl rfl rfl rfl rfl ?_
   refine at_guard_no rfl rfl rfl rfl rfl ?_
   refine av rfl (r_pick rfl rfl rfl) ?_
   refine av rfl (r_move rfl) ?_
   refine at_guard_no rfl rfl rfl rfl rfl ?_
   refine at_guard_no rfl rfl rfl rfl rfl ?_
   refine at_guard_no rfl rfl rfl rfl rfl ?_
   refine at_guard_no rfl rfl rfl rfl rfl ?_
   refine at_guard_no rfl rfl rfl rfl rfl ?_
   refine av rfl (r_pick rfl rfl rfl) ?_
   refine av rfl (r_move rfl) ?_
   refine at_guard_no rfl rfl rfl rfl rfl ?_
   refine at_guard_no rfl rfl rfl rfl rfl ?_
   refine at_guard_no rfl rfl rfl rfl rfl ?_
   refine at_guard_no rfl rfl rfl rfl rfl ?_
   refine at_guard_no rfl rfl rfl rfl rfl ?_
   refine av rfl (r_pick rfl rfl rfl) ?_
   refine av rfl (r_move rfl) ?_
   refine at_guard_no rfl rfl rfl rfl rfl ?_
   refine at_guard_no rfl rfl rfl rfl rfl ?_
   refine at_guard_no rfl rfl rfl rfl rfl ?_
   refine at_guard_no rfl rfl rfl rfl rfl ?_
   refine at_guard_no rfl rfl rfl rfl rfl ?_
   refine av rfl (r_pick rfl rfl rfl) ?_
   refine av rfl (r_assign rfl) ?_
   refine at_nil ?_
   refine at_drop (H := _) .z ?_
   refine at_drop (H := _) .z ?_
   refine at_weak [(4, _)] ⟨rfl, trivial⟩ ?_
   refine at_then_normal ?_
   refine at_ret ?_
   have K := of_some hF
   subst K
   exact at_return1 rfl rfl (fun w1 hw => ⟨rfl, hw.below⟩)
 ·refine at_fix (g := 10) rfl h3 ?_
  refine at_guard_no rfl rfl rfl rfl rfl ?_
  refine at_guard_no rfl rfl rfl rfl rfl ?_
  refine at_guard_no rfl rfl rfl rfl rfl ?_
  refine at_guard_no rfl rfl rfl rfl rfl ?_
  refine at_guard_no rfl rfl rfl rfl rfl ?_
  refine av rfl (r_pick rfl rfl rfl) ?_
  refine av rfl (r_move rfl) ?_
  refine at_guard_no rfl rfl rfl rfl rfl ?_
  refine at_guard_no rfl rfl rfl rfl rfl ?_
  refine at_guard_no rfl rfl rfl rfl rfl ?_
  refine at_guard_no rfl rfl rfl rfl rfl ?_
  refine at_guard_no rfl rfl rfl rfl rfl ?_
  refine av rfl (r_pick rfl rfl rfl) ?_
  refine av rfl (r_move rfl) ?_
  refine at_guard_no rfl rfl rfl rfl rfl ?_
  refine at_guard_no rfl rfl rfl rfl rfl ?_
  refine at_guard_no rfl rfl rfl rfl rfl ?_
  refine at_guard_no rfl rfl rfl rfl rfl ?_
  refine at_guard_no rfl rfl rfl rfl rfl ?_
  refine av rfl (r_pick rfl rfl rfl) ?_
  refine av rfl (r_move rfl) ?_
  refine at_guard_no rfl rfl rfl rfl rfl ?_
  refine at_guard_no rfl rfl rfl rfl rfl ?_
  refine at_guard_no rfl rfl rfl rfl rfl ?_
  refine at_guard_no rfl rfl rfl rfl rfl ?_
  refine at_guard_no rfl rfl rfl rfl rfl ?_
  refine av rfl (r_pick rfl rfl rfl) ?_
  refine av rfl (r_move rfl) ?_
  refine at_guard_no rfl rfl rfl rfl rfl ?_
  refine at_guard_no rfl rfl rfl rfl rfl ?_
  refine at_guard_no rfl rfl rfl rfl rfl ?_
  refine at_guard_no rfl rfl rfl rfl rfl ?_
  refine at_guard_no rfl rfl rfl rfl rfl ?_
  refine av rfl (r_pick rfl rfl rfl) ?_
  refine av rfl (r_move rfl) ?_
  refine at_guard_no rfl rfl rfl rfl rfl ?_
  refine at_guard_no rfl rfl rfl rfl rfl ?_
  refine at_guard_no rfl rfl rfl rfl rfl ?_
  refine at_guard_no rfl rfl rfl rfl rfl ?_
  refine at_guard_no rfl rfl rfl rfl rfl ?_
  refine av rfl (r_pick rfl rfl rfl) ?_
  refine av rfl (r_move rfl) ?_
  refine at_guard_no rfl rfl rfl rfl rfl ?_
  refine at_guard_no rfl rfl rfl rfl rfl ?_
  refine at_guard_no rfl rfl rfl rfl rfl ?_
  refine at_guard_no rfl rfl rfl rfl rfl ?_
  refine at_guard_no rfl rfl rfl rfl rfl ?_
  refine av rfl (r_pick rfl rfl rfl) ?_
  refine av rfl (r_move rfl) ?_
  refine at_guard_no rfl rfl rfl rfl rfl ?_
  refine at_guard_no rfl rfl rfl rfl rfl ?_
  refine at_guard_no rfl rfl rfl rfl rfl ?_
  refine at_guard_no rfl rfl rfl rfl rfl ?_
  refine at_guard_no rfl rfl rfl rfl rfl ?_
  refine av rfl (r_pick rfl rfl rfl) ?_
  refine av rfl (r_assign rfl) ?_
  refine at_nil ?_
  refine at_drop (H := _) .z ?_
  refine at_drop (H := _) .z ?_
  refine at_weak [(4, _)] ⟨rfl, trivial⟩ ?_
  refine at_then_normal ?_
  refine at_ret ?_
  have K := of_some hF
  subst K
  exact at_return1 rfl rfl (fun w1 hw => ⟨rfl, hw.below⟩)
def script_Same (x0 : S_api_Item) (x1 : S_api_Item) : Option (Bool) :=
  if (x0.f_Kind == x1.f_Kind) = true then (bytes_Equal x0.f_Bytes x1.f_Bytes >>= fun t4 => if t4 = true then (if (decide (x0.f_From = x1.f_From)) = true then (bytes_Equal x0.f_Result x1.f_Result >>= fun t7 => if t7 = true then (if (x0.f_Ok == x1.f_Ok) = true then (if (decide (x0.f_Key = x1.f_Key)) = true then (if (x0.f_Local == x1.f_Local) = true then (if (x0.f_Remote == x1.f_Remote) = true then (some (x0.f_Next == x1.f_Next)) else (some false)) else (some false)) else (some false)) else (some false)) else (some false)) else (some false)) else (some false)) else (some false)
theorem script_Same_ok (g0_ : G_api_Item) (x0 : S_api_Item) (g1_ : G_api_Item) (x1 : S_api_Item) (r : Bool) (hF : script_Same x0 x1 = some r) (w : World) (hn0 : N_api_Item w (g0_, x0)) (hn1 : N_api_Item w (g1_, x1)) :
    Calls Tryz.prog 12 #[.agg (Cd.cs c_api_Item (g0_, x0)).toArray, .agg (Cd.cs c_api_Item (g1_, x1)).toArray] w (fun e w' => e = .returned (.bool r) ∧ Below w.heap.size w w') := by
 unfold script_Same at hF
 refine calls_enter (l := [.agg (Cd.cs c_api_Item (g0_, x0)).toArray, .agg (Cd.cs c_api_Item (g1_, x1)).toArray]) Tryz.func12 rfl rfl rfl ?_
 refine at_start ?_
 refine at_weak [(0, _), (1, _)] ⟨rfl, rfl, trivial⟩ ?_
 refine sr ?_
 refine at_box (cs := Cd.cs c_api_Item (g0_, x0)) rfl rfl rfl ?_
 intro b1
 refine at_box (cs := Cd.cs c_api_Item (g1_, x1)) rfl rfl rfl ?_
 intro b2
 refine av rfl (r_assign rfl) ?_
 refine nws [(2, _), (3, _)] ⟨rfl, rfl, trivial⟩ ?_
 refine av rfl (r_fieldAddr (fo := 0) Tryz.underlying33 rfl rfl (fun w => ⟨_, Tryz.sizeOf3 w⟩) rfl) ?_
 refine av rfl (r_load_cell Tryz.isAgg3 rfl (lens_cell0 (c := (cInt .i64)) (y := x0.f_Kind) (.s .z) (c_api_Item_f_Kind g0_ x0) rfl)) ?_
 refine av rfl (r_fieldAddr (fo := 0) Tryz.underlying33 rfl rfl (fun w => ⟨_, Tryz.sizeOf3 w⟩) rfl) ?_
 refine av rfl (r_load_cell Tryz.isAgg3 rfl (lens_cell0 (c := (cInt .i64)) (y := x1.f_Kind) .z (c_api_Item_f_Kind g1_ x1) rfl)) ?_
 refine av rfl (r_ieql rfl rfl) ?_
 refine av rfl (r_move rfl) ?_
 rcases of_ite hF with ⟨h3, hF⟩ | ⟨h3, hF⟩
 ·refine at_fix (g := 10) rfl h3 ?_
  refine at_guard_yes rfl rfl rfl ?_
  refine av rfl (r_fieldAddr (fo := 1) Tryz.underlying33 rfl rfl (fun w => ⟨_, Tryz.sizeOf22 w⟩) rfl) ?_
  refine at_guard_yes rfl rfl rfl ?_
  refine av rfl (r_load_cell Tryz.isAgg22 rfl (lens_cell0 (c := cHd) (y := ⟨g0_.1.1, List.length x0.f_Bytes, g0_.1.2⟩) (.s .z) (c_api_Item_f_Bytes g0_ x0) rfl)) ?_
  refine at_guard_yes rfl rfl rfl ?_
  refine av rfl (r_fieldAddr (fo := 1) Tryz.underlying33 rfl rfl (fun w => ⟨_, Tryz.sizeOf22 w⟩) rfl) ?_
  refine at_guard_yes rfl rfl rfl ?_
  refine av rfl (r_load_cell Tryz.isAgg22 rfl (lens_cell0 (c := cHd) (y := ⟨g1_.1.1, List.length x1.f_Bytes, g1_.1.2⟩) .z (c_api_Item_f_Bytes g1_ x1) rfl)) ?_
  refine at_guard_yes rfl rfl rfl ?_
  obtain ⟨t4, ht4, hF⟩ := of_bindM hF
  refine at_callB Tryz.func34 rfl (by kernel_rfl) rfl rfl (fun w hw => callB_of_call0 (bytes_Equal_ok _ _ _ _ _ _ _ ht4 w ((hn0).1.below hw.below) ((hn1).1.below hw.below))) ?_
  refine av rfl (r_pick rfl rfl rfl) ?_
  refine av rfl (r_move rfl) ?_
  rcases of_ite hF with ⟨h5, hF⟩ | ⟨h5, hF⟩
  ·refine at_fix (g := 17) rfl h5 ?_
   refine at_guard_yes rfl rfl rfl ?_
   refine av rfl (r_fieldAddr (fo := 2) Tryz.underlying33 rfl rfl (fun w => ⟨_, Tryz.sizeOf27 w⟩) rfl) ?_
   refine at_guard_yes rfl rfl rfl ?_
   refine av rfl (r_load_aggc (c := c_api_Endpoint) (z := x0.f_From) Tryz.isAgg27 Tryz.sizeOf27 rfl (lens_cell (.s .z) (c_api_Item_f_From g0_ x0))) ?_
   refine at_guard_yes rfl rfl rfl ?_
   refine av rfl (r_fieldAddr (fo := 2) Tryz.underlying33 rfl rfl (fun w => ⟨_, Tryz.sizeOf27 w⟩) rfl) ?_
   refine at_guard_yes rfl rfl rfl ?_
   refine av rfl (r_load_aggc (c := c_api_Endpoint) (z := x1.f_From) Tryz.isAgg27 Tryz.sizeOf27 rfl (lens_cell .z (c_api_Item_f_From g1_ x1))) ?_
   refine at_guard_yes rfl rfl rfl ?_
   refine av rfl (r_eqagg (c := c_api_Endpoint) (a := x0.f_From) (b := x1.f_From) (eq_api_Endpoint_27) rfl Tryz.eqGuardType27 rfl rfl (.inl rfl) rfl) ?_
   refine av rfl (r_pick rfl rfl rfl) ?_
   refine av rfl (r_move rfl) ?_
   rcases of_ite hF with ⟨h6, hF⟩ | ⟨h6, hF⟩
   ·refine at_fix (g := 24) rfl h6 ?_
    refine at_guard_yes rfl rfl rfl ?_
    refine av rfl (r_fieldAddr (fo := 20) Tryz.underlying33 rfl rfl (fun w => ⟨_, Tryz.sizeOf22 w⟩) rfl) ?_
    refine at_guard_yes rfl rfl rfl ?_
    refine av rfl (r_load_cell Tryz.isAgg22 rfl (lens_cell0 (c := cHd) (y := ⟨g0_.2.1, List.length x0.f_Result, g0_.2.2⟩) (.s .z) (c_api_Item_f_Result g0_ x0) rfl)) ?_
    refine at_guard_yes rfl rfl rfl ?_
    refine av rfl (r_fieldAddr (fo := 20) Tryz.underlying33 rfl rfl (fun w => ⟨_, Tryz.sizeOf22 w⟩) rfl) ?_
    refine at_guard_yes rfl rfl rfl ?_
    refine av rfl (r_load_cell Tryz.isAgg22 rfl (lens_cell0 (c := cHd) (y := ⟨g1_.2.1, List.length x1.f_Result, g1_.2.2⟩) .z (c_api_Item_f_Result g1_ x1) rfl)) ?_
    refine at_guard_yes rfl rfl rfl ?_
    obtain ⟨t7, ht7, hF⟩ := of_bindM hF
    refine at_callB Tryz.func34 rfl (by kernel_rfl) rfl rfl (fun w hw => callB_of_call0 (bytes_Equal_ok _ _ _ _ _ _ _ ht7 w ((hn0).2.below hw.below) ((hn1).2.below hw.below))) ?_
    refine av rfl (r_pick rfl rfl rfl) ?_
    refine av rfl (r_move rfl) ?_
    rcases of_ite hF with ⟨h8, hF⟩ | ⟨h8, hF⟩
    ·refine at_fix (g := 31) rfl h8 ?_
     refine at_guard_yes rfl rfl rfl ?_
     refine av rfl (r_fieldAddr (fo := 21) Tryz.underlying33 rfl rfl (fun w => ⟨_, Tryz.sizeOf4 w⟩) rfl) ?_
     refine at_guard_yes rfl rfl rfl ?_
     refine av rfl (r_load_cell Tryz.isAgg4 rfl (lens_cell0 (c := cBool) (y := x0.f_Ok) (.s .z) (c_api_Item_f_Ok g0_ x0) rfl)) ?_
     refine at_guard_yes rfl rfl rfl ?_
     refine av rfl (r_fieldAddr (fo := 21) Tryz.underlying33 rfl rfl (fun w => ⟨_, Tryz.sizeOf4 w⟩) rfl) ?_
     refine at_guard_yes rfl rfl rfl ?_
     refine av rfl (r_load_cell Tryz.isAgg4 rfl (lens_cell0 (c := cBool) (y := x1.f_Ok) .z (c_api_Item_f_Ok g1_ x1) rfl)) ?_
     refine at_guard_yes rfl rfl rfl ?_
     refine av rfl (r_bool Tryz.underlying4 rfl rfl (.inl rfl) rfl) ?_
     refine av rfl (r_pick rfl rfl rfl) ?_
     refine av rfl (r_move rfl) ?_
     rcases of_ite hF with ⟨h9, hF⟩ | ⟨h9, hF⟩
     ·refine at_fix (g := 38) rfl h9 ?_
      refine at_guard_yes rfl rfl rfl ?_
      refine av rfl (r_fieldAddr (fo := 22) Tryz.underlying33 rfl rfl (fun w => ⟨_, Tryz.sizeOf29 w⟩) rfl) ?_
      refine at_guard_yes rfl rfl rfl ?_
      refine av rfl (r_load_aggc (c := (cVec (cInt .u8) 32 (by decide))) (z := x0.f_Key) Tryz.isAgg29 Tryz.sizeOf29 rfl (lens_cell (.s .z) (c_api_Item_f_Key g0_ x0))) ?_
      refine at_guard_yes rfl rfl rfl ?_
      refine av rfl (r_fieldAddr (fo := 22) Tryz.underlying33 rfl rfl (fun w => ⟨_, Tryz.sizeOf29 w⟩) rfl) ?_
      refine at_guard_yes rfl rfl rfl ?_
      refine av rfl (r_load_aggc (c := (cVec (cInt .u8) 32 (by decide))) (z := x1.f_Key) Tryz.isAgg29 Tryz.sizeOf29 rfl (lens_cell .z (c_api_Item_f_Key g1_ x1))) ?_
      refine at_guard_yes rfl rfl rfl ?_
      refine av rfl (r_eqagg (c := (cVec (cInt .u8) 32 (by decide))) (a := x0.f_Key) (b := x1.f_Key) (eqs_vec Tryz.underlying29 infoT5 Tryz.sizeOf5 Tryz.isAgg5 (.inr rfl) (eqs_int Tryz.underlying5)) rfl Tryz.eqGuardType29 rfl rfl (.inl rfl) rfl) ?_
      refine av rfl (r_pick rfl rfl rfl) ?_
      refine av rfl (r_move rfl) ?_
      rcases of_ite hF with ⟨h10, hF⟩ | ⟨h10, hF⟩
      ·refine at_fix (g := 45) rfl h10 ?_
       refine at_guard_yes rfl rfl rfl ?_
       refine av rfl (r_fieldAddr (fo := 54) Tryz.underlying33 rfl rfl (fun w => ⟨_, Tryz.sizeOf30 w⟩) rfl) ?_
       refine at_guard_yes rfl rfl rfl ?_
       refine av rfl (r_load_cell Tryz.isAgg30 rfl (lens_cell0 (c := (cInt .u32)) (y := x0.f_Local) (.s .z) (c_api_Item_f_Local g0_ x0) rfl)) ?_
       refine at_guard_yes rfl rfl rfl ?_
       refine av rfl (r_fieldAddr (fo := 54) Tryz.underlying33 rfl rfl (fun w => ⟨_, Tryz.sizeOf30 w⟩) rfl) ?_
       refine at_guard_yes rfl rfl rfl ?_
       refine av rfl (r_load_cell Tryz.isAgg30 rfl (lens_cell0 (c := (cInt .u32)) (y := x1.f_Local) .z (c_api_Item_f_Local g1_ x1) rfl)) ?_
       refine at_guard_yes rfl rfl rfl ?_
       refine av rfl (r_ieql rfl rfl) ?_
       refine av rfl (r_pick rfl rfl rfl) ?_
       refine av rfl (r_move rfl) ?_
       rcases of_ite hF with ⟨h11, hF⟩ | ⟨h11, hF⟩
       ·refine at_fix (g := 52) rfl h11 ?_
        refine at_guard_yes rfl rfl rfl ?_
        refine av rfl (r_fieldAddr (fo := 55) Tryz.underlying33 rfl rfl (fun w => ⟨_, Tryz.sizeOf30 w⟩) rfl) ?_
        refine at_guard_yes rfl rfl rfl ?_
        refine av rfl (r_load_cell Tryz.isAgg30 rfl (lens_cell0 (c := (cInt .u32)) (y := x0.f_Remote) (.s .z) (c_api_Item_f_Remote g0_ x0) rfl)) ?_
        refine at_guard_yes rfl rfl rfl ?_
        refine av rfl (r_fieldAddr (fo := 55) Tryz.underlying33 rfl rfl (fun w => ⟨_, Tryz.sizeOf30 w⟩) rfl) ?_
        refine at_guard_yes rfl rfl rfl ?_
        refine av rfl (r_load_cell Tryz.isAgg30 rfl (lens_cell0 (c := (cInt .u32)) (y := x1.f_Remote) .z (c_api_Item_f_Remote g1_ x1) rfl)) ?_
        refine at_guard_yes rfl rfl rfl ?_
        refine av rfl (r_ieql rfl rfl) ?_
        refine av rfl (r_pick rfl rfl rfl) ?_
        refine av rfl (r_move rfl) ?_
        rcases of_ite hF with ⟨h12, hF⟩ | ⟨h12, hF⟩
        ·refine at_fix (g := 59) rfl h12 ?_
         refine at_guard_yes rfl rfl rfl ?_
         refine av rfl (r_fieldAddr (fo := 56) Tryz.underlying33 rfl rfl (fun w => ⟨_, Tryz.sizeOf31 w⟩) rfl) ?_
         refine at_guard_yes rfl rfl rfl ?_
         refine av rfl (r_load_cell Tryz.isAgg31 rfl (lens_cell0 (c := (cInt .u64)) (y := x0.f_Next) (.s .z) (c_api_Item_f_Next g0_ x0) rfl)) ?_
         refine at_guard_yes rfl rfl rfl ?_
         refine av rfl (r_fieldAddr (fo := 56) Tryz.underlying33 rfl rfl (fun w => ⟨_, Tryz.sizeOf31 w⟩) rfl) ?_
         refine at_guard_yes rfl rfl rfl ?_
         refine av rfl (r_load_cell Tryz.isAgg31 rfl (lens_cell0 (c := (cInt .u64)) (y := x1.f_Next) .z (c_api_Item_f_Next g1_ x1) rfl)) ?_
         refine at_guard_yes rfl rfl rfl ?_
         refine av rfl (r_ieql rfl rfl) ?_
         refine av rfl (r_pick rfl rfl rfl) ?_
         refine av rfl (r_assign rfl) ?_
         refine at_nil ?_
         refine at_drop (H := _) .z ?_
         refine at_drop (H := _) .z ?_
         refine at_weak [(4, _)] ⟨rfl, trivial⟩ ?_
         refine at_then_normal ?_
         refine at_ret ?_
         have K := of_some hF
         subst K
         exact at_return1 rfl rfl (fun w1 hw => ⟨rfl, hw.below⟩)
        ·refine at_fix (g := 59) rfl h12 ?_
         refine at_guard_no rfl rfl rfl rfl rfl ?_
         refine at_guard_no rfl rfl rfl rfl rfl ?_
         refine at_guard_no rfl rfl rfl rfl rfl ?_
         refine at_guard_no rfl rfl rfl rfl rfl ?_
         refine at_guard_no rfl rfl rfl rfl rfl ?_
         refine av rfl (r_pick rfl rfl rfl) ?_
         refine av rfl (r_assign rfl) ?_
         refine at_nil ?_
         refine at_drop (H := _) .z ?_
         refine at_drop (H := _) .z ?_
         refine at_weak [(4, _)] ⟨rfl, trivial⟩ ?_
         refine at_then_normal ?_
         refine at_ret ?_
         have K := of_some hF
         subst K
         exact at_return1 rfl rfl (fun w1 hw => ⟨rfl, hw.below⟩)
       ·refine at_fix (g := 52) rfl h11 ?_
        refine at_guard_no rfl rfl rfl rfl rfl ?_
        refine at_guard_no rfl rfl rfl rfl rfl ?_
        refine at_guard_no rfl rfl rfl rfl rfl ?_
        refine at_guard_no rfl rfl rfl rfl rfl ?_
        refine at_guard_no rfl rfl rfl rfl rfl ?_
        refine av rfl (r_pick rfl rfl rfl) ?_
        refine av rfl (r_move rfl) ?_
        refine at_guard_no rfl rfl rfl rfl rfl ?_
        refine at_guard_no rfl rfl rfl rfl rfl ?_
        refine at_guard_no rfl rfl rfl rfl rfl ?_
        refine at_guard_no rfl rfl rfl rfl rfl ?_
        refine at_guard_no rfl rfl rfl rfl rfl ?_
        refine av rfl (r_pick rfl rfl rfl) ?_
        refine av rfl (r_assign rfl) ?_
        refine at_nil ?_
        refine at_drop (H := _) .z ?_
        refine at_drop (H := _) .z ?_
        refine at_weak [(4, _)] ⟨rfl, trivial⟩ ?_
        refine at_then_normal ?_
        refine at_ret ?_
        have K := of_some hF
        subst K
        exact at_return1 rfl rfl (fun w1 hw => ⟨rfl, hw.below⟩)
      ·refine at_fix (g := 45) rfl h10 ?_
       refine at_guard_no rfl rfl rfl rfl rfl ?_
       refine at_guard_no rfl rfl rfl rfl rfl ?_
       refine at_guard_no rfl rfl rfl rfl rfl ?_
       refine at_guard_no rfl rfl rfl rfl rfl ?_
       refine at_guard_no rfl rfl rfl rfl rfl ?_
       refine av rfl (r_pick rfl rfl rfl) ?_
       refine av rfl (r_move rfl) ?_
       refine at_guard_no rfl rfl rfl rfl rfl ?_
       refine at_guard_no rfl rfl rfl rfl rfl ?_
       refine at_guard_no rfl rfl rfl rfl rfl ?_
       refine at_guard_no rfl rfl rfl rfl rfl ?_
       refine at_guard_no rfl rfl rfl rfl rfl ?_
       refine av rfl (r_pick rfl rfl rfl) ?_
       refine av rfl (r_move rfl) ?_
       refine at_guard_no rfl rfl rfl rfl rfl ?_
       refine at_guard_no rfl rfl rfl rfl rfl ?_
       refine at_guard_no rfl rfl rfl rfl rfl ?_
       refine at_guard_no rfl rfl rfl rfl rfl ?_
       refine at_guard_no rfl rfl rfl rfl rfl ?_
       refine av rfl (r_pick rfl rfl rfl) ?_
       refine av rfl (r_assign rfl) ?_
       refine at_nil ?_
       refine at_drop (H := _) .z ?_
       refine at_drop (H := _) .z ?_
       refine at_weak [(4, _)] ⟨rfl, trivial⟩ ?_
       refine at_then_normal ?_
       refine at_ret ?_
       have K := of_some hF
       subst K
       exact at_return1 rfl rfl (fun w1 hw => ⟨rfl, hw.below⟩)
     ·refine at_fix (g := 38) rfl h9 ?_
      refine at_guard_no rfl rfl rfl rfl rfl ?_
      refine at_guard_no rfl rfl rfl rfl rfl ?_
      refine at_guard_no rfl rfl rfl rfl rfl ?_
      refine at_guard_no rfl rfl rfl rfl rfl ?_
      refine at_guard_no rfl rfl rfl rfl rfl ?_
      refine av rfl (r_pick rfl rfl rfl) ?_
      refine av rfl (r_move rfl) ?_
      refine at_guard_no rfl rfl rfl rfl rfl ?_
      refine at_guard_no rfl rfl rfl rfl rfl ?_
      refine at_guard_no rfl rfl rfl rfl rfl ?_
      refine at_guard_no rfl rfl rfl rfl rfl ?_
      refine at_guard_no rfl rfl rfl rfl rfl ?_
      refine av rfl (r_pick rfl rfl rfl) ?_
      refine av rfl (r_move rfl) ?_
      refine at_guard_no rfl rfl rfl rfl rfl ?_
      refine at_guard_no rfl rfl rfl rfl rfl ?_
      refine at_guard_no rfl rfl rfl rfl rfl ?_
      refine at_guard_no rfl rfl rfl rfl rfl ?_
      refine at_guard_no rfl rfl rfl rfl rfl ?_
      refine av rfl (r_pick rfl rfl rfl) ?_
      refine av rfl (r_move rfl) ?_
      refine at_guard_no rfl rfl rfl rfl rfl ?_
      refine at_guard_no rfl rfl rfl rfl rfl ?_
      refine at_guard_no rfl rfl rfl rfl rfl ?_
      refine at_guard_no rfl rfl rfl rfl rfl ?_
      refine at_guard_no rfl rfl rfl rfl rfl ?_
      refine av rfl (r_pick rfl rfl rfl) ?_
      refine av rfl (r_assign rfl) ?_
      refine at_nil ?_
      refine at_drop (H := _) .z ?_
      refine at_drop (H := _) .z ?_
      refine at_weak [(4, _)] ⟨rfl, trivial⟩ ?_
      refine at_then_normal ?_
      refine at_ret ?_
      have K := of_some hF
      subst K
      exact at_return1 rfl rfl (fun w1 hw => ⟨rfl, hw.below⟩)
    ·refine at_fix (g := 31) rfl h8 ?_
     refine at_guard_no rfl rfl rfl rfl rfl ?_
     refine at_guard_no rfl rfl rfl rfl rfl ?_
     refine at_guard_no rfl rfl rfl rfl rfl ?_
     refine at_guard_no rfl rfl rfl rfl rfl ?_
     refine at_guard_no rfl rfl rfl rfl rfl ?_
     refine av rfl (r_pick rfl rfl rfl) ?_
     refine av rfl (r_move rfl) ?_
     refine at_guard_no rfl rfl rfl rfl rfl ?_
     refine at_guard_no rfl rfl rfl rfl rfl ?_
     refine at_guard_no rfl rfl rfl rfl rfl ?_
     refine at_guard_no rfl rfl rfl rfl rfl ?_
     refine at_guard_no rfl rfl rfl rfl rfl ?_
     refine av rfl (r_pick rfl rfl rfl) ?_
     refine av rfl (r_move rfl) ?_
     refine at_guard_no rfl rfl rfl rfl rfl ?_
     refine at_guard_no rfl rfl rfl rfl rfl ?_
     refine at_guard_no rfl rfl rfl rfl rfl ?_
     refine at_guard_no rfl rfl rfl rfl rfl ?_
     refine at_guard_no rfl rfl rfl rfl rfl ?_
     refine av rfl (r_pick rfl rfl rfl) ?_
     refine av rfl (r_move rfl) ?_
     refine at_guard_no rfl rfl rfl rfl rfl ?_
     refine at_guard_no rfl rfl rfl rfl rfl ?_
     refine at_guard_no rfl rfl rfl rfl rfl ?_
     refine at_guard_no rfl rfl rfl rfl rfl ?_
     refine at_guard_no rfl rfl rfl rfl rfl ?_
     refine av rfl (r_pick rfl rfl rfl) ?_
     refine av rfl (r_move rfl) ?_
     refine at_guard_no rfl rfl rfl rfl rfl ?_
     refine at_guard_no rfl rfl rfl rfl rfl ?_
     refine at_guard_no rfl rfl rfl rfl rfl ?_
     refine at_guard_no rfl rfl rfl rfl rfl ?_
     refine at_guard_no rfl rfl rfl rfl rfl ?_
     refine av rfl (r_pick rfl rfl rfl) ?_
     refine av rfl (r_assign rfl) ?_
     refine at_nil ?_
     refine at_drop (H := _) .z ?_
     refine at_drop (H := _) .z ?_
     refine at_weak [(4, _)] ⟨rfl, trivial⟩ ?_
     refine at_then_normal ?_
     refine at_ret ?_
     have K := of_some hF
     subst K
     exact at_return1 rfl rfl (fun w1 hw => ⟨rfl, hw.below⟩)
   ·refine at_fix (g := 24) rfl h6 ?_
    refine at_guard_no rfl rfl rfl rfl rfl ?_
    refine at_guard_no rfl rfl rfl rfl rfl ?_
    refine at_guard_no rfl rfl rfl rfl rfl ?_
    refine at_guard_no rfl rfl rfl rfl rfl ?_
    refine at_guard_no rfl rfl rfl rfl rfl ?_
    refine av rfl (r_pick rfl rfl rfl) ?_
    refine av rfl (r_move rfl) ?_
    refine at_guard_no rfl rfl rfl rfl rfl ?_
    refine at_guard_no rfl rfl rfl rfl rfl ?_
    refine at_guard_no rfl rfl rfl rfl rfl ?_
    refine at_guard_no rfl rfl rfl rfl rfl ?_
    refine at_guard_no rfl rfl rfl rfl rfl ?_
    refine av rfl (r_pick rfl rfl rfl) ?_
    refine av rfl (r_move rfl) ?_
    refine at_guard_no rfl rfl rfl rfl rfl ?_
    refine at_guard_no rfl rfl rfl rfl rfl ?_
    refine at_guard_no rfl rfl rfl rfl rfl ?_
    refine at_guard_no rfl rfl rfl rfl rfl ?_
    refine at_guard_no rfl rfl rfl rfl rfl ?_
    refine av rfl (r_pick rfl rfl rfl) ?_
    refine av rfl (r_move rfl) ?_
    refine at_guard_no rfl rfl rfl rfl rfl ?_
    refine at_guard_no rfl rfl rfl rfl rfl ?_
    refine at_guard_no rfl rfl rfl rfl rfl ?_
    refine at_guard_no rfl rfl rfl rfl rfl ?_
    refine at_guard_no rfl rfl rfl rfl rfl ?_
    refine av rfl (r_pick rfl rfl rfl) ?_
    refine av rfl (r_move rfl) ?_
    refine at_guard_no rfl rfl rfl rfl rfl ?_
    refine at_guard_no rfl rfl rfl rfl rfl ?_
    refine at_guard_no rfl rfl rfl rfl rfl ?_
    refine at_guard_no rfl rfl rfl rfl rfl ?_
    refine at_guard_no rfl rfl rfl rfl rfl ?_
    refine av rfl (r_pick rfl rfl rfl) ?_
    refine av rfl (r_move rfl) ?_
    refine at_guard_no rfl rfl rfl rfl rfl ?_
    refine at_guard_no rfl rfl rfl rfl rfl ?_
    refine at_guard_no rfl rfl rfl rfl rfl ?_
    refine at_guard_no rfl rfl rfl rfl rfl ?_
    refine at_guard_no rfl rfl rfl rfl rfl ?_
    refine av rfl (r_pick rfl rfl rfl) ?_
    refine av rfl (r_assign rfl) ?_
    refine at_nil ?_
    refine at_drop (H := _) .z ?_
    refine at_drop (H := _) .z ?_
    refine at_weak [(4, _)] ⟨rfl, trivial⟩ ?_
    refine at_then_normal ?_
    refine at_ret ?_
    have K := of_some hF
    subst K
    exact at_return1 rfl rfl (fun w1 hw => ⟨rfl, hw.below⟩)
  ·refine at_fix (g := 17) rfl h5 ?_
   refine at_guard_no rfl rfl rfl rfl rfl ?_
   refine at_guard_no rfl rfl rfl rfl rfl ?_
   refine at_guard_no rfl rfl rfl rfl rfl ?_
   refine at_guard_no rfl rfl rfl rfl rfl ?_
   refine at_guard_no rfl rfl rfl rfl rfl ?_
   refine av rfl (r_pick rfl rfl rfl) ?_
   refine av rfl (r_move rfl) ?_
   refine at_guard_no rfl rfl rfl rfl rfl ?_
   refine at_guard_no rfl rfl rfl rfl rfl ?_
   refine at_guard_no rfl rfl rfl rfl rfl ?_
   refine at_guard_no rfl rfl rfl rfl rfl ?_
   refine at_guard_no rfl rfl rfl rfl rfl ?_
   refine av rfl (r_pick rfl rfl rfl) ?_
   refine av rfl (r_move rfl) ?_
   refine at_guard_no rfl rfl rfl rfl rfl ?_
   refine at_guard_no rfl rfl rfl rfl rfl ?_
   refine at_guard_no rfl rfl rfl rfl rfl ?_
   refine at_guard_no rfl rfl rfl rfl rfl ?_
   refine at_guard_no rfl rfl rfl rfl rfl ?_
   refine av rfl (r_pick rfl rfl rfl) ?_
   refine av rfl (r_move rfl) ?_
   refine at_guard_no rfl rfl rfl rfl rfl ?_
   refine at_guard_no rfl rfl rfl rfl rfl ?_
   refine at_guard_no rfl rfl rfl rfl rfl ?_
   refine at_guard_no rfl rfl rfl rfl rfl ?_
   refine at_guard_no rfl rfl rfl rfl rfl ?_
   refine av rfl (r_pick rfl rfl rfl) ?_
   refine av rfl (r_move rfl) ?_
   refine at_guard_no rfl rfl rfl rfl rfl ?_
   refine at_guard_no rfl rfl rfl rfl rfl ?_
   refine at_guard_no rfl rfl rfl rfl rfl ?_
   refine at_guard_no rfl rfl rfl rfl rfl ?_
   refine at_guard_no rfl rfl rfl rfl rfl ?_
   refine av rfl (r_pick rfl rfl rfl) ?_
   refine av rfl (r_move rfl) ?_
   refine at_guard_no rfl rfl rfl rfl rfl ?_
   refine at_guard_no rfl rfl rfl rfl rfl ?_
   refine at_guard_no rfl rfl rfl rfl rfl ?_
   refine at_guard_no rfl rfl rfl rfl rfl ?_
   refine at_guard_no rfl rfl rfl rfl rfl ?_
   refine av rfl (r_pick rfl rfl rfl) ?_
   refine av rfl (r_move rfl) ?_
   refine at_guard_no rfl rfl rfl rfl rfl ?_
   refine at_guard_no rfl rfl rfl rfl rfl ?_
   refine at_guard_no rfl rfl rfl rfl rfl ?_
   refine at_guard_no rfl rfl rfl rfl rfl ?_
   refine at_guard_no rfl rfl rfl rfl rfl ?_
   refine av rfl (r_pick rfl rfl rfl) ?_
   refine av rfl (r_assign rfl) ?_
   refine at_nil ?_
   refine at_drop (H := _) .z ?_
   refine at_drop (H := _) .z ?_
   refine at_weak [(4, _)] ⟨rfl, trivial⟩ ?_
   refine at_then_normal ?_
   refine at_ret ?_
   have K := of_some hF
   subst K
   exact at_return1 rfl rfl (fun w1 hw => ⟨rfl, hw.below⟩)
 ·refine at_fix (g := 10) rfl h3 ?_
  refine at_guard_no rfl rfl rfl rfl rfl ?_
  refine at_guard_no rfl rfl rfl rfl rfl ?_
  refine at_guard_no rfl rfl rfl rfl rfl ?_
  refine at_guard_no rfl rfl rfl rfl rfl ?_
  refine at_guard_no rfl rfl rfl rfl rfl ?_
  refine av rfl (r_pick rfl rfl rfl) ?_
  refine av rfl (r_move rfl) ?_
  refine at_guard_no rfl rfl rfl rfl rfl ?_
  refine at_guard_no rfl rfl rfl rfl rfl ?_
  refine at_guard_no rfl rfl rfl rfl rfl ?_
  refine at_guard_no rfl rfl rfl rfl rfl ?_
  refine at_guard_no rfl rfl rfl rfl rfl ?_
  refine av rfl (r_pick rfl rfl rfl) ?_
  refine av rfl (r_move rfl) ?_
  refine at_guard_no rfl rfl rfl rfl rfl ?_
  refine at_guard_no rfl rfl rfl rfl rfl ?_
  refine at_guard_no rfl rfl rfl rfl rfl ?_
  refine at_guard_no rfl rfl rfl rfl rfl ?_
  refine at_guard_no rfl rfl rfl rfl rfl ?_
  refine av rfl (r_pick rfl rfl rfl) ?_
  refine av rfl (r_move rfl) ?_
  refine at_guard_no rfl rfl rfl rfl rfl ?_
  refine at_guard_no rfl rfl rfl rfl rfl ?_
  refine at_guard_no rfl rfl rfl rfl rfl ?_
  refine at_guard_no rfl rfl rfl rfl rfl ?_
  refine at_guard_no rfl rfl rfl rfl rfl ?_
  refine av rfl (r_pick rfl rfl rfl) ?_
  refine av rfl (r_move rfl) ?_
  refine at_guard_no rfl rfl rfl rfl rfl ?_
  refine at_guard_no rfl rfl rfl rfl rfl ?_
  refine at_guard_no rfl rfl rfl rfl rfl ?_
  refine at_guard_no rfl rfl rfl rfl rfl ?_
  refine at_guard_no rfl rfl rfl rfl rfl ?_
  refine av rfl (r_pick rfl rfl rfl) ?_
  refine av rfl (r_move rfl) ?_
  refine at_guard_no rfl rfl rfl rfl rfl ?_
  refine at_guard_no rfl rfl rfl rfl rfl ?_
  refine at_guard_no rfl rfl rfl rfl rfl ?_
  refine at_guard_no rfl rfl rfl rfl rfl ?_
  refine at_guard_no rfl rfl rfl rfl rfl ?_
  refine av rfl (r_pick rfl rfl rfl) ?_
  refine av rfl (r_move rfl) ?_
  refine at_guard_no rfl rfl rfl rfl rfl ?_
  refine at_guard_no rfl rfl rfl rfl rfl ?_
  refine at_guard_no rfl rfl rfl rfl rfl ?_
  refine at_guard_no rfl rfl rfl rfl rfl ?_
  refine at_guard_no rfl rfl rfl rfl rfl ?_
  refine av rfl (r_pick rfl rfl rfl) ?_
  refine av rfl (r_move rfl) ?_
  refine at_guard_no rfl rfl rfl rfl rfl ?_
  refine at_guard_no rfl rfl rfl rfl rfl ?_
  refine at_guard_no rfl rfl rfl rfl rfl ?_
  refine at_guard_no rfl rfl rfl rfl rfl ?_
  refine at_guard_no rfl rfl rfl rfl rfl ?_
  refine av rfl (r_pick rfl rfl rfl) ?_
  refine av rfl (r_assign rfl) ?_
  refine at_nil ?_
  refine at_drop (H := _) .z ?_
  refine at_drop (H := _) .z ?_
  refine at_weak [(4, _)] ⟨rfl, trivial⟩ ?_
  refine at_then_normal ?_
  refine at_ret ?_
  have K := of_some hF
  subst K
  exact at_return1 rfl rfl (fun w1 hw => ⟨rfl, hw.below⟩)
def script_word (x0 : List Int) : Option (ByteArray) :=
  if ((x0.length : Int) == 0) = true then (some (⟨#[45]⟩)) else (hexes_Encode x0 >>= fun t2 => some t2)
theorem script_word_ok (x0 : List Int) (p0_ : Option Addr) (c0_ : Nat) (r : ByteArray) (hF : script_word x0 = some r) (w : World) (hr0 : Row (cInt .u8) w p0_ c0_ x0) :
    Calls Tryz.prog 126 #[.slice p0_ x0.length c0_] w (fun e w' => e = .returned (.string r) ∧ Below w.heap.size w w') := by
 unfold script_word at hF
 refine calls_enter (l := [.slice p0_ x0.length c0_]) Tryz.func126 rfl rfl rfl ?_
 refine at_start ?_
 refine at_weak [(0, _)] ⟨rfl, trivial⟩ ?_
 refine sr ?_
 refine av rfl (r_assign rfl) ?_
 refine nwt [(0, _)] ⟨rfl, trivial⟩ ?_
 refine at_seq ?_
 refine sr ?_
 refine av rfl (r_move rfl) ?_
 refine av rfl (r_len_sl Tryz.underlying22 rfl) ?_
 refine av rfl (r_ieql rfl rfl) ?_
 refine nwt [(0, _), (5, _)] ⟨rfl, rfl, trivial⟩ ?_
 rcases of_ite hF with ⟨h1, hF⟩ | ⟨h1, hF⟩
 ·refine at_cond_true rfl h1 ?_
  refine sr ?_
  refine av rfl (r_assign rfl) ?_
  refine nwt [(2, _)] ⟨rfl, trivial⟩ ?_
  refine rt ?_
  have K := of_some hF
  subst K
  exact at_return1 rfl rfl (fun w1 hw => ⟨rfl, hw.below⟩)
 ·refine at_cond_false rfl h1 ?_
  refine sns ?_
  refine av rfl (r_move rfl) ?_
  obtain ⟨t2, ht2, hF⟩ := of_bindM hF
  refine at_callB Tryz.func153 rfl (by kernel_rfl) rfl rfl (fun w hw => hexes_Encode_ok _ _ _ _ ht2 w (hr0.below hw.below)) ?_
  refine av rfl (r_assign rfl) ?_
  refine nwt [(2, _)] ⟨rfl, trivial⟩ ?_
  refine at_ret ?_
  have K := of_some hF
  subst K
  exact at_return1 rfl rfl (fun w1 hw => ⟨rfl, hw.below⟩)
end Go.Proofs.YtkkmmpofdcccmaaGreatDoor
namespace Go.Proofs.YtkkmmpofdcccmaaGreatDoor
open E Go.RowKit
abbrev zqSB_0 : S_api_Endpoint := ({ f_A := ({ f_V := (0 : Int), f_B := (Vector.replicate 16 (0 : Int) : (Vector Int 16)) } : S_api_Addr), f_Port := (0 : Int) } : S_api_Endpoint)
def script_Right (x0 : S_api_Item) : Option (Bool) :=
  if (x0.f_Kind == 1) = true then (script_Same ({ x0 with f_Bytes := ([] : List Int) }) ({ ({ f_Kind := (0 : Int), f_Bytes := ([] : List Int), f_From := ({ f_A := ({ f_V := (0 : Int), f_B := (Vector.replicate 16 (0 : Int) : (Vector Int 16)) } : S_api_Addr), f_Port := (0 : Int) } : S_api_Endpoint), f_Result := ([] : List Int), f_Ok := false, f_Key := (Vector.replicate 32 (0 : Int) : (Vector Int 32)), f_Local := (0 : Int), f_Remote := (0 : Int), f_Next := (0 : Int) } : S_api_Item) with f_Kind := ({ x0 with f_Bytes := ([] : List Int) }).f_Kind }) >>= fun t14 => some t14) else (if (x0.f_Kind == 2) = true then (script_Same ({ x0 with f_Bytes := ([] : List Int) }) ({ ({ f_Kind := (0 : Int), f_Bytes := ([] : List Int), f_From := ({ f_A := ({ f_V := (0 : Int), f_B := (Vector.replicate 16 (0 : Int) : (Vector Int 16)) } : S_api_Addr), f_Port := (0 : Int) } : S_api_Endpoint), f_Result := ([] : List Int), f_Ok := false, f_Key := (Vector.replicate 32 (0 : Int) : (Vector Int 32)), f_Local := (0 : Int), f_Remote := (0 : Int), f_Next := (0 : Int) } : S_api_Item) with f_Kind := ({ x0 with f_Bytes := ([] : List Int) }).f_Kind }) >>= fun t20 => some t20) else (if (x0.f_Kind == 3) = true then (if (({ x0 with f_Bytes := ([] : List Int) }).f_Ok) = true then (script_Same ({ { { x0 with f_Bytes := ([] : List Int) } with f_Ok := false } with f_Result := ([] : List Int) }) ({ ({ f_Kind := (0 : Int), f_Bytes := ([] : List Int), f_From := ({ f_A := ({ f_V := (0 : Int), f_B := (Vector.replicate 16 (0 : Int) : (Vector Int 16)) } : S_api_Addr), f_Port := (0 : Int) } : S_api_Endpoint), f_Result := ([] : List Int), f_Ok := false, f_Key := (Vector.replicate 32 (0 : Int) : (Vector Int 32)), f_Local := (0 : Int), f_Remote := (0 : Int), f_Next := (0 : Int) } : S_api_Item) with f_Kind := ({ { { x0 with f_Bytes := ([] : List Int) } with f_Ok := false } with f_Result := ([] : List Int) }).f_Kind }) >>= fun t29 => some t29) else (script_Same ({ x0 with f_Bytes := ([] : List Int) }) ({ ({ f_Kind := (0 : Int), f_Bytes := ([] : List Int), f_From := ({ f_A := ({ f_V := (0 : Int), f_B := (Vector.replicate 16 (0 : Int) : (Vector Int 16)) } : S_api_Addr), f_Port := (0 : Int) } : S_api_Endpoint), f_Result := ([] : List Int), f_Ok := false, f_Key := (Vector.replicate 32 (0 : Int) : (Vector Int 32)), f_Local := (0 : Int), f_Remote := (0 : Int), f_Next := (0 : Int) } : S_api_Item) with f_Kind := ({ x0 with f_Bytes := ([] : List Int) }).f_Kind }) >>= fun t30 => some t30)) else (if (x0.f_Kind == 4) = true then (hostport_Right x0.f_From >>= fun t38 => if t38 = true then (if (({ { x0 with f_From := ({ f_A := ({ f_V := (0 : Int), f_B := (Vector.replicate 16 (0 : Int) : (Vector Int 16)) } : S_api_Addr), f_Port := (0 : Int) } : S_api_Endpoint) } with f_Bytes := ([] : List Int) }).f_Ok) = true then (script_Same ({ { { { x0 with f_From := ({ f_A := ({ f_V := (0 : Int), f_B := (Vector.replicate 16 (0 : Int) : (Vector Int 16)) } : S_api_Addr), f_Port := (0 : Int) } : S_api_Endpoint) } with f_Bytes := ([] : List Int) } with f_Ok := false } with f_Result := ([] : List Int) }) ({ ({ f_Kind := (0 : Int), f_Bytes := ([] : List Int), f_From := ({ f_A := ({ f_V := (0 : Int), f_B := (Vector.replicate 16 (0 : Int) : (Vector Int 16)) } : S_api_Addr), f_Port := (0 : Int) } : S_api_Endpoint), f_Result := ([] : List Int), f_Ok := false, f_Key := (Vector.replicate 32 (0 : Int) : (Vector Int 32)), f_Local := (0 : Int), f_Remote := (0 : Int), f_Next := (0 : Int) } : S_api_Item) with f_Kind := ({ { { { x0 with f_From := ({ f_A := ({ f_V := (0 : Int), f_B := (Vector.replicate 16 (0 : Int) : (Vector Int 16)) } : S_api_Addr), f_Port := (0 : Int) } : S_api_Endpoint) } with f_Bytes := ([] : List Int) } with f_Ok := false } with f_Result := ([] : List Int) }).f_Kind }) >>= fun t43 => some t43) else (script_Same ({ { x0 with f_From := ({ f_A := ({ f_V := (0 : Int), f_B := (Vector.replicate 16 (0 : Int) : (Vector Int 16)) } : S_api_Addr), f_Port := (0 : Int) } : S_api_Endpoint) } with f_Bytes := ([] : List Int) }) ({ ({ f_Kind := (0 : Int), f_Bytes := ([] : List Int), f_From := ({ f_A := ({ f_V := (0 : Int), f_B := (Vector.replicate 16 (0 : Int) : (Vector Int 16)) } : S_api_Addr), f_Port := (0 : Int) } : S_api_Endpoint), f_Result := ([] : List Int), f_Ok := false, f_Key := (Vector.replicate 32 (0 : Int) : (Vector Int 32)), f_Local := (0 : Int), f_Remote := (0 : Int), f_Next := (0 : Int) } : S_api_Item) with f_Kind := ({ { x0 with f_From := ({ f_A := ({ f_V := (0 : Int), f_B := (Vector.replicate 16 (0 : Int) : (Vector Int 16)) } : S_api_Addr), f_Port := (0 : Int) } : S_api_Endpoint) } with f_Bytes := ([] : List Int) }).f_Kind }) >>= fun t44 => some t44)) else (if (({ { x0 with f_From := { x0.f_From with f_Port := (-1) } } with f_Bytes := ([] : List Int) }).f_Ok) = true then (script_Same ({ { { { x0 with f_From := { x0.f_From with f_Port := (-1) } } with f_Bytes := ([] : List Int) } with f_Ok := false } with f_Result := ([] : List Int) }) ({ ({ f_Kind := (0 : Int), f_Bytes := ([] : List Int), f_From := ({ f_A := ({ f_V := (0 : Int), f_B := (Vector.replicate 16 (0 : Int) : (Vector Int 16)) } : S_api_Addr), f_Port := (0 : Int) } : S_api_Endpoint), f_Result := ([] : List Int), f_Ok := false, f_Key := (Vector.replicate 32 (0 : Int) : (Vector Int 32)), f_Local := (0 : Int), f_Remote := (0 : Int), f_Next := (0 : Int) } : S_api_Item) with f_Kind := ({ { { { x0 with f_From := { x0.f_From with f_Port := (-1) } } with f_Bytes := ([] : List Int) } with f_Ok := false } with f_Result := ([] : List Int) }).f_Kind }) >>= fun t48 => some t48) else (script_Same ({ { x0 with f_From := { x0.f_From with f_Port := (-1) } } with f_Bytes := ([] : List Int) }) ({ ({ f_Kind := (0 : Int), f_Bytes := ([] : List Int), f_From := ({ f_A := ({ f_V := (0 : Int), f_B := (Vector.replicate 16 (0 : Int) : (Vector Int 16)) } : S_api_Addr), f_Port := (0 : Int) } : S_api_Endpoint), f_Result := ([] : List Int), f_Ok := false, f_Key := (Vector.replicate 32 (0 : Int) : (Vector Int 32)), f_Local := (0 : Int), f_Remote := (0 : Int), f_Next := (0 : Int) } : S_api_Item) with f_Kind := ({ { x0 with f_From := { x0.f_From with f_Port := (-1) } } with f_Bytes := ([] : List Int) }).f_Kind }) >>= fun t49 => some t49))) else (if (x0.f_Kind == 5) = true then (script_Same ({ { { { x0 with f_Key := (Vector.replicate 32 (0 : Int) : (Vector Int 32)) } with f_Local := 0 } with f_Remote := 0 } with f_Next := 0 }) ({ ({ f_Kind := (0 : Int), f_Bytes := ([] : List Int), f_From := ({ f_A := ({ f_V := (0 : Int), f_B := (Vector.replicate 16 (0 : Int) : (Vector Int 16)) } : S_api_Addr), f_Port := (0 : Int) } : S_api_Endpoint), f_Result := ([] : List Int), f_Ok := false, f_Key := (Vector.replicate 32 (0 : Int) : (Vector Int 32)), f_Local := (0 : Int), f_Remote := (0 : Int), f_Next := (0 : Int) } : S_api_Item) with f_Kind := ({ { { { x0 with f_Key := (Vector.replicate 32 (0 : Int) : (Vector Int 32)) } with f_Local := 0 } with f_Remote := 0 } with f_Next := 0 }).f_Kind }) >>= fun t58 => some t58) else (if (x0.f_Kind == 6) = true then (script_Same ({ x0 with f_Local := 0 }) ({ ({ f_Kind := (0 : Int), f_Bytes := ([] : List Int), f_From := ({ f_A := ({ f_V := (0 : Int), f_B := (Vector.replicate 16 (0 : Int) : (Vector Int 16)) } : S_api_Addr), f_Port := (0 : Int) } : S_api_Endpoint), f_Result := ([] : List Int), f_Ok := false, f_Key := (Vector.replicate 32 (0 : Int) : (Vector Int 32)), f_Local := (0 : Int), f_Remote := (0 : Int), f_Next := (0 : Int) } : S_api_Item) with f_Kind := ({ x0 with f_Local := 0 }).f_Kind }) >>= fun t63 => some t63) else (some false))))))
set_option maxHeartbeats 3200000 in
theorem script_Right_ok (g0_ : G_api_Item) (x0 : S_api_Item) (r : Bool) (hF : script_Right x0 = some r) (w : World) (hn0 : N_api_Item w (g0_, x0)) :
    Calls Tryz.prog 24 #[.agg (Cd.cs c_api_Item (g0_, x0)).toArray] w (fun e w' => e = .returned (.bool r) ∧ Below w.heap.size w w') := by
 unfold script_Right at hF
 refine calls_enter (l := [.agg (Cd.cs c_api_Item (g0_, x0)).toArray]) Tryz.func24 rfl rfl rfl ?_
 refine at_start ?_
 refine at_frz0 ?_
 intro Z_ s_ hB_
 have hz0 := NK_api_Item.mono (NK_api_Item.of hn0) hB_
 refine at_weak [(0, _)] ⟨rfl, trivial⟩ ?_
 refine sr ?_
 refine at_box (cs := Cd.cs c_api_Item (g0_, x0)) rfl rfl rfl ?_
 intro b1
 refine av rfl (r_assign rfl) ?_
 refine nws [(1, _)] ⟨rfl, trivial⟩ ?_
 refine av rfl (r_fieldAddr (fo := 0) Tryz.underlying33 rfl rfl (fun w => ⟨_, Tryz.sizeOf3 w⟩) rfl) ?_
 refine av rfl (r_load_cell Tryz.isAgg3 rfl (lens_cell0 (c := (cInt .i64)) (y := x0.f_Kind) .z (c_api_Item_f_Kind g0_ x0) rfl)) ?_
 refine at_callI Tryz.func46 rfl (by kernel_rfl) rfl rfl rfl rfl ?_
 refine at_weak [(0, _)] ⟨rfl, trivial⟩ ?_
 refine sr ?_
 refine at_alloc (cs := [.string (⟨#[]⟩), .slice none 0 0]) Tryz.zeroValue98 rfl rfl ?_
 intro b2
 refine av rfl (r_assign rfl) ?_
 refine nws [(0, _), (2, _)] ⟨rfl, rfl, trivial⟩ ?_
 refine at_callI Tryz.func75 rfl (by kernel_rfl) rfl rfl rfl rfl ?_
 refine at_weak [(0, _)] ⟨rfl, trivial⟩ ?_
 refine sr ?_
 refine at_box (cs := [.func (.func 76) #[] #[]]) rfl rfl rfl ?_
 intro b3
 refine at_alloc (cs := [.nilFunc, .nilFunc, .nilFunc]) Tryz.zeroValue104 rfl rfl ?_
 intro b4
 refine nws [(1, _), (2, _)] ⟨rfl, rfl, trivial⟩ ?_
 refine av rfl (r_makeFunc rfl) ?_
 refine av rfl (r_makeFunc rfl) ?_
 refine av rfl (r_makeFunc rfl) ?_
 refine av rfl (r_build_struct (zs := [.nilFunc, .nilFunc, .nilFunc]) (cs := [.func (.func 122) #[] #[.pointer (some ⟨b3, 0, none⟩)], .func (.func 123) #[] #[.pointer (some ⟨b3, 0, none⟩)], .func (.func 124) #[] #[.pointer (some ⟨b3, 0, none⟩)]]) Tryz.underlying104 Tryz.zeroValue104 rfl placesR_104 rfl rfl) ?_
 refine at_storeAll (k := 3) (cs := [.func (.func 122) #[] #[.pointer (some ⟨b3, 0, none⟩)], .func (.func 123) #[] #[.pointer (some ⟨b3, 0, none⟩)], .func (.func 124) #[] #[.pointer (some ⟨b3, 0, none⟩)]]) .z (by decide) ⟨rfl, by simp [Value.oneCell']⟩ ⟨rfl, by simp [Value.oneCell']⟩ Tryz.sizeOf104 rfl rfl rfl ?_
 refine nwt [(2, _)] ⟨rfl, trivial⟩ ?_
 refine at_ret ?_
 refine at_resI1 rfl (res_cell (c := cK 3 (by decide)) (y := ⟨[.func (.func 122) #[] #[.pointer (some ⟨b3, 0, none⟩)], .func (.func 123) #[] #[.pointer (some ⟨b3, 0, none⟩)], .func (.func 124) #[] #[.pointer (some ⟨b3, 0, none⟩)]], rfl, by simp [Value.oneCell']⟩) rfl .z (Lens.whole _ _) Tryz.isAgg104 Tryz.sizeOf104 (.inl rfl)) ?_
 refine at_alloc (cs := [.nilFunc, .nilFunc, .nilFunc]) Tryz.zeroValue104 rfl rfl ?_
 intro b5
 refine at_storeAll (k := 3) (cs := [.func (.func 122) #[] #[.pointer (some ⟨b3, 0, none⟩)], .func (.func 123) #[] #[.pointer (some ⟨b3, 0, none⟩)], .func (.func 124) #[] #[.pointer (some ⟨b3, 0, none⟩)]]) .z (by decide) ⟨rfl, by simp [Value.oneCell']⟩ ⟨rfl, by simp [Value.oneCell']⟩ Tryz.sizeOf104 rfl rfl rfl ?_
 refine at_nil ?_
 refine at_drop (H := _) (.s .z) ?_
 refine at_weak [(0, _), (2, _), (4, _)] ⟨rfl, rfl, rfl, trivial⟩ ?_
 refine at_then_normal ?_
 refine sr ?_
 refine at_callI Tryz.func75 rfl (by kernel_rfl) rfl rfl rfl rfl ?_
 refine at_weak [(0, _)] ⟨rfl, trivial⟩ ?_
 refine sr ?_
 refine at_box (cs := [.func (.func 77) #[] #[]]) rfl rfl rfl ?_
 intro b6
 refine at_alloc (cs := [.nilFunc, .nilFunc, .nilFunc]) Tryz.zeroValue104 rfl rfl ?_
 intro b7
 refine nws [(1, _), (2, _)] ⟨rfl, rfl, trivial⟩ ?_
 refine av rfl (r_makeFunc rfl) ?_
 refine av rfl (r_makeFunc rfl) ?_
 refine av rfl (r_makeFunc rfl) ?_
 refine av rfl (r_build_struct (zs := [.nilFunc, .nilFunc, .nilFunc]) (cs := [.func (.func 122) #[] #[.pointer (some ⟨b6, 0, none⟩)], .func (.func 123) #[] #[.pointer (some ⟨b6, 0, none⟩)], .func (.func 124) #[] #[.pointer (some ⟨b6, 0, none⟩)]]) Tryz.underlying104 Tryz.zeroValue104 rfl placesR_104 rfl rfl) ?_
 refine at_storeAll (k := 3) (cs := [.func (.func 122) #[] #[.pointer (some ⟨b6, 0, none⟩)], .func (.func 123) #[] #[.pointer (some ⟨b6, 0, none⟩)], .func (.func 124) #[] #[.pointer (some ⟨b6, 0, none⟩)]]) .z (by decide) ⟨rfl, by simp [Value.oneCell']⟩ ⟨rfl, by simp [Value.oneCell']⟩ Tryz.sizeOf104 rfl rfl rfl ?_
 refine nwt [(2, _)] ⟨rfl, trivial⟩ ?_
 refine at_ret ?_
 refine at_resI1 rfl (res_cell (c := cK 3 (by decide)) (y := ⟨[.func (.func 122) #[] #[.pointer (some ⟨b6, 0, none⟩)], .func (.func 123) #[] #[.pointer (some ⟨b6, 0, none⟩)], .func (.func 124) #[] #[.pointer (some ⟨b6, 0, none⟩)]], rfl, by simp [Value.oneCell']⟩) rfl .z (Lens.whole _ _) Tryz.isAgg104 Tryz.sizeOf104 (.inl rfl)) ?_
 refine at_alloc (cs := [.nilFunc, .nilFunc, .nilFunc]) Tryz.zeroValue104 rfl rfl ?_
 intro b8
 refine at_storeAll (k := 3) (cs := [.func (.func 122) #[] #[.pointer (some ⟨b6, 0, none⟩)], .func (.func 123) #[] #[.pointer (some ⟨b6, 0, none⟩)], .func (.func 124) #[] #[.pointer (some ⟨b6, 0, none⟩)]]) .z (by decide) ⟨rfl, by simp [Value.oneCell']⟩ ⟨rfl, by simp [Value.oneCell']⟩ Tryz.sizeOf104 rfl rfl rfl ?_
 refine at_nil ?_
 refine at_drop (H := _) (.s .z) ?_
 refine at_weak [(0, _), (2, _), (4, _), (5, _)] ⟨rfl, rfl, rfl, rfl, trivial⟩ ?_
 refine at_then_normal ?_
 refine at_seq ?_
 refine sr ?_
 refine av rfl (r_move rfl) ?_
 refine nwt [(2, _), (4, _), (5, _), (8, _)] ⟨rfl, rfl, rfl, rfl, trivial⟩ ?_
 refine at_block ?_
 refine sr ?_
 refine av rfl (r_ieql rfl rfl) ?_
 refine av rfl (r_assign rfl) ?_
 refine nwt [(2, _), (4, _), (5, _), (8, _), (9, _)] ⟨rfl, rfl, rfl, rfl, rfl, trivial⟩ ?_
 rcases of_ite hF with ⟨h9, hF⟩ | ⟨h9, hF⟩
 ·refine at_cond_true rfl h9 ?_
  refine sr ?_
  refine at_callI Tryz.func78 rfl (by kernel_rfl) rfl rfl rfl rfl ?_
  refine at_drop (H := _) .z ?_
  refine at_drop (H := _) .z ?_
  refine at_drop (H := _) .z ?_
  refine at_drop (H := _) .z ?_
  refine at_weak [] trivial ?_
  refine sr ?_
  refine at_alloc (cs := [.nilFunc, .nilFunc, .nilFunc]) Tryz.zeroValue104 rfl rfl ?_
  intro b10
  refine nws [(0, _)] ⟨rfl, trivial⟩ ?_
  refine av rfl (r_build_struct (zs := [.nilFunc, .nilFunc, .nilFunc]) (cs := [.func (.func 125) #[] #[], .func (.func 127) #[] #[], .func (.func 129) #[] #[]]) Tryz.underlying104 Tryz.zeroValue104 rfl placesR_104 rfl rfl) ?_
  refine at_storeAll (k := 3) (cs := [.func (.func 125) #[] #[], .func (.func 127) #[] #[], .func (.func 129) #[] #[]]) .z (by decide) ⟨rfl, by simp [Value.oneCell']⟩ ⟨rfl, by simp [Value.oneCell']⟩ Tryz.sizeOf104 rfl rfl rfl ?_
  refine nwt [(0, _)] ⟨rfl, trivial⟩ ?_
  refine at_ret ?_
  refine at_resI1 rfl (res_cell (c := cK 3 (by decide)) (y := ⟨[.func (.func 125) #[] #[], .func (.func 127) #[] #[], .func (.func 129) #[] #[]], rfl, by simp [Value.oneCell']⟩) rfl .z (Lens.whole _ _) Tryz.isAgg104 Tryz.sizeOf104 (.inl rfl)) ?_
  refine at_litG (cs := [.func (.func 125) #[] #[], .func (.func 127) #[] #[], .func (.func 129) #[] #[]]) Tryz.underlying96 Tryz.sizeOf104 Tryz.zeroValue104 rfl rfl rfl (by kernel_rfl) rfl ?_
  intro b11
  refine av rfl (r_build_struct (zs := [.string (⟨#[]⟩), .slice none 0 0]) (cs := [.string (⟨#[115, 101, 116]⟩), .slice (some ⟨b11, 0, none⟩) 1 1]) Tryz.underlying98 Tryz.zeroValue98 rfl placesR_98 rfl rfl) ?_
  refine at_storeAll (k := 2) (cs := [.string (⟨#[115, 101, 116]⟩), .slice (some ⟨b11, 0, none⟩) 1 1]) (.s (.s .z)) (by decide) ⟨rfl, by simp [Value.oneCell']⟩ ⟨rfl, by simp [Value.oneCell']⟩ Tryz.sizeOf98 rfl rfl rfl ?_
  refine av rfl (r_assign rfl) ?_
  refine at_nil ?_
  refine at_drop (H := _) (.s .z) ?_
  refine at_weak [(2, _), (3, _)] ⟨rfl, rfl, trivial⟩ ?_
  refine at_then_normal ?_
  refine at_ret ?_
  refine at_blk_ret (at_then_ret ?_)
  refine at_resI2 rfl (res_cell (c := cK 2 (by decide)) (y := ⟨[.string (⟨#[115, 101, 116]⟩), .slice (some ⟨b11, 0, none⟩) 1 1], rfl, by simp [Value.oneCell']⟩) rfl (.s .z) (Lens.whole _ _) Tryz.isAgg98 Tryz.sizeOf98 (.inl rfl)) (res_tmp rfl) ?_
  refine av rfl (r_move rfl) ?_
  refine av rfl (r_extract rfl rfl) ?_
  refine av rfl (r_extract rfl rfl) ?_
  refine at_alloc (cs := [.string (⟨#[]⟩), .slice none 0 0]) Tryz.zeroValue98 rfl rfl ?_
  intro b12
  refine at_storeAll (k := 2) (cs := [.string (⟨#[115, 101, 116]⟩), .slice (some ⟨b11, 0, none⟩) 1 1]) .z (by decide) ⟨rfl, by simp [Value.oneCell']⟩ ⟨rfl, by simp [Value.oneCell']⟩ Tryz.sizeOf98 rfl rfl rfl ?_
  refine av rfl (r_assign rfl) ?_
  refine at_nil ?_
  refine at_drop (H := _) (.s (.s .z)) ?_
  refine at_weak [(1, _), (3, _), (4, _)] ⟨rfl, rfl, rfl, trivial⟩ ?_
  refine at_then_normal ?_
  refine at_seq ?_
  refine sr ?_
  refine av rfl (r_fieldAddr (fo := 1) Tryz.underlying98 rfl rfl (fun w => ⟨_, Tryz.sizeOf96 w⟩) rfl) ?_
  refine av rfl (r_load_cell Tryz.isAgg96 rfl (fun w1 hw => cells_get (hw.ok (Upd.mem .z)) 1 _ rfl)) ?_
  refine av rfl (r_len_sl Tryz.underlying96 rfl) ?_
  refine av rfl (r_move rfl) ?_
  refine at_nil ?_
  refine at_drop (H := _) .z ?_
  refine at_weak [(1, _), (4, _), (14, _), (15, _), (16, _)] ⟨rfl, rfl, rfl, rfl, rfl, trivial⟩ ?_
  refine at_then_normal ?_
  refine at_block ?_
  refine at_weak [(1, _), (4, _), (14, _), (15, _), (16, _)] ⟨rfl, rfl, rfl, rfl, rfl, trivial⟩ ?_
  refine at_loop ?_
  refine at_round ?_
  refine sr ?_
  refine av rfl (r_ilss rfl rfl) ?_
  refine at_fix (g := 17) rfl (show (decide (0 < 1)) = true from by decide) ?_
  refine nwt [(1, _), (4, _), (14, _), (15, _), (16, _), (17, _)] ⟨rfl, rfl, rfl, rfl, rfl, rfl, trivial⟩ ?_
  refine at_seq ?_
  refine at_cond_true rfl rfl ?_
  refine sn ?_
  refine at_seq ?_
  refine at_block ?_
  refine sr ?_
  refine av rfl (r_idx Tryz.underlying96 Tryz.sizeOf104 rfl rfl (by decide) rfl) ?_
  refine av rfl (r_load_agg (l := [.func (.func 125) #[] #[], .func (.func 127) #[] #[], .func (.func 129) #[] #[]]) Tryz.isAgg104 Tryz.sizeOf104 rfl rfl (fun w1 hw => cells_mid (pre := []) (suf := []) (hw.ok (Upd.mem .z)) rfl rfl)) ?_
  refine at_alloc (cs := [.nilFunc, .nilFunc, .nilFunc]) Tryz.zeroValue104 rfl rfl ?_
  intro b13
  refine at_storeAll (k := 3) (cs := [.func (.func 125) #[] #[], .func (.func 127) #[] #[], .func (.func 129) #[] #[]]) .z (by decide) ⟨rfl, by simp [Value.oneCell']⟩ ⟨rfl, by simp [Value.oneCell']⟩ Tryz.sizeOf104 rfl rfl rfl ?_
  refine nwt [(1, _), (4, _), (6, _), (14, _), (15, _), (16, _)] ⟨rfl, rfl, rfl, rfl, rfl, rfl, trivial⟩ ?_
  refine at_region ?_
  refine av rfl (r_fieldAddr (fo := 2) Tryz.underlying104 rfl rfl (fun w => ⟨_, Tryz.sizeOf102 w⟩) rfl) ?_
  refine av rfl (r_load_cell Tryz.isAgg102 rfl (fun w1 hw => cells_get (hw.ok (Upd.mem .z)) 2 _ rfl)) ?_
  refine at_callee rfl ?_
  refine at_callI Tryz.func129 rfl (by kernel_rfl) rfl rfl rfl rfl ?_
  refine at_drop (H := _) .z ?_
  refine at_weak [(0, _)] ⟨rfl, trivial⟩ ?_
  refine at_region ?_
  refine av rfl (r_move rfl) ?_
  refine av rfl (r_nilCheck rfl) ?_
  refine av rfl (r_fieldAddr (fo := 1) Tryz.underlying33 rfl rfl (fun w => ⟨_, Tryz.sizeOf22 w⟩) rfl) ?_
  refine at_store (c := cSv Int) (z := (((none : Option Addr), (0 : Nat)), ([] : List Int))) (.s .z) (c_api_Item_f_Bytes_sv g0_ x0) Tryz.sizeOf22 rfl rfl rfl ?_
  refine at_nil ?_
  refine at_weak [] trivial ?_
  refine at_retI0 rfl ?_
  refine at_nil ?_
  refine at_weak [(1, _), (4, _), (14, _), (15, _), (16, _)] ⟨rfl, rfl, rfl, rfl, rfl, trivial⟩ ?_
  refine at_blk_normal (at_then_normal ?_)
  refine at_region ?_
  refine av rfl (r_iadd rfl rfl) ?_
  refine at_ov (t := 23) rfl (show Value.int .i64 (wr .i64 (0 + 1)) = .int .i64 1 from by rfl) ?_
  refine av rfl (r_move rfl) ?_
  refine nwt [(1, _), (4, _), (14, _), (15, _), (16, _)] ⟨rfl, rfl, rfl, rfl, rfl, trivial⟩ ?_
  refine at_weak [(1, _), (4, _), (14, _), (15, _), (16, _)] ⟨rfl, rfl, rfl, rfl, rfl, trivial⟩ ?_
  refine at_round ?_
  refine sr ?_
  refine av rfl (r_ilss rfl rfl) ?_
  refine at_fix (g := 17) rfl (show (decide (1 < 1)) = false from by decide) ?_
  refine nwt [(1, _), (4, _), (14, _), (15, _), (16, _), (17, _)] ⟨rfl, rfl, rfl, rfl, rfl, rfl, trivial⟩ ?_
  refine at_seq ?_
  refine at_cond_false rfl rfl ?_
  refine at_exit ?_
  refine at_then_exit (at_then_exit ?_)
  refine at_blk_same ?_
  refine at_drop (H := _) .z ?_
  refine at_weak [(1, _), (4, _)] ⟨rfl, rfl, trivial⟩ ?_
  refine at_then_normal ?_
  refine sr ?_
  refine av rfl (r_move rfl) ?_
  refine av rfl (r_move rfl) ?_
  refine at_guard_yes rfl rfl rfl ?_
  refine av rfl (r_load_aggc (c := c_api_Item) (z := ((((none : Option Addr), (0 : Nat)), (g0_.2.1, g0_.2.2)), { x0 with f_Bytes := ([] : List Int) })) Tryz.isAgg33 Tryz.sizeOf33 rfl (lens_cell .z (Lens.whole _ _))) ?_
  refine at_guard_yes rfl rfl rfl ?_
  refine av rfl (r_fieldAddr (fo := 0) Tryz.underlying33 rfl rfl (fun w => ⟨_, Tryz.sizeOf3 w⟩) rfl) ?_
  refine at_guard_yes rfl rfl rfl ?_
  refine av rfl (r_load_cell Tryz.isAgg3 rfl (lens_cell0 (c := (cInt .i64)) (y := ({ x0 with f_Bytes := ([] : List Int) }).f_Kind) .z (c_api_Item_f_Kind (((none : Option Addr), (0 : Nat)), (g0_.2.1, g0_.2.2)) ({ x0 with f_Bytes := ([] : List Int) })) rfl)) ?_
  refine at_guard_yes rfl rfl rfl ?_
  refine av rfl (r_build_struct (zs := Cd.cs c_api_Item ((((none : Option Addr), (0 : Nat)), ((none : Option Addr), (0 : Nat))), ({ f_Kind := (0 : Int), f_Bytes := ([] : List Int), f_From := zqSB_0, f_Result := ([] : List Int), f_Ok := false, f_Key := (Vector.replicate 32 (0 : Int) : (Vector Int 32)), f_Local := (0 : Int), f_Remote := (0 : Int), f_Next := (0 : Int) } : S_api_Item))) (cs := Cd.cs c_api_Item ((((none : Option Addr), (0 : Nat)), ((none : Option Addr), (0 : Nat))), { ({ f_Kind := (0 : Int), f_Bytes := ([] : List Int), f_From := zqSB_0, f_Result := ([] : List Int), f_Ok := false, f_Key := (Vector.replicate 32 (0 : Int) : (Vector Int 32)), f_Local := (0 : Int), f_Remote := (0 : Int), f_Next := (0 : Int) } : S_api_Item) with f_Kind := ({ x0 with f_Bytes := ([] : List Int) }).f_Kind })) Tryz.underlying33 Tryz.zeroValue33 rfl (places_api_Item_33) rfl (fill_step (c := (cInt .i64)) (z := ({ x0 with f_Bytes := ([] : List Int) }).f_Kind) rfl (c_api_Item_f_Kind (((none : Option Addr), (0 : Nat)), ((none : Option Addr), (0 : Nat))) ({ f_Kind := (0 : Int), f_Bytes := ([] : List Int), f_From := zqSB_0, f_Result := ([] : List Int), f_Ok := false, f_Key := (Vector.replicate 32 (0 : Int) : (Vector Int 32)), f_Local := (0 : Int), f_Remote := (0 : Int), f_Next := (0 : Int) } : S_api_Item)) rfl rfl)) ?_
  refine at_guard_yes rfl rfl rfl ?_
  obtain ⟨t14, ht14, hF⟩ := of_bindM hF
  refine at_callB Tryz.func12 rfl (by kernel_rfl) rfl rfl (fun w hw => script_Same_ok _ _ _ _ _ ht14 w ⟨(Row.nil ..), (RowK.row (RowK.mono hz0.2 (frz_mono (.s .z) hw)))⟩ ⟨(Row.nil ..), (Row.nil ..)⟩) ?_
  refine av rfl (r_pick rfl rfl rfl) ?_
  refine av rfl (r_assign rfl) ?_
  refine at_nil ?_
  refine at_drop (H := _) .z ?_
  refine at_weak [(2, _)] ⟨rfl, trivial⟩ ?_
  refine at_then_normal ?_
  refine at_ret ?_
  have K := of_some hF
  subst K
  exact at_return1 rfl rfl (fun w1 hw => ⟨rfl, hw.below⟩)
 ·refine at_cond_false rfl h9 ?_
  refine sr ?_
  refine av rfl (r_ieql rfl rfl) ?_
  refine av rfl (r_assign rfl) ?_
  refine nwt [(2, _), (4, _), (5, _), (8, _), (14, _)] ⟨rfl, rfl, rfl, rfl, rfl, trivial⟩ ?_
  rcases of_ite hF with ⟨h15, hF⟩ | ⟨h15, hF⟩
  ·refine at_cond_true rfl h15 ?_
   refine sr ?_
   refine at_callI Tryz.func78 rfl (by kernel_rfl) rfl rfl rfl rfl ?_
   refine at_drop (H := _) .z ?_
   refine at_drop (H := _) .z ?_
   refine at_drop (H := _) .z ?_
   refine at_drop (H := _) .z ?_
   refine at_weak [] trivial ?_
   refine sr ?_
   refine at_alloc (cs := [.nilFunc, .nilFunc, .nilFunc]) Tryz.zeroValue104 rfl rfl ?_
   intro b16
   refine nws [(0, _)] ⟨rfl, trivial⟩ ?_
   refine av rfl (r_build_struct (zs := [.nilFunc, .nilFunc, .nilFunc]) (cs := [.func (.func 125) #[] #[], .func (.func 127) #[] #[], .func (.func 129) #[] #[]]) Tryz.underlying104 Tryz.zeroValue104 rfl placesR_104 rfl rfl) ?_
   refine at_storeAll (k := 3) (cs := [.func (.func 125) #[] #[], .func (.func 127) #[] #[], .func (.func 129) #[] #[]]) .z (by decide) ⟨rfl, by simp [Value.oneCell']⟩ ⟨rfl, by simp [Value.oneCell']⟩ Tryz.sizeOf104 rfl rfl rfl ?_
   refine nwt [(0, _)] ⟨rfl, trivial⟩ ?_
   refine at_ret ?_
   refine at_resI1 rfl (res_cell (c := cK 3 (by decide)) (y := ⟨[.func (.func 125) #[] #[], .func (.func 127) #[] #[], .func (.func 129) #[] #[]], rfl, by simp [Value.oneCell']⟩) rfl .z (Lens.whole _ _) Tryz.isAgg104 Tryz.sizeOf104 (.inl rfl)) ?_
   refine at_litG (cs := [.func (.func 125) #[] #[], .func (.func 127) #[] #[], .func (.func 129) #[] #[]]) Tryz.underlying96 Tryz.sizeOf104 Tryz.zeroValue104 rfl rfl rfl (by kernel_rfl) rfl ?_
   intro b17
   refine av rfl (r_build_struct (zs := [.string (⟨#[]⟩), .slice none 0 0]) (cs := [.string (⟨#[108, 111, 97, 100]⟩), .slice (some ⟨b17, 0, none⟩) 1 1]) Tryz.underlying98 Tryz.zeroValue98 rfl placesR_98 rfl rfl) ?_
   refine at_storeAll (k := 2) (cs := [.string (⟨#[108, 111, 97, 100]⟩), .slice (some ⟨b17, 0, none⟩) 1 1]) (.s (.s .z)) (by decide) ⟨rfl, by simp [Value.oneCell']⟩ ⟨rfl, by simp [Value.oneCell']⟩ Tryz.sizeOf98 rfl rfl rfl ?_
   refine av rfl (r_assign rfl) ?_
   refine at_nil ?_
   refine at_drop (H := _) (.s .z) ?_
   refine at_weak [(2, _), (3, _)] ⟨rfl, rfl, trivial⟩ ?_
   refine at_then_normal ?_
   refine at_ret ?_
   refine at_blk_ret (at_then_ret ?_)
   refine at_resI2 rfl (res_cell (c := cK 2 (by decide)) (y := ⟨[.string (⟨#[108, 111, 97, 100]⟩), .slice (some ⟨b17, 0, none⟩) 1 1], rfl, by simp [Value.oneCell']⟩) rfl (.s .z) (Lens.whole _ _) Tryz.isAgg98 Tryz.sizeOf98 (.inl rfl)) (res_tmp rfl) ?_
   refine av rfl (r_move rfl) ?_
   refine av rfl (r_extract rfl rfl) ?_
   refine av rfl (r_extract rfl rfl) ?_
   refine at_alloc (cs := [.string (⟨#[]⟩), .slice none 0 0]) Tryz.zeroValue98 rfl rfl ?_
   intro b18
   refine at_storeAll (k := 2) (cs := [.string (⟨#[108, 111, 97, 100]⟩), .slice (some ⟨b17, 0, none⟩) 1 1]) .z (by decide) ⟨rfl, by simp [Value.oneCell']⟩ ⟨rfl, by simp [Value.oneCell']⟩ Tryz.sizeOf98 rfl rfl rfl ?_
   refine av rfl (r_assign rfl) ?_
   refine at_nil ?_
   refine at_drop (H := _) (.s (.s .z)) ?_
   refine at_weak [(1, _), (3, _), (4, _)] ⟨rfl, rfl, rfl, trivial⟩ ?_
   refine at_then_normal ?_
   refine at_seq ?_
   refine sr ?_
   refine av rfl (r_fieldAddr (fo := 1) Tryz.underlying98 rfl rfl (fun w => ⟨_, Tryz.sizeOf96 w⟩) rfl) ?_
   refine av rfl (r_load_cell Tryz.isAgg96 rfl (fun w1 hw => cells_get (hw.ok (Upd.mem .z)) 1 _ rfl)) ?_
   refine av rfl (r_len_sl Tryz.underlying96 rfl) ?_
   refine av rfl (r_move rfl) ?_
   refine at_nil ?_
   refine at_drop (H := _) .z ?_
   refine at_weak [(1, _), (4, _), (14, _), (15, _), (16, _)] ⟨rfl, rfl, rfl, rfl, rfl, trivial⟩ ?_
   refine at_then_normal ?_
   refine at_block ?_
   refine at_weak [(1, _), (4, _), (14, _), (15, _), (16, _)] ⟨rfl, rfl, rfl, rfl, rfl, trivial⟩ ?_
   refine at_loop ?_
   refine at_round ?_
   refine sr ?_
   refine av rfl (r_ilss rfl rfl) ?_
   refine at_fix (g := 17) rfl (show (decide (0 < 1)) = true from by decide) ?_
   refine nwt [(1, _), (4, _), (14, _), (15, _), (16, _), (17, _)] ⟨rfl, rfl, rfl, rfl, rfl, rfl, trivial⟩ ?_
   refine at_seq ?_
   refine at_cond_true rfl rfl ?_
   refine sn ?_
   refine at_seq ?_
   refine at_block ?_
   refine sr ?_
   refine av rfl (r_idx Tryz.underlying96 Tryz.sizeOf104 rfl rfl (by decide) rfl) ?_
   refine av rfl (r_load_agg (l := [.func (.func 125) #[] #[], .func (.func 127) #[] #[], .func (.func 129) #[] #[]]) Tryz.isAgg104 Tryz.sizeOf104 rfl rfl (fun w1 hw => cells_mid (pre := []) (suf := []) (hw.ok (Upd.mem .z)) rfl rfl)) ?_
   refine at_alloc (cs := [.nilFunc, .nilFunc, .nilFunc]) Tryz.zeroValue104 rfl rfl ?_
   intro b19
   refine at_storeAll (k := 3) (cs := [.func (.func 125) #[] #[], .func (.func 127) #[] #[], .func (.func 129) #[] #[]]) .z (by decide) ⟨rfl, by simp [Value.oneCell']⟩ ⟨rfl, by simp [Value.oneCell']⟩ Tryz.sizeOf104 rfl rfl rfl ?_
   refine nwt [(1, _), (4, _), (6, _), (14, _), (15, _), (16, _)] ⟨rfl, rfl, rfl, rfl, rfl, rfl, trivial⟩ ?_
   refine at_region ?_
   refine av rfl (r_fieldAddr (fo := 2) Tryz.underlying104 rfl rfl (fun w => ⟨_, Tryz.sizeOf102 w⟩) rfl) ?_
   refine av rfl (r_load_cell Tryz.isAgg102 rfl (fun w1 hw => cells_get (hw.ok (Upd.mem .z)) 2 _ rfl)) ?_
   refine at_callee rfl ?_
   refine at_callI Tryz.func129 rfl (by kernel_rfl) rfl rfl rfl rfl ?_
   refine at_drop (H := _) .z ?_
   refine at_weak [(0, _)] ⟨rfl, trivial⟩ ?_
   refine at_region ?_
   refine av rfl (r_move rfl) ?_
   refine av rfl (r_nilCheck rfl) ?_
   refine av rfl (r_fieldAddr (fo := 1) Tryz.underlying33 rfl rfl (fun w => ⟨_, Tryz.sizeOf22 w⟩) rfl) ?_
   refine at_store (c := cSv Int) (z := (((none : Option Addr), (0 : Nat)), ([] : List Int))) (.s .z) (c_api_Item_f_Bytes_sv g0_ x0) Tryz.sizeOf22 rfl rfl rfl ?_
   refine at_nil ?_
   refine at_weak [] trivial ?_
   refine at_retI0 rfl ?_
   refine at_nil ?_
   refine at_weak [(1, _), (4, _), (14, _), (15, _), (16, _)] ⟨rfl, rfl, rfl, rfl, rfl, trivial⟩ ?_
   refine at_blk_normal (at_then_normal ?_)
   refine at_region ?_
   refine av rfl (r_iadd rfl rfl) ?_
   refine at_ov (t := 23) rfl (show Value.int .i64 (wr .i64 (0 + 1)) = .int .i64 1 from by rfl) ?_
   refine av rfl (r_move rfl) ?_
   refine nwt [(1, _), (4, _), (14, _), (15, _), (16, _)] ⟨rfl, rfl, rfl, rfl, rfl, trivial⟩ ?_
   refine at_weak [(1, _), (4, _), (14, _), (15, _), (16, _)] ⟨rfl, rfl, rfl, rfl, rfl, trivial⟩ ?_
   refine at_round ?_
   refine sr ?_
   refine av rfl (r_ilss rfl rfl) ?_
   refine at_fix (g := 17) rfl (show (decide (1 < 1)) = false from by decide) ?_
   refine nwt [(1, _), (4, _), (14, _), (15, _), (16, _), (17, _)] ⟨rfl, rfl, rfl, rfl, rfl, rfl, trivial⟩ ?_
   refine at_seq ?_
   refine at_cond_false rfl rfl ?_
   refine at_exit ?_
   refine at_then_exit (at_then_exit ?_)
   refine at_blk_same ?_
   refine at_drop (H := _) .z ?_
   refine at_weak [(1, _), (4, _)] ⟨rfl, rfl, trivial⟩ ?_
   refine at_then_normal ?_
   refine sr ?_
   refine av rfl (r_move rfl) ?_
   refine av rfl (r_move rfl) ?_
   refine at_guard_yes rfl rfl rfl ?_
   refine av rfl (r_load_aggc (c := c_api_Item) (z := ((((none : Option Addr), (0 : Nat)), (g0_.2.1, g0_.2.2)), { x0 with f_Bytes := ([] : List Int) })) Tryz.isAgg33 Tryz.sizeOf33 rfl (lens_cell .z (Lens.whole _ _))) ?_
   refine at_guard_yes rfl rfl rfl ?_
   refine av rfl (r_fieldAddr (fo := 0) Tryz.underlying33 rfl rfl (fun w => ⟨_, Tryz.sizeOf3 w⟩) rfl) ?_
   refine at_guard_yes rfl rfl rfl ?_
   refine av rfl (r_load_cell Tryz.isAgg3 rfl (lens_cell0 (c := (cInt .i64)) (y := ({ x0 with f_Bytes := ([] : List Int) }).f_Kind) .z (c_api_Item_f_Kind (((none : Option Addr), (0 : Nat)), (g0_.2.1, g0_.2.2)) ({ x0 with f_Bytes := ([] : List Int) })) rfl)) ?_
   refine at_guard_yes rfl rfl rfl ?_
   refine av rfl (r_build_struct (zs := Cd.cs c_api_Item ((((none : Option Addr), (0 : Nat)), ((none : Option Addr), (0 : Nat))), ({ f_Kind := (0 : Int), f_Bytes := ([] : List Int), f_From := zqSB_0, f_Result := ([] : List Int), f_Ok := false, f_Key := (Vector.replicate 32 (0 : Int) : (Vector Int 32)), f_Local := (0 : Int), f_Remote := (0 : Int), f_Next := (0 : Int) } : S_api_Item))) (cs := Cd.cs c_api_Item ((((none : Option Addr), (0 : Nat)), ((none : Option Addr), (0 : Nat))), { ({ f_Kind := (0 : Int), f_Bytes := ([] : List Int), f_From := zqSB_0, f_Result := ([] : List Int), f_Ok := false, f_Key := (Vector.replicate 32 (0 : Int) : (Vector Int 32)), f_Local := (0 : Int), f_Remote := (0 : Int), f_Next := (0 : Int) } : S_api_Item) with f_Kind := ({ x0 with f_Bytes := ([] : List Int) }).f_Kind })) Tryz.underlying33 Tryz.zeroValue33 rfl (places_api_Item_33) rfl (fill_step (c := (cInt .i64)) (z := ({ x0 with f_Bytes := ([] : List Int) }).f_Kind) rfl (c_api_Item_f_Kind (((none : Option Addr), (0 : Nat)), ((none : Option Addr), (0 : Nat))) ({ f_Kind := (0 : Int), f_Bytes := ([] : List Int), f_From := zqSB_0, f_Result := ([] : List Int), f_Ok := false, f_Key := (Vector.replicate 32 (0 : Int) : (Vector Int 32)), f_Local := (0 : Int), f_Remote := (0 : Int), f_Next := (0 : Int) } : S_api_Item)) rfl rfl)) ?_
   refine at_guard_yes rfl rfl rfl ?_
   obtain ⟨t20, ht20, hF⟩ := of_bindM hF
   refine at_callB Tryz.func12 rfl (by kernel_rfl) rfl rfl (fun w hw => script_Same_ok _ _ _ _ _ ht20 w ⟨(Row.nil ..), (RowK.row (RowK.mono hz0.2 (frz_mono (.s .z) hw)))⟩ ⟨(Row.nil ..), (Row.nil ..)⟩) ?_
   refine av rfl (r_pick rfl rfl rfl) ?_
   refine av rfl (r_assign rfl) ?_
   refine at_nil ?_
   refine at_drop (H := _) .z ?_
   refine at_weak [(2, _)] ⟨rfl, trivial⟩ ?_
   refine at_then_normal ?_
   refine at_ret ?_
   have K := of_some hF
   subst K
   exact at_return1 rfl rfl (fun w1 hw => ⟨rfl, hw.below⟩)
  ·refine at_cond_false rfl h15 ?_
   refine sr ?_
   refine av rfl (r_ieql rfl rfl) ?_
   refine av rfl (r_assign rfl) ?_
   refine nwt [(2, _), (4, _), (5, _), (8, _), (19, _)] ⟨rfl, rfl, rfl, rfl, rfl, trivial⟩ ?_
   rcases of_ite hF with ⟨h21, hF⟩ | ⟨h21, hF⟩
   ·refine at_cond_true rfl h21 ?_
    refine sr ?_
    refine at_callI Tryz.func78 rfl (by kernel_rfl) rfl rfl rfl rfl ?_
    refine at_drop (H := _) .z ?_
    refine at_drop (H := _) .z ?_
    refine at_drop (H := _) .z ?_
    refine at_drop (H := _) .z ?_
    refine at_weak [] trivial ?_
    refine sr ?_
    refine at_alloc (cs := [.nilFunc, .nilFunc, .nilFunc]) Tryz.zeroValue104 rfl rfl ?_
    intro b22
    refine nws [(0, _)] ⟨rfl, trivial⟩ ?_
    refine av rfl (r_build_struct (zs := [.nilFunc, .nilFunc, .nilFunc]) (cs := [.func (.func 125) #[] #[], .func (.func 127) #[] #[], .func (.func 129) #[] #[]]) Tryz.underlying104 Tryz.zeroValue104 rfl placesR_104 rfl rfl) ?_
    refine at_storeAll (k := 3) (cs := [.func (.func 125) #[] #[], .func (.func 127) #[] #[], .func (.func 129) #[] #[]]) .z (by decide) ⟨rfl, by simp [Value.oneCell']⟩ ⟨rfl, by simp [Value.oneCell']⟩ Tryz.sizeOf104 rfl rfl rfl ?_
    refine nwt [(0, _)] ⟨rfl, trivial⟩ ?_
    refine at_ret ?_
    refine at_resI1 rfl (res_cell (c := cK 3 (by decide)) (y := ⟨[.func (.func 125) #[] #[], .func (.func 127) #[] #[], .func (.func 129) #[] #[]], rfl, by simp [Value.oneCell']⟩) rfl .z (Lens.whole _ _) Tryz.isAgg104 Tryz.sizeOf104 (.inl rfl)) ?_
    refine at_callI Tryz.func79 rfl (by kernel_rfl) rfl rfl rfl rfl ?_
    refine at_drop (H := _) .z ?_
    refine at_weak [] trivial ?_
    refine sr ?_
    refine at_alloc (cs := [.nilFunc, .nilFunc, .nilFunc]) Tryz.zeroValue104 rfl rfl ?_
    intro b23
    refine nws [(0, _)] ⟨rfl, trivial⟩ ?_
    refine av rfl (r_build_struct (zs := [.nilFunc, .nilFunc, .nilFunc]) (cs := [.func (.func 130) #[] #[], .func (.func 131) #[] #[], .func (.func 132) #[] #[]]) Tryz.underlying104 Tryz.zeroValue104 rfl placesR_104 rfl rfl) ?_
    refine at_storeAll (k := 3) (cs := [.func (.func 130) #[] #[], .func (.func 131) #[] #[], .func (.func 132) #[] #[]]) .z (by decide) ⟨rfl, by simp [Value.oneCell']⟩ ⟨rfl, by simp [Value.oneCell']⟩ Tryz.sizeOf104 rfl rfl rfl ?_
    refine nwt [(0, _)] ⟨rfl, trivial⟩ ?_
    refine at_ret ?_
    refine at_resI1 rfl (res_cell (c := cK 3 (by decide)) (y := ⟨[.func (.func 130) #[] #[], .func (.func 131) #[] #[], .func (.func 132) #[] #[]], rfl, by simp [Value.oneCell']⟩) rfl .z (Lens.whole _ _) Tryz.isAgg104 Tryz.sizeOf104 (.inl rfl)) ?_
    refine at_litG (cs := [.func (.func 125) #[] #[], .func (.func 127) #[] #[], .func (.func 129) #[] #[], .func (.func 130) #[] #[], .func (.func 131) #[] #[], .func (.func 132) #[] #[]]) Tryz.underlying96 Tryz.sizeOf104 Tryz.zeroValue104 rfl rfl rfl (by kernel_rfl) rfl ?_
    intro b24
    refine av rfl (r_build_struct (zs := [.string (⟨#[]⟩), .slice none 0 0]) (cs := [.string (⟨#[111, 117, 116]⟩), .slice (some ⟨b24, 0, none⟩) 2 2]) Tryz.underlying98 Tryz.zeroValue98 rfl placesR_98 rfl rfl) ?_
    refine at_storeAll (k := 2) (cs := [.string (⟨#[111, 117, 116]⟩), .slice (some ⟨b24, 0, none⟩) 2 2]) (.s (.s .z)) (by decide) ⟨rfl, by simp [Value.oneCell']⟩ ⟨rfl, by simp [Value.oneCell']⟩ Tryz.sizeOf98 rfl rfl rfl ?_
    refine av rfl (r_assign rfl) ?_
    refine at_nil ?_
    refine at_drop (H := _) (.s .z) ?_
    refine at_weak [(2, _), (3, _)] ⟨rfl, rfl, trivial⟩ ?_
    refine at_then_normal ?_
    refine at_ret ?_
    refine at_blk_ret (at_then_ret ?_)
    refine at_resI2 rfl (res_cell (c := cK 2 (by decide)) (y := ⟨[.string (⟨#[111, 117, 116]⟩), .slice (some ⟨b24, 0, none⟩) 2 2], rfl, by simp [Value.oneCell']⟩) rfl (.s .z) (Lens.whole _ _) Tryz.isAgg98 Tryz.sizeOf98 (.inl rfl)) (res_tmp rfl) ?_
    refine av rfl (r_move rfl) ?_
    refine av rfl (r_extract rfl rfl) ?_
    refine av rfl (r_extract rfl rfl) ?_
    refine at_alloc (cs := [.string (⟨#[]⟩), .slice none 0 0]) Tryz.zeroValue98 rfl rfl ?_
    intro b25
    refine at_storeAll (k := 2) (cs := [.string (⟨#[111, 117, 116]⟩), .slice (some ⟨b24, 0, none⟩) 2 2]) .z (by decide) ⟨rfl, by simp [Value.oneCell']⟩ ⟨rfl, by simp [Value.oneCell']⟩ Tryz.sizeOf98 rfl rfl rfl ?_
    refine av rfl (r_assign rfl) ?_
    refine at_nil ?_
    refine at_drop (H := _) (.s (.s .z)) ?_
    refine at_weak [(1, _), (3, _), (4, _)] ⟨rfl, rfl, rfl, trivial⟩ ?_
    refine at_then_normal ?_
    refine at_seq ?_
    refine sr ?_
    refine av rfl (r_fieldAddr (fo := 1) Tryz.underlying98 rfl rfl (fun w => ⟨_, Tryz.sizeOf96 w⟩) rfl) ?_
    refine av rfl (r_load_cell Tryz.isAgg96 rfl (fun w1 hw => cells_get (hw.ok (Upd.mem .z)) 1 _ rfl)) ?_
    refine av rfl (r_len_sl Tryz.underlying96 rfl) ?_
    refine av rfl (r_move rfl) ?_
    refine at_nil ?_
    refine at_drop (H := _) .z ?_
    refine at_weak [(1, _), (4, _), (14, _), (15, _), (16, _)] ⟨rfl, rfl, rfl, rfl, rfl, trivial⟩ ?_
    refine at_then_normal ?_
    refine at_block ?_
    refine at_weak [(1, _), (4, _), (14, _), (15, _), (16, _)] ⟨rfl, rfl, rfl, rfl, rfl, trivial⟩ ?_
    refine at_loop ?_
    refine at_round ?_
    refine sr ?_
    refine av rfl (r_ilss rfl rfl) ?_
    refine at_fix (g := 17) rfl (show (decide (0 < 2)) = true from by decide) ?_
    refine nwt [(1, _), (4, _), (14, _), (15, _), (16, _), (17, _)] ⟨rfl, rfl, rfl, rfl, rfl, rfl, trivial⟩ ?_
    refine at_seq ?_
    refine at_cond_true rfl rfl ?_
    refine sn ?_
    refine at_seq ?_
    refine at_block ?_
    refine sr ?_
    refine av rfl (r_idx Tryz.underlying96 Tryz.sizeOf104 rfl rfl (by decide) rfl) ?_
    refine av rfl (r_load_agg (l := [.func (.func 125) #[] #[], .func (.func 127) #[] #[], .func (.func 129) #[] #[]]) Tryz.isAgg104 Tryz.sizeOf104 rfl rfl (fun w1 hw => cells_mid (pre := []) (suf := [.func (.func 130) #[] #[], .func (.func 131) #[] #[], .func (.func 132) #[] #[]]) (hw.ok (Upd.mem .z)) rfl rfl)) ?_
    refine at_alloc (cs := [.nilFunc, .nilFunc, .nilFunc]) Tryz.zeroValue104 rfl rfl ?_
    intro b26
    refine at_storeAll (k := 3) (cs := [.func (.func 125) #[] #[], .func (.func 127) #[] #[], .func (.func 129) #[] #[]]) .z (by decide) ⟨rfl, by simp [Value.oneCell']⟩ ⟨rfl, by simp [Value.oneCell']⟩ Tryz.sizeOf104 rfl rfl rfl ?_
    refine nwt [(1, _), (4, _), (6, _), (14, _), (15, _), (16, _)] ⟨rfl, rfl, rfl, rfl, rfl, rfl, trivial⟩ ?_
    refine at_region ?_
    refine av rfl (r_fieldAddr (fo := 2) Tryz.underlying104 rfl rfl (fun w => ⟨_, Tryz.sizeOf102 w⟩) rfl) ?_
    refine av rfl (r_load_cell Tryz.isAgg102 rfl (fun w1 hw => cells_get (hw.ok (Upd.mem .z)) 2 _ rfl)) ?_
    refine at_callee rfl ?_
    refine at_callI Tryz.func129 rfl (by kernel_rfl) rfl rfl rfl rfl ?_
    refine at_drop (H := _) .z ?_
    refine at_weak [(0, _)] ⟨rfl, trivial⟩ ?_
    refine at_region ?_
    refine av rfl (r_move rfl) ?_
    refine av rfl (r_nilCheck rfl) ?_
    refine av rfl (r_fieldAddr (fo := 1) Tryz.underlying33 rfl rfl (fun w => ⟨_, Tryz.sizeOf22 w⟩) rfl) ?_
    refine at_store (c := cSv Int) (z := (((none : Option Addr), (0 : Nat)), ([] : List Int))) (.s .z) (c_api_Item_f_Bytes_sv g0_ x0) Tryz.sizeOf22 rfl rfl rfl ?_
    refine at_nil ?_
    refine at_weak [] trivial ?_
    refine at_retI0 rfl ?_
    refine at_nil ?_
    refine at_weak [(1, _), (4, _), (14, _), (15, _), (16, _)] ⟨rfl, rfl, rfl, rfl, rfl, trivial⟩ ?_
    refine at_blk_normal (at_then_normal ?_)
    refine at_region ?_
    refine av rfl (r_iadd rfl rfl) ?_
    refine at_ov (t := 23) rfl (show Value.int .i64 (wr .i64 (0 + 1)) = .int .i64 1 from by rfl) ?_
    refine av rfl (r_move rfl) ?_
    refine nwt [(1, _), (4, _), (14, _), (15, _), (16, _)] ⟨rfl, rfl, rfl, rfl, rfl, trivial⟩ ?_
    refine at_weak [(1, _), (4, _), (14, _), (15, _), (16, _)] ⟨rfl, rfl, rfl, rfl, rfl, trivial⟩ ?_
    refine at_round ?_
    refine sr ?_
    refine av rfl (r_ilss rfl rfl) ?_
    refine at_fix (g := 17) rfl (show (decide (1 < 2)) = true from by decide) ?_
    refine nwt [(1, _), (4, _), (14, _), (15, _), (16, _), (17, _)] ⟨rfl, rfl, rfl, rfl, rfl, rfl, trivial⟩ ?_
    refine at_seq ?_
    refine at_cond_true rfl rfl ?_
    refine sn ?_
    refine at_seq ?_
    refine at_block ?_
    refine sr ?_
    refine av rfl (r_idx Tryz.underlying96 Tryz.sizeOf104 rfl rfl (by decide) rfl) ?_
    refine av rfl (r_load_agg (l := [.func (.func 130) #[] #[], .func (.func 131) #[] #[], .func (.func 132) #[] #[]]) Tryz.isAgg104 Tryz.sizeOf104 rfl rfl (fun w1 hw => cells_mid (pre := [.func (.func 125) #[] #[], .func (.func 127) #[] #[], .func (.func 129) #[] #[]]) (suf := []) (hw.ok (Upd.mem .z)) rfl rfl)) ?_
    refine at_alloc (cs := [.nilFunc, .nilFunc, .nilFunc]) Tryz.zeroValue104 rfl rfl ?_
    intro b27
    refine at_storeAll (k := 3) (cs := [.func (.func 130) #[] #[], .func (.func 131) #[] #[], .func (.func 132) #[] #[]]) .z (by decide) ⟨rfl, by simp [Value.oneCell']⟩ ⟨rfl, by simp [Value.oneCell']⟩ Tryz.sizeOf104 rfl rfl rfl ?_
    refine nwt [(1, _), (4, _), (6, _), (14, _), (15, _), (16, _)] ⟨rfl, rfl, rfl, rfl, rfl, rfl, trivial⟩ ?_
    refine at_region ?_
    refine av rfl (r_fieldAddr (fo := 2) Tryz.underlying104 rfl rfl (fun w => ⟨_, Tryz.sizeOf102 w⟩) rfl) ?_
    refine av rfl (r_load_cell Tryz.isAgg102 rfl (fun w1 hw => cells_get (hw.ok (Upd.mem .z)) 2 _ rfl)) ?_
    refine at_callee rfl ?_
    refine at_callI Tryz.func132 rfl (by kernel_rfl) rfl rfl rfl rfl ?_
    refine at_drop (H := _) .z ?_
    refine at_weak [(0, _)] ⟨rfl, trivial⟩ ?_
    refine sr ?_
    refine av rfl (r_move rfl) ?_
    refine av rfl (r_nilCheck rfl) ?_
    refine av rfl (r_fieldAddr (fo := 21) Tryz.underlying33 rfl rfl (fun w => ⟨_, Tryz.sizeOf4 w⟩) rfl) ?_
    refine av rfl (r_load_cell Tryz.isAgg4 rfl (lens_cell0 (c := cBool) (y := ({ x0 with f_Bytes := ([] : List Int) }).f_Ok) (.s .z) (c_api_Item_f_Ok (((none : Option Addr), (0 : Nat)), (g0_.2.1, g0_.2.2)) ({ x0 with f_Bytes := ([] : List Int) })) rfl)) ?_
    refine nwt [(0, _), (5, _)] ⟨rfl, rfl, trivial⟩ ?_
    rcases of_ite hF with ⟨h28, hF⟩ | ⟨h28, hF⟩
    ·refine at_cond_true rfl h28 ?_
     refine at_region ?_
     refine av rfl (r_move rfl) ?_
     refine av rfl (r_move rfl) ?_
     refine av rfl (r_nilCheck rfl) ?_
     refine av rfl (r_fieldAddr (fo := 21) Tryz.underlying33 rfl rfl (fun w => ⟨_, Tryz.sizeOf4 w⟩) rfl) ?_
     refine at_store (c := cBool) (z := false) (.s .z) (c_api_Item_f_Ok (((none : Option Addr), (0 : Nat)), (g0_.2.1, g0_.2.2)) ({ x0 with f_Bytes := ([] : List Int) })) Tryz.sizeOf4 rfl rfl rfl ?_
     refine av rfl (r_nilCheck rfl) ?_
     refine av rfl (r_fieldAddr (fo := 20) Tryz.underlying33 rfl rfl (fun w => ⟨_, Tryz.sizeOf22 w⟩) rfl) ?_
     refine at_store (c := cSv Int) (z := (((none : Option Addr), (0 : Nat)), ([] : List Int))) (.s .z) (c_api_Item_f_Result_sv (((none : Option Addr), (0 : Nat)), (g0_.2.1, g0_.2.2)) ({ { x0 with f_Bytes := ([] : List Int) } with f_Ok := false })) Tryz.sizeOf22 rfl rfl rfl ?_
     refine at_nil ?_
     refine at_weak [] trivial ?_
     refine at_retI0 rfl ?_
     refine at_nil ?_
     refine at_weak [(1, _), (4, _), (14, _), (15, _), (16, _)] ⟨rfl, rfl, rfl, rfl, rfl, trivial⟩ ?_
     refine at_blk_normal (at_then_normal ?_)
     refine at_region ?_
     refine av rfl (r_iadd rfl rfl) ?_
     refine at_ov (t := 23) rfl (show Value.int .i64 (wr .i64 (1 + 1)) = .int .i64 2 from by rfl) ?_
     refine av rfl (r_move rfl) ?_
     refine nwt [(1, _), (4, _), (14, _), (15, _), (16, _)] ⟨rfl, rfl, rfl, rfl, rfl, trivial⟩ ?_
     refine at_weak [(1, _), (4, _), (14, _), (15, _), (16, _)] ⟨rfl, rfl, rfl, rfl, rfl, trivial⟩ ?_
     refine at_round ?_
     refine sr ?_
     refine av rfl (r_ilss rfl rfl) ?_
     refine at_fix (g := 17) rfl (show (decide (2 < 2)) = false from by decide) ?_
     refine nwt [(1, _), (4, _), (14, _), (15, _), (16, _), (17, _)] ⟨rfl, rfl, rfl, rfl, rfl, rfl, trivial⟩ ?_
     refine at_seq ?_
     refine at_cond_false rfl rfl ?_
     refine at_exit ?_
     refine at_then_exit (at_then_exit ?_)
     refine at_blk_same ?_
     refine at_drop (H := _) .z ?_
     refine at_weak [(1, _), (4, _)] ⟨rfl, rfl, trivial⟩ ?_
     refine at_then_normal ?_
     refine sr ?_
     refine av rfl (r_move rfl) ?_
     refine av rfl (r_move rfl) ?_
     refine at_guard_yes rfl rfl rfl ?_
     refine av rfl (r_load_aggc (c := c_api_Item) (z := ((((none : Option Addr), (0 : Nat)), ((none : Option Addr), (0 : Nat))), { { { x0 with f_Bytes := ([] : List Int) } with f_Ok := false } with f_Result := ([] : List Int) })) Tryz.isAgg33 Tryz.sizeOf33 rfl (lens_cell .z (Lens.whole _ _))) ?_
     refine at_guard_yes rfl rfl rfl ?_
     refine av rfl (r_fieldAddr (fo := 0) Tryz.underlying33 rfl rfl (fun w => ⟨_, Tryz.sizeOf3 w⟩) rfl) ?_
     refine at_guard_yes rfl rfl rfl ?_
     refine av rfl (r_load_cell Tryz.isAgg3 rfl (lens_cell0 (c := (cInt .i64)) (y := ({ { { x0 with f_Bytes := ([] : List Int) } with f_Ok := false } with f_Result := ([] : List Int) }).f_Kind) .z (c_api_Item_f_Kind (((none : Option Addr), (0 : Nat)), ((none : Option Addr), (0 : Nat))) ({ { { x0 with f_Bytes := ([] : List Int) } with f_Ok := false } with f_Result := ([] : List Int) })) rfl)) ?_
     refine at_guard_yes rfl rfl rfl ?_
     refine av rfl (r_build_struct (zs := Cd.cs c_api_Item ((((none : Option Addr), (0 : Nat)), ((none : Option Addr), (0 : Nat))), ({ f_Kind := (0 : Int), f_Bytes := ([] : List Int), f_From := zqSB_0, f_Result := ([] : List Int), f_Ok := false, f_Key := (Vector.replicate 32 (0 : Int) : (Vector Int 32)), f_Local := (0 : Int), f_Remote := (0 : Int), f_Next := (0 : Int) } : S_api_Item))) (cs := Cd.cs c_api_Item ((((none : Option Addr), (0 : Nat)), ((none : Option Addr), (0 : Nat))), { ({ f_Kind := (0 : Int), f_Bytes := ([] : List Int), f_From := zqSB_0, f_Result := ([] : List Int), f_Ok := false, f_Key := (Vector.replicate 32 (0 : Int) : (Vector Int 32)), f_Local := (0 : Int), f_Remote := (0 : Int), f_Next := (0 : Int) } : S_api_Item) with f_Kind := ({ { { x0 with f_Bytes := ([] : List Int) } with f_Ok := false } with f_Result := ([] : List Int) }).f_Kind })) Tryz.underlying33 Tryz.zeroValue33 rfl (places_api_Item_33) rfl (fill_step (c := (cInt .i64)) (z := ({ { { x0 with f_Bytes := ([] : List Int) } with f_Ok := false } with f_Result := ([] : List Int) }).f_Kind) rfl (c_api_Item_f_Kind (((none : Option Addr), (0 : Nat)), ((none : Option Addr), (0 : Nat))) ({ f_Kind := (0 : Int), f_Bytes := ([] : List Int), f_From := zqSB_0, f_Result := ([] : List Int), f_Ok := false, f_Key := (Vector.replicate 32 (0 : Int) : (Vector Int 32)), f_Local := (0 : Int), f_Remote := (0 : Int), f_Next := (0 : Int) } : S_api_Item)) rfl rfl)) ?_
     refine at_guard_yes rfl rfl rfl ?_
     obtain ⟨t29, ht29, hF⟩ := of_bindM hF
     refine at_callB Tryz.func12 rfl (by kernel_rfl) rfl rfl (fun w hw => script_Same_ok _ _ _ _ _ ht29 w ⟨(Row.nil ..), (Row.nil ..)⟩ ⟨(Row.nil ..), (Row.nil ..)⟩) ?_
     refine av rfl (r_pick rfl rfl rfl) ?_
     refine av rfl (r_assign rfl) ?_
     refine at_nil ?_
     refine at_drop (H := _) .z ?_
     refine at_weak [(2, _)] ⟨rfl, trivial⟩ ?_
     refine at_then_normal ?_
     refine at_ret ?_
     have K := of_some hF
     subst K
     exact at_return1 rfl rfl (fun w1 hw => ⟨rfl, hw.below⟩)
    ·refine at_cond_false rfl h28 ?_
     refine at_skip ?_
     refine at_retI0 rfl ?_
     refine at_nil ?_
     refine at_weak [(1, _), (4, _), (14, _), (15, _), (16, _)] ⟨rfl, rfl, rfl, rfl, rfl, trivial⟩ ?_
     refine at_blk_normal (at_then_normal ?_)
     refine at_region ?_
     refine av rfl (r_iadd rfl rfl) ?_
     refine at_ov (t := 23) rfl (show Value.int .i64 (wr .i64 (1 + 1)) = .int .i64 2 from by rfl) ?_
     refine av rfl (r_move rfl) ?_
     refine nwt [(1, _), (4, _), (14, _), (15, _), (16, _)] ⟨rfl, rfl, rfl, rfl, rfl, trivial⟩ ?_
     refine at_weak [(1, _), (4, _), (14, _), (15, _), (16, _)] ⟨rfl, rfl, rfl, rfl, rfl, trivial⟩ ?_
     refine at_round ?_
     refine sr ?_
     refine av rfl (r_ilss rfl rfl) ?_
     refine at_fix (g := 17) rfl (show (decide (2 < 2)) = false from by decide) ?_
     refine nwt [(1, _), (4, _), (14, _), (15, _), (16, _), (17, _)] ⟨rfl, rfl, rfl, rfl, rfl, rfl, trivial⟩ ?_
     refine at_seq ?_
     refine at_cond_false rfl rfl ?_
     refine at_exit ?_
     refine at_then_exit (at_then_exit ?_)
     refine at_blk_same ?_
     refine at_drop (H := _) .z ?_
     refine at_weak [(1, _), (4, _)] ⟨rfl, rfl, trivial⟩ ?_
     refine at_then_normal ?_
     refine sr ?_
     refine av rfl (r_move rfl) ?_
     refine av rfl (r_move rfl) ?_
     refine at_guard_yes rfl rfl rfl ?_
     refine av rfl (r_load_aggc (c := c_api_Item) (z := ((((none : Option Addr), (0 : Nat)), (g0_.2.1, g0_.2.2)), { x0 with f_Bytes := ([] : List Int) })) Tryz.isAgg33 Tryz.sizeOf33 rfl (lens_cell .z (Lens.whole _ _))) ?_
     refine at_guard_yes rfl rfl rfl ?_
     refine av rfl (r_fieldAddr (fo := 0) Tryz.underlying33 rfl rfl (fun w => ⟨_, Tryz.sizeOf3 w⟩) rfl) ?_
     refine at_guard_yes rfl rfl rfl ?_
     refine av rfl (r_load_cell Tryz.isAgg3 rfl (lens_cell0 (c := (cInt .i64)) (y := ({ x0 with f_Bytes := ([] : List Int) }).f_Kind) .z (c_api_Item_f_Kind (((none : Option Addr), (0 : Nat)), (g0_.2.1, g0_.2.2)) ({ x0 with f_Bytes := ([] : List Int) })) rfl)) ?_
     refine at_guard_yes rfl rfl rfl ?_
     refine av rfl (r_build_struct (zs := Cd.cs c_api_Item ((((none : Option Addr), (0 : Nat)), ((none : Option Addr), (0 : Nat))), ({ f_Kind := (0 : Int), f_Bytes := ([] : List Int), f_From := zqSB_0, f_Result := ([] : List Int), f_Ok := false, f_Key := (Vector.replicate 32 (0 : Int) : (Vector Int 32)), f_Local := (0 : Int), f_Remote := (0 : Int), f_Next := (0 : Int) } : S_api_Item))) (cs := Cd.cs c_api_Item ((((none : Option Addr), (0 : Nat)), ((none : Option Addr), (0 : Nat))), { ({ f_Kind := (0 : Int), f_Bytes := ([] : List Int), f_From := zqSB_0, f_Result := ([] : List Int), f_Ok := false, f_Key := (Vector.replicate 32 (0 : Int) : (Vector Int 32)), f_Local := (0 : Int), f_Remote := (0 : Int), f_Next := (0 : Int) } : S_api_Item) with f_Kind := ({ x0 with f_Bytes := ([] : List Int) }).f_Kind })) Tryz.underlying33 Tryz.zeroValue33 rfl (places_api_Item_33) rfl (fill_step (c := (cInt .i64)) (z := ({ x0 with f_Bytes := ([] : List Int) }).f_Kind) rfl (c_api_Item_f_Kind (((none : Option Addr), (0 : Nat)), ((none : Option Addr), (0 : Nat))) ({ f_Kind := (0 : Int), f_Bytes := ([] : List Int), f_From := zqSB_0, f_Result := ([] : List Int), f_Ok := false, f_Key := (Vector.replicate 32 (0 : Int) : (Vector Int 32)), f_Local := (0 : Int), f_Remote := (0 : Int), f_Next := (0 : Int) } : S_api_Item)) rfl rfl)) ?_
     refine at_guard_yes rfl rfl rfl ?_
     obtain ⟨t30, ht30, hF⟩ := of_bindM hF
     refine at_callB Tryz.func12 rfl (by kernel_rfl) rfl rfl (fun w hw => script_Same_ok _ _ _ _ _ ht30 w ⟨(Row.nil ..), (RowK.row (RowK.mono hz0.2 (frz_mono (.s .z) hw)))⟩ ⟨(Row.nil ..), (Row.nil ..)⟩) ?_
     refine av rfl (r_pick rfl rfl rfl) ?_
     refine av rfl (r_assign rfl) ?_
     refine at_nil ?_
     refine at_drop (H := _) .z ?_
     refine at_weak [(2, _)] ⟨rfl, trivial⟩ ?_
     refine at_then_normal ?_
     refine at_ret ?_
     have K := of_some hF
     subst K
     exact at_return1 rfl rfl (fun w1 hw => ⟨rfl, hw.below⟩)
   ·refine at_cond_false rfl h21 ?_
    refine sr ?_
    refine av rfl (r_ieql rfl rfl) ?_
    refine av rfl (r_assign rfl) ?_
    refine nwt [(2, _), (4, _), (5, _), (8, _), (25, _)] ⟨rfl, rfl, rfl, rfl, rfl, trivial⟩ ?_
    rcases of_ite hF with ⟨h31, hF⟩ | ⟨h31, hF⟩
    ·refine at_cond_true rfl h31 ?_
     refine sr ?_
     refine at_callI Tryz.func80 rfl (by kernel_rfl) rfl rfl rfl rfl ?_
     refine at_drop (H := _) .z ?_
     refine at_drop (H := _) .z ?_
     refine at_drop (H := _) .z ?_
     refine at_drop (H := _) .z ?_
     refine at_weak [] trivial ?_
     refine sr ?_
     refine at_alloc (cs := [.nilFunc, .nilFunc, .nilFunc]) Tryz.zeroValue104 rfl rfl ?_
     intro b32
     refine nws [(0, _)] ⟨rfl, trivial⟩ ?_
     refine av rfl (r_build_struct (zs := [.nilFunc, .nilFunc, .nilFunc]) (cs := [.func (.func 133) #[] #[], .func (.func 134) #[] #[], .func (.func 135) #[] #[]]) Tryz.underlying104 Tryz.zeroValue104 rfl placesR_104 rfl rfl) ?_
     refine at_storeAll (k := 3) (cs := [.func (.func 133) #[] #[], .func (.func 134) #[] #[], .func (.func 135) #[] #[]]) .z (by decide) ⟨rfl, by simp [Value.oneCell']⟩ ⟨rfl, by simp [Value.oneCell']⟩ Tryz.sizeOf104 rfl rfl rfl ?_
     refine nwt [(0, _)] ⟨rfl, trivial⟩ ?_
     refine at_ret ?_
     refine at_resI1 rfl (res_cell (c := cK 3 (by decide)) (y := ⟨[.func (.func 133) #[] #[], .func (.func 134) #[] #[], .func (.func 135) #[] #[]], rfl, by simp [Value.oneCell']⟩) rfl .z (Lens.whole _ _) Tryz.isAgg104 Tryz.sizeOf104 (.inl rfl)) ?_
     refine at_callI Tryz.func78 rfl (by kernel_rfl) rfl rfl rfl rfl ?_
     refine at_drop (H := _) .z ?_
     refine at_weak [] trivial ?_
     refine sr ?_
     refine at_alloc (cs := [.nilFunc, .nilFunc, .nilFunc]) Tryz.zeroValue104 rfl rfl ?_
     intro b33
     refine nws [(0, _)] ⟨rfl, trivial⟩ ?_
     refine av rfl (r_build_struct (zs := [.nilFunc, .nilFunc, .nilFunc]) (cs := [.func (.func 125) #[] #[], .func (.func 127) #[] #[], .func (.func 129) #[] #[]]) Tryz.underlying104 Tryz.zeroValue104 rfl placesR_104 rfl rfl) ?_
     refine at_storeAll (k := 3) (cs := [.func (.func 125) #[] #[], .func (.func 127) #[] #[], .func (.func 129) #[] #[]]) .z (by decide) ⟨rfl, by simp [Value.oneCell']⟩ ⟨rfl, by simp [Value.oneCell']⟩ Tryz.sizeOf104 rfl rfl rfl ?_
     refine nwt [(0, _)] ⟨rfl, trivial⟩ ?_
     refine at_ret ?_
     refine at_resI1 rfl (res_cell (c := cK 3 (by decide)) (y := ⟨[.func (.func 125) #[] #[], .func (.func 127) #[] #[], .func (.func 129) #[] #[]], rfl, by simp [Value.oneCell']⟩) rfl .z (Lens.whole _ _) Tryz.isAgg104 Tryz.sizeOf104 (.inl rfl)) ?_
     refine at_callI Tryz.func79 rfl (by kernel_rfl) rfl rfl rfl rfl ?_
     refine at_drop (H := _) .z ?_
     refine at_weak [] trivial ?_
     refine sr ?_
     refine at_alloc (cs := [.nilFunc, .nilFunc, .nilFunc]) Tryz.zeroValue104 rfl rfl ?_
     intro b34
     refine nws [(0, _)] ⟨rfl, trivial⟩ ?_
     refine av rfl (r_build_struct (zs := [.nilFunc, .nilFunc, .nilFunc]) (cs := [.func (.func 130) #[] #[], .func (.func 131) #[] #[], .func (.func 132) #[] #[]]) Tryz.underlying104 Tryz.zeroValue104 rfl placesR_104 rfl rfl) ?_
     refine at_storeAll (k := 3) (cs := [.func (.func 130) #[] #[], .func (.func 131) #[] #[], .func (.func 132) #[] #[]]) .z (by decide) ⟨rfl, by simp [Value.oneCell']⟩ ⟨rfl, by simp [Value.oneCell']⟩ Tryz.sizeOf104 rfl rfl rfl ?_
     refine nwt [(0, _)] ⟨rfl, trivial⟩ ?_
     refine at_ret ?_
     refine at_resI1 rfl (res_cell (c := cK 3 (by decide)) (y := ⟨[.func (.func 130) #[] #[], .func (.func 131) #[] #[], .func (.func 132) #[] #[]], rfl, by simp [Value.oneCell']⟩) rfl .z (Lens.whole _ _) Tryz.isAgg104 Tryz.sizeOf104 (.inl rfl)) ?_
     refine at_litG (cs := [.func (.func 133) #[] #[], .func (.func 134) #[] #[], .func (.func 135) #[] #[], .func (.func 125) #[] #[], .func (.func 127) #[] #[], .func (.func 129) #[] #[], .func (.func 130) #[] #[], .func (.func 131) #[] #[], .func (.func 132) #[] #[]]) Tryz.underlying96 Tryz.sizeOf104 Tryz.zeroValue104 rfl rfl rfl (by kernel_rfl) rfl ?_
     intro b35
     refine av rfl (r_build_struct (zs := [.string (⟨#[]⟩), .slice none 0 0]) (cs := [.string (⟨#[105, 110]⟩), .slice (some ⟨b35, 0, none⟩) 3 3]) Tryz.underlying98 Tryz.zeroValue98 rfl placesR_98 rfl rfl) ?_
     refine at_storeAll (k := 2) (cs := [.string (⟨#[105, 110]⟩), .slice (some ⟨b35, 0, none⟩) 3 3]) (.s (.s .z)) (by decide) ⟨rfl, by simp [Value.oneCell']⟩ ⟨rfl, by simp [Value.oneCell']⟩ Tryz.sizeOf98 rfl rfl rfl ?_
     refine av rfl (r_assign rfl) ?_
     refine at_nil ?_
     refine at_drop (H := _) (.s .z) ?_
     refine at_weak [(2, _), (3, _)] ⟨rfl, rfl, trivial⟩ ?_
     refine at_then_normal ?_
     refine at_ret ?_
     refine at_blk_ret (at_then_ret ?_)
     refine at_resI2 rfl (res_cell (c := cK 2 (by decide)) (y := ⟨[.string (⟨#[105, 110]⟩), .slice (some ⟨b35, 0, none⟩) 3 3], rfl, by simp [Value.oneCell']⟩) rfl (.s .z) (Lens.whole _ _) Tryz.isAgg98 Tryz.sizeOf98 (.inl rfl)) (res_tmp rfl) ?_
     refine av rfl (r_move rfl) ?_
     refine av rfl (r_extract rfl rfl) ?_
     refine av rfl (r_extract rfl rfl) ?_
     refine at_alloc (cs := [.string (⟨#[]⟩), .slice none 0 0]) Tryz.zeroValue98 rfl rfl ?_
     intro b36
     refine at_storeAll (k := 2) (cs := [.string (⟨#[105, 110]⟩), .slice (some ⟨b35, 0, none⟩) 3 3]) .z (by decide) ⟨rfl, by simp [Value.oneCell']⟩ ⟨rfl, by simp [Value.oneCell']⟩ Tryz.sizeOf98 rfl rfl rfl ?_
     refine av rfl (r_assign rfl) ?_
     refine at_nil ?_
     refine at_drop (H := _) (.s (.s .z)) ?_
     refine at_weak [(1, _), (3, _), (4, _)] ⟨rfl, rfl, rfl, trivial⟩ ?_
     refine at_then_normal ?_
     refine at_seq ?_
     refine sr ?_
     refine av rfl (r_fieldAddr (fo := 1) Tryz.underlying98 rfl rfl (fun w => ⟨_, Tryz.sizeOf96 w⟩) rfl) ?_
     refine av rfl (r_load_cell Tryz.isAgg96 rfl (fun w1 hw => cells_get (hw.ok (Upd.mem .z)) 1 _ rfl)) ?_
     refine av rfl (r_len_sl Tryz.underlying96 rfl) ?_
     refine av rfl (r_move rfl) ?_
     refine at_nil ?_
     refine at_drop (H := _) .z ?_
     refine at_weak [(1, _), (4, _), (14, _), (15, _), (16, _)] ⟨rfl, rfl, rfl, rfl, rfl, trivial⟩ ?_
     refine at_then_normal ?_
     refine at_block ?_
     refine at_weak [(1, _), (4, _), (14, _), (15, _), (16, _)] ⟨rfl, rfl, rfl, rfl, rfl, trivial⟩ ?_
     refine at_loop ?_
     refine at_round ?_
     refine sr ?_
     refine av rfl (r_ilss rfl rfl) ?_
     refine at_fix (g := 17) rfl (show (decide (0 < 3)) = true from by decide) ?_
     refine nwt [(1, _), (4, _), (14, _), (15, _), (16, _), (17, _)] ⟨rfl, rfl, rfl, rfl, rfl, rfl, trivial⟩ ?_
     refine at_seq ?_
     refine at_cond_true rfl rfl ?_
     refine sn ?_
     refine at_seq ?_
     refine at_block ?_
     refine sr ?_
     refine av rfl (r_idx Tryz.underlying96 Tryz.sizeOf104 rfl rfl (by decide) rfl) ?_
     refine av rfl (r_load_agg (l := [.func (.func 133) #[] #[], .func (.func 134) #[] #[], .func (.func 135) #[] #[]]) Tryz.isAgg104 Tryz.sizeOf104 rfl rfl (fun w1 hw => cells_mid (pre := []) (suf := [.func (.func 125) #[] #[], .func (.func 127) #[] #[], .func (.func 129) #[] #[], .func (.func 130) #[] #[], .func (.func 131) #[] #[], .func (.func 132) #[] #[]]) (hw.ok (Upd.mem .z)) rfl rfl)) ?_
     refine at_alloc (cs := [.nilFunc, .nilFunc, .nilFunc]) Tryz.zeroValue104 rfl rfl ?_
     intro b37
     refine at_storeAll (k := 3) (cs := [.func (.func 133) #[] #[], .func (.func 134) #[] #[], .func (.func 135) #[] #[]]) .z (by decide) ⟨rfl, by simp [Value.oneCell']⟩ ⟨rfl, by simp [Value.oneCell']⟩ Tryz.sizeOf104 rfl rfl rfl ?_
     refine nwt [(1, _), (4, _), (6, _), (14, _), (15, _), (16, _)] ⟨rfl, rfl, rfl, rfl, rfl, rfl, trivial⟩ ?_
     refine at_region ?_
     refine av rfl (r_fieldAddr (fo := 2) Tryz.underlying104 rfl rfl (fun w => ⟨_, Tryz.sizeOf102 w⟩) rfl) ?_
     refine av rfl (r_load_cell Tryz.isAgg102 rfl (fun w1 hw => cells_get (hw.ok (Upd.mem .z)) 2 _ rfl)) ?_
     refine at_callee rfl ?_
     refine at_callI Tryz.func135 rfl (by kernel_rfl) rfl rfl rfl rfl ?_
     refine at_drop (H := _) .z ?_
     refine at_weak [(0, _)] ⟨rfl, trivial⟩ ?_
     refine sr ?_
     refine av rfl (r_move rfl) ?_
     refine av rfl (r_nilCheck rfl) ?_
     refine av rfl (r_fieldAddr (fo := 2) Tryz.underlying33 rfl rfl (fun w => ⟨_, Tryz.sizeOf27 w⟩) rfl) ?_
     refine av rfl (r_load_aggc (c := c_api_Endpoint) (z := x0.f_From) Tryz.isAgg27 Tryz.sizeOf27 rfl (lens_cell (.s .z) (c_api_Item_f_From g0_ x0))) ?_
     obtain ⟨t38, ht38, hF⟩ := of_bindM hF
     refine at_callB Tryz.func102 rfl (by kernel_rfl) rfl rfl (fun w hw => hostport_Right_ok _ _ ht38 w) ?_
     refine nwt [(0, _), (6, _)] ⟨rfl, rfl, trivial⟩ ?_
     rcases of_ite hF with ⟨h39, hF⟩ | ⟨h39, hF⟩
     ·refine at_cond_true rfl h39 ?_
      refine at_region ?_
      refine av rfl (r_move rfl) ?_
      refine av rfl (r_build_struct (zs := Cd.cs c_api_Endpoint zqSB_0) (cs := Cd.cs c_api_Endpoint zqSB_0) Tryz.underlying27 Tryz.zeroValue27 rfl (places_api_Endpoint_27) rfl rfl) ?_
      refine av rfl (r_nilCheck rfl) ?_
      refine av rfl (r_fieldAddr (fo := 2) Tryz.underlying33 rfl rfl (fun w => ⟨_, Tryz.sizeOf27 w⟩) rfl) ?_
      refine at_store (c := c_api_Endpoint) (z := zqSB_0) (.s .z) (c_api_Item_f_From g0_ x0) Tryz.sizeOf27 rfl rfl rfl ?_
      refine at_nil ?_
      refine at_weak [] trivial ?_
      refine at_retI0 rfl ?_
      refine at_nil ?_
      refine at_weak [(1, _), (4, _), (14, _), (15, _), (16, _)] ⟨rfl, rfl, rfl, rfl, rfl, trivial⟩ ?_
      refine at_blk_normal (at_then_normal ?_)
      refine at_region ?_
      refine av rfl (r_iadd rfl rfl) ?_
      refine at_ov (t := 23) rfl (show Value.int .i64 (wr .i64 (0 + 1)) = .int .i64 1 from by rfl) ?_
      refine av rfl (r_move rfl) ?_
      refine nwt [(1, _), (4, _), (14, _), (15, _), (16, _)] ⟨rfl, rfl, rfl, rfl, rfl, trivial⟩ ?_
      refine at_weak [(1, _), (4, _), (14, _), (15, _), (16, _)] ⟨rfl, rfl, rfl, rfl, rfl, trivial⟩ ?_
      refine at_round ?_
      refine sr ?_
      refine av rfl (r_ilss rfl rfl) ?_
      refine at_fix (g := 17) rfl (show (decide (1 < 3)) = true from by decide) ?_
      refine nwt [(1, _), (4, _), (14, _), (15, _), (16, _), (17, _)] ⟨rfl, rfl, rfl, rfl, rfl, rfl, trivial⟩ ?_
      refine at_seq ?_
      refine at_cond_true rfl rfl ?_
      refine sn ?_
      refine at_seq ?_
      refine at_block ?_
      refine sr ?_
      refine av rfl (r_idx Tryz.underlying96 Tryz.sizeOf104 rfl rfl (by decide) rfl) ?_
      refine av rfl (r_load_agg (l := [.func (.func 125) #[] #[], .func (.func 127) #[] #[], .func (.func 129) #[] #[]]) Tryz.isAgg104 Tryz.sizeOf104 rfl rfl (fun w1 hw => cells_mid (pre := [.func (.func 133) #[] #[], .func (.func 134) #[] #[], .func (.func 135) #[] #[]]) (suf := [.func (.func 130) #[] #[], .func (.func 131) #[] #[], .func (.func 132) #[] #[]]) (hw.ok (Upd.mem .z)) rfl rfl)) ?_
      refine at_alloc (cs := [.nilFunc, .nilFunc, .nilFunc]) Tryz.zeroValue104 rfl rfl ?_
      intro b40
      refine at_storeAll (k := 3) (cs := [.func (.func 125) #[] #[], .func (.func 127) #[] #[], .func (.func 129) #[] #[]]) .z (by decide) ⟨rfl, by simp [Value.oneCell']⟩ ⟨rfl, by simp [Value.oneCell']⟩ Tryz.sizeOf104 rfl rfl rfl ?_
      refine nwt [(1, _), (4, _), (6, _), (14, _), (15, _), (16, _)] ⟨rfl, rfl, rfl, rfl, rfl, rfl, trivial⟩ ?_
      refine at_region ?_
      refine av rfl (r_fieldAddr (fo := 2) Tryz.underlying104 rfl rfl (fun w => ⟨_, Tryz.sizeOf102 w⟩) rfl) ?_
      refine av rfl (r_load_cell Tryz.isAgg102 rfl (fun w1 hw => cells_get (hw.ok (Upd.mem .z)) 2 _ rfl)) ?_
      refine at_callee rfl ?_
      refine at_callI Tryz.func129 rfl (by kernel_rfl) rfl rfl rfl rfl ?_
      refine at_drop (H := _) .z ?_
      refine at_weak [(0, _)] ⟨rfl, trivial⟩ ?_
      refine at_region ?_
      refine av rfl (r_move rfl) ?_
      refine av rfl (r_nilCheck rfl) ?_
      refine av rfl (r_fieldAddr (fo := 1) Tryz.underlying33 rfl rfl (fun w => ⟨_, Tryz.sizeOf22 w⟩) rfl) ?_
      refine at_store (c := cSv Int) (z := (((none : Option Addr), (0 : Nat)), ([] : List Int))) (.s .z) (c_api_Item_f_Bytes_sv g0_ ({ x0 with f_From := zqSB_0 })) Tryz.sizeOf22 rfl rfl rfl ?_
      refine at_nil ?_
      refine at_weak [] trivial ?_
      refine at_retI0 rfl ?_
      refine at_nil ?_
      refine at_weak [(1, _), (4, _), (14, _), (15, _), (16, _)] ⟨rfl, rfl, rfl, rfl, rfl, trivial⟩ ?_
      refine at_blk_normal (at_then_normal ?_)
      refine at_region ?_
      refine av rfl (r_iadd rfl rfl) ?_
      refine at_ov (t := 23) rfl (show Value.int .i64 (wr .i64 (1 + 1)) = .int .i64 2 from by rfl) ?_
      refine av rfl (r_move rfl) ?_
      refine nwt [(1, _), (4, _), (14, _), (15, _), (16, _)] ⟨rfl, rfl, rfl, rfl, rfl, trivial⟩ ?_
      refine at_weak [(1, _), (4, _), (14, _), (15, _), (16, _)] ⟨rfl, rfl, rfl, rfl, rfl, trivial⟩ ?_
      refine at_round ?_
      refine sr ?_
      refine av rfl (r_ilss rfl rfl) ?_
      refine at_fix (g := 17) rfl (show (decide (2 < 3)) = true from by decide) ?_
      refine nwt [(1, _), (4, _), (14, _), (15, _), (16, _), (17, _)] ⟨rfl, rfl, rfl, rfl, rfl, rfl, trivial⟩ ?_
      refine at_seq ?_
      refine at_cond_true rfl rfl ?_
      refine sn ?_
      refine at_seq ?_
      refine at_block ?_
      refine sr ?_
      refine av rfl (r_idx Tryz.underlying96 Tryz.sizeOf104 rfl rfl (by decide) rfl) ?_
      refine av rfl (r_load_agg (l := [.func (.func 130) #[] #[], .func (.func 131) #[] #[], .func (.func 132) #[] #[]]) Tryz.isAgg104 Tryz.sizeOf104 rfl rfl (fun w1 hw => cells_mid (pre := [.func (.func 133) #[] #[], .func (.func 134) #[] #[], .func (.func 135) #[] #[], .func (.func 125) #[] #[], .func (.func 127) #[] #[], .func (.func 129) #[] #[]]) (suf := []) (hw.ok (Upd.mem .z)) rfl rfl)) ?_
      refine at_alloc (cs := [.nilFunc, .nilFunc, .nilFunc]) Tryz.zeroValue104 rfl rfl ?_
      intro b41
      refine at_storeAll (k := 3) (cs := [.func (.func 130) #[] #[], .func (.func 131) #[] #[], .func (.func 132) #[] #[]]) .z (by decide) ⟨rfl, by simp [Value.oneCell']⟩ ⟨rfl, by simp [Value.oneCell']⟩ Tryz.sizeOf104 rfl rfl rfl ?_
      refine nwt [(1, _), (4, _), (6, _), (14, _), (15, _), (16, _)] ⟨rfl, rfl, rfl, rfl, rfl, rfl, trivial⟩ ?_
      refine at_region ?_
      refine av rfl (r_fieldAddr (fo := 2) Tryz.underlying104 rfl rfl (fun w => ⟨_, Tryz.sizeOf102 w⟩) rfl) ?_
      refine av rfl (r_load_cell Tryz.isAgg102 rfl (fun w1 hw => cells_get (hw.ok (Upd.mem .z)) 2 _ rfl)) ?_
      refine at_callee rfl ?_
      refine at_callI Tryz.func132 rfl (by kernel_rfl) rfl rfl rfl rfl ?_
      refine at_drop (H := _) .z ?_
      refine at_weak [(0, _)] ⟨rfl, trivial⟩ ?_
      refine sr ?_
      refine av rfl (r_move rfl) ?_
      refine av rfl (r_nilCheck rfl) ?_
      refine av rfl (r_fieldAddr (fo := 21) Tryz.underlying33 rfl rfl (fun w => ⟨_, Tryz.sizeOf4 w⟩) rfl) ?_
      refine av rfl (r_load_cell Tryz.isAgg4 rfl (lens_cell0 (c := cBool) (y := ({ { x0 with f_From := zqSB_0 } with f_Bytes := ([] : List Int) }).f_Ok) (.s .z) (c_api_Item_f_Ok (((none : Option Addr), (0 : Nat)), (g0_.2.1, g0_.2.2)) ({ { x0 with f_From := zqSB_0 } with f_Bytes := ([] : List Int) })) rfl)) ?_
      refine nwt [(0, _), (5, _)] ⟨rfl, rfl, trivial⟩ ?_
      rcases of_ite hF with ⟨h42, hF⟩ | ⟨h42, hF⟩
      ·refine at_cond_true rfl h42 ?_
       refine at_region ?_
       refine av rfl (r_move rfl) ?_
       refine av rfl (r_move rfl) ?_
       refine av rfl (r_nilCheck rfl) ?_
       refine av rfl (r_fieldAddr (fo := 21) Tryz.underlying33 rfl rfl (fun w => ⟨_, Tryz.sizeOf4 w⟩) rfl) ?_
       refine at_store (c := cBool) (z := false) (.s .z) (c_api_Item_f_Ok (((none : Option Addr), (0 : Nat)), (g0_.2.1, g0_.2.2)) ({ { x0 with f_From := zqSB_0 } with f_Bytes := ([] : List Int) })) Tryz.sizeOf4 rfl rfl rfl ?_
       refine av rfl (r_nilCheck rfl) ?_
       refine av rfl (r_fieldAddr (fo := 20) Tryz.underlying33 rfl rfl (fun w => ⟨_, Tryz.sizeOf22 w⟩) rfl) ?_
       refine at_store (c := cSv Int) (z := (((none : Option Addr), (0 : Nat)), ([] : List Int))) (.s .z) (c_api_Item_f_Result_sv (((none : Option Addr), (0 : Nat)), (g0_.2.1, g0_.2.2)) ({ { { x0 with f_From := zqSB_0 } with f_Bytes := ([] : List Int) } with f_Ok := false })) Tryz.sizeOf22 rfl rfl rfl ?_
       refine at_nil ?_
       refine at_weak [] trivial ?_
       refine at_retI0 rfl ?_
       refine at_nil ?_
       refine at_weak [(1, _), (4, _), (14, _), (15, _), (16, _)] ⟨rfl, rfl, rfl, rfl, rfl, trivial⟩ ?_
       refine at_blk_normal (at_then_normal ?_)
       refine at_region ?_
       refine av rfl (r_iadd rfl rfl) ?_
       refine at_ov (t := 23) rfl (show Value.int .i64 (wr .i64 (2 + 1)) = .int .i64 3 from by rfl) ?_
       refine av rfl (r_move rfl) ?_
       refine nwt [(1, _), (4, _), (14, _), (15, _), (16, _)] ⟨rfl, rfl, rfl, rfl, rfl, trivial⟩ ?_
       refine at_weak [(1, _), (4, _), (14, _), (15, _), (16, _)] ⟨rfl, rfl, rfl, rfl, rfl, trivial⟩ ?_
       refine at_round ?_
       refine sr ?_
       refine av rfl (r_ilss rfl rfl) ?_
       refine at_fix (g := 17) rfl (show (decide (3 < 3)) = false from by decide) ?_
       refine nwt [(1, _), (4, _), (14, _), (15, _), (16, _), (17, _)] ⟨rfl, rfl, rfl, rfl, rfl, rfl, trivial⟩ ?_
       refine at_seq ?_
       refine at_cond_false rfl rfl ?_
       refine at_exit ?_
       refine at_then_exit (at_then_exit ?_)
       refine at_blk_same ?_
       refine at_drop (H := _) .z ?_
       refine at_weak [(1, _), (4, _)] ⟨rfl, rfl, trivial⟩ ?_
       refine at_then_normal ?_
       refine sr ?_
       refine av rfl (r_move rfl) ?_
       refine av rfl (r_move rfl) ?_
       refine at_guard_yes rfl rfl rfl ?_
       refine av rfl (r_load_aggc (c := c_api_Item) (z := ((((none : Option Addr), (0 : Nat)), ((none : Option Addr), (0 : Nat))), { { { { x0 with f_From := zqSB_0 } with f_Bytes := ([] : List Int) } with f_Ok := false } with f_Result := ([] : List Int) })) Tryz.isAgg33 Tryz.sizeOf33 rfl (lens_cell .z (Lens.whole _ _))) ?_
       refine at_guard_yes rfl rfl rfl ?_
       refine av rfl (r_fieldAddr (fo := 0) Tryz.underlying33 rfl rfl (fun w => ⟨_, Tryz.sizeOf3 w⟩) rfl) ?_
       refine at_guard_yes rfl rfl rfl ?_
       refine av rfl (r_load_cell Tryz.isAgg3 rfl (lens_cell0 (c := (cInt .i64)) (y := ({ { { { x0 with f_From := zqSB_0 } with f_Bytes := ([] : List Int) } with f_Ok := false } with f_Result := ([] : List Int) }).f_Kind) .z (c_api_Item_f_Kind (((none : Option Addr), (0 : Nat)), ((none : Option Addr), (0 : Nat))) ({ { { { x0 with f_From := zqSB_0 } with f_Bytes := ([] : List Int) } with f_Ok := false } with f_Result := ([] : List Int) })) rfl)) ?_
       refine at_guard_yes rfl rfl rfl ?_
       refine av rfl (r_build_struct (zs := Cd.cs c_api_Item ((((none : Option Addr), (0 : Nat)), ((none : Option Addr), (0 : Nat))), ({ f_Kind := (0 : Int), f_Bytes := ([] : List Int), f_From := zqSB_0, f_Result := ([] : List Int), f_Ok := false, f_Key := (Vector.replicate 32 (0 : Int) : (Vector Int 32)), f_Local := (0 : Int), f_Remote := (0 : Int), f_Next := (0 : Int) } : S_api_Item))) (cs := Cd.cs c_api_Item ((((none : Option Addr), (0 : Nat)), ((none : Option Addr), (0 : Nat))), { ({ f_Kind := (0 : Int), f_Bytes := ([] : List Int), f_From := zqSB_0, f_Result := ([] : List Int), f_Ok := false, f_Key := (Vector.replicate 32 (0 : Int) : (Vector Int 32)), f_Local := (0 : Int), f_Remote := (0 : Int), f_Next := (0 : Int) } : S_api_Item) with f_Kind := ({ { { { x0 with f_From := zqSB_0 } with f_Bytes := ([] : List Int) } with f_Ok := false } with f_Result := ([] : List Int) }).f_Kind })) Tryz.underlying33 Tryz.zeroValue33 rfl (places_api_Item_33) rfl (fill_step (c := (cInt .i64)) (z := ({ { { { x0 with f_From := zqSB_0 } with f_Bytes := ([] : List Int) } with f_Ok := false } with f_Result := ([] : List Int) }).f_Kind) rfl (c_api_Item_f_Kind (((none : Option Addr), (0 : Nat)), ((none : Option Addr), (0 : Nat))) ({ f_Kind := (0 : Int), f_Bytes := ([] : List Int), f_From := zqSB_0, f_Result := ([] : List Int), f_Ok := false, f_Key := (Vector.replicate 32 (0 : Int) : (Vector Int 32)), f_Local := (0 : Int), f_Remote := (0 : Int), f_Next := (0 : Int) } : S_api_Item)) rfl rfl)) ?_
       refine at_guard_yes rfl rfl rfl ?_
       obtain ⟨t43, ht43, hF⟩ := of_bindM hF
       refine at_callB Tryz.func12 rfl (by kernel_rfl) rfl rfl (fun w hw => script_Same_ok _ _ _ _ _ ht43 w ⟨(Row.nil ..), (Row.nil ..)⟩ ⟨(Row.nil ..), (Row.nil ..)⟩) ?_
       refine av rfl (r_pick rfl rfl rfl) ?_
       refine av rfl (r_assign rfl) ?_
       refine at_nil ?_
       refine at_drop (H := _) .z ?_
       refine at_weak [(2, _)] ⟨rfl, trivial⟩ ?_
       refine at_then_normal ?_
       refine at_ret ?_
       have K := of_some hF
       subst K
       exact at_return1 rfl rfl (fun w1 hw => ⟨rfl, hw.below⟩)
      ·refine at_cond_false rfl h42 ?_
       refine at_skip ?_
       refine at_retI0 rfl ?_
       refine at_nil ?_
       refine at_weak [(1, _), (4, _), (14, _), (15, _), (16, _)] ⟨rfl, rfl, rfl, rfl, rfl, trivial⟩ ?_
       refine at_blk_normal (at_then_normal ?_)
       refine at_region ?_
       refine av rfl (r_iadd rfl rfl) ?_
       refine at_ov (t := 23) rfl (show Value.int .i64 (wr .i64 (2 + 1)) = .int .i64 3 from by rfl) ?_
       refine av rfl (r_move rfl) ?_
       refine nwt [(1, _), (4, _), (14, _), (15, _), (16, _)] ⟨rfl, rfl, rfl, rfl, rfl, trivial⟩ ?_
       refine at_weak [(1, _), (4, _), (14, _), (15, _), (16, _)] ⟨rfl, rfl, rfl, rfl, rfl, trivial⟩ ?_
       refine at_round ?_
       refine sr ?_
       refine av rfl (r_ilss rfl rfl) ?_
       refine at_fix (g := 17) rfl (show (decide (3 < 3)) = false from by decide) ?_
       refine nwt [(1, _), (4, _), (14, _), (15, _), (16, _), (17, _)] ⟨rfl, rfl, rfl, rfl, rfl, rfl, trivial⟩ ?_
       refine at_seq ?_
       refine at_cond_false rfl rfl ?_
       refine at_exit ?_
       refine at_then_exit (at_then_exit ?_)
       refine at_blk_same ?_
       refine at_drop (H := _) .z ?_
       refine at_weak [(1, _), (4, _)] ⟨rfl, rfl, trivial⟩ ?_
       refine at_then_normal ?_
       refine sr ?_
       refine av rfl (r_move rfl) ?_
       refine av rfl (r_move rfl) ?_
       refine at_guard_yes rfl rfl rfl ?_
       refine av rfl (r_load_aggc (c := c_api_Item) (z := ((((none : Option Addr), (0 : Nat)), (g0_.2.1, g0_.2.2)), { { x0 with f_From := zqSB_0 } with f_Bytes := ([] : List Int) })) Tryz.isAgg33 Tryz.sizeOf33 rfl (lens_cell .z (Lens.whole _ _))) ?_
       refine at_guard_yes rfl rfl rfl ?_
       refine av rfl (r_fieldAddr (fo := 0) Tryz.underlying33 rfl rfl (fun w => ⟨_, Tryz.sizeOf3 w⟩) rfl) ?_
       refine at_guard_yes rfl rfl rfl ?_
       refine av rfl (r_load_cell Tryz.isAgg3 rfl (lens_cell0 (c := (cInt .i64)) (y := ({ { x0 with f_From := zqSB_0 } with f_Bytes := ([] : List Int) }).f_Kind) .z (c_api_Item_f_Kind (((none : Option Addr), (0 : Nat)), (g0_.2.1, g0_.2.2)) ({ { x0 with f_From := zqSB_0 } with f_Bytes := ([] : List Int) })) rfl)) ?_
       refine at_guard_yes rfl rfl rfl ?_
       refine av rfl (r_build_struct (zs := Cd.cs c_api_Item ((((none : Option Addr), (0 : Nat)), ((none : Option Addr), (0 : Nat))), ({ f_Kind := (0 : Int), f_Bytes := ([] : List Int), f_From := zqSB_0, f_Result := ([] : List Int), f_Ok := false, f_Key := (Vector.replicate 32 (0 : Int) : (Vector Int 32)), f_Local := (0 : Int), f_Remote := (0 : Int), f_Next := (0 : Int) } : S_api_Item))) (cs := Cd.cs c_api_Item ((((none : Option Addr), (0 : Nat)), ((none : Option Addr), (0 : Nat))), { ({ f_Kind := (0 : Int), f_Bytes := ([] : List Int), f_From := zqSB_0, f_Result := ([] : List Int), f_Ok := false, f_Key := (Vector.replicate 32 (0 : Int) : (Vector Int 32)), f_Local := (0 : Int), f_Remote := (0 : Int), f_Next := (0 : Int) } : S_api_Item) with f_Kind := ({ { x0 with f_From := zqSB_0 } with f_Bytes := ([] : List Int) }).f_Kind })) Tryz.underlying33 Tryz.zeroValue33 rfl (places_api_Item_33) rfl (fill_step (c := (cInt .i64)) (z := ({ { x0 with f_From := zqSB_0 } with f_Bytes := ([] : List Int) }).f_Kind) rfl (c_api_Item_f_Kind (((none : Option Addr), (0 : Nat)), ((none : Option Addr), (0 : Nat))) ({ f_Kind := (0 : Int), f_Bytes := ([] : List Int), f_From := zqSB_0, f_Result := ([] : List Int), f_Ok := false, f_Key := (Vector.replicate 32 (0 : Int) : (Vector Int 32)), f_Local := (0 : Int), f_Remote := (0 : Int), f_Next := (0 : Int) } : S_api_Item)) rfl rfl)) ?_
       refine at_guard_yes rfl rfl rfl ?_
       obtain ⟨t44, ht44, hF⟩ := of_bindM hF
       refine at_callB Tryz.func12 rfl (by kernel_rfl) rfl rfl (fun w hw => script_Same_ok _ _ _ _ _ ht44 w ⟨(Row.nil ..), (RowK.row (RowK.mono hz0.2 (frz_mono (.s .z) hw)))⟩ ⟨(Row.nil ..), (Row.nil ..)⟩) ?_
       refine av rfl (r_pick rfl rfl rfl) ?_
       refine av rfl (r_assign rfl) ?_
       refine at_nil ?_
       refine at_drop (H := _) .z ?_
       refine at_weak [(2, _)] ⟨rfl, trivial⟩ ?_
       refine at_then_normal ?_
       refine at_ret ?_
       have K := of_some hF
       subst K
       exact at_return1 rfl rfl (fun w1 hw => ⟨rfl, hw.below⟩)
     ·refine at_cond_false rfl h39 ?_
      refine at_region ?_
      refine av rfl (r_move rfl) ?_
      refine av rfl (r_nilCheck rfl) ?_
      refine av rfl (r_fieldAddr (fo := 2) Tryz.underlying33 rfl rfl (fun w => ⟨_, Tryz.sizeOf27 w⟩) rfl) ?_
      refine av rfl (r_fieldAddr (fo := 17) Tryz.underlying27 rfl rfl (fun w => ⟨_, Tryz.sizeOf3 w⟩) rfl) ?_
      refine at_store (c := (cInt .i64)) (z := (-1)) (.s .z) (Lens.comp (c_api_Item_f_From g0_ x0) (fun z => { x0.f_From with f_Port := z }) (c_api_Endpoint_f_Port x0.f_From)) Tryz.sizeOf3 rfl rfl rfl ?_
      refine at_nil ?_
      refine at_weak [] trivial ?_
      refine at_retI0 rfl ?_
      refine at_nil ?_
      refine at_weak [(1, _), (4, _), (14, _), (15, _), (16, _)] ⟨rfl, rfl, rfl, rfl, rfl, trivial⟩ ?_
      refine at_blk_normal (at_then_normal ?_)
      refine at_region ?_
      refine av rfl (r_iadd rfl rfl) ?_
      refine at_ov (t := 23) rfl (show Value.int .i64 (wr .i64 (0 + 1)) = .int .i64 1 from by rfl) ?_
      refine av rfl (r_move rfl) ?_
      refine nwt [(1, _), (4, _), (14, _), (15, _), (16, _)] ⟨rfl, rfl, rfl, rfl, rfl, trivial⟩ ?_
      refine at_weak [(1, _), (4, _), (14, _), (15, _), (16, _)] ⟨rfl, rfl, rfl, rfl, rfl, trivial⟩ ?_
      refine at_round ?_
      refine sr ?_
      refine av rfl (r_ilss rfl rfl) ?_
      refine at_fix (g := 17) rfl (show (decide (1 < 3)) = true from by decide) ?_
      refine nwt [(1, _), (4, _), (14, _), (15, _), (16, _), (17, _)] ⟨rfl, rfl, rfl, rfl, rfl, rfl, trivial⟩ ?_
      refine at_seq ?_
      refine at_cond_true rfl rfl ?_
      refine sn ?_
      refine at_seq ?_
      refine at_block ?_
      refine sr ?_
      refine av rfl (r_idx Tryz.underlying96 Tryz.sizeOf104 rfl rfl (by decide) rfl) ?_
      refine av rfl (r_load_agg (l := [.func (.func 125) #[] #[], .func (.func 127) #[] #[], .func (.func 129) #[] #[]]) Tryz.isAgg104 Tryz.sizeOf104 rfl rfl (fun w1 hw => cells_mid (pre := [.func (.func 133) #[] #[], .func (.func 134) #[] #[], .func (.func 135) #[] #[]]) (suf := [.func (.func 130) #[] #[], .func (.func 131) #[] #[], .func (.func 132) #[] #[]]) (hw.ok (Upd.mem .z)) rfl rfl)) ?_
      refine at_alloc (cs := [.nilFunc, .nilFunc, .nilFunc]) Tryz.zeroValue104 rfl rfl ?_
      intro b45
      refine at_storeAll (k := 3) (cs := [.func (.func 125) #[] #[], .func (.func 127) #[] #[], .func (.func 129) #[] #[]]) .z (by decide) ⟨rfl, by simp [Value.oneCell']⟩ ⟨rfl, by simp [Value.oneCell']⟩ Tryz.sizeOf104 rfl rfl rfl ?_
      refine nwt [(1, _), (4, _), (6, _), (14, _), (15, _), (16, _)] ⟨rfl, rfl, rfl, rfl, rfl, rfl, trivial⟩ ?_
      refine at_region ?_
      refine av rfl (r_fieldAddr (fo := 2) Tryz.underlying104 rfl rfl (fun w => ⟨_, Tryz.sizeOf102 w⟩) rfl) ?_
      refine av rfl (r_load_cell Tryz.isAgg102 rfl (fun w1 hw => cells_get (hw.ok (Upd.mem .z)) 2 _ rfl)) ?_
      refine at_callee rfl ?_
      refine at_callI Tryz.func129 rfl (by kernel_rfl) rfl rfl rfl rfl ?_
      refine at_drop (H := _) .z ?_
      refine at_weak [(0, _)] ⟨rfl, trivial⟩ ?_
      refine at_region ?_
      refine av rfl (r_move rfl) ?_
      refine av rfl (r_nilCheck rfl) ?_
      refine av rfl (r_fieldAddr (fo := 1) Tryz.underlying33 rfl rfl (fun w => ⟨_, Tryz.sizeOf22 w⟩) rfl) ?_
      refine at_store (c := cSv Int) (z := (((none : Option Addr), (0 : Nat)), ([] : List Int))) (.s .z) (c_api_Item_f_Bytes_sv g0_ ({ x0 with f_From := { x0.f_From with f_Port := (-1) } })) Tryz.sizeOf22 rfl rfl rfl ?_
      refine at_nil ?_
      refine at_weak [] trivial ?_
      refine at_retI0 rfl ?_
      refine at_nil ?_
      refine at_weak [(1, _), (4, _), (14, _), (15, _), (16, _)] ⟨rfl, rfl, rfl, rfl, rfl, trivial⟩ ?_
      refine at_blk_normal (at_then_normal ?_)
      refine at_region ?_
      refine av rfl (r_iadd rfl rfl) ?_
      refine at_ov (t := 23) rfl (show Value.int .i64 (wr .i64 (1 + 1)) = .int .i64 2 from by rfl) ?_
      refine av rfl (r_move rfl) ?_
      refine nwt [(1, _), (4, _), (14, _), (15, _), (16, _)] ⟨rfl, rfl, rfl, rfl, rfl, trivial⟩ ?_
      refine at_weak [(1, _), (4, _), (14, _), (15, _), (16, _)] ⟨rfl, rfl, rfl, rfl, rfl, trivial⟩ ?_
      refine at_round ?_
      refine sr ?_
      refine av rfl (r_ilss rfl rfl) ?_
      refine at_fix (g := 17) rfl (show (decide (2 < 3)) = true from by decide) ?_
      refine nwt [(1, _), (4, _), (14, _), (15, _), (16, _), (17, _)] ⟨rfl, rfl, rfl, rfl, rfl, rfl, trivial⟩ ?_
      refine at_seq ?_
      refine at_cond_true rfl rfl ?_
      refine sn ?_
      refine at_seq ?_
      refine at_block ?_
      refine sr ?_
      refine av rfl (r_idx Tryz.underlying96 Tryz.sizeOf104 rfl rfl (by decide) rfl) ?_
      refine av rfl (r_load_agg (l := [.func (.func 130) #[] #[], .func (.func 131) #[] #[], .func (.func 132) #[] #[]]) Tryz.isAgg104 Tryz.sizeOf104 rfl rfl (fun w1 hw => cells_mid (pre := [.func (.func 133) #[] #[], .func (.func 134) #[] #[], .func (.func 135) #[] #[], .func (.func 125) #[] #[], .func (.func 127) #[] #[], .func (.func 129) #[] #[]]) (suf := []) (hw.ok (Upd.mem .z)) rfl rfl)) ?_
      refine at_alloc (cs := [.nilFunc, .nilFunc, .nilFunc]) Tryz.zeroValue104 rfl rfl ?_
      intro b46
      refine at_storeAll (k := 3) (cs := [.func (.func 130) #[] #[], .func (.func 131) #[] #[], .func (.func 132) #[] #[]]) .z (by decide) ⟨rfl, by simp [Value.oneCell']⟩ ⟨rfl, by simp [Value.oneCell']⟩ Tryz.sizeOf104 rfl rfl rfl ?_
      refine nwt [(1, _), (4, _), (6, _), (14, _), (15, _), (16, _)] ⟨rfl, rfl, rfl, rfl, rfl, rfl, trivial⟩ ?_
      refine at_region ?_
      refine av rfl (r_fieldAddr (fo := 2) Tryz.underlying104 rfl rfl (fun w => ⟨_, Tryz.sizeOf102 w⟩) rfl) ?_
      refine av rfl (r_load_cell Tryz.isAgg102 rfl (fun w1 hw => cells_get (hw.ok (Upd.mem .z)) 2 _ rfl)) ?_
      refine at_callee rfl ?_
      refine at_callI Tryz.func132 rfl (by kernel_rfl) rfl rfl rfl rfl ?_
      refine at_drop (H := _) .z ?_
      refine at_weak [(0, _)] ⟨rfl, trivial⟩ ?_
      refine sr ?_
      refine av rfl (r_move rfl) ?_
      refine av rfl (r_nilCheck rfl) ?_
      refine av rfl (r_fieldAddr (fo := 21) Tryz.underlying33 rfl rfl (fun w => ⟨_, Tryz.sizeOf4 w⟩) rfl) ?_
      refine av rfl (r_load_cell Tryz.isAgg4 rfl (lens_cell0 (c := cBool) (y := ({ { x0 with f_From := { x0.f_From with f_Port := (-1) } } with f_Bytes := ([] : List Int) }).f_Ok) (.s .z) (c_api_Item_f_Ok (((none : Option Addr), (0 : Nat)), (g0_.2.1, g0_.2.2)) ({ { x0 with f_From := { x0.f_From with f_Port := (-1) } } with f_Bytes := ([] : List Int) })) rfl)) ?_
      refine nwt [(0, _), (5, _)] ⟨rfl, rfl, trivial⟩ ?_
      rcases of_ite hF with ⟨h47, hF⟩ | ⟨h47, hF⟩
      ·refine at_cond_true rfl h47 ?_
       refine at_region ?_
       refine av rfl (r_move rfl) ?_
       refine av rfl (r_move rfl) ?_
       refine av rfl (r_nilCheck rfl) ?_
       refine av rfl (r_fieldAddr (fo := 21) Tryz.underlying33 rfl rfl (fun w => ⟨_, Tryz.sizeOf4 w⟩) rfl) ?_
       refine at_store (c := cBool) (z := false) (.s .z) (c_api_Item_f_Ok (((none : Option Addr), (0 : Nat)), (g0_.2.1, g0_.2.2)) ({ { x0 with f_From := { x0.f_From with f_Port := (-1) } } with f_Bytes := ([] : List Int) })) Tryz.sizeOf4 rfl rfl rfl ?_
       refine av rfl (r_nilCheck rfl) ?_
       refine av rfl (r_fieldAddr (fo := 20) Tryz.underlying33 rfl rfl (fun w => ⟨_, Tryz.sizeOf22 w⟩) rfl) ?_
       refine at_store (c := cSv Int) (z := (((none : Option Addr), (0 : Nat)), ([] : List Int))) (.s .z) (c_api_Item_f_Result_sv (((none : Option Addr), (0 : Nat)), (g0_.2.1, g0_.2.2)) ({ { { x0 with f_From := { x0.f_From with f_Port := (-1) } } with f_Bytes := ([] : List Int) } with f_Ok := false })) Tryz.sizeOf22 rfl rfl rfl ?_
       refine at_nil ?_
       refine at_weak [] trivial ?_
       refine at_retI0 rfl ?_
       refine at_nil ?_
       refine at_weak [(1, _), (4, _), (14, _), (15, _), (16, _)] ⟨rfl, rfl, rfl, rfl, rfl, trivial⟩ ?_
       refine at_blk_normal (at_then_normal ?_)
       refine at_region ?_
       refine av rfl (r_iadd rfl rfl) ?_
       refine at_ov (t := 23) rfl (show Value.int .i64 (wr .i64 (2 + 1)) = .int .i64 3 from by rfl) ?_
       refine av rfl (r_move rfl) ?_
       refine nwt [(1, _), (4, _), (14, _), (15, _), (16, _)] ⟨rfl, rfl, rfl, rfl, rfl, trivial⟩ ?_
       refine at_weak [(1, _), (4, _), (14, _), (15, _), (16, _)] ⟨rfl, rfl, rfl, rfl, rfl, trivial⟩ ?_
       refine at_round ?_
       refine sr ?_
       refine av rfl (r_ilss rfl rfl) ?_
       refine at_fix (g := 17) rfl (show (decide (3 < 3)) = false from by decide) ?_
       refine nwt [(1, _), (4, _), (14, _), (15, _), (16, _), (17, _)] ⟨rfl, rfl, rfl, rfl, rfl, rfl, trivial⟩ ?_
       refine at_seq ?_
       refine at_cond_false rfl rfl ?_
       refine at_exit ?_
       refine at_then_exit (at_then_exit ?_)
       refine at_blk_same ?_
       refine at_drop (H := _) .z ?_
       refine at_weak [(1, _), (4, _)] ⟨rfl, rfl, trivial⟩ ?_
       refine at_then_normal ?_
       refine sr ?_
       refine av rfl (r_move rfl) ?_
       refine av rfl (r_move rfl) ?_
       refine at_guard_yes rfl rfl rfl ?_
       refine av rfl (r_load_aggc (c := c_api_Item) (z := ((((none : Option Addr), (0 : Nat)), ((none : Option Addr), (0 : Nat))), { { { { x0 with f_From := { x0.f_From with f_Port := (-1) } } with f_Bytes := ([] : List Int) } with f_Ok := false } with f_Result := ([] : List Int) })) Tryz.isAgg33 Tryz.sizeOf33 rfl (lens_cell .z (Lens.whole _ _))) ?_
       refine at_guard_yes rfl rfl rfl ?_
       refine av rfl (r_fieldAddr (fo := 0) Tryz.underlying33 rfl rfl (fun w => ⟨_, Tryz.sizeOf3 w⟩) rfl) ?_
       refine at_guard_yes rfl rfl rfl ?_
       refine av rfl (r_load_cell Tryz.isAgg3 rfl (lens_cell0 (c := (cInt .i64)) (y := ({ { { { x0 with f_From := { x0.f_From with f_Port := (-1) } } with f_Bytes := ([] : List Int) } with f_Ok := false } with f_Result := ([] : List Int) }).f_Kind) .z (c_api_Item_f_Kind (((none : Option Addr), (0 : Nat)), ((none : Option Addr), (0 : Nat))) ({ { { { x0 with f_From := { x0.f_From with f_Port := (-1) } } with f_Bytes := ([] : List Int) } with f_Ok := false } with f_Result := ([] : List Int) })) rfl)) ?_
       refine at_guard_yes rfl rfl rfl ?_
       refine av rfl (r_build_struct (zs := Cd.cs c_api_Item ((((none : Option Addr), (0 : Nat)), ((none : Option Addr), (0 : Nat))), ({ f_Kind := (0 : Int), f_Bytes := ([] : List Int), f_From := zqSB_0, f_Result := ([] : List Int), f_Ok := false, f_Key := (Vector.replicate 32 (0 : Int) : (Vector Int 32)), f_Local := (0 : Int), f_Remote := (0 : Int), f_Next := (0 : Int) } : S_api_Item))) (cs := Cd.cs c_api_Item ((((none : Option Addr), (0 : Nat)), ((none : Option Addr), (0 : Nat))), { ({ f_Kind := (0 : Int), f_Bytes := ([] : List Int), f_From := zqSB_0, f_Result := ([] : List Int), f_Ok := false, f_Key := (Vector.replicate 32 (0 : Int) : (Vector Int 32)), f_Local := (0 : Int), f_Remote := (0 : Int), f_Next := (0 : Int) } : S_api_Item) with f_Kind := ({ { { { x0 with f_From := { x0.f_From with f_Port := (-1) } } with f_Bytes := ([] : List Int) } with f_Ok := false } with f_Result := ([] : List Int) }).f_Kind })) Tryz.underlying33 Tryz.zeroValue33 rfl (places_api_Item_33) rfl (fill_step (c := (cInt .i64)) (z := ({ { { { x0 with f_From := { x0.f_From with f_Port := (-1) } } with f_Bytes := ([] : List Int) } with f_Ok := false } with f_Result := ([] : List Int) }).f_Kind) rfl (c_api_Item_f_Kind (((none : Option Addr), (0 : Nat)), ((none : Option Addr), (0 : Nat))) ({ f_Kind := (0 : Int), f_Bytes := ([] : List Int), f_From := zqSB_0, f_Result := ([] : List Int), f_Ok := false, f_Key := (Vector.replicate 32 (0 : Int) : (Vector Int 32)), f_Local := (0 : Int), f_Remote := (0 : Int), f_Next := (0 : Int) } : S_api_Item)) rfl rfl)) ?_
       refine at_guard_yes rfl rfl rfl ?_
       obtain ⟨t48, ht48, hF⟩ := of_bindM hF
       refine at_callB Tryz.func12 rfl (by kernel_rfl) rfl rfl (fun w hw => script_Same_ok _ _ _ _ _ ht48 w ⟨(Row.nil ..), (Row.nil ..)⟩ ⟨(Row.nil ..), (Row.nil ..)⟩) ?_
       refine av rfl (r_pick rfl rfl rfl) ?_
       refine av rfl (r_assign rfl) ?_
       refine at_nil ?_
       refine at_drop (H := _) .z ?_
       refine at_weak [(2, _)] ⟨rfl, trivial⟩ ?_
       refine at_then_normal ?_
       refine at_ret ?_
       have K := of_some hF
       subst K
       exact at_return1 rfl rfl (fun w1 hw => ⟨rfl, hw.below⟩)
      ·refine at_cond_false rfl h47 ?_
       refine at_skip ?_
       refine at_retI0 rfl ?_
       refine at_nil ?_
       refine at_weak [(1, _), (4, _), (14, _), (15, _), (16, _)] ⟨rfl, rfl, rfl, rfl, rfl, trivial⟩ ?_
       refine at_blk_normal (at_then_normal ?_)
       refine at_region ?_
       refine av rfl (r_iadd rfl rfl) ?_
       refine at_ov (t := 23) rfl (show Value.int .i64 (wr .i64 (2 + 1)) = .int .i64 3 from by rfl) ?_
       refine av rfl (r_move rfl) ?_
       refine nwt [(1, _), (4, _), (14, _), (15, _), (16, _)] ⟨rfl, rfl, rfl, rfl, rfl, trivial⟩ ?_
       refine at_weak [(1, _), (4, _), (14, _), (15, _), (16, _)] ⟨rfl, rfl, rfl, rfl, rfl, trivial⟩ ?_
       refine at_round ?_
       refine sr ?_
       refine av rfl (r_ilss rfl rfl) ?_
       refine at_fix (g := 17) rfl (show (decide (3 < 3)) = false from by decide) ?_
       refine nwt [(1, _), (4, _), (14, _), (15, _), (16, _), (17, _)] ⟨rfl, rfl, rfl, rfl, rfl, rfl, trivial⟩ ?_
       refine at_seq ?_
       refine at_cond_false rfl rfl ?_
       refine at_exit ?_
       refine at_then_exit (at_then_exit ?_)
       refine at_blk_same ?_
       refine at_drop (H := _) .z ?_
       refine at_weak [(1, _), (4, _)] ⟨rfl, rfl, trivial⟩ ?_
       refine at_then_normal ?_
       refine sr ?_
       refine av rfl (r_move rfl) ?_
       refine av rfl (r_move rfl) ?_
       refine at_guard_yes rfl rfl rfl ?_
       refine av rfl (r_load_aggc (c := c_api_Item) (z := ((((none : Option Addr), (0 : Nat)), (g0_.2.1, g0_.2.2)), { { x0 with f_From := { x0.f_From with f_Port := (-1) } } with f_Bytes := ([] : List Int) })) Tryz.isAgg33 Tryz.sizeOf33 rfl (lens_cell .z (Lens.whole _ _))) ?_
       refine at_guard_yes rfl rfl rfl ?_
       refine av rfl (r_fieldAddr (fo := 0) Tryz.underlying33 rfl rfl (fun w => ⟨_, Tryz.sizeOf3 w⟩) rfl) ?_
       refine at_guard_yes rfl rfl rfl ?_
       refine av rfl (r_load_cell Tryz.isAgg3 rfl (lens_cell0 (c := (cInt .i64)) (y := ({ { x0 with f_From := { x0.f_From with f_Port := (-1) } } with f_Bytes := ([] : List Int) }).f_Kind) .z (c_api_Item_f_Kind (((none : Option Addr), (0 : Nat)), (g0_.2.1, g0_.2.2)) ({ { x0 with f_From := { x0.f_From with f_Port := (-1) } } with f_Bytes := ([] : List Int) })) rfl)) ?_
       refine at_guard_yes rfl rfl rfl ?_
       refine av rfl (r_build_struct (zs := Cd.cs c_api_Item ((((none : Option Addr), (0 : Nat)), ((none : Option Addr), (0 : Nat))), ({ f_Kind := (0 : Int), f_Bytes := ([] : List Int), f_From := zqSB_0, f_Result := ([] : List Int), f_Ok := false, f_Key := (Vector.replicate 32 (0 : Int) : (Vector Int 32)), f_Local := (0 : Int), f_Remote := (0 : Int), f_Next := (0 : Int) } : S_api_Item))) (cs := Cd.cs c_api_Item ((((none : Option Addr), (0 : Nat)), ((none : Option Addr), (0 : Nat))), { ({ f_Kind := (0 : Int), f_Bytes := ([] : List Int), f_From := zqSB_0, f_Result := ([] : List Int), f_Ok := false, f_Key := (Vector.replicate 32 (0 : Int) : (Vector Int 32)), f_Local := (0 : Int), f_Remote := (0 : Int), f_Next := (0 : Int) } : S_api_Item) with f_Kind := ({ { x0 with f_From := { x0.f_From with f_Port := (-1) } } with f_Bytes := ([] : List Int) }).f_Kind })) Tryz.underlying33 Tryz.zeroValue33 rfl (places_api_Item_33) rfl (fill_step (c := (cInt .i64)) (z := ({ { x0 with f_From := { x0.f_From with f_Port := (-1) } } with f_Bytes := ([] : List Int) }).f_Kind) rfl (c_api_Item_f_Kind (((none : Option Addr), (0 : Nat)), ((none : Option Addr), (0 : Nat))) ({ f_Kind := (0 : Int), f_Bytes := ([] : List Int), f_From := zqSB_0, f_Result := ([] : List Int), f_Ok := false, f_Key := (Vector.replicate 32 (0 : Int) : (Vector Int 32)), f_Local := (0 : Int), f_Remote := (0 : Int), f_Next := (0 : Int) } : S_api_Item)) rfl rfl)) ?_
       refine at_guard_yes rfl rfl rfl ?_
       obtain ⟨t49, ht49, hF⟩ := of_bindM hF
       refine at_callB Tryz.func12 rfl (by kernel_rfl) rfl rfl (fun w hw => script_Same_ok _ _ _ _ _ ht49 w ⟨(Row.nil ..), (RowK.row (RowK.mono hz0.2 (frz_mono (.s .z) hw)))⟩ ⟨(Row.nil ..), (Row.nil ..)⟩) ?_
       refine av rfl (r_pick rfl rfl rfl) ?_
       refine av rfl (r_assign rfl) ?_
       refine at_nil ?_
       refine at_drop (H := _) .z ?_
       refine at_weak [(2, _)] ⟨rfl, trivial⟩ ?_
       refine at_then_normal ?_
       refine at_ret ?_
       have K := of_some hF
       subst K
       exact at_return1 rfl rfl (fun w1 hw => ⟨rfl, hw.below⟩)
    ·refine at_cond_false rfl h31 ?_
     refine sr ?_
     refine av rfl (r_ieql rfl rfl) ?_
     refine av rfl (r_assign rfl) ?_
     refine nwt [(2, _), (4, _), (5, _), (8, _), (32, _)] ⟨rfl, rfl, rfl, rfl, rfl, trivial⟩ ?_
     rcases of_ite hF with ⟨h50, hF⟩ | ⟨h50, hF⟩
     ·refine at_cond_true rfl h50 ?_
      refine at_seq ?_
      refine at_weak [(2, _), (4, _), (5, _)] ⟨rfl, rfl, rfl, trivial⟩ ?_
      refine at_inv [.q 34 (fun g52 => .agg #[.func (.func 136) #[] #[], .func (.func 137) #[] #[], .func (.func 138) #[] #[]]) [] 0 0, .q 35 (fun g52 => .agg #[.func (.func 122) #[] #[.pointer (some ⟨b3, 0, none⟩)], .func (.func 123) #[] #[.pointer (some ⟨b3, 0, none⟩)], .func (.func 124) #[] #[.pointer (some ⟨b3, 0, none⟩)]]) [] 0 0, .q 36 (fun g52 => .agg #[.func (.func 122) #[] #[.pointer (some ⟨b6, 0, none⟩)], .func (.func 123) #[] #[.pointer (some ⟨b6, 0, none⟩)], .func (.func 124) #[] #[.pointer (some ⟨b6, 0, none⟩)]]) [] 0 0, .q 37 (fun g52 => .agg #[.func (.func 139) #[] #[], .func (.func 140) #[] #[], .func (.func 141) #[] #[]]) [] 0 0, .al 0 38 (fun g52 => .slice (some ⟨((g52 0).1), 0, none⟩) 4 4) [0, 1, 2, 3], .q 39 (fun g52 => .agg #[.string (⟨#[105, 110, 115, 116, 97, 108, 108]⟩), .slice (some ⟨((g52 0).1), 0, none⟩) 4 4]) [4] 1 1, .st 1 none [5], .q 3 (fun g52 => .bool true) [] 2 2] (fun g52 s => match s with | 0 => (Wd w [cellsE b8 [.func (.func 122) #[] #[.pointer (some ⟨b6, 0, none⟩)], .func (.func 123) #[] #[.pointer (some ⟨b6, 0, none⟩)], .func (.func 124) #[] #[.pointer (some ⟨b6, 0, none⟩)]] 104, cellsE b6 [.func (.func 77) #[] #[]] 133, cellsE b5 [.func (.func 122) #[] #[.pointer (some ⟨b3, 0, none⟩)], .func (.func 123) #[] #[.pointer (some ⟨b3, 0, none⟩)], .func (.func 124) #[] #[.pointer (some ⟨b3, 0, none⟩)]] 104, cellsE b3 [.func (.func 76) #[] #[]] 133, cellsE b2 [.string (⟨#[]⟩), .slice none 0 0] 98, cellsE b1 (Cd.cs c_api_Item (g0_, x0)) 33, frzE w Z_ s_]) | 1 => (Wd w [cellsE ((g52 0).1) [.func (.func 136) #[] #[], .func (.func 137) #[] #[], .func (.func 138) #[] #[], .func (.func 122) #[] #[.pointer (some ⟨b3, 0, none⟩)], .func (.func 123) #[] #[.pointer (some ⟨b3, 0, none⟩)], .func (.func 124) #[] #[.pointer (some ⟨b3, 0, none⟩)], .func (.func 122) #[] #[.pointer (some ⟨b6, 0, none⟩)], .func (.func 123) #[] #[.pointer (some ⟨b6, 0, none⟩)], .func (.func 124) #[] #[.pointer (some ⟨b6, 0, none⟩)], .func (.func 139) #[] #[], .func (.func 140) #[] #[], .func (.func 141) #[] #[]] 104, cellsE b8 [.func (.func 122) #[] #[.pointer (some ⟨b6, 0, none⟩)], .func (.func 123) #[] #[.pointer (some ⟨b6, 0, none⟩)], .func (.func 124) #[] #[.pointer (some ⟨b6, 0, none⟩)]] 104, cellsE b6 [.func (.func 77) #[] #[]] 133, cellsE b5 [.func (.func 122) #[] #[.pointer (some ⟨b3, 0, none⟩)], .func (.func 123) #[] #[.pointer (some ⟨b3, 0, none⟩)], .func (.func 124) #[] #[.pointer (some ⟨b3, 0, none⟩)]] 104, cellsE b3 [.func (.func 76) #[] #[]] 133, cellsE b2 [.string (⟨#[]⟩), .slice none 0 0] 98, cellsE b1 (Cd.cs c_api_Item (g0_, x0)) 33, frzE w Z_ s_]) | _ => (Wd w [cellsE ((g52 0).1) [.func (.func 136) #[] #[], .func (.func 137) #[] #[], .func (.func 138) #[] #[], .func (.func 122) #[] #[.pointer (some ⟨b3, 0, none⟩)], .func (.func 123) #[] #[.pointer (some ⟨b3, 0, none⟩)], .func (.func 124) #[] #[.pointer (some ⟨b3, 0, none⟩)], .func (.func 122) #[] #[.pointer (some ⟨b6, 0, none⟩)], .func (.func 123) #[] #[.pointer (some ⟨b6, 0, none⟩)], .func (.func 124) #[] #[.pointer (some ⟨b6, 0, none⟩)], .func (.func 139) #[] #[], .func (.func 140) #[] #[], .func (.func 141) #[] #[]] 104, cellsE b8 [.func (.func 122) #[] #[.pointer (some ⟨b6, 0, none⟩)], .func (.func 123) #[] #[.pointer (some ⟨b6, 0, none⟩)], .func (.func 124) #[] #[.pointer (some ⟨b6, 0, none⟩)]] 104, cellsE b6 [.func (.func 77) #[] #[]] 133, cellsE b5 [.func (.func 122) #[] #[.pointer (some ⟨b3, 0, none⟩)], .func (.func 123) #[] #[.pointer (some ⟨b3, 0, none⟩)], .func (.func 124) #[] #[.pointer (some ⟨b3, 0, none⟩)]] 104, cellsE b3 [.func (.func 76) #[] #[]] 133, cellsE b2 [.string (⟨#[105, 110, 115, 116, 97, 108, 108]⟩), .slice (some ⟨((g52 0).1), 0, none⟩) 4 4] 98, cellsE b1 (Cd.cs c_api_Item (g0_, x0)) 33, frzE w Z_ s_])) 2 (by kernel_rfl) (by kernel_rfl) (by kernel_rfl) (by kernel_rfl) (by kernel_rfl) ⟨fun _ _ _ => rfl, fun _ _ _ => rfl, fun _ _ _ => rfl, fun _ _ _ => rfl, fun g52 g2 h => by show (.slice (some ⟨((g52 0).1), 0, none⟩) 4 4 : Value) = .slice (some ⟨((g2 0).1), 0, none⟩) 4 4; rw [h 0 (show 0 < 1 by decide)], fun g52 g2 h => by show (.agg #[.string (⟨#[105, 110, 115, 116, 97, 108, 108]⟩), .slice (some ⟨((g52 0).1), 0, none⟩) 4 4] : Value) = .agg #[.string (⟨#[105, 110, 115, 116, 97, 108, 108]⟩), .slice (some ⟨((g2 0).1), 0, none⟩) 4 4]; rw [h 0 (show 0 < 1 by decide)], fun _ _ _ => rfl, fun _ _ _ => rfl, trivial⟩ (by kernel_rfl) (fun w_ h => ⟨fun _ => g3 0 none 0 none w_, h.drew⟩) ⟨?_, ?_, ?_, ?_, ?_, ?_, ?_, ?_, trivial⟩ ?_
      ·intro Lx g52 s K hl hh k
       show At 46 ((2, _) :: (4, _) :: (5, _) :: Lx) _ _
       obtain rfl : s = 0 := by omega
       refine at_callB Tryz.func81 rfl (by kernel_rfl) rfl rfl (fun w1 hw => script_key_ok () rfl w1) ?_
       exact at_nil k
      ·intro Lx g52 s K hl hh k
       show At 46 ((2, _) :: (4, _) :: (5, _) :: Lx) _ _
       obtain rfl : s = 0 := by omega
       refine av rfl (r_load_agg (l := [.func (.func 122) #[] #[.pointer (some ⟨b3, 0, none⟩)], .func (.func 123) #[] #[.pointer (some ⟨b3, 0, none⟩)], .func (.func 124) #[] #[.pointer (some ⟨b3, 0, none⟩)]]) Tryz.isAgg104 Tryz.sizeOf104 rfl rfl (fun w1 hw => cells_mid (pre := []) (suf := []) (hw.ok (Upd.mem (.s (.s .z)))) (List.append_nil _).symm rfl)) ?_
       exact at_nil k
      ·intro Lx g52 s K hl hh k
       show At 46 ((2, _) :: (4, _) :: (5, _) :: Lx) _ _
       obtain rfl : s = 0 := by omega
       refine av rfl (r_load_agg (l := [.func (.func 122) #[] #[.pointer (some ⟨b6, 0, none⟩)], .func (.func 123) #[] #[.pointer (some ⟨b6, 0, none⟩)], .func (.func 124) #[] #[.pointer (some ⟨b6, 0, none⟩)]]) Tryz.isAgg104 Tryz.sizeOf104 rfl rfl (fun w1 hw => cells_mid (pre := []) (suf := []) (hw.ok (Upd.mem .z)) (List.append_nil _).symm rfl)) ?_
       exact at_nil k
      ·intro Lx g52 s K hl hh k
       show At 46 ((2, _) :: (4, _) :: (5, _) :: Lx) _ _
       obtain rfl : s = 0 := by omega
       refine at_callB Tryz.func82 rfl (by kernel_rfl) rfl rfl (fun w1 hw => script_next_ok () rfl w1) ?_
       exact at_nil k
      ·intro Lx g52 K k
       show At 46 ((34, _) :: (35, _) :: (36, _) :: (37, _) :: (2, _) :: (4, _) :: (5, _) :: Lx) _ _
       refine at_litG (cs := [.func (.func 136) #[] #[], .func (.func 137) #[] #[], .func (.func 138) #[] #[], .func (.func 122) #[] #[.pointer (some ⟨b3, 0, none⟩)], .func (.func 123) #[] #[.pointer (some ⟨b3, 0, none⟩)], .func (.func 124) #[] #[.pointer (some ⟨b3, 0, none⟩)], .func (.func 122) #[] #[.pointer (some ⟨b6, 0, none⟩)], .func (.func 123) #[] #[.pointer (some ⟨b6, 0, none⟩)], .func (.func 124) #[] #[.pointer (some ⟨b6, 0, none⟩)], .func (.func 139) #[] #[], .func (.func 140) #[] #[], .func (.func 141) #[] #[]]) Tryz.underlying96 Tryz.sizeOf104 Tryz.zeroValue104 rfl rfl rfl (by kernel_rfl) rfl ?_
       intro b51
       exact at_nil (k (g3 b51 none 0 none w))
      ·intro Lx g52 s K hl hh k
       show At 46 ((38, _) :: (2, _) :: (4, _) :: (5, _) :: Lx) _ _
       obtain rfl : s = 1 := by omega
       refine av rfl (r_build_struct (zs := [.string (⟨#[]⟩), .slice none 0 0]) (cs := [.string (⟨#[105, 110, 115, 116, 97, 108, 108]⟩), .slice (some ⟨((g52 0).1), 0, none⟩) 4 4]) Tryz.underlying98 Tryz.zeroValue98 rfl placesR_98 rfl rfl) ?_
       exact at_nil k
      ·intro Lx g52 K k
       show At 46 ((39, _) :: (2, _) :: (4, _) :: (5, _) :: Lx) _ _
       refine at_storeAll (k := 2) (cs := [.string (⟨#[105, 110, 115, 116, 97, 108, 108]⟩), .slice (some ⟨((g52 0).1), 0, none⟩) 4 4]) (.s (.s (.s (.s (.s .z))))) (by decide) ⟨rfl, by simp [Value.oneCell']⟩ ⟨rfl, by simp [Value.oneCell']⟩ Tryz.sizeOf98 rfl rfl rfl ?_
       exact at_nil k
      ·intro Lx g52 s K hl hh k
       show At 46 ((2, _) :: (4, _) :: (5, _) :: Lx) _ _
       refine av rfl (r_assign rfl) ?_
       exact at_nil k
      intro g52
      show At 46 [(34, _), (35, _), (36, _), (37, _), (38, _), (39, _), (3, _), (2, _), (4, _), (5, _)] _ _
      refine at_drop (H := _) (.s .z) ?_
      refine at_drop (H := _) (.s (.s .z)) ?_
      refine at_weak [(2, _), (3, _)] ⟨rfl, rfl, trivial⟩ ?_
      refine at_then_normal ?_
      refine at_ret ?_
      refine at_blk_ret (at_then_ret ?_)
      refine at_resI2 rfl (res_cell (c := cK 2 (by decide)) (y := ⟨[.string (⟨#[105, 110, 115, 116, 97, 108, 108]⟩), .slice (some ⟨(g52 0).1, 0, none⟩) 4 4], rfl, by simp [Value.oneCell']⟩) rfl (.s (.s (.s .z))) (Lens.whole _ _) Tryz.isAgg98 Tryz.sizeOf98 (.inl rfl)) (res_tmp rfl) ?_
      refine av rfl (r_move rfl) ?_
      refine av rfl (r_extract rfl rfl) ?_
      refine av rfl (r_extract rfl rfl) ?_
      refine at_alloc (cs := [.string (⟨#[]⟩), .slice none 0 0]) Tryz.zeroValue98 rfl rfl ?_
      intro b53
      refine at_storeAll (k := 2) (cs := [.string (⟨#[105, 110, 115, 116, 97, 108, 108]⟩), .slice (some ⟨(g52 0).1, 0, none⟩) 4 4]) .z (by decide) ⟨rfl, by simp [Value.oneCell']⟩ ⟨rfl, by simp [Value.oneCell']⟩ Tryz.sizeOf98 rfl rfl rfl ?_
      refine av rfl (r_assign rfl) ?_
      refine at_nil ?_
      refine at_drop (H := _) (.s (.s (.s (.s .z)))) ?_
      refine at_weak [(1, _), (3, _), (4, _)] ⟨rfl, rfl, rfl, trivial⟩ ?_
      refine at_then_normal ?_
      refine at_seq ?_
      refine sr ?_
      refine av rfl (r_fieldAddr (fo := 1) Tryz.underlying98 rfl rfl (fun w => ⟨_, Tryz.sizeOf96 w⟩) rfl) ?_
      refine av rfl (r_load_cell Tryz.isAgg96 rfl (fun w1 hw => cells_get (hw.ok (Upd.mem .z)) 1 _ rfl)) ?_
      refine av rfl (r_len_sl Tryz.underlying96 rfl) ?_
      refine av rfl (r_move rfl) ?_
      refine at_nil ?_
      refine at_drop (H := _) .z ?_
      refine at_weak [(1, _), (4, _), (14, _), (15, _), (16, _)] ⟨rfl, rfl, rfl, rfl, rfl, trivial⟩ ?_
      refine at_then_normal ?_
      refine at_block ?_
      refine at_weak [(1, _), (4, _), (14, _), (15, _), (16, _)] ⟨rfl, rfl, rfl, rfl, rfl, trivial⟩ ?_
      refine at_loop ?_
      refine at_round ?_
      refine sr ?_
      refine av rfl (r_ilss rfl rfl) ?_
      refine at_fix (g := 17) rfl (show (decide (0 < 4)) = true from by decide) ?_
      refine nwt [(1, _), (4, _), (14, _), (15, _), (16, _), (17, _)] ⟨rfl, rfl, rfl, rfl, rfl, rfl, trivial⟩ ?_
      refine at_seq ?_
      refine at_cond_true rfl rfl ?_
      refine sn ?_
      refine at_seq ?_
      refine at_block ?_
      refine sr ?_
      refine av rfl (r_idx Tryz.underlying96 Tryz.sizeOf104 rfl rfl (by decide) rfl) ?_
      refine av rfl (r_load_agg (l := [.func (.func 136) #[] #[], .func (.func 137) #[] #[], .func (.func 138) #[] #[]]) Tryz.isAgg104 Tryz.sizeOf104 rfl rfl (fun w1 hw => cells_mid (pre := []) (suf := [.func (.func 122) #[] #[.pointer (some ⟨b3, 0, none⟩)], .func (.func 123) #[] #[.pointer (some ⟨b3, 0, none⟩)], .func (.func 124) #[] #[.pointer (some ⟨b3, 0, none⟩)], .func (.func 122) #[] #[.pointer (some ⟨b6, 0, none⟩)], .func (.func 123) #[] #[.pointer (some ⟨b6, 0, none⟩)], .func (.func 124) #[] #[.pointer (some ⟨b6, 0, none⟩)], .func (.func 139) #[] #[], .func (.func 140) #[] #[], .func (.func 141) #[] #[]]) (hw.ok (Upd.mem .z)) rfl rfl)) ?_
      refine at_alloc (cs := [.nilFunc, .nilFunc, .nilFunc]) Tryz.zeroValue104 rfl rfl ?_
      intro b54
      refine at_storeAll (k := 3) (cs := [.func (.func 136) #[] #[], .func (.func 137) #[] #[], .func (.func 138) #[] #[]]) .z (by decide) ⟨rfl, by simp [Value.oneCell']⟩ ⟨rfl, by simp [Value.oneCell']⟩ Tryz.sizeOf104 rfl rfl rfl ?_
      refine nwt [(1, _), (4, _), (6, _), (14, _), (15, _), (16, _)] ⟨rfl, rfl, rfl, rfl, rfl, rfl, trivial⟩ ?_
      refine at_region ?_
      refine av rfl (r_fieldAddr (fo := 2) Tryz.underlying104 rfl rfl (fun w => ⟨_, Tryz.sizeOf102 w⟩) rfl) ?_
      refine av rfl (r_load_cell Tryz.isAgg102 rfl (fun w1 hw => cells_get (hw.ok (Upd.mem .z)) 2 _ rfl)) ?_
      refine at_callee rfl ?_
      refine at_callI Tryz.func138 rfl (by kernel_rfl) rfl rfl rfl rfl ?_
      refine at_drop (H := _) .z ?_
      refine at_weak [(0, _)] ⟨rfl, trivial⟩ ?_
      refine at_region ?_
      refine av rfl (r_move rfl) ?_
      refine av rfl (r_build_array (zs := Cd.cs (cVec (cInt .u8) 32 (by decide)) (Vector.replicate 32 (0 : Int) : (Vector Int 32))) (cs := Cd.cs (cVec (cInt .u8) 32 (by decide)) (Vector.replicate 32 (0 : Int) : (Vector Int 32))) Tryz.underlying29 Tryz.zeroValue29 rfl Tryz.sizeOf5 rfl rfl) ?_
      refine av rfl (r_nilCheck rfl) ?_
      refine av rfl (r_fieldAddr (fo := 22) Tryz.underlying33 rfl rfl (fun w => ⟨_, Tryz.sizeOf29 w⟩) rfl) ?_
      refine at_store (c := (cVec (cInt .u8) 32 (by decide))) (z := (Vector.replicate 32 (0 : Int) : (Vector Int 32))) (.s (.s (.s .z))) (c_api_Item_f_Key g0_ x0) Tryz.sizeOf29 rfl rfl rfl ?_
      refine at_nil ?_
      refine at_weak [] trivial ?_
      refine at_retI0 rfl ?_
      refine at_nil ?_
      refine at_weak [(1, _), (4, _), (14, _), (15, _), (16, _)] ⟨rfl, rfl, rfl, rfl, rfl, trivial⟩ ?_
      refine at_blk_normal (at_then_normal ?_)
      refine at_region ?_
      refine av rfl (r_iadd rfl rfl) ?_
      refine at_ov (t := 23) rfl (show Value.int .i64 (wr .i64 (0 + 1)) = .int .i64 1 from by rfl) ?_
      refine av rfl (r_move rfl) ?_
      refine nwt [(1, _), (4, _), (14, _), (15, _), (16, _)] ⟨rfl, rfl, rfl, rfl, rfl, trivial⟩ ?_
      refine at_weak [(1, _), (4, _), (14, _), (15, _), (16, _)] ⟨rfl, rfl, rfl, rfl, rfl, trivial⟩ ?_
      refine at_round ?_
      refine sr ?_
      refine av rfl (r_ilss rfl rfl) ?_
      refine at_fix (g := 17) rfl (show (decide (1 < 4)) = true from by decide) ?_
      refine nwt [(1, _), (4, _), (14, _), (15, _), (16, _), (17, _)] ⟨rfl, rfl, rfl, rfl, rfl, rfl, trivial⟩ ?_
      refine at_seq ?_
      refine at_cond_true rfl rfl ?_
      refine sn ?_
      refine at_seq ?_
      refine at_block ?_
      refine sr ?_
      refine av rfl (r_idx Tryz.underlying96 Tryz.sizeOf104 rfl rfl (by decide) rfl) ?_
      refine av rfl (r_load_agg (l := [.func (.func 122) #[] #[.pointer (some ⟨b3, 0, none⟩)], .func (.func 123) #[] #[.pointer (some ⟨b3, 0, none⟩)], .func (.func 124) #[] #[.pointer (some ⟨b3, 0, none⟩)]]) Tryz.isAgg104 Tryz.sizeOf104 rfl rfl (fun w1 hw => cells_mid (pre := [.func (.func 136) #[] #[], .func (.func 137) #[] #[], .func (.func 138) #[] #[]]) (suf := [.func (.func 122) #[] #[.pointer (some ⟨b6, 0, none⟩)], .func (.func 123) #[] #[.pointer (some ⟨b6, 0, none⟩)], .func (.func 124) #[] #[.pointer (some ⟨b6, 0, none⟩)], .func (.func 139) #[] #[], .func (.func 140) #[] #[], .func (.func 141) #[] #[]]) (hw.ok (Upd.mem .z)) rfl rfl)) ?_
      refine at_alloc (cs := [.nilFunc, .nilFunc, .nilFunc]) Tryz.zeroValue104 rfl rfl ?_
      intro b55
      refine at_storeAll (k := 3) (cs := [.func (.func 122) #[] #[.pointer (some ⟨b3, 0, none⟩)], .func (.func 123) #[] #[.pointer (some ⟨b3, 0, none⟩)], .func (.func 124) #[] #[.pointer (some ⟨b3, 0, none⟩)]]) .z (by decide) ⟨rfl, by simp [Value.oneCell']⟩ ⟨rfl, by simp [Value.oneCell']⟩ Tryz.sizeOf104 rfl rfl rfl ?_
      refine nwt [(1, _), (4, _), (6, _), (14, _), (15, _), (16, _)] ⟨rfl, rfl, rfl, rfl, rfl, rfl, trivial⟩ ?_
      refine at_region ?_
      refine av rfl (r_fieldAddr (fo := 2) Tryz.underlying104 rfl rfl (fun w => ⟨_, Tryz.sizeOf102 w⟩) rfl) ?_
      refine av rfl (r_load_cell Tryz.isAgg102 rfl (fun w1 hw => cells_get (hw.ok (Upd.mem .z)) 2 _ rfl)) ?_
      refine at_calleeC (caps := [.pointer (some ⟨b3, 0, none⟩)]) rfl ?_
      refine at_callI Tryz.func124 rfl (by kernel_rfl) rfl rfl rfl rfl ?_
      refine at_drop (H := _) .z ?_
      refine at_weak [(0, _), (1, _)] ⟨rfl, rfl, trivial⟩ ?_
      refine at_region ?_
      refine av rfl (r_load_cell Tryz.isAgg133 rfl (fun w1 hw => cells_get (hw.ok (Upd.mem (.s (.s .z)))) 0 _ rfl)) ?_
      refine av rfl (r_move rfl) ?_
      refine at_callee rfl ?_
      refine at_callI Tryz.func76 rfl (by kernel_rfl) rfl rfl rfl rfl ?_
      refine at_weak [(0, _)] ⟨rfl, trivial⟩ ?_
      refine sr ?_
      refine av rfl (r_assign rfl) ?_
      refine nws [(0, _)] ⟨rfl, trivial⟩ ?_
      refine av rfl (r_move rfl) ?_
      refine av rfl (r_nilCheck rfl) ?_
      refine av rfl (r_fieldAddr (fo := 54) Tryz.underlying33 rfl rfl (fun w => ⟨_, Tryz.sizeOf30 w⟩) rfl) ?_
      refine av rfl (r_assign rfl) ?_
      refine nwt [(2, _)] ⟨rfl, trivial⟩ ?_
      refine at_ret ?_
      refine at_retI1 rfl rfl ?_
      refine av rfl (r_nilCheck rfl) ?_
      refine at_store (c := (cInt .u32)) (z := 0) (.s (.s (.s .z))) (c_api_Item_f_Local g0_ ({ x0 with f_Key := (Vector.replicate 32 (0 : Int) : (Vector Int 32)) })) Tryz.sizeOf30 rfl rfl rfl ?_
      refine at_nil ?_
      refine at_weak [] trivial ?_
      refine at_retI0 rfl ?_
      refine at_nil ?_
      refine at_weak [(1, _), (4, _), (14, _), (15, _), (16, _)] ⟨rfl, rfl, rfl, rfl, rfl, trivial⟩ ?_
      refine at_blk_normal (at_then_normal ?_)
      refine at_region ?_
      refine av rfl (r_iadd rfl rfl) ?_
      refine at_ov (t := 23) rfl (show Value.int .i64 (wr .i64 (1 + 1)) = .int .i64 2 from by rfl) ?_
      refine av rfl (r_move rfl) ?_
      refine nwt [(1, _), (4, _), (14, _), (15, _), (16, _)] ⟨rfl, rfl, rfl, rfl, rfl, trivial⟩ ?_
      refine at_weak [(1, _), (4, _), (14, _), (15, _), (16, _)] ⟨rfl, rfl, rfl, rfl, rfl, trivial⟩ ?_
      refine at_round ?_
      refine sr ?_
      refine av rfl (r_ilss rfl rfl) ?_
      refine at_fix (g := 17) rfl (show (decide (2 < 4)) = true from by decide) ?_
      refine nwt [(1, _), (4, _), (14, _), (15, _), (16, _), (17, _)] ⟨rfl, rfl, rfl, rfl, rfl, rfl, trivial⟩ ?_
      refine at_seq ?_
      refine at_cond_true rfl rfl ?_
      refine sn ?_
      refine at_seq ?_
      refine at_block ?_
      refine sr ?_
      refine av rfl (r_idx Tryz.underlying96 Tryz.sizeOf104 rfl rfl (by decide) rfl) ?_
      refine av rfl (r_load_agg (l := [.func (.func 122) #[] #[.pointer (some ⟨b6, 0, none⟩)], .func (.func 123) #[] #[.pointer (some ⟨b6, 0, none⟩)], .func (.func 124) #[] #[.pointer (some ⟨b6, 0, none⟩)]]) Tryz.isAgg104 Tryz.sizeOf104 rfl rfl (fun w1 hw => cells_mid (pre := [.func (.func 136) #[] #[], .func (.func 137) #[] #[], .func (.func 138) #[] #[], .func (.func 122) #[] #[.pointer (some ⟨b3, 0, none⟩)], .func (.func 123) #[] #[.pointer (some ⟨b3, 0, none⟩)], .func (.func 124) #[] #[.pointer (some ⟨b3, 0, none⟩)]]) (suf := [.func (.func 139) #[] #[], .func (.func 140) #[] #[], .func (.func 141) #[] #[]]) (hw.ok (Upd.mem .z)) rfl rfl)) ?_
      refine at_alloc (cs := [.nilFunc, .nilFunc, .nilFunc]) Tryz.zeroValue104 rfl rfl ?_
      intro b56
      refine at_storeAll (k := 3) (cs := [.func (.func 122) #[] #[.pointer (some ⟨b6, 0, none⟩)], .func (.func 123) #[] #[.pointer (some ⟨b6, 0, none⟩)], .func (.func 124) #[] #[.pointer (some ⟨b6, 0, none⟩)]]) .z (by decide) ⟨rfl, by simp [Value.oneCell']⟩ ⟨rfl, by simp [Value.oneCell']⟩ Tryz.sizeOf104 rfl rfl rfl ?_
      refine nwt [(1, _), (4, _), (6, _), (14, _), (15, _), (16, _)] ⟨rfl, rfl, rfl, rfl, rfl, rfl, trivial⟩ ?_
      refine at_region ?_
      refine av rfl (r_fieldAddr (fo := 2) Tryz.underlying104 rfl rfl (fun w => ⟨_, Tryz.sizeOf102 w⟩) rfl) ?_
      refine av rfl (r_load_cell Tryz.isAgg102 rfl (fun w1 hw => cells_get (hw.ok (Upd.mem .z)) 2 _ rfl)) ?_
      refine at_calleeC (caps := [.pointer (some ⟨b6, 0, none⟩)]) rfl ?_
      refine at_callI Tryz.func124 rfl (by kernel_rfl) rfl rfl rfl rfl ?_
      refine at_drop (H := _) .z ?_
      refine at_weak [(0, _), (1, _)] ⟨rfl, rfl, trivial⟩ ?_
      refine at_region ?_
      refine av rfl (r_load_cell Tryz.isAgg133 rfl (fun w1 hw => cells_get (hw.ok (Upd.mem (.s .z))) 0 _ rfl)) ?_
      refine av rfl (r_move rfl) ?_
      refine at_callee rfl ?_
      refine at_callI Tryz.func77 rfl (by kernel_rfl) rfl rfl rfl rfl ?_
      refine at_weak [(0, _)] ⟨rfl, trivial⟩ ?_
      refine sr ?_
      refine av rfl (r_assign rfl) ?_
      refine nws [(0, _)] ⟨rfl, trivial⟩ ?_
      refine av rfl (r_move rfl) ?_
      refine av rfl (r_nilCheck rfl) ?_
      refine av rfl (r_fieldAddr (fo := 55) Tryz.underlying33 rfl rfl (fun w => ⟨_, Tryz.sizeOf30 w⟩) rfl) ?_
      refine av rfl (r_assign rfl) ?_
      refine nwt [(2, _)] ⟨rfl, trivial⟩ ?_
      refine at_ret ?_
      refine at_retI1 rfl rfl ?_
      refine av rfl (r_nilCheck rfl) ?_
      refine at_store (c := (cInt .u32)) (z := 0) (.s (.s (.s .z))) (c_api_Item_f_Remote g0_ ({ { x0 with f_Key := (Vector.replicate 32 (0 : Int) : (Vector Int 32)) } with f_Local := 0 })) Tryz.sizeOf30 rfl rfl rfl ?_
      refine at_nil ?_
      refine at_weak [] trivial ?_
      refine at_retI0 rfl ?_
      refine at_nil ?_
      refine at_weak [(1, _), (4, _), (14, _), (15, _), (16, _)] ⟨rfl, rfl, rfl, rfl, rfl, trivial⟩ ?_
      refine at_blk_normal (at_then_normal ?_)
      refine at_region ?_
      refine av rfl (r_iadd rfl rfl) ?_
      refine at_ov (t := 23) rfl (show Value.int .i64 (wr .i64 (2 + 1)) = .int .i64 3 from by rfl) ?_
      refine av rfl (r_move rfl) ?_
      refine nwt [(1, _), (4, _), (14, _), (15, _), (16, _)] ⟨rfl, rfl, rfl, rfl, rfl, trivial⟩ ?_
      refine at_weak [(1, _), (4, _), (14, _), (15, _), (16, _)] ⟨rfl, rfl, rfl, rfl, rfl, trivial⟩ ?_
      refine at_round ?_
      refine sr ?_
      refine av rfl (r_ilss rfl rfl) ?_
      refine at_fix (g := 17) rfl (show (decide (3 < 4)) = true from by decide) ?_
      refine nwt [(1, _), (4, _), (14, _), (15, _), (16, _), (17, _)] ⟨rfl, rfl, rfl, rfl, rfl, rfl, trivial⟩ ?_
      refine at_seq ?_
      refine at_cond_true rfl rfl ?_
      refine sn ?_
      refine at_seq ?_
      refine at_block ?_
      refine sr ?_
      refine av rfl (r_idx Tryz.underlying96 Tryz.sizeOf104 rfl rfl (by decide) rfl) ?_
      refine av rfl (r_load_agg (l := [.func (.func 139) #[] #[], .func (.func 140) #[] #[], .func (.func 141) #[] #[]]) Tryz.isAgg104 Tryz.sizeOf104 rfl rfl (fun w1 hw => cells_mid (pre := [.func (.func 136) #[] #[], .func (.func 137) #[] #[], .func (.func 138) #[] #[], .func (.func 122) #[] #[.pointer (some ⟨b3, 0, none⟩)], .func (.func 123) #[] #[.pointer (some ⟨b3, 0, none⟩)], .func (.func 124) #[] #[.pointer (some ⟨b3, 0, none⟩)], .func (.func 122) #[] #[.pointer (some ⟨b6, 0, none⟩)], .func (.func 123) #[] #[.pointer (some ⟨b6, 0, none⟩)], .func (.func 124) #[] #[.pointer (some ⟨b6, 0, none⟩)]]) (suf := []) (hw.ok (Upd.mem .z)) rfl rfl)) ?_
      refine at_alloc (cs := [.nilFunc, .nilFunc, .nilFunc]) Tryz.zeroValue104 rfl rfl ?_
      intro b57
      refine at_storeAll (k := 3) (cs := [.func (.func 139) #[] #[], .func (.func 140) #[] #[], .func (.func 141) #[] #[]]) .z (by decide) ⟨rfl, by simp [Value.oneCell']⟩ ⟨rfl, by simp [Value.oneCell']⟩ Tryz.sizeOf104 rfl rfl rfl ?_
      refine nwt [(1, _), (4, _), (6, _), (14, _), (15, _), (16, _)] ⟨rfl, rfl, rfl, rfl, rfl, rfl, trivial⟩ ?_
      refine at_region ?_
      refine av rfl (r_fieldAddr (fo := 2) Tryz.underlying104 rfl rfl (fun w => ⟨_, Tryz.sizeOf102 w⟩) rfl) ?_
      refine av rfl (r_load_cell Tryz.isAgg102 rfl (fun w1 hw => cells_get (hw.ok (Upd.mem .z)) 2 _ rfl)) ?_
      refine at_callee rfl ?_
      refine at_callI Tryz.func141 rfl (by kernel_rfl) rfl rfl rfl rfl ?_
      refine at_drop (H := _) .z ?_
      refine at_weak [(0, _)] ⟨rfl, trivial⟩ ?_
      refine at_region ?_
      refine av rfl (r_move rfl) ?_
      refine av rfl (r_nilCheck rfl) ?_
      refine av rfl (r_fieldAddr (fo := 56) Tryz.underlying33 rfl rfl (fun w => ⟨_, Tryz.sizeOf31 w⟩) rfl) ?_
      refine at_store (c := (cInt .u64)) (z := 0) (.s (.s (.s .z))) (c_api_Item_f_Next g0_ ({ { { x0 with f_Key := (Vector.replicate 32 (0 : Int) : (Vector Int 32)) } with f_Local := 0 } with f_Remote := 0 })) Tryz.sizeOf31 rfl rfl rfl ?_
      refine at_nil ?_
      refine at_weak [] trivial ?_
      refine at_retI0 rfl ?_
      refine at_nil ?_
      refine at_weak [(1, _), (4, _), (14, _), (15, _), (16, _)] ⟨rfl, rfl, rfl, rfl, rfl, trivial⟩ ?_
      refine at_blk_normal (at_then_normal ?_)
      refine at_region ?_
      refine av rfl (r_iadd rfl rfl) ?_
      refine at_ov (t := 23) rfl (show Value.int .i64 (wr .i64 (3 + 1)) = .int .i64 4 from by rfl) ?_
      refine av rfl (r_move rfl) ?_
      refine nwt [(1, _), (4, _), (14, _), (15, _), (16, _)] ⟨rfl, rfl, rfl, rfl, rfl, trivial⟩ ?_
      refine at_weak [(1, _), (4, _), (14, _), (15, _), (16, _)] ⟨rfl, rfl, rfl, rfl, rfl, trivial⟩ ?_
      refine at_round ?_
      refine sr ?_
      refine av rfl (r_ilss rfl rfl) ?_
      refine at_fix (g := 17) rfl (show (decide (4 < 4)) = false from by decide) ?_
      refine nwt [(1, _), (4, _), (14, _), (15, _), (16, _), (17, _)] ⟨rfl, rfl, rfl, rfl, rfl, rfl, trivial⟩ ?_
      refine at_seq ?_
      refine at_cond_false rfl rfl ?_
      refine at_exit ?_
      refine at_then_exit (at_then_exit ?_)
      refine at_blk_same ?_
      refine at_drop (H := _) .z ?_
      refine at_drop (H := _) .z ?_
      refine at_drop (H := _) .z ?_
      refine at_weak [(1, _), (4, _)] ⟨rfl, rfl, trivial⟩ ?_
      refine at_then_normal ?_
      refine sr ?_
      refine av rfl (r_move rfl) ?_
      refine av rfl (r_move rfl) ?_
      refine at_guard_yes rfl rfl rfl ?_
      refine av rfl (r_load_aggc (c := c_api_Item) (z := (g0_, { { { { x0 with f_Key := (Vector.replicate 32 (0 : Int) : (Vector Int 32)) } with f_Local := 0 } with f_Remote := 0 } with f_Next := 0 })) Tryz.isAgg33 Tryz.sizeOf33 rfl (lens_cell .z (Lens.whole _ _))) ?_
      refine at_guard_yes rfl rfl rfl ?_
      refine av rfl (r_fieldAddr (fo := 0) Tryz.underlying33 rfl rfl (fun w => ⟨_, Tryz.sizeOf3 w⟩) rfl) ?_
      refine at_guard_yes rfl rfl rfl ?_
      refine av rfl (r_load_cell Tryz.isAgg3 rfl (lens_cell0 (c := (cInt .i64)) (y := ({ { { { x0 with f_Key := (Vector.replicate 32 (0 : Int) : (Vector Int 32)) } with f_Local := 0 } with f_Remote := 0 } with f_Next := 0 }).f_Kind) .z (c_api_Item_f_Kind g0_ ({ { { { x0 with f_Key := (Vector.replicate 32 (0 : Int) : (Vector Int 32)) } with f_Local := 0 } with f_Remote := 0 } with f_Next := 0 })) rfl)) ?_
      refine at_guard_yes rfl rfl rfl ?_
      refine av rfl (r_build_struct (zs := Cd.cs c_api_Item ((((none : Option Addr), (0 : Nat)), ((none : Option Addr), (0 : Nat))), ({ f_Kind := (0 : Int), f_Bytes := ([] : List Int), f_From := zqSB_0, f_Result := ([] : List Int), f_Ok := false, f_Key := (Vector.replicate 32 (0 : Int) : (Vector Int 32)), f_Local := (0 : Int), f_Remote := (0 : Int), f_Next := (0 : Int) } : S_api_Item))) (cs := Cd.cs c_api_Item ((((none : Option Addr), (0 : Nat)), ((none : Option Addr), (0 : Nat))), { ({ f_Kind := (0 : Int), f_Bytes := ([] : List Int), f_From := zqSB_0, f_Result := ([] : List Int), f_Ok := false, f_Key := (Vector.replicate 32 (0 : Int) : (Vector Int 32)), f_Local := (0 : Int), f_Remote := (0 : Int), f_Next := (0 : Int) } : S_api_Item) with f_Kind := ({ { { { x0 with f_Key := (Vector.replicate 32 (0 : Int) : (Vector Int 32)) } with f_Local := 0 } with f_Remote := 0 } with f_Next := 0 }).f_Kind })) Tryz.underlying33 Tryz.zeroValue33 rfl (places_api_Item_33) rfl (fill_step (c := (cInt .i64)) (z := ({ { { { x0 with f_Key := (Vector.replicate 32 (0 : Int) : (Vector Int 32)) } with f_Local := 0 } with f_Remote := 0 } with f_Next := 0 }).f_Kind) rfl (c_api_Item_f_Kind (((none : Option Addr), (0 : Nat)), ((none : Option Addr), (0 : Nat))) ({ f_Kind := (0 : Int), f_Bytes := ([] : List Int), f_From := zqSB_0, f_Result := ([] : List Int), f_Ok := false, f_Key := (Vector.replicate 32 (0 : Int) : (Vector Int 32)), f_Local := (0 : Int), f_Remote := (0 : Int), f_Next := (0 : Int) } : S_api_Item)) rfl rfl)) ?_
      refine at_guard_yes rfl rfl rfl ?_
      obtain ⟨t58, ht58, hF⟩ := of_bindM hF
      refine at_callB Tryz.func12 rfl (by kernel_rfl) rfl rfl (fun w hw => script_Same_ok _ _ _ _ _ ht58 w (NK_api_Item.n (NK_api_Item.mono hz0 (frz_mono (.s .z) hw))) ⟨(Row.nil ..), (Row.nil ..)⟩) ?_
      refine av rfl (r_pick rfl rfl rfl) ?_
      refine av rfl (r_assign rfl) ?_
      refine at_nil ?_
      refine at_drop (H := _) .z ?_
      refine at_weak [(2, _)] ⟨rfl, trivial⟩ ?_
      refine at_then_normal ?_
      refine at_ret ?_
      have K := of_some hF
      subst K
      exact at_return1 rfl rfl (fun w1 hw => ⟨rfl, hw.below⟩)
     ·refine at_cond_false rfl h50 ?_
      refine sr ?_
      refine av rfl (r_ieql rfl rfl) ?_
      refine av rfl (r_assign rfl) ?_
      refine at_nil ?_
      refine at_drop (H := _) .z ?_
      refine at_drop (H := _) .z ?_
      refine at_weak [(2, _), (4, _), (40, _)] ⟨rfl, rfl, rfl, trivial⟩ ?_
      refine at_then_normal ?_
      rcases of_ite hF with ⟨h59, hF⟩ | ⟨h59, hF⟩
      ·refine at_cond_true rfl h59 ?_
       refine sr ?_
       refine av rfl (r_load_agg (l := [.func (.func 122) #[] #[.pointer (some ⟨b3, 0, none⟩)], .func (.func 123) #[] #[.pointer (some ⟨b3, 0, none⟩)], .func (.func 124) #[] #[.pointer (some ⟨b3, 0, none⟩)]]) Tryz.isAgg104 Tryz.sizeOf104 rfl rfl (fun w1 hw => cells_mid (pre := []) (suf := []) (hw.ok (Upd.mem .z)) (List.append_nil _).symm rfl)) ?_
       refine at_litG (cs := [.func (.func 122) #[] #[.pointer (some ⟨b3, 0, none⟩)], .func (.func 123) #[] #[.pointer (some ⟨b3, 0, none⟩)], .func (.func 124) #[] #[.pointer (some ⟨b3, 0, none⟩)]]) Tryz.underlying96 Tryz.sizeOf104 Tryz.zeroValue104 rfl rfl rfl (by kernel_rfl) rfl ?_
       intro b60
       refine av rfl (r_build_struct (zs := [.string (⟨#[]⟩), .slice none 0 0]) (cs := [.string (⟨#[102, 111, 114, 103, 101, 116]⟩), .slice (some ⟨b60, 0, none⟩) 1 1]) Tryz.underlying98 Tryz.zeroValue98 rfl placesR_98 rfl rfl) ?_
       refine at_storeAll (k := 2) (cs := [.string (⟨#[102, 111, 114, 103, 101, 116]⟩), .slice (some ⟨b60, 0, none⟩) 1 1]) (.s (.s (.s .z))) (by decide) ⟨rfl, by simp [Value.oneCell']⟩ ⟨rfl, by simp [Value.oneCell']⟩ Tryz.sizeOf98 rfl rfl rfl ?_
       refine av rfl (r_assign rfl) ?_
       refine at_nil ?_
       refine at_drop (H := _) (.s .z) ?_
       refine at_weak [(2, _), (3, _)] ⟨rfl, rfl, trivial⟩ ?_
       refine at_then_normal ?_
       refine at_ret ?_
       refine at_blk_ret (at_then_ret ?_)
       refine at_resI2 rfl (res_cell (c := cK 2 (by decide)) (y := ⟨[.string (⟨#[102, 111, 114, 103, 101, 116]⟩), .slice (some ⟨b60, 0, none⟩) 1 1], rfl, by simp [Value.oneCell']⟩) rfl (.s (.s .z)) (Lens.whole _ _) Tryz.isAgg98 Tryz.sizeOf98 (.inl rfl)) (res_tmp rfl) ?_
       refine av rfl (r_move rfl) ?_
       refine av rfl (r_extract rfl rfl) ?_
       refine av rfl (r_extract rfl rfl) ?_
       refine at_alloc (cs := [.string (⟨#[]⟩), .slice none 0 0]) Tryz.zeroValue98 rfl rfl ?_
       intro b61
       refine at_storeAll (k := 2) (cs := [.string (⟨#[102, 111, 114, 103, 101, 116]⟩), .slice (some ⟨b60, 0, none⟩) 1 1]) .z (by decide) ⟨rfl, by simp [Value.oneCell']⟩ ⟨rfl, by simp [Value.oneCell']⟩ Tryz.sizeOf98 rfl rfl rfl ?_
       refine av rfl (r_assign rfl) ?_
       refine at_nil ?_
       refine at_drop (H := _) (.s (.s (.s .z))) ?_
       refine at_weak [(1, _), (3, _), (4, _)] ⟨rfl, rfl, rfl, trivial⟩ ?_
       refine at_then_normal ?_
       refine at_seq ?_
       refine sr ?_
       refine av rfl (r_fieldAddr (fo := 1) Tryz.underlying98 rfl rfl (fun w => ⟨_, Tryz.sizeOf96 w⟩) rfl) ?_
       refine av rfl (r_load_cell Tryz.isAgg96 rfl (fun w1 hw => cells_get (hw.ok (Upd.mem .z)) 1 _ rfl)) ?_
       refine av rfl (r_len_sl Tryz.underlying96 rfl) ?_
       refine av rfl (r_move rfl) ?_
       refine at_nil ?_
       refine at_drop (H := _) .z ?_
       refine at_weak [(1, _), (4, _), (14, _), (15, _), (16, _)] ⟨rfl, rfl, rfl, rfl, rfl, trivial⟩ ?_
       refine at_then_normal ?_
       refine at_block ?_
       refine at_weak [(1, _), (4, _), (14, _), (15, _), (16, _)] ⟨rfl, rfl, rfl, rfl, rfl, trivial⟩ ?_
       refine at_loop ?_
       refine at_round ?_
       refine sr ?_
       refine av rfl (r_ilss rfl rfl) ?_
       refine at_fix (g := 17) rfl (show (decide (0 < 1)) = true from by decide) ?_
       refine nwt [(1, _), (4, _), (14, _), (15, _), (16, _), (17, _)] ⟨rfl, rfl, rfl, rfl, rfl, rfl, trivial⟩ ?_
       refine at_seq ?_
       refine at_cond_true rfl rfl ?_
       refine sn ?_
       refine at_seq ?_
       refine at_block ?_
       refine sr ?_
       refine av rfl (r_idx Tryz.underlying96 Tryz.sizeOf104 rfl rfl (by decide) rfl) ?_
       refine av rfl (r_load_agg (l := [.func (.func 122) #[] #[.pointer (some ⟨b3, 0, none⟩)], .func (.func 123) #[] #[.pointer (some ⟨b3, 0, none⟩)], .func (.func 124) #[] #[.pointer (some ⟨b3, 0, none⟩)]]) Tryz.isAgg104 Tryz.sizeOf104 rfl rfl (fun w1 hw => cells_mid (pre := []) (suf := []) (hw.ok (Upd.mem .z)) rfl rfl)) ?_
       refine at_alloc (cs := [.nilFunc, .nilFunc, .nilFunc]) Tryz.zeroValue104 rfl rfl ?_
       intro b62
       refine at_storeAll (k := 3) (cs := [.func (.func 122) #[] #[.pointer (some ⟨b3, 0, none⟩)], .func (.func 123) #[] #[.pointer (some ⟨b3, 0, none⟩)], .func (.func 124) #[] #[.pointer (some ⟨b3, 0, none⟩)]]) .z (by decide) ⟨rfl, by simp [Value.oneCell']⟩ ⟨rfl, by simp [Value.oneCell']⟩ Tryz.sizeOf104 rfl rfl rfl ?_
       refine nwt [(1, _), (4, _), (6, _), (14, _), (15, _), (16, _)] ⟨rfl, rfl, rfl, rfl, rfl, rfl, trivial⟩ ?_
       refine at_region ?_
       refine av rfl (r_fieldAddr (fo := 2) Tryz.underlying104 rfl rfl (fun w => ⟨_, Tryz.sizeOf102 w⟩) rfl) ?_
       refine av rfl (r_load_cell Tryz.isAgg102 rfl (fun w1 hw => cells_get (hw.ok (Upd.mem .z)) 2 _ rfl)) ?_
       refine at_calleeC (caps := [.pointer (some ⟨b3, 0, none⟩)]) rfl ?_
       refine at_callI Tryz.func124 rfl (by kernel_rfl) rfl rfl rfl rfl ?_
       refine at_drop (H := _) .z ?_
       refine at_weak [(0, _), (1, _)] ⟨rfl, rfl, trivial⟩ ?_
       refine at_region ?_
       refine av rfl (r_load_cell Tryz.isAgg133 rfl (fun w1 hw => cells_get (hw.ok (Upd.mem (.s .z))) 0 _ rfl)) ?_
       refine av rfl (r_move rfl) ?_
       refine at_callee rfl ?_
       refine at_callI Tryz.func76 rfl (by kernel_rfl) rfl rfl rfl rfl ?_
       refine at_weak [(0, _)] ⟨rfl, trivial⟩ ?_
       refine sr ?_
       refine av rfl (r_assign rfl) ?_
       refine nws [(0, _)] ⟨rfl, trivial⟩ ?_
       refine av rfl (r_move rfl) ?_
       refine av rfl (r_nilCheck rfl) ?_
       refine av rfl (r_fieldAddr (fo := 54) Tryz.underlying33 rfl rfl (fun w => ⟨_, Tryz.sizeOf30 w⟩) rfl) ?_
       refine av rfl (r_assign rfl) ?_
       refine nwt [(2, _)] ⟨rfl, trivial⟩ ?_
       refine at_ret ?_
       refine at_retI1 rfl rfl ?_
       refine av rfl (r_nilCheck rfl) ?_
       refine at_store (c := (cInt .u32)) (z := 0) (.s (.s .z)) (c_api_Item_f_Local g0_ x0) Tryz.sizeOf30 rfl rfl rfl ?_
       refine at_nil ?_
       refine at_weak [] trivial ?_
       refine at_retI0 rfl ?_
       refine at_nil ?_
       refine at_weak [(1, _), (4, _), (14, _), (15, _), (16, _)] ⟨rfl, rfl, rfl, rfl, rfl, trivial⟩ ?_
       refine at_blk_normal (at_then_normal ?_)
       refine at_region ?_
       refine av rfl (r_iadd rfl rfl) ?_
       refine at_ov (t := 23) rfl (show Value.int .i64 (wr .i64 (0 + 1)) = .int .i64 1 from by rfl) ?_
       refine av rfl (r_move rfl) ?_
       refine nwt [(1, _), (4, _), (14, _), (15, _), (16, _)] ⟨rfl, rfl, rfl, rfl, rfl, trivial⟩ ?_
       refine at_weak [(1, _), (4, _), (14, _), (15, _), (16, _)] ⟨rfl, rfl, rfl, rfl, rfl, trivial⟩ ?_
       refine at_round ?_
       refine sr ?_
       refine av rfl (r_ilss rfl rfl) ?_
       refine at_fix (g := 17) rfl (show (decide (1 < 1)) = false from by decide) ?_
       refine nwt [(1, _), (4, _), (14, _), (15, _), (16, _), (17, _)] ⟨rfl, rfl, rfl, rfl, rfl, rfl, trivial⟩ ?_
       refine at_seq ?_
       refine at_cond_false rfl rfl ?_
       refine at_exit ?_
       refine at_then_exit (at_then_exit ?_)
       refine at_blk_same ?_
       refine at_drop (H := _) .z ?_
       refine at_drop (H := _) .z ?_
       refine at_weak [(1, _), (4, _)] ⟨rfl, rfl, trivial⟩ ?_
       refine at_then_normal ?_
       refine sr ?_
       refine av rfl (r_move rfl) ?_
       refine av rfl (r_move rfl) ?_
       refine at_guard_yes rfl rfl rfl ?_
       refine av rfl (r_load_aggc (c := c_api_Item) (z := (g0_, { x0 with f_Local := 0 })) Tryz.isAgg33 Tryz.sizeOf33 rfl (lens_cell .z (Lens.whole _ _))) ?_
       refine at_guard_yes rfl rfl rfl ?_
       refine av rfl (r_fieldAddr (fo := 0) Tryz.underlying33 rfl rfl (fun w => ⟨_, Tryz.sizeOf3 w⟩) rfl) ?_
       refine at_guard_yes rfl rfl rfl ?_
       refine av rfl (r_load_cell Tryz.isAgg3 rfl (lens_cell0 (c := (cInt .i64)) (y := ({ x0 with f_Local := 0 }).f_Kind) .z (c_api_Item_f_Kind g0_ ({ x0 with f_Local := 0 })) rfl)) ?_
       refine at_guard_yes rfl rfl rfl ?_
       refine av rfl (r_build_struct (zs := Cd.cs c_api_Item ((((none : Option Addr), (0 : Nat)), ((none : Option Addr), (0 : Nat))), ({ f_Kind := (0 : Int), f_Bytes := ([] : List Int), f_From := zqSB_0, f_Result := ([] : List Int), f_Ok := false, f_Key := (Vector.replicate 32 (0 : Int) : (Vector Int 32)), f_Local := (0 : Int), f_Remote := (0 : Int), f_Next := (0 : Int) } : S_api_Item))) (cs := Cd.cs c_api_Item ((((none : Option Addr), (0 : Nat)), ((none : Option Addr), (0 : Nat))), { ({ f_Kind := (0 : Int), f_Bytes := ([] : List Int), f_From := zqSB_0, f_Result := ([] : List Int), f_Ok := false, f_Key := (Vector.replicate 32 (0 : Int) : (Vector Int 32)), f_Local := (0 : Int), f_Remote := (0 : Int), f_Next := (0 : Int) } : S_api_Item) with f_Kind := ({ x0 with f_Local := 0 }).f_Kind })) Tryz.underlying33 Tryz.zeroValue33 rfl (places_api_Item_33) rfl (fill_step (c := (cInt .i64)) (z := ({ x0 with f_Local := 0 }).f_Kind) rfl (c_api_Item_f_Kind (((none : Option Addr), (0 : Nat)), ((none : Option Addr), (0 : Nat))) ({ f_Kind := (0 : Int), f_Bytes := ([] : List Int), f_From := zqSB_0, f_Result := ([] : List Int), f_Ok := false, f_Key := (Vector.replicate 32 (0 : Int) : (Vector Int 32)), f_Local := (0 : Int), f_Remote := (0 : Int), f_Next := (0 : Int) } : S_api_Item)) rfl rfl)) ?_
       refine at_guard_yes rfl rfl rfl ?_
       obtain ⟨t63, ht63, hF⟩ := of_bindM hF
       refine at_callB Tryz.func12 rfl (by kernel_rfl) rfl rfl (fun w hw => script_Same_ok _ _ _ _ _ ht63 w (NK_api_Item.n (NK_api_Item.mono hz0 (frz_mono (.s .z) hw))) ⟨(Row.nil ..), (Row.nil ..)⟩) ?_
       refine av rfl (r_pick rfl rfl rfl) ?_
       refine av rfl (r_assign rfl) ?_
       refine at_nil ?_
       refine at_drop (H := _) .z ?_
       refine at_weak [(2, _)] ⟨rfl, trivial⟩ ?_
       refine at_then_normal ?_
       refine at_ret ?_
       have K := of_some hF
       subst K
       exact at_return1 rfl rfl (fun w1 hw => ⟨rfl, hw.below⟩)
      ·refine at_cond_false rfl h59 ?_
       refine at_skip ?_
       refine at_blk_normal (at_then_normal ?_)
       refine sr ?_
       refine av rfl (r_build_struct (zs := [.string (⟨#[]⟩), .slice none 0 0]) (cs := [.string (⟨#[]⟩), .slice none 0 0]) Tryz.underlying98 Tryz.zeroValue98 rfl placesR_98 rfl rfl) ?_
       refine at_storeAll (k := 2) (cs := [.string (⟨#[]⟩), .slice none 0 0]) (.s (.s .z)) (by decide) ⟨rfl, by simp [Value.oneCell']⟩ ⟨rfl, by simp [Value.oneCell']⟩ Tryz.sizeOf98 rfl rfl rfl ?_
       refine av rfl (r_assign rfl) ?_
       refine at_nil ?_
       refine at_drop (H := _) .z ?_
       refine at_drop (H := _) .z ?_
       refine at_weak [(2, _), (3, _)] ⟨rfl, rfl, trivial⟩ ?_
       refine at_then_normal ?_
       refine at_ret ?_
       refine at_resI2 rfl (res_cell (c := cK 2 (by decide)) (y := ⟨[.string (⟨#[]⟩), .slice none 0 0], rfl, by simp [Value.oneCell']⟩) rfl .z (Lens.whole _ _) Tryz.isAgg98 Tryz.sizeOf98 (.inl rfl)) (res_tmp rfl) ?_
       refine av rfl (r_move rfl) ?_
       refine av rfl (r_extract rfl rfl) ?_
       refine av rfl (r_extract rfl rfl) ?_
       refine at_alloc (cs := [.string (⟨#[]⟩), .slice none 0 0]) Tryz.zeroValue98 rfl rfl ?_
       intro b64
       refine at_storeAll (k := 2) (cs := [.string (⟨#[]⟩), .slice none 0 0]) .z (by decide) ⟨rfl, by simp [Value.oneCell']⟩ ⟨rfl, by simp [Value.oneCell']⟩ Tryz.sizeOf98 rfl rfl rfl ?_
       refine av rfl (r_assign rfl) ?_
       refine at_nil ?_
       refine at_drop (H := _) (.s .z) ?_
       refine at_weak [(1, _), (3, _), (4, _)] ⟨rfl, rfl, rfl, trivial⟩ ?_
       refine at_then_normal ?_
       refine at_seq ?_
       refine sr ?_
       refine av rfl (r_fieldAddr (fo := 1) Tryz.underlying98 rfl rfl (fun w => ⟨_, Tryz.sizeOf96 w⟩) rfl) ?_
       refine av rfl (r_load_cell Tryz.isAgg96 rfl (fun w1 hw => cells_get (hw.ok (Upd.mem .z)) 1 _ rfl)) ?_
       refine av rfl (r_len_sl Tryz.underlying96 rfl) ?_
       refine av rfl (r_move rfl) ?_
       refine at_nil ?_
       refine at_drop (H := _) .z ?_
       refine at_weak [(1, _), (4, _), (14, _), (15, _), (16, _)] ⟨rfl, rfl, rfl, rfl, rfl, trivial⟩ ?_
       refine at_then_normal ?_
       refine at_block ?_
       refine at_weak [(1, _), (4, _), (14, _), (15, _), (16, _)] ⟨rfl, rfl, rfl, rfl, rfl, trivial⟩ ?_
       refine at_loop ?_
       refine at_round ?_
       refine sr ?_
       refine av rfl (r_ilss rfl rfl) ?_
       refine at_fix (g := 17) rfl (show (decide (0 < 0)) = false from by decide) ?_
       refine nwt [(1, _), (4, _), (14, _), (15, _), (16, _), (17, _)] ⟨rfl, rfl, rfl, rfl, rfl, rfl, trivial⟩ ?_
       refine at_seq ?_
       refine at_cond_false rfl rfl ?_
       refine at_exit ?_
       refine at_then_exit (at_then_exit ?_)
       refine at_blk_same ?_
       refine at_weak [(1, _), (4, _)] ⟨rfl, rfl, trivial⟩ ?_
       refine at_then_normal ?_
       refine sr ?_
       refine av rfl (r_move rfl) ?_
       refine av rfl (r_move rfl) ?_
       refine at_guard_no rfl rfl rfl rfl rfl ?_
       refine at_guard_no rfl rfl rfl rfl rfl ?_
       refine at_guard_no rfl rfl rfl rfl rfl ?_
       refine at_guard_no rfl rfl rfl rfl rfl ?_
       refine at_guard_no rfl rfl rfl rfl rfl ?_
       refine av rfl (r_pick rfl rfl rfl) ?_
       refine av rfl (r_assign rfl) ?_
       refine at_nil ?_
       refine at_drop (H := _) .z ?_
       refine at_weak [(2, _)] ⟨rfl, trivial⟩ ?_
       refine at_then_normal ?_
       refine at_ret ?_
       have K := of_some hF
       subst K
       exact at_return1 rfl rfl (fun w1 hw => ⟨rfl, hw.below⟩)
end Go.Proofs.YtkkmmpofdcccmaaGreatDoor
