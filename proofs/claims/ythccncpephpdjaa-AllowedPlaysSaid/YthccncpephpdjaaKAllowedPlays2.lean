/- Texts of this claim, those in one that belong together; printed by a program of this project. -/
import Derived.Test.YthccncpephpdjaaProg
import Derived.Test.YthccncpephpdjaaKAllowedPlays1
set_option linter.unusedVariables false
set_option linter.unusedSimpArgs false
namespace Go.Proofs.Ythccncpephpdjaa
open E Go.RowKit
abbrev zqV1_0 : S_api_Prefix := ({ f_A := ({ f_V := (0 : Int), f_B := (Vector.replicate 16 (0 : Int) : (Vector Int 16)) } : S_api_Addr), f_Bits := (0 : Int) } : S_api_Prefix)
theorem infoV146_is : (Try.prog.info? 46).isSome = true := by kernel_rfl
noncomputable def infoV146_v : TypeInfo := (Try.prog.info? 46).get infoV146_is
theorem infoV146 : Try.prog.info? 46 = some infoV146_v := (Option.some_get _).symm
theorem infoV152_is : (Try.prog.info? 52).isSome = true := by kernel_rfl
noncomputable def infoV152_v : TypeInfo := (Try.prog.info? 52).get infoV152_is
theorem infoV152 : Try.prog.info? 52 = some infoV152_v := (Option.some_get _).symm
def crawlwayref26_Put (x0 : List S_api_Entry) (x1 : S_api_Entry) : Option (List S_api_Entry × Int) :=
  crawlwayref11_Right x1.f_P >>= fun t2 => if (!t2) = true then (some (x0, 1)) else (crawlwayref25_Place x0 x1.f_P >>= fun t4 => if (decide (t4 < 0)) = true then (if (decide ((x0.length : Int) ≥ 64)) = true then (some (x0, 7)) else (crawlwayref25_Put x0 x1 >>= fun t7 => some (t7, 0))) else (crawlwayref25_Put x0 x1 >>= fun t10 => some (t10, 0)))
theorem crawlwayref26_Put_ok {x0 : List S_api_Entry} {x1 : S_api_Entry} {r : List S_api_Entry × Int} (hF : crawlwayref26_Put x0 x1 = some r) : ∀ {w0 w : World} {G_ : List Ent} {p0_ : Option Addr} {c0_ : Nat} (hw_ : Wd w0 (rowE c_api_Entry 52 p0_ c0_ x0 :: G_) w),
    Calls Try.prog 81 #[.slice p0_ x0.length c0_, .agg (Cd.cs c_api_Entry x1).toArray] w (fun e w' => ∃ (p : Option Addr) (cap : Nat), e = .returned (.tuple #[.slice p r.1.length cap, .int .i64 r.2]) ∧ Wd w0 (rowE c_api_Entry 52 p cap r.1 :: G_) w') := by
 intro w0 w G_ p0_ c0_ hw_
 unfold crawlwayref26_Put at hF
 refine calls_enter (l := [.slice p0_ x0.length c0_, .agg (Cd.cs c_api_Entry x1).toArray]) Try.func81 rfl rfl rfl ?_
 refine at_enterF hw_ ?_
 refine at_weak [(0, _), (1, _)] ⟨rfl, rfl, trivial⟩ ?_
 refine sr ?_
 refine at_box (cs := Cd.cs c_api_Entry x1) rfl rfl rfl ?_
 intro b1
 refine av rfl (r_assign rfl) ?_
 refine av rfl (r_assign rfl) ?_
 refine nwt [(0, _), (3, _)] ⟨rfl, rfl, trivial⟩ ?_
 refine at_seq ?_
 refine sr ?_
 refine av rfl (r_fieldAddr (fo := 0) Try.underlying52 rfl rfl (fun w => ⟨_, Try.sizeOf46 w⟩) rfl) ?_
 refine av rfl (r_load_aggc (c := c_api_Prefix) (z := x1.f_P) Try.isAgg46 Try.sizeOf46 rfl (lens_cell .z (Lens.comp (Lens.whole _ _) (fun z => { x1 with f_P := z }) (c_api_Entry_f_P x1)))) ?_
 obtain ⟨t2, ht2, hF⟩ := of_bindM hF
 refine at_callB Try.func57 rfl (by kernel_rfl) rfl rfl (fun w hw => crawlwayref11_Right_ok _ _ ht2 w) ?_
 refine av rfl (r_not rfl) ?_
 refine nwt [(0, _), (3, _), (9, _)] ⟨rfl, rfl, rfl, trivial⟩ ?_
 rcases of_ite hF with ⟨h3, hF⟩ | ⟨h3, hF⟩
 ·refine at_cond_true rfl h3 ?_
  refine sr ?_
  refine av rfl (r_move rfl) ?_
  refine av rfl (r_assign rfl) ?_
  refine av rfl (r_assign rfl) ?_
  refine at_nil ?_
  refine at_drop (H := _) .z ?_
  refine at_weak [(4, _), (5, _)] ⟨rfl, rfl, trivial⟩ ?_
  refine at_then_normal ?_
  refine rt ?_
  have K := of_some hF
  subst K
  exact at_return2 rfl rfl rfl (fun w1 hw => ⟨p0_, c0_, rfl, hw⟩)
 ·refine at_cond_false rfl h3 ?_
  refine sn ?_
  refine at_seq ?_
  refine sr ?_
  refine av rfl (r_move rfl) ?_
  refine av rfl (r_fieldAddr (fo := 0) Try.underlying52 rfl rfl (fun w => ⟨_, Try.sizeOf46 w⟩) rfl) ?_
  refine av rfl (r_load_aggc (c := c_api_Prefix) (z := x1.f_P) Try.isAgg46 Try.sizeOf46 rfl (lens_cell .z (Lens.comp (Lens.whole _ _) (fun z => { x1 with f_P := z }) (c_api_Entry_f_P x1)))) ?_
  obtain ⟨t4, ht4, hF⟩ := of_bindM hF
  refine at_callB Try.func32 rfl (by kernel_rfl) rfl rfl (fun w hw => crawlwayref25_Place_ok _ _ _ _ _ ht4 w (hw.own (.s .z)).row) ?_
  refine av rfl (r_ilss rfl rfl) ?_
  refine av rfl (r_move rfl) ?_
  rcases of_ite hF with ⟨h5, hF⟩ | ⟨h5, hF⟩
  ·refine at_fix (g := 16) rfl h5 ?_
   refine at_guard_yes rfl rfl rfl ?_
   refine av rfl (r_move rfl) ?_
   refine at_guard_yes rfl rfl rfl ?_
   refine av rfl (r_len_sl Try.underlying44 rfl) ?_
   refine at_guard_yes rfl rfl rfl ?_
   refine av rfl (r_igeq rfl rfl) ?_
   refine av rfl (r_pick rfl rfl rfl) ?_
   refine nwt [(0, _), (3, _), (20, _)] ⟨rfl, rfl, rfl, trivial⟩ ?_
   rcases of_ite hF with ⟨h6, hF⟩ | ⟨h6, hF⟩
   ·refine at_cond_true rfl h6 ?_
    refine sr ?_
    refine av rfl (r_move rfl) ?_
    refine av rfl (r_assign rfl) ?_
    refine av rfl (r_assign rfl) ?_
    refine at_nil ?_
    refine at_drop (H := _) .z ?_
    refine at_weak [(4, _), (5, _)] ⟨rfl, rfl, trivial⟩ ?_
    refine at_then_normal ?_
    refine rt ?_
    have K := of_some hF
    subst K
    exact at_return2 rfl rfl rfl (fun w1 hw => ⟨p0_, c0_, rfl, hw⟩)
   ·refine at_cond_false rfl h6 ?_
    refine sns ?_
    refine av rfl (r_move rfl) ?_
    refine av rfl (r_load_aggc (c := c_api_Entry) (z := x1) Try.isAgg52 Try.sizeOf52 rfl (lens_cell .z (Lens.whole _ _))) ?_
    obtain ⟨t7, ht7, hF⟩ := of_bindM hF
    refine at_callO (c := c_api_Entry) (e := 52) (ys := t7) (V := fun p cap => .slice p t7.length cap) Try.func67 rfl (by kernel_rfl) rfl rfl (fun w hw => crawlwayref25_Put_ok _ _ _ _ _ ht7 w (hw.own (.s .z)).row) ?_
    intro p8 c9
    refine av rfl (r_assign rfl) ?_
    refine av rfl (r_assign rfl) ?_
    refine at_nil ?_
    refine at_drop (H := _) (.s .z) ?_
    refine at_drop (H := _) (.s .z) ?_
    refine at_weak [(4, _), (5, _)] ⟨rfl, rfl, trivial⟩ ?_
    refine at_then_normal ?_
    refine at_ret ?_
    have K := of_some hF
    subst K
    exact at_return2 rfl rfl rfl (fun w1 hw => ⟨p8, c9, rfl, hw⟩)
  ·refine at_fix (g := 16) rfl h5 ?_
   refine at_guard_no rfl rfl rfl rfl rfl ?_
   refine at_guard_no rfl rfl rfl rfl rfl ?_
   refine at_guard_no rfl rfl rfl rfl rfl ?_
   refine av rfl (r_pick rfl rfl rfl) ?_
   refine nwt [(0, _), (3, _), (20, _)] ⟨rfl, rfl, rfl, trivial⟩ ?_
   refine at_cond_false rfl rfl ?_
   refine sns ?_
   refine av rfl (r_move rfl) ?_
   refine av rfl (r_load_aggc (c := c_api_Entry) (z := x1) Try.isAgg52 Try.sizeOf52 rfl (lens_cell .z (Lens.whole _ _))) ?_
   obtain ⟨t10, ht10, hF⟩ := of_bindM hF
   refine at_callO (c := c_api_Entry) (e := 52) (ys := t10) (V := fun p cap => .slice p t10.length cap) Try.func67 rfl (by kernel_rfl) rfl rfl (fun w hw => crawlwayref25_Put_ok _ _ _ _ _ ht10 w (hw.own (.s .z)).row) ?_
   intro p11 c12
   refine av rfl (r_assign rfl) ?_
   refine av rfl (r_assign rfl) ?_
   refine at_nil ?_
   refine at_drop (H := _) (.s .z) ?_
   refine at_drop (H := _) (.s .z) ?_
   refine at_weak [(4, _), (5, _)] ⟨rfl, rfl, trivial⟩ ?_
   refine at_then_normal ?_
   refine at_ret ?_
   have K := of_some hF
   subst K
   exact at_return2 rfl rfl rfl (fun w1 hw => ⟨p11, c12, rfl, hw⟩)
def crawlwayref26_Drop.l0 (x0 : List S_api_Entry) (x1 : Int) (i5 : List S_api_Entry) (i6 : Int) : Option (List S_api_Entry) :=
  if (decide (i6 < (x0.length : Int))) = true then (if (0 : Int) ≤ i6 ∧ i6 < (x0.length : Int) then if ((lget x0 i6).f_Owner != x1) = true then (if (0 : Int) ≤ i6 ∧ i6 < (x0.length : Int) then if (i5.length + 1) * 40 ≤ 140737488355328 then crawlwayref26_Drop.l0 x0 x1 (i5 ++ [lget x0 i6]) (wr .i64 (i6 + 1)) else none else none) else (crawlwayref26_Drop.l0 x0 x1 i5 (wr .i64 (i6 + 1))) else none) else (some i5)
  partial_fixpoint
def crawlwayref26_Drop (x0 : List S_api_Entry) (x1 : Int) : Option (List S_api_Entry) :=
  crawlwayref26_Drop.l0 x0 x1 ([] : List S_api_Entry) 0 >>= fun q4 => some q4
theorem crawlwayref26_Drop_ok (x0 : List S_api_Entry) (p0_ : Option Addr) (c0_ : Nat) (x1 : Int) (r : List S_api_Entry) (hF : crawlwayref26_Drop x0 x1 = some r) (w : World) (hr0 : Row c_api_Entry w p0_ c0_ x0) :
    Calls Try.prog 47 #[.slice p0_ x0.length c0_, .int .i64 x1] w (fun e w' => ∃ p cap, e = .returned (.slice p r.length cap) ∧ Own c_api_Entry 52 w.heap.size w' p cap r ∧ Below w.heap.size w w') := by
 unfold crawlwayref26_Drop at hF
 refine calls_enter (l := [.slice p0_ x0.length c0_, .int .i64 x1]) Try.func47 rfl rfl rfl ?_
 refine at_start ?_
 refine at_weak [(0, _), (1, _)] ⟨rfl, rfl, trivial⟩ ?_
 refine sr ?_
 refine av rfl (r_assign rfl) ?_
 refine nws [(0, _), (1, _)] ⟨rfl, rfl, trivial⟩ ?_
 refine av rfl (r_assign rfl) ?_
 refine nwt [(0, _), (1, _), (5, _)] ⟨rfl, rfl, rfl, trivial⟩ ?_
 refine at_seq ?_
 refine sr ?_
 refine av rfl (r_assign rfl) ?_
 refine nwt [(0, _), (1, _), (5, _), (6, _)] ⟨rfl, rfl, rfl, rfl, trivial⟩ ?_
 refine at_block ?_
 refine at_own_nil c_api_Entry 52 ?_
 refine at_weak [(0, _), (1, _), (5, .slice (nn 1) ([] : List S_api_Entry).length 0), (6, _)] ⟨rfl, rfl, rfl, rfl, trivial⟩ ?_
 obtain ⟨q4, hq4, hF⟩ := of_bindM hF
 refine at_weak [(0, _), (1, _), (5, _), (6, _)] ⟨rfl, rfl, rfl, rfl, trivial⟩ ?_
 refine at_loop_n (B := 0) (A := fun Y => ∀ (p9 : Option Addr) (c10 : Nat), At 28 [(5, .slice p9 q4.length c10)] (Wd w [rowE c_api_Entry 52 p9 c10 q4]) Y) ?_ ?_
 ·intro K
  refine crawlwayref26_Drop.l0.partial_correctness x0 x1 (motive := fun i5 i6 x => KN (fun Y => ∀ (p9 : Option Addr) (c10 : Nat), At 28 [(5, .slice p9 x.length c10)] (Wd w [rowE c_api_Entry 52 p9 c10 x]) Y) _ 0 → Round (fun Y => ∀ (p7 : Option Addr) (c8 : Nat), At 28 [(0, .slice p0_ x0.length c0_), (1, .int .i64 x1), (5, .slice p7 i5.length c8), (6, .int .i64 i6)] (Wd w [rowE c_api_Entry 52 p7 c8 i5]) Y) _ _ _) ?_ _ _ _ hq4 K (nn 1) 0
  ·clear K hF
   intro g ih i5 i6 x hF K p7 c8
   refine at_round ?_
   refine at_seq ?_
   refine sr ?_
   refine av rfl (r_move rfl) ?_
   refine av rfl (r_move rfl) ?_
   refine av rfl (r_len_sl Try.underlying44 rfl) ?_
   refine av rfl (r_ilss rfl rfl) ?_
   refine nwt [(0, _), (1, _), (5, _), (6, _), (10, _)] ⟨rfl, rfl, rfl, rfl, rfl, trivial⟩ ?_
   rcases of_ite hF with ⟨h11, hF⟩ | ⟨h11, hF⟩
   ·refine at_cond_true rfl h11 ?_
    refine sn ?_
    refine at_seq ?_
    refine at_block ?_
    refine sr ?_
    refine av rfl (r_move rfl) ?_
    refine av rfl (r_move rfl) ?_
    obtain ⟨h12, hF⟩ := of_guard hF
    obtain ⟨b14, o15, hp13⟩ := row_ptr hr0 h12
    refine av rfl (r_idx Try.underlying44 Try.sizeOf52 rfl rfl h12 hp13) ?_
    refine av rfl (r_fieldAddr (fo := 18) Try.underlying52 rfl rfl (fun w => ⟨_, Try.sizeOf3 w⟩) rfl) ?_
    refine av rfl (r_load_cell Try.isAgg3 rfl (row_lens0 (y := (lget x0 i6).f_Owner) (fun _ h => h.below) hr0 h12 hp13 (Lens.comp (Lens.whole _ _) (fun z => { (lget x0 i6) with f_Owner := z }) (c_api_Entry_f_Owner (lget x0 i6))) rfl)) ?_
    refine av rfl (r_move rfl) ?_
    refine av rfl (r_ineq rfl rfl) ?_
    refine nwt [(0, _), (1, _), (5, _), (6, _), (19, _)] ⟨rfl, rfl, rfl, rfl, rfl, trivial⟩ ?_
    rcases of_ite hF with ⟨h16, hF⟩ | ⟨h16, hF⟩
    ·refine at_cond_true rfl h16 ?_
     refine at_region ?_
     refine av rfl (r_move rfl) ?_
     refine av rfl (r_move rfl) ?_
     refine av rfl (r_move rfl) ?_
     obtain ⟨h17, hF⟩ := of_guard hF
     obtain ⟨b19, o20, hp18⟩ := row_ptr hr0 h17
     refine av rfl (r_idx Try.underlying44 Try.sizeOf52 rfl rfl h17 hp18) ?_
     refine av rfl (r_load_aggc (c := c_api_Entry) (z := lget x0 i6) Try.isAgg52 Try.sizeOf52 rfl (row_cell (fun _ h => h.below) hr0 h17 hp18)) ?_
     refine at_litL (c := c_api_Entry) ([({ f_P := zqV1_0, f_Owner := (0 : Int) } : S_api_Entry)] : List S_api_Entry) ([lget x0 i6] : List S_api_Entry) Try.underlying44 Try.sizeOf52 Try.zeroValue52 rfl rfl rfl (by kernel_rfl) (fill_step (c := c_api_Entry) (z := lget x0 i6) rfl (Lens.all c_api_Entry ([({ f_P := zqV1_0, f_Owner := (0 : Int) } : S_api_Entry)] : List S_api_Entry) 0 (by decide)) rfl rfl) rfl ?_
     intro b21
     obtain ⟨h22, hF⟩ := of_guard hF
     refine at_append (z := .agg (Cd.cs c_api_Entry ({ f_P := zqV1_0, f_Owner := (0 : Int) } : S_api_Entry)).toArray) (c := c_api_Entry) (ys := ([lget x0 i6] : List S_api_Entry)) (.s .z) Try.underlying44 infoV152 (by kernel_rfl) (by kernel_rfl) rfl rfl rfl rfl (fun _ hw => cells_src (hw.ok (Upd.mem .z))) (by kernel_rfl) h22 (app_small h22) rfl ?_
     intro p23 c24
     refine av rfl (r_assign rfl) ?_
     refine at_nil ?_
     refine at_drop (H := _) .z ?_
     refine at_weak [(0, _), (1, _), (5, _), (6, _)] ⟨rfl, rfl, rfl, rfl, trivial⟩ ?_
     refine at_blk_normal (at_then_normal ?_)
     refine at_region ?_
     refine av rfl (r_move rfl) ?_
     refine av rfl (r_iadd rfl rfl) ?_
     refine av rfl (r_assign rfl) ?_
     refine nwt [(0, _), (1, _), (5, _), (6, _)] ⟨rfl, rfl, rfl, rfl, trivial⟩ ?_
     exact at_weak_k (ih _ _ _ hF K p23 c24) ⟨rfl, rfl, rfl, rfl, trivial⟩
    ·refine at_cond_false rfl h16 ?_
     refine at_skip ?_
     refine at_blk_normal (at_then_normal ?_)
     refine at_region ?_
     refine av rfl (r_move rfl) ?_
     refine av rfl (r_iadd rfl rfl) ?_
     refine av rfl (r_assign rfl) ?_
     refine nwt [(0, _), (1, _), (5, _), (6, _)] ⟨rfl, rfl, rfl, rfl, trivial⟩ ?_
     exact at_weak_k (ih _ _ _ hF K p7 c8) ⟨rfl, rfl, rfl, rfl, trivial⟩
   ·refine at_cond_false rfl h11 ?_
    refine at_exit ?_
    refine at_then_exit (at_then_exit ?_)
    obtain rfl := of_some hF
    exact at_weak_k (K p7 c8) ⟨rfl, trivial⟩
 ·skip
  intro p9 c10
  refine at_blk_same ?_
  refine at_then_normal ?_
  refine sr ?_
  refine av rfl (r_move rfl) ?_
  refine av rfl (r_assign rfl) ?_
  refine nwt [(4, _)] ⟨rfl, trivial⟩ ?_
  refine at_ret ?_
  have K := of_some hF
  subst K
  exact at_return1 rfl rfl (fun w1 hw => ⟨p9, c10, rfl, hw.own .z, hw.below⟩)
def crawlwayref26_Of.l0 (x0 : List S_api_Entry) (x1 : Int) (i5 : List S_api_Prefix) (i6 : Int) : Option (List S_api_Prefix) :=
  if (decide (i6 < (x0.length : Int))) = true then (if (0 : Int) ≤ i6 ∧ i6 < (x0.length : Int) then if ((lget x0 i6).f_Owner == x1) = true then (if (0 : Int) ≤ i6 ∧ i6 < (x0.length : Int) then if (i5.length + 1) * 32 ≤ 140737488355328 then crawlwayref26_Of.l0 x0 x1 (i5 ++ [(lget x0 i6).f_P]) (wr .i64 (i6 + 1)) else none else none) else (crawlwayref26_Of.l0 x0 x1 i5 (wr .i64 (i6 + 1))) else none) else (some i5)
  partial_fixpoint
def crawlwayref26_Of (x0 : List S_api_Entry) (x1 : Int) : Option (List S_api_Prefix) :=
  crawlwayref26_Of.l0 x0 x1 ([] : List S_api_Prefix) 0 >>= fun q4 => some q4
theorem crawlwayref26_Of_ok (x0 : List S_api_Entry) (p0_ : Option Addr) (c0_ : Nat) (x1 : Int) (r : List S_api_Prefix) (hF : crawlwayref26_Of x0 x1 = some r) (w : World) (hr0 : Row c_api_Entry w p0_ c0_ x0) :
    Calls Try.prog 43 #[.slice p0_ x0.length c0_, .int .i64 x1] w (fun e w' => ∃ p cap, e = .returned (.slice p r.length cap) ∧ Own c_api_Prefix 46 w.heap.size w' p cap r ∧ Below w.heap.size w w') := by
 unfold crawlwayref26_Of at hF
 refine calls_enter (l := [.slice p0_ x0.length c0_, .int .i64 x1]) Try.func43 rfl rfl rfl ?_
 refine at_start ?_
 refine at_weak [(0, _), (1, _)] ⟨rfl, rfl, trivial⟩ ?_
 refine sr ?_
 refine av rfl (r_assign rfl) ?_
 refine nws [(0, _), (1, _)] ⟨rfl, rfl, trivial⟩ ?_
 refine av rfl (r_assign rfl) ?_
 refine nwt [(0, _), (1, _), (5, _)] ⟨rfl, rfl, rfl, trivial⟩ ?_
 refine at_seq ?_
 refine sr ?_
 refine av rfl (r_assign rfl) ?_
 refine nwt [(0, _), (1, _), (5, _), (6, _)] ⟨rfl, rfl, rfl, rfl, trivial⟩ ?_
 refine at_block ?_
 refine at_own_nil c_api_Prefix 46 ?_
 refine at_weak [(0, _), (1, _), (5, .slice (nn 1) ([] : List S_api_Prefix).length 0), (6, _)] ⟨rfl, rfl, rfl, rfl, trivial⟩ ?_
 obtain ⟨q4, hq4, hF⟩ := of_bindM hF
 refine at_weak [(0, _), (1, _), (5, _), (6, _)] ⟨rfl, rfl, rfl, rfl, trivial⟩ ?_
 refine at_loop_n (B := 0) (A := fun Y => ∀ (p9 : Option Addr) (c10 : Nat), At 29 [(5, .slice p9 q4.length c10)] (Wd w [rowE c_api_Prefix 46 p9 c10 q4]) Y) ?_ ?_
 ·intro K
  refine crawlwayref26_Of.l0.partial_correctness x0 x1 (motive := fun i5 i6 x => KN (fun Y => ∀ (p9 : Option Addr) (c10 : Nat), At 29 [(5, .slice p9 x.length c10)] (Wd w [rowE c_api_Prefix 46 p9 c10 x]) Y) _ 0 → Round (fun Y => ∀ (p7 : Option Addr) (c8 : Nat), At 29 [(0, .slice p0_ x0.length c0_), (1, .int .i64 x1), (5, .slice p7 i5.length c8), (6, .int .i64 i6)] (Wd w [rowE c_api_Prefix 46 p7 c8 i5]) Y) _ _ _) ?_ _ _ _ hq4 K (nn 1) 0
  ·clear K hF
   intro g ih i5 i6 x hF K p7 c8
   refine at_round ?_
   refine at_seq ?_
   refine sr ?_
   refine av rfl (r_move rfl) ?_
   refine av rfl (r_move rfl) ?_
   refine av rfl (r_len_sl Try.underlying44 rfl) ?_
   refine av rfl (r_ilss rfl rfl) ?_
   refine nwt [(0, _), (1, _), (5, _), (6, _), (10, _)] ⟨rfl, rfl, rfl, rfl, rfl, trivial⟩ ?_
   rcases of_ite hF with ⟨h11, hF⟩ | ⟨h11, hF⟩
   ·refine at_cond_true rfl h11 ?_
    refine sn ?_
    refine at_seq ?_
    refine at_block ?_
    refine sr ?_
    refine av rfl (r_move rfl) ?_
    refine av rfl (r_move rfl) ?_
    obtain ⟨h12, hF⟩ := of_guard hF
    obtain ⟨b14, o15, hp13⟩ := row_ptr hr0 h12
    refine av rfl (r_idx Try.underlying44 Try.sizeOf52 rfl rfl h12 hp13) ?_
    refine av rfl (r_fieldAddr (fo := 18) Try.underlying52 rfl rfl (fun w => ⟨_, Try.sizeOf3 w⟩) rfl) ?_
    refine av rfl (r_load_cell Try.isAgg3 rfl (row_lens0 (y := (lget x0 i6).f_Owner) (fun _ h => h.below) hr0 h12 hp13 (Lens.comp (Lens.whole _ _) (fun z => { (lget x0 i6) with f_Owner := z }) (c_api_Entry_f_Owner (lget x0 i6))) rfl)) ?_
    refine av rfl (r_move rfl) ?_
    refine av rfl (r_ieql rfl rfl) ?_
    refine nwt [(0, _), (1, _), (5, _), (6, _), (19, _)] ⟨rfl, rfl, rfl, rfl, rfl, trivial⟩ ?_
    rcases of_ite hF with ⟨h16, hF⟩ | ⟨h16, hF⟩
    ·refine at_cond_true rfl h16 ?_
     refine at_region ?_
     refine av rfl (r_move rfl) ?_
     refine av rfl (r_move rfl) ?_
     refine av rfl (r_move rfl) ?_
     obtain ⟨h17, hF⟩ := of_guard hF
     obtain ⟨b19, o20, hp18⟩ := row_ptr hr0 h17
     refine av rfl (r_idx Try.underlying44 Try.sizeOf52 rfl rfl h17 hp18) ?_
     refine av rfl (r_fieldAddr (fo := 0) Try.underlying52 rfl rfl (fun w => ⟨_, Try.sizeOf46 w⟩) rfl) ?_
     refine av rfl (r_load_aggc (c := c_api_Prefix) (z := (lget x0 i6).f_P) Try.isAgg46 Try.sizeOf46 rfl (row_lens (y := (lget x0 i6).f_P) (fun _ h => h.below) hr0 h17 hp18 (Lens.comp (Lens.whole _ _) (fun z => { (lget x0 i6) with f_P := z }) (c_api_Entry_f_P (lget x0 i6))))) ?_
     refine at_litL (c := c_api_Prefix) ([zqV1_0] : List S_api_Prefix) ([(lget x0 i6).f_P] : List S_api_Prefix) Try.underlying35 Try.sizeOf46 Try.zeroValue46 rfl rfl rfl (by kernel_rfl) (fill_step (c := c_api_Prefix) (z := (lget x0 i6).f_P) rfl (Lens.all c_api_Prefix ([zqV1_0] : List S_api_Prefix) 0 (by decide)) rfl rfl) rfl ?_
     intro b21
     obtain ⟨h22, hF⟩ := of_guard hF
     refine at_append (z := .agg (Cd.cs c_api_Prefix zqV1_0).toArray) (c := c_api_Prefix) (ys := ([(lget x0 i6).f_P] : List S_api_Prefix)) (.s .z) Try.underlying35 infoV146 (by kernel_rfl) (by kernel_rfl) rfl rfl rfl rfl (fun _ hw => cells_src (hw.ok (Upd.mem .z))) (by kernel_rfl) h22 (app_small h22) rfl ?_
     intro p23 c24
     refine av rfl (r_assign rfl) ?_
     refine at_nil ?_
     refine at_drop (H := _) .z ?_
     refine at_weak [(0, _), (1, _), (5, _), (6, _)] ⟨rfl, rfl, rfl, rfl, trivial⟩ ?_
     refine at_blk_normal (at_then_normal ?_)
     refine at_region ?_
     refine av rfl (r_move rfl) ?_
     refine av rfl (r_iadd rfl rfl) ?_
     refine av rfl (r_assign rfl) ?_
     refine nwt [(0, _), (1, _), (5, _), (6, _)] ⟨rfl, rfl, rfl, rfl, trivial⟩ ?_
     exact at_weak_k (ih _ _ _ hF K p23 c24) ⟨rfl, rfl, rfl, rfl, trivial⟩
    ·refine at_cond_false rfl h16 ?_
     refine at_skip ?_
     refine at_blk_normal (at_then_normal ?_)
     refine at_region ?_
     refine av rfl (r_move rfl) ?_
     refine av rfl (r_iadd rfl rfl) ?_
     refine av rfl (r_assign rfl) ?_
     refine nwt [(0, _), (1, _), (5, _), (6, _)] ⟨rfl, rfl, rfl, rfl, trivial⟩ ?_
     exact at_weak_k (ih _ _ _ hF K p7 c8) ⟨rfl, rfl, rfl, rfl, trivial⟩
   ·refine at_cond_false rfl h11 ?_
    refine at_exit ?_
    refine at_then_exit (at_then_exit ?_)
    obtain rfl := of_some hF
    exact at_weak_k (K p7 c8) ⟨rfl, trivial⟩
 ·skip
  intro p9 c10
  refine at_blk_same ?_
  refine at_then_normal ?_
  refine sr ?_
  refine av rfl (r_move rfl) ?_
  refine av rfl (r_assign rfl) ?_
  refine nwt [(4, _)] ⟨rfl, trivial⟩ ?_
  refine at_ret ?_
  have K := of_some hF
  subst K
  exact at_return1 rfl rfl (fun w1 hw => ⟨p9, c10, rfl, hw.own .z, hw.below⟩)
def crawlwayref11_Same.l0 (x0 : List S_api_Prefix) (x1 : List S_api_Prefix) (i3 : Int) : Option (Ctl (Bool) (Unit)) :=
  if (decide (i3 < (x0.length : Int))) = true then (if (0 : Int) ≤ i3 ∧ i3 < (x0.length : Int) then if (0 : Int) ≤ i3 ∧ i3 < (x1.length : Int) then if (!decide (lget x0 i3 = lget x1 i3)) = true then (some (.ret false)) else (crawlwayref11_Same.l0 x0 x1 (wr .i64 (i3 + 1))) else none else none) else (some (.nx ()))
  partial_fixpoint
def crawlwayref11_Same (x0 : List S_api_Prefix) (x1 : List S_api_Prefix) : Option (Bool) :=
  if ((x0.length : Int) != (x1.length : Int)) = true then (some false) else (crawlwayref11_Same.l0 x0 x1 0 >>= fun q2 => match q2 with | .ret r' => some r' | .nx sq2 => (some true))
theorem crawlwayref11_Same_ok (x0 : List S_api_Prefix) (p0_ : Option Addr) (c0_ : Nat) (x1 : List S_api_Prefix) (p1_ : Option Addr) (c1_ : Nat) (r : Bool) (hF : crawlwayref11_Same x0 x1 = some r) (w : World) (hr0 : Row c_api_Prefix w p0_ c0_ x0) (hr1 : Row c_api_Prefix w p1_ c1_ x1) :
    Calls Try.prog 41 #[.slice p0_ x0.length c0_, .slice p1_ x1.length c1_] w (fun e w' => e = .returned (.bool r) ∧ Below w.heap.size w w') := by
 unfold crawlwayref11_Same at hF
 refine calls_enter (l := [.slice p0_ x0.length c0_, .slice p1_ x1.length c1_]) Try.func41 rfl rfl rfl ?_
 refine at_start ?_
 refine at_weak [(0, _), (1, _)] ⟨rfl, rfl, trivial⟩ ?_
 refine sr ?_
 refine av rfl (r_assign rfl) ?_
 refine nwt [(0, _), (1, _)] ⟨rfl, rfl, trivial⟩ ?_
 refine at_seq ?_
 refine sr ?_
 refine av rfl (r_move rfl) ?_
 refine av rfl (r_len_sl Try.underlying35 rfl) ?_
 refine av rfl (r_move rfl) ?_
 refine av rfl (r_len_sl Try.underlying35 rfl) ?_
 refine av rfl (r_ineq rfl rfl) ?_
 refine nwt [(0, _), (1, _), (10, _)] ⟨rfl, rfl, rfl, trivial⟩ ?_
 rcases of_ite hF with ⟨h1, hF⟩ | ⟨h1, hF⟩
 ·refine at_cond_true rfl h1 ?_
  refine sr ?_
  refine av rfl (r_assign rfl) ?_
  refine nwt [(4, _)] ⟨rfl, trivial⟩ ?_
  refine rt ?_
  have K := of_some hF
  subst K
  exact at_return1 rfl rfl (fun w1 hw => ⟨rfl, hw.below⟩)
 ·refine at_cond_false rfl h1 ?_
  refine sn ?_
  refine at_seq ?_
  refine sr ?_
  refine av rfl (r_assign rfl) ?_
  refine nwt [(0, _), (1, _), (5, _)] ⟨rfl, rfl, rfl, trivial⟩ ?_
  refine at_block ?_
  obtain ⟨q2, hq2, hF⟩ := of_bindM hF
  refine at_weak [(0, _), (1, _), (5, _)] ⟨rfl, rfl, rfl, trivial⟩ ?_
  refine at_loop_r (B := 0) (r := r) (q := q2) (A := fun (_ : Unit) Y => At 26 [] (Wd w []) Y) ?_ ?_
  ·intro K
   refine crawlwayref11_Same.l0.partial_correctness x0 x1 (motive := fun i3 x => KR (fun (_ : Unit) Y => At 26 [] (Wd w []) Y) _ 0 r x → Round (fun Y => At 26 [(0, .slice p0_ x0.length c0_), (1, .slice p1_ x1.length c1_), (5, .int .i64 i3)] (Wd w []) Y) _ _ _) ?_ _ _ hq2 K
   ·clear K hF
    intro g ih i3 x hF K
    refine at_round ?_
    refine at_seq ?_
    refine sr ?_
    refine av rfl (r_move rfl) ?_
    refine av rfl (r_move rfl) ?_
    refine av rfl (r_len_sl Try.underlying35 rfl) ?_
    refine av rfl (r_ilss rfl rfl) ?_
    refine nwt [(0, _), (1, _), (5, _), (14, _)] ⟨rfl, rfl, rfl, rfl, trivial⟩ ?_
    rcases of_ite hF with ⟨h4, hF⟩ | ⟨h4, hF⟩
    ·refine at_cond_true rfl h4 ?_
     refine sn ?_
     refine at_seq ?_
     refine at_block ?_
     refine at_seq ?_
     refine at_draw (by kernel_rfl) (by kernel_rfl) (fun _ h => h.drew) ?_
     refine atq_val rfl rfl rfl (r_move rfl) ?_
     refine atq_val rfl rfl rfl (r_move rfl) ?_
     obtain ⟨h5, hF⟩ := of_guard hF
     obtain ⟨b7, o8, hp6⟩ := row_ptr hr0 h5
     refine atq_val rfl rfl rfl (r_idx Try.underlying35 Try.sizeOf46 rfl rfl h5 hp6) ?_
     refine atq_val rfl rfl rfl (r_load_aggc (c := c_api_Prefix) (z := lget x0 i3) Try.isAgg46 Try.sizeOf46 rfl (row_cell (fun _ h => h.below) hr0 h5 hp6)) ?_
     refine atq_val rfl rfl rfl (r_move rfl) ?_
     refine atq_val rfl rfl rfl (r_move rfl) ?_
     obtain ⟨h9, hF⟩ := of_guard hF
     obtain ⟨b11, o12, hp10⟩ := row_ptr hr1 h9
     refine atq_val rfl rfl rfl (r_idx Try.underlying35 Try.sizeOf46 rfl rfl h9 hp10) ?_
     refine atq_val rfl rfl rfl (r_load_aggc (c := c_api_Prefix) (z := lget x1 i3) Try.isAgg46 Try.sizeOf46 rfl (row_cell (fun _ h => h.below) hr1 h9 hp10)) ?_
     refine atq_val rfl rfl rfl (r_eqagg (c := c_api_Prefix) (a := lget x0 i3) (b := lget x1 i3) (eq_api_Prefix_46) rfl Try.eqGuardType46 rfl rfl (.inr rfl) rfl) ?_
     refine atq_nil ?_
     refine at_weak [(0, _), (1, _), (5, _), (25, _)] ⟨rfl, rfl, rfl, rfl, trivial⟩ ?_
     refine at_then_normal ?_
     rcases of_ite hF with ⟨h13, hF⟩ | ⟨h13, hF⟩
     ·refine at_cond_true rfl h13 ?_
      refine sr ?_
      refine av rfl (r_assign rfl) ?_
      refine nwt [(4, _)] ⟨rfl, trivial⟩ ?_
      refine at_ret ?_
      refine at_blk_ret (at_then_ret (at_then_ret (at_blk_ret (at_then_ret ?_))))
      obtain rfl := of_some hF
      subst K
      exact at_return1 rfl rfl (fun w1 hw => ⟨rfl, hw.below⟩)
     ·refine at_cond_false rfl h13 ?_
      refine at_skip ?_
      refine at_blk_normal (at_then_normal ?_)
      refine at_region ?_
      refine av rfl (r_move rfl) ?_
      refine av rfl (r_iadd rfl rfl) ?_
      refine av rfl (r_assign rfl) ?_
      refine nwt [(0, _), (1, _), (5, _)] ⟨rfl, rfl, rfl, trivial⟩ ?_
      exact at_weak_k (ih _ _ hF K) ⟨rfl, rfl, rfl, trivial⟩
    ·refine at_cond_false rfl h4 ?_
     refine at_exit ?_
     refine at_then_exit (at_then_exit ?_)
     obtain rfl := of_some hF
     exact at_weak_k K trivial
  ·cases q2 with
   | ret r' => exact of_some hF
   | nx sq2 =>
    skip
    refine at_blk_same ?_
    refine at_then_normal ?_
    refine sr ?_
    refine av rfl (r_assign rfl) ?_
    refine nwt [(4, _)] ⟨rfl, trivial⟩ ?_
    refine at_ret ?_
    have K := of_some hF
    subst K
    exact at_return1 rfl rfl (fun w1 hw => ⟨rfl, hw.below⟩)
def slices_Grow_api_Entry (x1 : Int) : Option (List S_api_Entry) :=
  if (decide (x1 < 0)) = true then none else (if (decide (wr .i64 (x1 - (wr .i64 ((0 : Int) - (([] : List S_api_Entry).length : Int)))) > 0)) = true then (if 0 < wr .i64 (x1 - (wr .i64 ((0 : Int) - (([] : List S_api_Entry).length : Int)))) ∧ Int.toNat (wr .i64 (x1 - (wr .i64 ((0 : Int) - (([] : List S_api_Entry).length : Int))))) * 40 ≤ 140737488355328 then some ([] : List S_api_Entry) else none) else (some ([] : List S_api_Entry)))
theorem slices_Grow_api_Entry_ok (x1 : Int) (r : List S_api_Entry) (hF : slices_Grow_api_Entry x1 = some r) (w : World) :
    Calls Try.prog 94 #[.slice none ([] : List S_api_Entry).length 0, .int .i64 x1] w (fun e w' => ∃ p cap, e = .returned (.slice p r.length cap) ∧ Own c_api_Entry 52 w.heap.size w' p cap r ∧ Below w.heap.size w w') := by
 unfold slices_Grow_api_Entry at hF
 refine calls_enter (l := [.slice none ([] : List S_api_Entry).length 0, .int .i64 x1]) Try.func94 rfl rfl rfl ?_
 refine at_start ?_
 refine at_own_nil c_api_Entry 52 ?_
 refine at_weak [(0, _), (1, _)] ⟨rfl, rfl, trivial⟩ ?_
 refine sr ?_
 refine av rfl (r_assign rfl) ?_
 refine nwt [(0, _), (1, _)] ⟨rfl, rfl, trivial⟩ ?_
 refine at_seq ?_
 refine sr ?_
 refine av rfl (r_move rfl) ?_
 refine av rfl (r_ilss rfl rfl) ?_
 refine nwt [(0, _), (1, _), (6, _)] ⟨rfl, rfl, rfl, trivial⟩ ?_
 rcases of_ite hF with ⟨h1, hF⟩ | ⟨h1, hF⟩
 ·refine at_cond_true rfl h1 ?_
  cases hF
 ·refine at_cond_false rfl h1 ?_
  refine sn ?_
  refine at_seq ?_
  refine sr ?_
  refine av rfl (r_move rfl) ?_
  refine av rfl (r_move rfl) ?_
  refine av rfl (r_cap Try.underlying44 rfl) ?_
  refine av rfl (r_move rfl) ?_
  refine av rfl (r_len_sl Try.underlying44 rfl) ?_
  refine av rfl (r_isub rfl rfl) ?_
  refine av rfl (r_isub rfl rfl) ?_
  refine av rfl (r_assign rfl) ?_
  refine nws [(0, _), (1, _)] ⟨rfl, rfl, trivial⟩ ?_
  refine av rfl (r_move rfl) ?_
  refine av rfl (r_igtr rfl rfl) ?_
  refine nwt [(0, _), (1, _), (16, _)] ⟨rfl, rfl, rfl, trivial⟩ ?_
  rcases of_ite hF with ⟨h2, hF⟩ | ⟨h2, hF⟩
  ·refine at_cond_true rfl h2 ?_
   refine at_region ?_
   refine av rfl (r_move rfl) ?_
   refine av rfl (r_move rfl) ?_
   refine av rfl (r_cap Try.underlying44 rfl) ?_
   refine av rfl (r_cutNone Try.underlying44 Try.sizeOf52 rfl rfl (.inl ⟨rfl, rfl⟩)) ?_
   refine av rfl (r_move rfl) ?_
   obtain ⟨h3, hF⟩ := of_guard hF
   refine at_appZ c_api_Entry (z := .agg (Cd.cs c_api_Entry ({ f_P := zqV1_0, f_Owner := (0 : Int) } : S_api_Entry)).toArray) Try.underlying44 Try.underlying3 infoV152 (by kernel_rfl) (by kernel_rfl) rfl rfl rfl (by kernel_rfl) rfl h3 rfl ?_
   intro b4 c5
   refine av rfl (r_move rfl) ?_
   refine av rfl (r_len_sl Try.underlying44 rfl) ?_
   refine av rfl (r_cutNone Try.underlying44 Try.sizeOf52 rfl rfl (.inr ⟨_, rfl⟩)) ?_
   refine av rfl (r_assign rfl) ?_
   refine at_nil ?_
   refine at_drop (H := _) (.s .z) ?_
   refine at_weak [(0, _)] ⟨rfl, trivial⟩ ?_
   refine at_then_normal ?_
   refine sr ?_
   refine av rfl (r_move rfl) ?_
   refine av rfl (r_assign rfl) ?_
   refine nwt [(4, _)] ⟨rfl, trivial⟩ ?_
   refine at_ret ?_
   have K := of_some hF
   subst K
   exact at_return1 rfl rfl (fun w1 hw => ⟨(some ⟨b4, 0, none⟩), c5, rfl, hw.own .z, hw.below⟩)
  ·refine at_cond_false rfl h2 ?_
   refine sns ?_
   refine av rfl (r_move rfl) ?_
   refine av rfl (r_assign rfl) ?_
   refine nwt [(4, _)] ⟨rfl, trivial⟩ ?_
   refine at_ret ?_
   have K := of_some hF
   subst K
   exact at_return1 rfl rfl (fun w1 hw => ⟨none, 0, rfl, hw.own .z, hw.below⟩)
def slices_Concat_api_Entry.l0 (x0 : List (List S_api_Entry)) (i2 : Int) (i3 : Int) : Option (Int) :=
  if (decide (i3 < (x0.length : Int))) = true then (if (0 : Int) ≤ i3 ∧ i3 < (x0.length : Int) then if (decide (wr .i64 (i2 + ((lget x0 i3).length : Int)) < 0)) = true then none else (slices_Concat_api_Entry.l0 x0 (wr .i64 (i2 + ((lget x0 i3).length : Int))) (wr .i64 (i3 + 1))) else none) else (some i2)
  partial_fixpoint
def slices_Concat_api_Entry.l1 (x0 : List (List S_api_Entry)) (i22 : List S_api_Entry) (i23 : Int) : Option (List S_api_Entry) :=
  if (decide (i23 < (x0.length : Int))) = true then (if (0 : Int) ≤ i23 ∧ i23 < (x0.length : Int) then if (i22.length + (lget x0 i23).length) * 40 ≤ 140737488355328 then slices_Concat_api_Entry.l1 x0 (i22 ++ (lget x0 i23)) (wr .i64 (i23 + 1)) else none else none) else (some i22)
  partial_fixpoint
def slices_Concat_api_Entry (x0 : List (List S_api_Entry)) : Option (List S_api_Entry) :=
  slices_Concat_api_Entry.l0 x0 0 0 >>= fun q1 => slices_Grow_api_Entry q1 >>= fun t16 => slices_Concat_api_Entry.l1 x0 t16 0 >>= fun q21 => some q21
theorem slices_Concat_api_Entry_ok (x0 : List (List S_api_Entry)) (p0_ : Option Addr) (c0_ : Nat) (r : List S_api_Entry) (hF : slices_Concat_api_Entry x0 = some r) (w : World) (hr0 : NRow (cSl c_api_Entry) (N_sl c_api_Entry) w p0_ c0_ x0) :
    Calls Try.prog 82 #[.slice p0_ x0.length c0_] w (fun e w' => ∃ p cap, e = .returned (.slice p r.length cap) ∧ Own c_api_Entry 52 w.heap.size w' p cap r ∧ Below w.heap.size w w') := by
 unfold slices_Concat_api_Entry at hF
 refine calls_enter (l := [.slice p0_ x0.length c0_]) Try.func82 rfl rfl rfl ?_
 refine at_start ?_
 refine at_weak [(0, _)] ⟨rfl, trivial⟩ ?_
 refine sr ?_
 refine av rfl (r_assign rfl) ?_
 refine nws [(0, _)] ⟨rfl, trivial⟩ ?_
 refine av rfl (r_assign rfl) ?_
 refine nwt [(0, _), (3, _)] ⟨rfl, rfl, trivial⟩ ?_
 refine at_seq ?_
 refine sr ?_
 refine av rfl (r_move rfl) ?_
 refine av rfl (r_len_sl Try.underlying133 rfl) ?_
 refine av rfl (r_move rfl) ?_
 refine nwt [(0, _), (3, _), (9, _), (10, _), (11, _)] ⟨rfl, rfl, rfl, rfl, rfl, trivial⟩ ?_
 refine at_block ?_
 obtain ⟨q1, hq1, hF⟩ := of_bindM hF
 refine at_weak [(0, _), (3, _), (9, _), (10, _), (11, _)] ⟨rfl, rfl, rfl, rfl, rfl, trivial⟩ ?_
 refine at_loop_n (B := 0) (A := fun Y => At 36 [(0, .slice p0_ x0.length c0_), (3, .int .i64 q1)] (Wd w []) Y) ?_ ?_
 ·intro K
  refine slices_Concat_api_Entry.l0.partial_correctness x0 (motive := fun i2 i3 x => KN (fun Y => At 36 [(0, .slice p0_ x0.length c0_), (3, .int .i64 x)] (Wd w []) Y) _ 0 → Round (fun Y => At 36 [(0, .slice p0_ x0.length c0_), (3, .int .i64 i2), (9, .slice p0_ x0.length c0_), (10, .int .i64 (x0.length : Int)), (11, .int .i64 i3)] (Wd w []) Y) _ _ _) ?_ _ _ _ hq1 K
  ·clear K hF
   intro g ih i2 i3 x hF K
   refine at_round ?_
   refine sr ?_
   refine av rfl (r_ilss rfl rfl) ?_
   refine nwt [(0, _), (3, _), (9, _), (10, _), (11, _), (12, _)] ⟨rfl, rfl, rfl, rfl, rfl, rfl, trivial⟩ ?_
   refine at_seq ?_
   rcases of_ite hF with ⟨h4, hF⟩ | ⟨h4, hF⟩
   ·refine at_cond_true rfl h4 ?_
    refine sn ?_
    refine at_seq ?_
    refine at_block ?_
    refine sr ?_
    obtain ⟨h5, hF⟩ := of_guard hF
    obtain ⟨zs9, hz10, hr11, hn12⟩ := hr0
    obtain ⟨b7, o8, hp6⟩ := row_ptr hr11 (zidx hz10 h5)
    obtain ⟨g13, hg14⟩ := zget hz10 i3
    refine av rfl (r_idx Try.underlying133 Try.sizeOf44 rfl rfl h5 hp6) ?_
    refine av rfl (r_load_cell Try.isAgg44 rfl (ncell0 (v := .slice g13.1 (List.length (lget x0 i3)) g13.2) (fun _ h => h.below) hr11 (zidx hz10 h5) hp6 hg14 rfl)) ?_
    refine av rfl (r_assign rfl) ?_
    refine nws [(0, _), (3, _), (5, _), (9, _), (10, _), (11, _)] ⟨rfl, rfl, rfl, rfl, rfl, rfl, trivial⟩ ?_
    refine av rfl (r_move rfl) ?_
    refine av rfl (r_move rfl) ?_
    refine av rfl (r_len_sl Try.underlying44 rfl) ?_
    refine av rfl (r_iadd rfl rfl) ?_
    refine av rfl (r_assign rfl) ?_
    refine nws [(0, _), (3, _), (9, _), (10, _), (11, _)] ⟨rfl, rfl, rfl, rfl, rfl, trivial⟩ ?_
    refine av rfl (r_move rfl) ?_
    refine av rfl (r_ilss rfl rfl) ?_
    refine nwt [(0, _), (3, _), (9, _), (10, _), (11, _), (20, _)] ⟨rfl, rfl, rfl, rfl, rfl, rfl, trivial⟩ ?_
    rcases of_ite hF with ⟨h15, hF⟩ | ⟨h15, hF⟩
    ·refine at_cond_true rfl h15 ?_
     cases hF
    ·refine at_cond_false rfl h15 ?_
     refine at_skip ?_
     refine at_blk_normal (at_then_normal ?_)
     refine at_region ?_
     refine av rfl (r_iadd rfl rfl) ?_
     refine av rfl (r_move rfl) ?_
     refine nwt [(0, _), (3, _), (9, _), (10, _), (11, _)] ⟨rfl, rfl, rfl, rfl, rfl, trivial⟩ ?_
     exact at_weak_k (ih _ _ _ hF K) ⟨rfl, rfl, rfl, rfl, rfl, trivial⟩
   ·refine at_cond_false rfl h4 ?_
    refine at_exit ?_
    refine at_then_exit (at_then_exit ?_)
    obtain rfl := of_some hF
    exact at_weak_k K ⟨rfl, rfl, trivial⟩
 ·skip
  skip
  refine at_blk_same ?_
  refine at_then_normal ?_
  refine sr ?_
  refine av rfl (r_move rfl) ?_
  obtain ⟨t16, ht16, hF⟩ := of_bindM hF
  refine at_callO (c := c_api_Entry) (e := 52) (ys := t16) (V := fun p cap => .slice p t16.length cap) Try.func94 rfl (by kernel_rfl) rfl rfl (fun w hw => slices_Grow_api_Entry_ok _ _ ht16 w) ?_
  intro p17 c18
  refine av rfl (r_assign rfl) ?_
  refine nwt [(0, _), (6, _)] ⟨rfl, rfl, trivial⟩ ?_
  refine at_seq ?_
  refine sr ?_
  refine av rfl (r_move rfl) ?_
  refine av rfl (r_len_sl Try.underlying133 rfl) ?_
  refine av rfl (r_move rfl) ?_
  refine nwt [(6, _), (25, _), (26, _), (27, _)] ⟨rfl, rfl, rfl, rfl, trivial⟩ ?_
  refine at_block ?_
  obtain ⟨q21, hq21, hF⟩ := of_bindM hF
  refine at_weak [(6, _), (25, _), (26, _), (27, _)] ⟨rfl, rfl, rfl, rfl, trivial⟩ ?_
  refine at_loop_n (B := 2) (A := fun Y => ∀ (p26 : Option Addr) (c27 : Nat), At 36 [(6, .slice p26 q21.length c27)] (Wd w [rowE c_api_Entry 52 p26 c27 q21]) Y) ?_ ?_
  ·intro K
   refine slices_Concat_api_Entry.l1.partial_correctness x0 (motive := fun i22 i23 x => KN (fun Y => ∀ (p26 : Option Addr) (c27 : Nat), At 36 [(6, .slice p26 x.length c27)] (Wd w [rowE c_api_Entry 52 p26 c27 x]) Y) _ 2 → Round (fun Y => ∀ (p24 : Option Addr) (c25 : Nat), At 36 [(6, .slice p24 i22.length c25), (25, .slice p0_ x0.length c0_), (26, .int .i64 (x0.length : Int)), (27, .int .i64 i23)] (Wd w [rowE c_api_Entry 52 p24 c25 i22]) Y) _ _ _) ?_ _ _ _ hq21 K p17 c18
   ·clear K hF
    intro g ih i22 i23 x hF K p24 c25
    refine at_round ?_
    refine sr ?_
    refine av rfl (r_ilss rfl rfl) ?_
    refine nwt [(6, _), (25, _), (26, _), (27, _), (28, _)] ⟨rfl, rfl, rfl, rfl, rfl, trivial⟩ ?_
    refine at_seq ?_
    rcases of_ite hF with ⟨h28, hF⟩ | ⟨h28, hF⟩
    ·refine at_cond_true rfl h28 ?_
     refine sn ?_
     refine at_seq ?_
     refine at_block ?_
     refine sr ?_
     obtain ⟨h29, hF⟩ := of_guard hF
     obtain ⟨zs33, hz34, hr35, hn36⟩ := hr0
     obtain ⟨b31, o32, hp30⟩ := row_ptr hr35 (zidx hz34 h29)
     obtain ⟨g37, hg38⟩ := zget hz34 i23
     refine av rfl (r_idx Try.underlying133 Try.sizeOf44 rfl rfl h29 hp30) ?_
     refine av rfl (r_load_cell Try.isAgg44 rfl (ncell0 (v := .slice g37.1 (List.length (lget x0 i23)) g37.2) (fun _ h => h.below) hr35 (zidx hz34 h29) hp30 hg38 rfl)) ?_
     refine av rfl (r_assign rfl) ?_
     refine nwt [(6, _), (8, _), (25, _), (26, _), (27, _)] ⟨rfl, rfl, rfl, rfl, rfl, trivial⟩ ?_
     refine at_region ?_
     refine av rfl (r_move rfl) ?_
     refine av rfl (r_move rfl) ?_
     obtain ⟨h39, hF⟩ := of_guard hF
     refine at_append_row (z := .agg (Cd.cs c_api_Entry ({ f_P := zqV1_0, f_Owner := (0 : Int) } : S_api_Entry)).toArray) (c := c_api_Entry) (ys := (lget x0 i23)) .z Try.underlying44 infoV152 (by kernel_rfl) (by kernel_rfl) rfl rfl rfl (fun w1 hw => ((nz hg38 hn36 (zidx hz34 h29)).below hw.below)) (by kernel_rfl) h39 (app_small h39) rfl ?_
     intro p40 c41
     refine av rfl (r_assign rfl) ?_
     refine at_nil ?_
     refine at_weak [(6, _), (25, _), (26, _), (27, _)] ⟨rfl, rfl, rfl, rfl, trivial⟩ ?_
     refine at_blk_normal (at_then_normal ?_)
     refine at_region ?_
     refine av rfl (r_iadd rfl rfl) ?_
     refine av rfl (r_move rfl) ?_
     refine nwt [(6, _), (25, _), (26, _), (27, _)] ⟨rfl, rfl, rfl, rfl, trivial⟩ ?_
     exact at_weak_k (ih _ _ _ hF K p40 c41) ⟨rfl, rfl, rfl, rfl, trivial⟩
    ·refine at_cond_false rfl h28 ?_
     refine at_exit ?_
     refine at_then_exit (at_then_exit ?_)
     obtain rfl := of_some hF
     exact at_weak_k (K p24 c25) ⟨rfl, trivial⟩
  ·skip
   intro p26 c27
   refine at_blk_same ?_
   refine at_then_normal ?_
   refine sr ?_
   refine av rfl (r_move rfl) ?_
   refine av rfl (r_assign rfl) ?_
   refine nwt [(2, _)] ⟨rfl, trivial⟩ ?_
   refine at_ret ?_
   have K := of_some hF
   subst K
   exact at_return1 rfl rfl (fun w1 hw => ⟨p26, c27, rfl, hw.own .z, hw.below⟩)
end Go.Proofs.Ythccncpephpdjaa
namespace Go.Proofs.Ythccncpephpdjaa
open E Go.RowKit
abbrev zqV2_0 : S_api_Prefix := ({ f_A := ({ f_V := (0 : Int), f_B := (Vector.replicate 16 (0 : Int) : (Vector Int 16)) } : S_api_Addr), f_Bits := (0 : Int) } : S_api_Prefix)
abbrev zqV2_1 : S_allowed_Table := ({ f_owners := (none : Option Nat), f_four := (none : Option Nat), f_six := (none : Option Nat) } : S_allowed_Table)
abbrev zqV2_2 : S_api_Addr := ({ f_V := (0 : Int), f_B := (Vector.replicate 16 (0 : Int) : (Vector Int 16)) } : S_api_Addr)
theorem infoV246_is : (Try.prog.info? 46).isSome = true := by kernel_rfl
noncomputable def infoV246_v : TypeInfo := (Try.prog.info? 46).get infoV246_is
theorem infoV246 : Try.prog.info? 46 = some infoV246_v := (Option.some_get _).symm
def allowed_New (h_ : List HV) : Option (Option Nat × List HV) :=
  trie_New (h_ ++ [HV.M82 []]) 4 >>= fun t2 => if vp (List.length (h_ ++ [HV.M82 []])) (some (List.length h_)) = true then trie_New t2.2 6 >>= fun t7 => if vp (List.length t2.2) (some (List.length h_)) = true then if vp (List.length t2.2) t2.1 = true then if hvp hK t7.2 (HV.allowed_Table ({ { { ({ f_owners := (none : Option Nat), f_four := (none : Option Nat), f_six := (none : Option Nat) } : S_allowed_Table) with f_owners := some (List.length h_) } with f_four := t2.1 } with f_six := t7.1 })) = true then some (some (List.length t7.2), t7.2 ++ [HV.allowed_Table ({ { { ({ f_owners := (none : Option Nat), f_four := (none : Option Nat), f_six := (none : Option Nat) } : S_allowed_Table) with f_owners := some (List.length h_) } with f_four := t2.1 } with f_six := t7.1 })]) else none else none else none else none
theorem allowed_New_ok {h_ : List HV} {r : Option Nat × List HV} (hF : allowed_New h_ = some r) : ∀ {w0 w : World} {G_ : List Ent} {g0_ : Nat → Nat} {n0_ : Nat} {gh : Nat → Nat} (hw_ : Wd w0 (heapE hK g0_ n0_ gh h_ :: G_) w),
    Calls Try.prog 36 #[] w (fun e w' => ∃ (gh : Nat → Nat), e = .returned (pv gh r.1) ∧ Wd w0 (heapE hK g0_ n0_ gh r.2 :: G_) w') := by
 intro w0 w G_ g0_ n0_ gh hw_
 unfold allowed_New at hF
 refine calls_enter (l := []) Try.func36 rfl rfl rfl ?_
 refine at_enterF hw_ ?_
 refine at_weak [] trivial ?_
 refine sr ?_
 refine av rfl (r_assign rfl) ?_
 refine nws [] trivial ?_
 refine at_hmakeMap c_api_Prefix (cInt .i64) false (v := HV.M82 []) .z rfl (fun _ _ h => h) rfl ?_
 intro gh hg1
 obtain ⟨t2, ht2, hF⟩ := of_bindM hF
 obtain ⟨h3, hF⟩ := of_guard hF
 refine at_callH (γ := Unit) (h' := t2.2) (V := fun z gh => pv gh t2.1) (T := fun z => (G_)) Try.func24 rfl (by kernel_rfl) rfl rfl (fun w hw => (trie_New_ok ht2 hw).mono (by rintro e w' ⟨gh, he, hw'⟩; exact ⟨gh, (), he, hw'⟩)) ?_
 rintro gh ⟨⟩ hg4
 refine at_ov (t := 1) rfl (mv_ext hg4 h3) ?_
 obtain ⟨t7, ht7, hF⟩ := of_bindM hF
 obtain ⟨h8, hF⟩ := of_guard hF
 obtain ⟨h9, hF⟩ := of_guard hF
 refine at_callH (γ := Unit) (h' := t7.2) (V := fun z gh => pv gh t7.1) (T := fun z => (G_)) Try.func24 rfl (by kernel_rfl) rfl rfl (fun w hw => (trie_New_ok ht7 hw).mono (by rintro e w' ⟨gh, he, hw'⟩; exact ⟨gh, (), he, hw'⟩)) ?_
 rintro gh ⟨⟩ hg10
 refine at_ov (t := 1) rfl (mv_ext hg10 h8) ?_
 refine at_ov (t := 2) rfl (pv_ext hg10 h9) ?_
 refine av rfl (r_build_struct (zs := Cd.cs (c_allowed_Table gh) zqV2_1) (cs := Cd.cs (c_allowed_Table gh) ({ { { zqV2_1 with f_owners := some (List.length h_) } with f_four := t2.1 } with f_six := t7.1 })) Try.underlying84 Try.zeroValue84 rfl (places_allowed_Table_84) rfl (fill_step (c := (cMapP gh)) (z := some (List.length h_)) rfl (c_allowed_Table_f_owners gh zqV2_1) rfl (fill_step (c := (cPtr gh)) (z := t2.1) rfl (c_allowed_Table_f_four gh ({ zqV2_1 with f_owners := some (List.length h_) })) rfl (fill_step (c := (cPtr gh)) (z := t7.1) rfl (c_allowed_Table_f_six gh ({ { zqV2_1 with f_owners := some (List.length h_) } with f_four := t2.1 })) rfl rfl)))) ?_
 obtain ⟨h15, hF⟩ := of_guard hF
 refine at_box (cs := Cd.cs (c_allowed_Table gh) ({ { { zqV2_1 with f_owners := some (List.length h_) } with f_four := t2.1 } with f_six := t7.1 })) rfl rfl rfl ?_
 intro b_
 refine at_hpush (v := HV.allowed_Table ({ { { zqV2_1 with f_owners := some (List.length h_) } with f_four := t2.1 } with f_six := t7.1 })) .z h15 (fun g' hg' => hK.ext gh g' (HV.allowed_Table ({ { { zqV2_1 with f_owners := some (List.length h_) } with f_four := t2.1 } with f_six := t7.1 })) _ hg' rfl) ?_
 intro gh hg14
 refine av rfl (r_assign rfl) ?_
 refine nwt [(0, _)] ⟨rfl, trivial⟩ ?_
 refine at_ret ?_
 have K := of_some hF
 subst K
 exact at_return1 rfl rfl (fun w1 hw => ⟨gh, rfl, hw⟩)
def allowed_Table_made (h_ : List HV) (x0 : Option Nat) : Option (Bool) :=
  if (!(Option.isNone x0)) = true then (hn_allowed_Table h_ x0 >>= fun t2 => some (!(Option.isNone t2.2.f_owners))) else (some false)
theorem allowed_Table_made_ok {h_ : List HV} {x0 : Option Nat} {r : Bool} (hF : allowed_Table_made h_ x0 = some r) : ∀ {w0 w : World} {G_ : List Ent} {g0_ : Nat → Nat} {n0_ : Nat} {gh : Nat → Nat} (hw_ : Wd w0 (heapE hK g0_ n0_ gh h_ :: G_) w),
    Calls Try.prog 79 #[pv gh x0] w (fun e w' => e = .returned (.bool r) ∧ Wd w0 (heapE hK g0_ n0_ gh h_ :: G_) w') := by
 intro w0 w G_ g0_ n0_ gh hw_
 unfold allowed_Table_made at hF
 refine calls_enter (l := [pv gh x0]) Try.func79 rfl rfl rfl ?_
 refine at_enterF hw_ ?_
 refine at_weak [(0, _)] ⟨rfl, trivial⟩ ?_
 refine sr ?_
 refine av rfl (r_assign rfl) ?_
 refine nws [(0, _)] ⟨rfl, trivial⟩ ?_
 refine av rfl (r_move rfl) ?_
 refine av rfl (r_pnil (p := x0) Try.underlying68 rfl rfl (.inr rfl) rfl) ?_
 refine av rfl (r_move rfl) ?_
 rcases of_ite hF with ⟨h1, hF⟩ | ⟨h1, hF⟩
 ·refine at_fix (g := 5) rfl h1 ?_
  refine at_guard_yes rfl rfl rfl ?_
  refine av rfl (r_move rfl) ?_
  refine at_guard_yes rfl rfl rfl ?_
  obtain ⟨t2, ht2, hF⟩ := of_bindM hF
  obtain ⟨ha3, hb4⟩ := hn_allowed_Table_at ht2
  refine av rfl (r_npc rfl ha3) ?_
  refine at_guard_yes rfl rfl rfl ?_
  refine av rfl (r_fieldAddr (fo := 0) Try.underlying84 rfl rfl (fun w => ⟨_, Try.sizeOf82 w⟩) rfl) ?_
  refine at_guard_yes rfl rfl rfl ?_
  refine av rfl (r_load_cell Try.isAgg82 rfl (hcell0 (c := (cMapP gh)) (y := t2.2.f_owners) .z hb4 (fun _ h => h) (Lens.comp (Lens.whole _ _) (fun z => { t2.2 with f_owners := z }) (c_allowed_Table_f_owners gh t2.2)) rfl)) ?_
  refine at_guard_yes rfl rfl rfl ?_
  refine av rfl (r_mnil (p := t2.2.f_owners) Try.underlying82 rfl rfl (.inr rfl) rfl) ?_
  refine av rfl (r_pick rfl rfl rfl) ?_
  refine av rfl (r_assign rfl) ?_
  refine nwt [(2, _)] ⟨rfl, trivial⟩ ?_
  refine at_ret ?_
  have K := of_some hF
  subst K
  exact at_return1 rfl rfl (fun w1 hw => ⟨rfl, hw⟩)
 ·refine at_fix (g := 5) rfl h1 ?_
  refine at_guard_no rfl rfl rfl rfl rfl ?_
  refine at_guard_no rfl rfl rfl rfl rfl ?_
  refine at_guard_no rfl rfl rfl rfl rfl ?_
  refine at_guard_no rfl rfl rfl rfl rfl ?_
  refine at_guard_no rfl rfl rfl rfl rfl ?_
  refine av rfl (r_pick rfl rfl rfl) ?_
  refine av rfl (r_assign rfl) ?_
  refine nwt [(2, _)] ⟨rfl, trivial⟩ ?_
  refine at_ret ?_
  have K := of_some hF
  subst K
  exact at_return1 rfl rfl (fun w1 hw => ⟨rfl, hw⟩)
def allowed_Table_own (h_ : List HV) (x0 : Option Nat) (x1 : S_api_Addr) : Option (Option Nat) :=
  if (x1.f_V == 4) = true then (hn_allowed_Table h_ x0 >>= fun t3 => some t3.2.f_four) else (hn_allowed_Table h_ x0 >>= fun t6 => some t6.2.f_six)
theorem allowed_Table_own_ok {h_ : List HV} {x0 : Option Nat} {x1 : S_api_Addr} {r : Option Nat} (hF : allowed_Table_own h_ x0 x1 = some r) : ∀ {w0 w : World} {G_ : List Ent} {g0_ : Nat → Nat} {n0_ : Nat} {gh : Nat → Nat} (hw_ : Wd w0 (heapE hK g0_ n0_ gh h_ :: G_) w),
    Calls Try.prog 80 #[pv gh x0, .agg (Cd.cs c_api_Addr x1).toArray] w (fun e w' => e = .returned (pv gh r) ∧ Wd w0 (heapE hK g0_ n0_ gh h_ :: G_) w') := by
 intro w0 w G_ g0_ n0_ gh hw_
 unfold allowed_Table_own at hF
 refine calls_enter (l := [pv gh x0, .agg (Cd.cs c_api_Addr x1).toArray]) Try.func80 rfl rfl rfl ?_
 refine at_enterF hw_ ?_
 refine at_weak [(0, _), (1, _)] ⟨rfl, rfl, trivial⟩ ?_
 refine sr ?_
 refine at_box (cs := Cd.cs c_api_Addr x1) rfl rfl rfl ?_
 intro b1
 refine av rfl (r_assign rfl) ?_
 refine nwt [(0, _), (3, _)] ⟨rfl, rfl, trivial⟩ ?_
 refine at_seq ?_
 refine sr ?_
 refine av rfl (r_fieldAddr (fo := 0) Try.underlying32 rfl rfl (fun w => ⟨_, Try.sizeOf3 w⟩) rfl) ?_
 refine av rfl (r_load_cell Try.isAgg3 rfl (lens_cell0 (c := (cInt .i64)) (y := x1.f_V) .z (Lens.comp (Lens.whole _ _) (fun z => { x1 with f_V := z }) (c_api_Addr_f_V x1)) rfl)) ?_
 refine av rfl (r_ieql rfl rfl) ?_
 refine at_nil ?_
 refine at_drop (H := _) .z ?_
 refine at_weak [(0, _), (7, _)] ⟨rfl, rfl, trivial⟩ ?_
 refine at_then_normal ?_
 rcases of_ite hF with ⟨h2, hF⟩ | ⟨h2, hF⟩
 ·refine at_cond_true rfl h2 ?_
  refine sr ?_
  refine av rfl (r_move rfl) ?_
  obtain ⟨t3, ht3, hF⟩ := of_bindM hF
  obtain ⟨ha4, hb5⟩ := hn_allowed_Table_at ht3
  refine av rfl (r_npc rfl ha4) ?_
  refine av rfl (r_fieldAddr (fo := 1) Try.underlying84 rfl rfl (fun w => ⟨_, Try.sizeOf42 w⟩) rfl) ?_
  refine av rfl (r_load_cell Try.isAgg42 rfl (hcell0 (c := (cPtr gh)) (y := t3.2.f_four) .z hb5 (fun _ h => h) (Lens.comp (Lens.whole _ _) (fun z => { t3.2 with f_four := z }) (c_allowed_Table_f_four gh t3.2)) rfl)) ?_
  refine av rfl (r_assign rfl) ?_
  refine nwt [(4, _)] ⟨rfl, trivial⟩ ?_
  refine rt ?_
  have K := of_some hF
  subst K
  exact at_return1 rfl rfl (fun w1 hw => ⟨rfl, hw⟩)
 ·refine at_cond_false rfl h2 ?_
  refine sns ?_
  refine av rfl (r_move rfl) ?_
  obtain ⟨t6, ht6, hF⟩ := of_bindM hF
  obtain ⟨ha7, hb8⟩ := hn_allowed_Table_at ht6
  refine av rfl (r_npc rfl ha7) ?_
  refine av rfl (r_fieldAddr (fo := 2) Try.underlying84 rfl rfl (fun w => ⟨_, Try.sizeOf42 w⟩) rfl) ?_
  refine av rfl (r_load_cell Try.isAgg42 rfl (hcell0 (c := (cPtr gh)) (y := t6.2.f_six) .z hb8 (fun _ h => h) (Lens.comp (Lens.whole _ _) (fun z => { t6.2 with f_six := z }) (c_allowed_Table_f_six gh t6.2)) rfl)) ?_
  refine av rfl (r_assign rfl) ?_
  refine nwt [(4, _)] ⟨rfl, trivial⟩ ?_
  refine at_ret ?_
  have K := of_some hF
  subst K
  exact at_return1 rfl rfl (fun w1 hw => ⟨rfl, hw⟩)
def allowed_Table_Len (h_ : List HV) (x0 : Option Nat) : Option (Int) :=
  allowed_Table_made h_ x0 >>= fun t1 => if (!t1) = true then (some 0) else (hn_allowed_Table h_ x0 >>= fun t3 => hn_M82 h_ t3.2.f_owners >>= fun t6 => some (List.length t6.2 : Int))
theorem allowed_Table_Len_ok {h_ : List HV} {x0 : Option Nat} {r : Int} (hF : allowed_Table_Len h_ x0 = some r) : ∀ {w0 w : World} {G_ : List Ent} {g0_ : Nat → Nat} {n0_ : Nat} {gh : Nat → Nat} (hw_ : Wd w0 (heapE hK g0_ n0_ gh h_ :: G_) w),
    Calls Try.prog 38 #[pv gh x0] w (fun e w' => e = .returned (.int .i64 r) ∧ Wd w0 (heapE hK g0_ n0_ gh h_ :: G_) w') := by
 intro w0 w G_ g0_ n0_ gh hw_
 unfold allowed_Table_Len at hF
 refine calls_enter (l := [pv gh x0]) Try.func38 rfl rfl rfl ?_
 refine at_enterF hw_ ?_
 refine at_weak [(0, _)] ⟨rfl, trivial⟩ ?_
 refine sr ?_
 refine av rfl (r_assign rfl) ?_
 refine nwt [(0, _)] ⟨rfl, trivial⟩ ?_
 refine at_seq ?_
 refine sr ?_
 refine av rfl (r_move rfl) ?_
 obtain ⟨t1, ht1, hF⟩ := of_bindM hF
 refine at_callR .z Try.func79 rfl (by kernel_rfl) rfl rfl (fun w hw => allowed_Table_made_ok ht1 hw) ?_
 refine av rfl (r_not rfl) ?_
 refine nwt [(0, _), (5, _)] ⟨rfl, rfl, trivial⟩ ?_
 rcases of_ite hF with ⟨h2, hF⟩ | ⟨h2, hF⟩
 ·refine at_cond_true rfl h2 ?_
  refine sr ?_
  refine av rfl (r_assign rfl) ?_
  refine nwt [(2, _)] ⟨rfl, trivial⟩ ?_
  refine rt ?_
  have K := of_some hF
  subst K
  exact at_return1 rfl rfl (fun w1 hw => ⟨rfl, hw⟩)
 ·refine at_cond_false rfl h2 ?_
  refine sns ?_
  refine av rfl (r_move rfl) ?_
  obtain ⟨t3, ht3, hF⟩ := of_bindM hF
  obtain ⟨ha4, hb5⟩ := hn_allowed_Table_at ht3
  refine av rfl (r_npc rfl ha4) ?_
  refine av rfl (r_fieldAddr (fo := 0) Try.underlying84 rfl rfl (fun w => ⟨_, Try.sizeOf82 w⟩) rfl) ?_
  refine av rfl (r_load_cell Try.isAgg82 rfl (hcell0 (c := (cMapP gh)) (y := t3.2.f_owners) .z hb5 (fun _ h => h) (Lens.comp (Lens.whole _ _) (fun z => { t3.2 with f_owners := z }) (c_allowed_Table_f_owners gh t3.2)) rfl)) ?_
  obtain ⟨t6, ht6, hF⟩ := of_bindM hF
  obtain ⟨ha7, hb8⟩ := hn_M82_at ht6
  refine av rfl (r_hlen Try.underlying82 rfl ha7 (hmap .z hb8 (fun _ h => h))) ?_
  refine av rfl (r_assign rfl) ?_
  refine nwt [(2, _)] ⟨rfl, trivial⟩ ?_
  refine at_ret ?_
  have K := of_some hF
  subst K
  exact at_return1 rfl rfl (fun w1 hw => ⟨rfl, hw⟩)
def allowed_Table_Put (h_ : List HV) (x0 : Option Nat) (x1 : S_api_Prefix) (x2 : Int) : Option (Int × List HV) :=
  allowed_Table_made h_ x0 >>= fun t2 => if (!t2) = true then (some (2, h_)) else (hn_allowed_Table h_ x0 >>= fun t4 => hn_M82 h_ t4.2.f_owners >>= fun t7 => cidr_Right x1 >>= fun t10 => if (!t10) = true then (some (1, h_)) else (if (!((mfind t7.2 x1).isSome)) = true then (hn_allowed_Table h_ x0 >>= fun t13 => hn_M82 h_ t13.2.f_owners >>= fun t16 => if (decide ((List.length t16.2 : Int) ≥ 64)) = true then (some (7, h_)) else (hn_allowed_Table h_ x0 >>= fun t20 => hn_M82 h_ t20.2.f_owners >>= fun t23 => allowed_Table_own (List.set h_ t23.1 (HV.M82 (mput t23.2 x1 x2))) x0 x1.f_A >>= fun t26 => trie_Trie_Put (List.set h_ t23.1 (HV.M82 (mput t23.2 x1 x2))) t26 x1 x2 >>= fun t28 => some (t28.1, t28.2))) else (hn_allowed_Table h_ x0 >>= fun t32 => hn_M82 h_ t32.2.f_owners >>= fun t35 => allowed_Table_own (List.set h_ t35.1 (HV.M82 (mput t35.2 x1 x2))) x0 x1.f_A >>= fun t38 => trie_Trie_Put (List.set h_ t35.1 (HV.M82 (mput t35.2 x1 x2))) t38 x1 x2 >>= fun t40 => some (t40.1, t40.2))))
set_option maxRecDepth 10000 in
set_option maxHeartbeats 3200000 in
theorem allowed_Table_Put_ok {h_ : List HV} {x0 : Option Nat} {x1 : S_api_Prefix} {x2 : Int} {r : Int × List HV} (hF : allowed_Table_Put h_ x0 x1 x2 = some r) : ∀ {w0 w : World} {G_ : List Ent} {g0_ : Nat → Nat} {n0_ : Nat} {gh : Nat → Nat} (hw_ : Wd w0 (heapE hK g0_ n0_ gh h_ :: G_) w),
    Calls Try.prog 37 #[pv gh x0, .agg (Cd.cs c_api_Prefix x1).toArray, .int .i64 x2] w (fun e w' => ∃ (gh : Nat → Nat), e = .returned (.int .i64 r.1) ∧ Wd w0 (heapE hK g0_ n0_ gh r.2 :: G_) w') := by
 intro w0 w G_ g0_ n0_ gh hw_
 unfold allowed_Table_Put at hF
 refine calls_enter (l := [pv gh x0, .agg (Cd.cs c_api_Prefix x1).toArray, .int .i64 x2]) Try.func37 rfl rfl rfl ?_
 refine at_enterF hw_ ?_
 refine at_weak [(0, _), (1, _), (2, _)] ⟨rfl, rfl, rfl, trivial⟩ ?_
 refine sr ?_
 refine at_box (cs := Cd.cs c_api_Prefix x1) rfl rfl rfl ?_
 intro b1
 refine av rfl (r_assign rfl) ?_
 refine nwt [(0, _), (2, _), (4, _)] ⟨rfl, rfl, rfl, trivial⟩ ?_
 refine at_seq ?_
 refine sr ?_
 refine av rfl (r_move rfl) ?_
 obtain ⟨t2, ht2, hF⟩ := of_bindM hF
 refine at_callR (.s .z) Try.func79 rfl (by kernel_rfl) rfl rfl (fun w hw => allowed_Table_made_ok ht2 hw) ?_
 refine av rfl (r_not rfl) ?_
 refine nwt [(0, _), (2, _), (4, _), (11, _)] ⟨rfl, rfl, rfl, rfl, trivial⟩ ?_
 rcases of_ite hF with ⟨h3, hF⟩ | ⟨h3, hF⟩
 ·refine at_cond_true rfl h3 ?_
  refine sr ?_
  refine av rfl (r_assign rfl) ?_
  refine at_nil ?_
  refine at_drop (H := _) .z ?_
  refine at_weak [(6, _)] ⟨rfl, trivial⟩ ?_
  refine at_then_normal ?_
  refine rt ?_
  have K := of_some hF
  subst K
  exact at_return1 rfl rfl (fun w1 hw => ⟨gh, rfl, hw⟩)
 ·refine at_cond_false rfl h3 ?_
  refine sn ?_
  refine at_seq ?_
  refine at_draw (by kernel_rfl) (by kernel_rfl) (fun _ h => h.drew) ?_
  refine atq_val rfl rfl rfl (r_move rfl) ?_
  obtain ⟨t4, ht4, hF⟩ := of_bindM hF
  obtain ⟨ha5, hb6⟩ := hn_allowed_Table_at ht4
  refine atq_val rfl rfl rfl (r_npc rfl ha5) ?_
  refine atq_val rfl rfl rfl (r_fieldAddr (fo := 0) Try.underlying84 rfl rfl (fun w => ⟨_, Try.sizeOf82 w⟩) rfl) ?_
  refine atq_val rfl rfl rfl (r_load_cell Try.isAgg82 rfl (hcell0 (c := (cMapP gh)) (y := t4.2.f_owners) (.s .z) hb6 (fun _ h => h) (Lens.comp (Lens.whole _ _) (fun z => { t4.2 with f_owners := z }) (c_allowed_Table_f_owners gh t4.2)) rfl)) ?_
  refine atq_val rfl rfl rfl (r_load_aggc (c := c_api_Prefix) (z := x1) Try.isAgg46 Try.sizeOf46 rfl (lens_cell .z (Lens.whole _ _))) ?_
  obtain ⟨t7, ht7, hF⟩ := of_bindM hF
  obtain ⟨ha8, hb9⟩ := hn_M82_at ht7
  refine atq_val rfl rfl rfl (r_hlookup2 (d := (cInt .i64)) (va := false) (k := x1) (zv := (0 : Int)) Try.underlying82 (keylaw_of Try.underlying46 (chk_struct (k := 2) Try.underlying46 (fun n x hn => (chkf_cons (c_api_Prefix_f_A x) rfl rfl Try.isAgg32 Try.sizeOf32 (.inl rfl) (chk_struct (k := 1) Try.underlying32 (fun n x hn => (chkf_cons (c_api_Addr_f_V x) rfl rfl Try.isAgg3 Try.sizeOf3 (.inr rfl) (chk_int Try.underlying3) (by omega) (chkf_cons (c_api_Addr_f_B x) rfl rfl Try.isAgg30 Try.sizeOf30 (.inl rfl) (chk_vec Try.underlying30 Try.sizeOf5 Try.isAgg5 (.inr rfl) (chk_int Try.underlying5)) (by omega) chkf_nil)))) (by omega) (chkf_cons (c_api_Prefix_f_Bits x) rfl rfl Try.isAgg3 Try.sizeOf3 (.inr rfl) (chk_int Try.underlying3) (by omega) chkf_nil)))) (by decide) (eq_api_Prefix_46) (by decide) plain_api_Prefix) Try.zeroValue3 rfl rfl ha8 (hmap (.s .z) hb9 (fun _ h => h))) ?_
  refine atq_val rfl rfl rfl (r_move rfl) ?_
  refine atq_val rfl rfl rfl (r_extract rfl rfl) ?_
  refine atq_val rfl rfl rfl (r_extract rfl rfl) ?_
  refine atq_val rfl rfl rfl (r_assign rfl) ?_
  refine atq_val rfl rfl rfl (r_assign rfl) ?_
  refine atq_nil ?_
  refine at_weak [(0, _), (2, _), (4, _), (8, _)] ⟨rfl, rfl, rfl, rfl, trivial⟩ ?_
  refine at_then_normal ?_
  refine at_seq ?_
  refine at_block ?_
  refine sr ?_
  refine av rfl (r_load_aggc (c := c_api_Prefix) (z := x1) Try.isAgg46 Try.sizeOf46 rfl (lens_cell .z (Lens.whole _ _))) ?_
  obtain ⟨t10, ht10, hF⟩ := of_bindM hF
  refine at_callB Try.func55 rfl (by kernel_rfl) rfl rfl (fun w hw => cidr_Right_ok _ _ ht10 w) ?_
  refine av rfl (r_not rfl) ?_
  refine av rfl (r_assign rfl) ?_
  refine nwt [(0, _), (2, _), (4, _), (8, _), (21, _)] ⟨rfl, rfl, rfl, rfl, rfl, trivial⟩ ?_
  rcases of_ite hF with ⟨h11, hF⟩ | ⟨h11, hF⟩
  ·refine at_cond_true rfl h11 ?_
   refine sr ?_
   refine av rfl (r_assign rfl) ?_
   refine at_nil ?_
   refine at_drop (H := _) .z ?_
   refine at_weak [(6, _)] ⟨rfl, trivial⟩ ?_
   refine at_then_normal ?_
   refine at_ret ?_
   refine at_blk_ret (at_then_ret ?_)
   have K := of_some hF
   subst K
   exact at_return1 rfl rfl (fun w1 hw => ⟨gh, rfl, hw⟩)
  ·refine at_cond_false rfl h11 ?_
   refine sr ?_
   refine av rfl (r_move rfl) ?_
   refine av rfl (r_not rfl) ?_
   refine av rfl (r_move rfl) ?_
   rcases of_ite hF with ⟨h12, hF⟩ | ⟨h12, hF⟩
   ·refine at_fix (g := 28) rfl h12 ?_
    refine at_guard_yes rfl rfl rfl ?_
    refine av rfl (r_move rfl) ?_
    refine at_guard_yes rfl rfl rfl ?_
    obtain ⟨t13, ht13, hF⟩ := of_bindM hF
    obtain ⟨ha14, hb15⟩ := hn_allowed_Table_at ht13
    refine av rfl (r_npc rfl ha14) ?_
    refine at_guard_yes rfl rfl rfl ?_
    refine av rfl (r_fieldAddr (fo := 0) Try.underlying84 rfl rfl (fun w => ⟨_, Try.sizeOf82 w⟩) rfl) ?_
    refine at_guard_yes rfl rfl rfl ?_
    refine av rfl (r_load_cell Try.isAgg82 rfl (hcell0 (c := (cMapP gh)) (y := t13.2.f_owners) (.s .z) hb15 (fun _ h => h) (Lens.comp (Lens.whole _ _) (fun z => { t13.2 with f_owners := z }) (c_allowed_Table_f_owners gh t13.2)) rfl)) ?_
    refine at_guard_yes rfl rfl rfl ?_
    obtain ⟨t16, ht16, hF⟩ := of_bindM hF
    obtain ⟨ha17, hb18⟩ := hn_M82_at ht16
    refine av rfl (r_hlen Try.underlying82 rfl ha17 (hmap (.s .z) hb18 (fun _ h => h))) ?_
    refine at_guard_yes rfl rfl rfl ?_
    refine av rfl (r_igeq rfl rfl) ?_
    refine av rfl (r_pick rfl rfl rfl) ?_
    refine av rfl (r_assign rfl) ?_
    refine nwt [(0, _), (2, _), (4, _), (25, _)] ⟨rfl, rfl, rfl, rfl, trivial⟩ ?_
    rcases of_ite hF with ⟨h19, hF⟩ | ⟨h19, hF⟩
    ·refine at_cond_true rfl h19 ?_
     refine sr ?_
     refine av rfl (r_assign rfl) ?_
     refine at_nil ?_
     refine at_drop (H := _) .z ?_
     refine at_weak [(6, _)] ⟨rfl, trivial⟩ ?_
     refine at_then_normal ?_
     refine at_ret ?_
     refine at_blk_ret (at_then_ret ?_)
     have K := of_some hF
     subst K
     exact at_return1 rfl rfl (fun w1 hw => ⟨gh, rfl, hw⟩)
    ·refine at_cond_false rfl h19 ?_
     refine at_skip ?_
     refine at_blk_normal (at_then_normal ?_)
     refine at_seq ?_
     refine at_draw_tail 6 (by kernel_rfl) (by kernel_rfl) (fun _ h => h.drew) ?_
     simp only [List.take_succ_cons, List.take_zero, List.drop_succ_cons, List.drop_zero]
     refine ats_val rfl rfl rfl (r_move rfl) ?_
     obtain ⟨t20, ht20, hF⟩ := of_bindM hF
     obtain ⟨ha21, hb22⟩ := hn_allowed_Table_at ht20
     refine ats_val rfl rfl rfl (r_npc rfl ha21) ?_
     refine ats_val rfl rfl rfl (r_fieldAddr (fo := 0) Try.underlying84 rfl rfl (fun w => ⟨_, Try.sizeOf82 w⟩) rfl) ?_
     refine ats_val rfl rfl rfl (r_load_cell Try.isAgg82 rfl (hcell0 (c := (cMapP gh)) (y := t20.2.f_owners) (.s .z) hb22 (fun _ h => h) (Lens.comp (Lens.whole _ _) (fun z => { t20.2 with f_owners := z }) (c_allowed_Table_f_owners gh t20.2)) rfl)) ?_
     refine ats_val rfl rfl rfl (r_load_aggc (c := c_api_Prefix) (z := x1) Try.isAgg46 Try.sizeOf46 rfl (lens_cell .z (Lens.whole _ _))) ?_
     refine ats_val rfl rfl rfl (r_move rfl) ?_
     refine ats_nil ?_
     obtain ⟨t23, ht23, hF⟩ := of_bindM hF
     obtain ⟨ha24, hb25⟩ := hn_M82_at ht23
     refine at_hmapUpdate' (v' := HV.M82 (mput t23.2 x1 x2)) (k := x1) (v := x2) (.s .z) hb25 (fun _ h => h) (fun _ h => h) (fun j hj => by cases hj) Try.underlying82 (keylaw_of Try.underlying46 (chk_struct (k := 2) Try.underlying46 (fun n x hn => (chkf_cons (c_api_Prefix_f_A x) rfl rfl Try.isAgg32 Try.sizeOf32 (.inl rfl) (chk_struct (k := 1) Try.underlying32 (fun n x hn => (chkf_cons (c_api_Addr_f_V x) rfl rfl Try.isAgg3 Try.sizeOf3 (.inr rfl) (chk_int Try.underlying3) (by omega) (chkf_cons (c_api_Addr_f_B x) rfl rfl Try.isAgg30 Try.sizeOf30 (.inl rfl) (chk_vec Try.underlying30 Try.sizeOf5 Try.isAgg5 (.inr rfl) (chk_int Try.underlying5)) (by omega) chkf_nil)))) (by omega) (chkf_cons (c_api_Prefix_f_Bits x) rfl rfl Try.isAgg3 Try.sizeOf3 (.inr rfl) (chk_int Try.underlying3) (by omega) chkf_nil)))) (by decide) (eq_api_Prefix_46) (by decide) plain_api_Prefix) rfl ha24 rfl rfl rfl ?_
     refine nwt [(0, _), (2, _), (4, _)] ⟨rfl, rfl, rfl, trivial⟩ ?_
     refine at_seq ?_
     refine at_weak [(0, _), (2, _), (4, _)] ⟨rfl, rfl, rfl, trivial⟩ ?_
     obtain ⟨t26, ht26, hF⟩ := of_bindM hF
     refine at_invT [.q 42 (fun g27 => pv gh x0) [] 0 0, .q 43 (fun g27 => .pointer (some ⟨b1, 0 + 0, none⟩)) [] 0 0, .q 44 (fun g27 => .agg (Cd.cs c_api_Addr x1.f_A).toArray) [1] 0 0, .q 45 (fun g27 => pv gh t26) [0, 2] 0 0, .q 46 (fun g27 => .agg (Cd.cs c_api_Prefix x1).toArray) [] 0 0, .q 47 (fun g27 => .int .i64 x2) [] 0 0] (fun g27 s => match s with | _ => (Wd w0 (cellsE b1 (Cd.cs c_api_Prefix x1) 46 :: heapE hK g0_ n0_ gh (List.set h_ t23.1 (HV.M82 (mput t23.2 x1 x2))) :: G_))) 0 6 (by kernel_rfl) (by kernel_rfl) (by kernel_rfl) (by kernel_rfl) (by kernel_rfl) (by kernel_rfl) ⟨fun _ _ _ => rfl, fun _ _ _ => rfl, fun _ _ _ => rfl, fun _ _ _ => rfl, fun _ _ _ => rfl, fun _ _ _ => rfl, trivial⟩ (by kernel_rfl) (fun _ h => ⟨fun _ => (0, none, 0, none), h.drew⟩) ⟨?_, ?_, ?_, ?_, ?_, ?_, trivial⟩ ?_
     ·intro Lx g27 s K hl hh k
      show At 49 ((0, _) :: (2, _) :: (4, _) :: Lx) _ _
      refine av rfl (r_move rfl) ?_
      exact at_nil k
     ·intro Lx g27 s K hl hh k
      show At 49 ((0, _) :: (2, _) :: (4, _) :: Lx) _ _
      refine av rfl (r_fieldAddr (fo := 0) Try.underlying46 rfl rfl (fun w => ⟨_, Try.sizeOf32 w⟩) rfl) ?_
      exact at_nil k
     ·intro Lx g27 s K hl hh k
      show At 49 ((43, _) :: (0, _) :: (2, _) :: (4, _) :: Lx) _ _
      obtain rfl : s = 0 := by omega
      refine av rfl (r_load_aggc (c := c_api_Addr) (z := x1.f_A) Try.isAgg32 Try.sizeOf32 rfl (lens_cell .z (Lens.comp (Lens.whole _ _) (fun z => { x1 with f_A := z }) (c_api_Prefix_f_A x1)))) ?_
      exact at_nil k
     ·intro Lx g27 s K hl hh k
      show At 49 ((42, _) :: (44, _) :: (0, _) :: (2, _) :: (4, _) :: Lx) _ _
      obtain rfl : s = 0 := by omega
      refine at_callR (.s .z) Try.func80 rfl (by kernel_rfl) rfl rfl (fun w hw => allowed_Table_own_ok ht26 hw) ?_
      exact at_nil k
     ·intro Lx g27 s K hl hh k
      show At 49 ((0, _) :: (2, _) :: (4, _) :: Lx) _ _
      obtain rfl : s = 0 := by omega
      refine av rfl (r_load_aggc (c := c_api_Prefix) (z := x1) Try.isAgg46 Try.sizeOf46 rfl (lens_cell .z (Lens.whole _ _))) ?_
      exact at_nil k
     ·intro Lx g27 s K hl hh k
      show At 49 ((0, _) :: (2, _) :: (4, _) :: Lx) _ _
      refine av rfl (r_move rfl) ?_
      exact at_nil k
     intro g27
     show At 49 [(42, _), (43, _), (44, _), (45, _), (46, _), (47, _), (0, _), (2, _), (4, _)] _ _
     obtain ⟨t28, ht28, hF⟩ := of_bindM hF
     refine at_front (.s .z) ?_
     refine at_callH (γ := Unit) (h' := t28.2) (V := fun z gh => .int .i64 t28.1) (T := fun z => (cellsE b1 (Cd.cs c_api_Prefix x1) 46 :: G_)) Try.func33 rfl (by kernel_rfl) rfl rfl (fun w hw => (trie_Trie_Put_ok ht28 hw).mono (by rintro e w' ⟨gh, he, hw'⟩; exact ⟨gh, (), he, hw'⟩)) ?_
     rintro gh ⟨⟩ hg29
     refine av rfl (r_assign rfl) ?_
     refine at_nil ?_
     refine at_drop (H := _) (.s .z) ?_
     refine at_weak [(6, _)] ⟨rfl, trivial⟩ ?_
     refine at_then_normal ?_
     refine at_ret ?_
     have K := of_some hF
     subst K
     exact at_return1 rfl rfl (fun w1 hw => ⟨gh, rfl, hw⟩)
   ·refine at_fix (g := 28) rfl h12 ?_
    refine at_guard_no rfl rfl rfl rfl rfl ?_
    refine at_guard_no rfl rfl rfl rfl rfl ?_
    refine at_guard_no rfl rfl rfl rfl rfl ?_
    refine at_guard_no rfl rfl rfl rfl rfl ?_
    refine at_guard_no rfl rfl rfl rfl rfl ?_
    refine at_guard_no rfl rfl rfl rfl rfl ?_
    refine av rfl (r_pick rfl rfl rfl) ?_
    refine av rfl (r_assign rfl) ?_
    refine nwt [(0, _), (2, _), (4, _), (25, _)] ⟨rfl, rfl, rfl, rfl, trivial⟩ ?_
    refine at_cond_false rfl rfl ?_
    refine at_skip ?_
    refine at_blk_normal (at_then_normal ?_)
    refine at_seq ?_
    refine at_draw_tail 6 (by kernel_rfl) (by kernel_rfl) (fun _ h => h.drew) ?_
    simp only [List.take_succ_cons, List.take_zero, List.drop_succ_cons, List.drop_zero]
    refine ats_val rfl rfl rfl (r_move rfl) ?_
    obtain ⟨t32, ht32, hF⟩ := of_bindM hF
    obtain ⟨ha33, hb34⟩ := hn_allowed_Table_at ht32
    refine ats_val rfl rfl rfl (r_npc rfl ha33) ?_
    refine ats_val rfl rfl rfl (r_fieldAddr (fo := 0) Try.underlying84 rfl rfl (fun w => ⟨_, Try.sizeOf82 w⟩) rfl) ?_
    refine ats_val rfl rfl rfl (r_load_cell Try.isAgg82 rfl (hcell0 (c := (cMapP gh)) (y := t32.2.f_owners) (.s .z) hb34 (fun _ h => h) (Lens.comp (Lens.whole _ _) (fun z => { t32.2 with f_owners := z }) (c_allowed_Table_f_owners gh t32.2)) rfl)) ?_
    refine ats_val rfl rfl rfl (r_load_aggc (c := c_api_Prefix) (z := x1) Try.isAgg46 Try.sizeOf46 rfl (lens_cell .z (Lens.whole _ _))) ?_
    refine ats_val rfl rfl rfl (r_move rfl) ?_
    refine ats_nil ?_
    obtain ⟨t35, ht35, hF⟩ := of_bindM hF
    obtain ⟨ha36, hb37⟩ := hn_M82_at ht35
    refine at_hmapUpdate' (v' := HV.M82 (mput t35.2 x1 x2)) (k := x1) (v := x2) (.s .z) hb37 (fun _ h => h) (fun _ h => h) (fun j hj => by cases hj) Try.underlying82 (keylaw_of Try.underlying46 (chk_struct (k := 2) Try.underlying46 (fun n x hn => (chkf_cons (c_api_Prefix_f_A x) rfl rfl Try.isAgg32 Try.sizeOf32 (.inl rfl) (chk_struct (k := 1) Try.underlying32 (fun n x hn => (chkf_cons (c_api_Addr_f_V x) rfl rfl Try.isAgg3 Try.sizeOf3 (.inr rfl) (chk_int Try.underlying3) (by omega) (chkf_cons (c_api_Addr_f_B x) rfl rfl Try.isAgg30 Try.sizeOf30 (.inl rfl) (chk_vec Try.underlying30 Try.sizeOf5 Try.isAgg5 (.inr rfl) (chk_int Try.underlying5)) (by omega) chkf_nil)))) (by omega) (chkf_cons (c_api_Prefix_f_Bits x) rfl rfl Try.isAgg3 Try.sizeOf3 (.inr rfl) (chk_int Try.underlying3) (by omega) chkf_nil)))) (by decide) (eq_api_Prefix_46) (by decide) plain_api_Prefix) rfl ha36 rfl rfl rfl ?_
    refine nwt [(0, _), (2, _), (4, _)] ⟨rfl, rfl, rfl, trivial⟩ ?_
    refine at_seq ?_
    refine at_weak [(0, _), (2, _), (4, _)] ⟨rfl, rfl, rfl, trivial⟩ ?_
    obtain ⟨t38, ht38, hF⟩ := of_bindM hF
    refine at_invT [.q 42 (fun g39 => pv gh x0) [] 0 0, .q 43 (fun g39 => .pointer (some ⟨b1, 0 + 0, none⟩)) [] 0 0, .q 44 (fun g39 => .agg (Cd.cs c_api_Addr x1.f_A).toArray) [1] 0 0, .q 45 (fun g39 => pv gh t38) [0, 2] 0 0, .q 46 (fun g39 => .agg (Cd.cs c_api_Prefix x1).toArray) [] 0 0, .q 47 (fun g39 => .int .i64 x2) [] 0 0] (fun g39 s => match s with | _ => (Wd w0 (cellsE b1 (Cd.cs c_api_Prefix x1) 46 :: heapE hK g0_ n0_ gh (List.set h_ t35.1 (HV.M82 (mput t35.2 x1 x2))) :: G_))) 0 6 (by kernel_rfl) (by kernel_rfl) (by kernel_rfl) (by kernel_rfl) (by kernel_rfl) (by kernel_rfl) ⟨fun _ _ _ => rfl, fun _ _ _ => rfl, fun _ _ _ => rfl, fun _ _ _ => rfl, fun _ _ _ => rfl, fun _ _ _ => rfl, trivial⟩ (by kernel_rfl) (fun _ h => ⟨fun _ => (0, none, 0, none), h.drew⟩) ⟨?_, ?_, ?_, ?_, ?_, ?_, trivial⟩ ?_
    ·intro Lx g39 s K hl hh k
     show At 49 ((0, _) :: (2, _) :: (4, _) :: Lx) _ _
     refine av rfl (r_move rfl) ?_
     exact at_nil k
    ·intro Lx g39 s K hl hh k
     show At 49 ((0, _) :: (2, _) :: (4, _) :: Lx) _ _
     refine av rfl (r_fieldAddr (fo := 0) Try.underlying46 rfl rfl (fun w => ⟨_, Try.sizeOf32 w⟩) rfl) ?_
     exact at_nil k
    ·intro Lx g39 s K hl hh k
     show At 49 ((43, _) :: (0, _) :: (2, _) :: (4, _) :: Lx) _ _
     obtain rfl : s = 0 := by omega
     refine av rfl (r_load_aggc (c := c_api_Addr) (z := x1.f_A) Try.isAgg32 Try.sizeOf32 rfl (lens_cell .z (Lens.comp (Lens.whole _ _) (fun z => { x1 with f_A := z }) (c_api_Prefix_f_A x1)))) ?_
     exact at_nil k
    ·intro Lx g39 s K hl hh k
     show At 49 ((42, _) :: (44, _) :: (0, _) :: (2, _) :: (4, _) :: Lx) _ _
     obtain rfl : s = 0 := by omega
     refine at_callR (.s .z) Try.func80 rfl (by kernel_rfl) rfl rfl (fun w hw => allowed_Table_own_ok ht38 hw) ?_
     exact at_nil k
    ·intro Lx g39 s K hl hh k
     show At 49 ((0, _) :: (2, _) :: (4, _) :: Lx) _ _
     obtain rfl : s = 0 := by omega
     refine av rfl (r_load_aggc (c := c_api_Prefix) (z := x1) Try.isAgg46 Try.sizeOf46 rfl (lens_cell .z (Lens.whole _ _))) ?_
     exact at_nil k
    ·intro Lx g39 s K hl hh k
     show At 49 ((0, _) :: (2, _) :: (4, _) :: Lx) _ _
     refine av rfl (r_move rfl) ?_
     exact at_nil k
    intro g39
    show At 49 [(42, _), (43, _), (44, _), (45, _), (46, _), (47, _), (0, _), (2, _), (4, _)] _ _
    obtain ⟨t40, ht40, hF⟩ := of_bindM hF
    refine at_front (.s .z) ?_
    refine at_callH (γ := Unit) (h' := t40.2) (V := fun z gh => .int .i64 t40.1) (T := fun z => (cellsE b1 (Cd.cs c_api_Prefix x1) 46 :: G_)) Try.func33 rfl (by kernel_rfl) rfl rfl (fun w hw => (trie_Trie_Put_ok ht40 hw).mono (by rintro e w' ⟨gh, he, hw'⟩; exact ⟨gh, (), he, hw'⟩)) ?_
    rintro gh ⟨⟩ hg41
    refine av rfl (r_assign rfl) ?_
    refine at_nil ?_
    refine at_drop (H := _) (.s .z) ?_
    refine at_weak [(6, _)] ⟨rfl, trivial⟩ ?_
    refine at_then_normal ?_
    refine at_ret ?_
    have K := of_some hF
    subst K
    exact at_return1 rfl rfl (fun w1 hw => ⟨gh, rfl, hw⟩)
def allowed_Table_All (h_ : List HV) (x0 : Option Nat) : Option (List S_api_Entry) :=
  allowed_Table_made h_ x0 >>= fun t1 => if (!t1) = true then (some ([] : List S_api_Entry)) else (hn_allowed_Table h_ x0 >>= fun t3 => trie_Trie_All h_ t3.2.f_four >>= fun t6 => hn_allowed_Table h_ x0 >>= fun t9 => trie_Trie_All h_ t9.2.f_six >>= fun t12 => slices_Concat_api_Entry ([t6, t12]) >>= fun t16 => some t16)
set_option maxHeartbeats 3200000 in
theorem allowed_Table_All_ok {h_ : List HV} {x0 : Option Nat} {r : List S_api_Entry} (hF : allowed_Table_All h_ x0 = some r) : ∀ {w0 w : World} {G_ : List Ent} {g0_ : Nat → Nat} {n0_ : Nat} {gh : Nat → Nat} (hw_ : Wd w0 (heapE hK g0_ n0_ gh h_ :: G_) w),
    Calls Try.prog 40 #[pv gh x0] w (fun e w' => ∃ (p : Option Addr) (cap : Nat), e = .returned (.slice p r.length cap) ∧ Wd w0 (heapE hK g0_ n0_ gh h_ :: rowE c_api_Entry 52 p cap r :: G_) w') := by
 intro w0 w G_ g0_ n0_ gh hw_
 unfold allowed_Table_All at hF
 refine calls_enter (l := [pv gh x0]) Try.func40 rfl rfl rfl ?_
 refine at_enterF hw_ ?_
 refine at_weak [(0, _)] ⟨rfl, trivial⟩ ?_
 refine sr ?_
 refine av rfl (r_assign rfl) ?_
 refine nwt [(0, _)] ⟨rfl, trivial⟩ ?_
 refine at_seq ?_
 refine sr ?_
 refine av rfl (r_move rfl) ?_
 obtain ⟨t1, ht1, hF⟩ := of_bindM hF
 refine at_callR .z Try.func79 rfl (by kernel_rfl) rfl rfl (fun w hw => allowed_Table_made_ok ht1 hw) ?_
 refine av rfl (r_not rfl) ?_
 refine nwt [(0, _), (5, _)] ⟨rfl, rfl, trivial⟩ ?_
 rcases of_ite hF with ⟨h2, hF⟩ | ⟨h2, hF⟩
 ·refine at_cond_true rfl h2 ?_
  refine sr ?_
  refine av rfl (r_assign rfl) ?_
  refine nwt [(2, _)] ⟨rfl, trivial⟩ ?_
  refine rt ?_
  refine at_own_nil c_api_Entry 52 ?_
  refine at_front (.s .z) ?_
  have K := of_some hF
  subst K
  exact at_return1 rfl rfl (fun w1 hw => ⟨none, 0, rfl, hw⟩)
 ·refine at_cond_false rfl h2 ?_
  refine sn ?_
  refine at_seq ?_
  refine at_weak [(0, _)] ⟨rfl, trivial⟩ ?_
  obtain ⟨t3, ht3, hF⟩ := of_bindM hF
  obtain ⟨ha4, hb5⟩ := hn_allowed_Table_at ht3
  obtain ⟨t6, ht6, hF⟩ := of_bindM hF
  obtain ⟨t9, ht9, hF⟩ := of_bindM hF
  obtain ⟨ha10, hb11⟩ := hn_allowed_Table_at ht9
  obtain ⟨t12, ht12, hF⟩ := of_bindM hF
  obtain ⟨t16, ht16, hF⟩ := of_bindM hF
  refine at_inv [.q 6 (fun g19 => pv gh x0) [] 0 0, .q 7 (fun g19 => .pointer (some ⟨gh t3.1, 0, none⟩)) [0] 0 0, .q 8 (fun g19 => .pointer (some ⟨gh t3.1, 0 + 1, none⟩)) [1] 0 0, .q 9 (fun g19 => pv gh t3.2.f_four) [2] 0 0, .al 0 10 (fun g19 => .slice ((g19 0).2.1) t6.length ((g19 0).2.2.1)) [3], .q 11 (fun g19 => pv gh x0) [] 0 1, .q 12 (fun g19 => .pointer (some ⟨gh t9.1, 0, none⟩)) [5] 0 1, .q 13 (fun g19 => .pointer (some ⟨gh t9.1, 0 + 2, none⟩)) [6] 0 1, .q 14 (fun g19 => pv gh t9.2.f_six) [7] 0 1, .al 1 15 (fun g19 => .slice ((g19 1).2.1) t12.length ((g19 1).2.2.1)) [8], .al 2 16 (fun g19 => .slice (some ⟨((g19 2).1), 0, none⟩) ([t6, t12] : List (List S_api_Entry)).length 2) [4, 9], .al 3 17 (fun g19 => .slice ((g19 3).2.1) t16.length ((g19 3).2.2.1)) [10], .q 2 (fun g19 => .slice ((g19 3).2.1) t16.length ((g19 3).2.2.1)) [11] 4 4] (fun g19 s => match s with | 0 => (Wd w0 (heapE hK g0_ n0_ gh h_ :: G_)) | 1 => (Wd w0 (heapE hK g0_ n0_ gh h_ :: rowE c_api_Entry 52 ((g19 0).2.1) ((g19 0).2.2.1) t6 :: G_)) | 2 => (Wd w0 (heapE hK g0_ n0_ gh h_ :: rowE c_api_Entry 52 ((g19 1).2.1) ((g19 1).2.2.1) t12 :: rowE c_api_Entry 52 ((g19 0).2.1) ((g19 0).2.2.1) t6 :: G_)) | 3 => (Wd w0 (cellsE ((g19 2).1) (Cd.all (cSl c_api_Entry) ([((((g19 0).2.1), ((g19 0).2.2.1)), t6), ((((g19 1).2.1), ((g19 1).2.2.1)), t12)] : List ((Option Addr × Nat) × List S_api_Entry))) 44 :: heapE hK g0_ n0_ gh h_ :: rowE c_api_Entry 52 ((g19 1).2.1) ((g19 1).2.2.1) t12 :: rowE c_api_Entry 52 ((g19 0).2.1) ((g19 0).2.2.1) t6 :: G_)) | _ => (Wd w0 (rowE c_api_Entry 52 ((g19 3).2.1) ((g19 3).2.2.1) t16 :: cellsE ((g19 2).1) (Cd.all (cSl c_api_Entry) ([((((g19 0).2.1), ((g19 0).2.2.1)), t6), ((((g19 1).2.1), ((g19 1).2.2.1)), t12)] : List ((Option Addr × Nat) × List S_api_Entry))) 44 :: heapE hK g0_ n0_ gh h_ :: rowE c_api_Entry 52 ((g19 1).2.1) ((g19 1).2.2.1) t12 :: rowE c_api_Entry 52 ((g19 0).2.1) ((g19 0).2.2.1) t6 :: G_))) 4 (by kernel_rfl) (by kernel_rfl) (by kernel_rfl) (by kernel_rfl) (by kernel_rfl) ⟨fun _ _ _ => rfl, fun _ _ _ => rfl, fun _ _ _ => rfl, fun _ _ _ => rfl, fun g19 g2 h => by show (.slice ((g19 0).2.1) t6.length ((g19 0).2.2.1) : Value) = .slice ((g2 0).2.1) t6.length ((g2 0).2.2.1); rw [h 0 (show 0 < 1 by decide)], fun _ _ _ => rfl, fun _ _ _ => rfl, fun _ _ _ => rfl, fun _ _ _ => rfl, fun g19 g2 h => by show (.slice ((g19 1).2.1) t12.length ((g19 1).2.2.1) : Value) = .slice ((g2 1).2.1) t12.length ((g2 1).2.2.1); rw [h 1 (show 1 < 2 by decide)], fun g19 g2 h => by show (.slice (some ⟨((g19 2).1), 0, none⟩) ([t6, t12] : List (List S_api_Entry)).length 2 : Value) = .slice (some ⟨((g2 2).1), 0, none⟩) ([t6, t12] : List (List S_api_Entry)).length 2; rw [h 2 (show 2 < 3 by decide)], fun g19 g2 h => by show (.slice ((g19 3).2.1) t16.length ((g19 3).2.2.1) : Value) = .slice ((g2 3).2.1) t16.length ((g2 3).2.2.1); rw [h 3 (show 3 < 4 by decide)], fun g19 g2 h => by show (.slice ((g19 3).2.1) t16.length ((g19 3).2.2.1) : Value) = .slice ((g2 3).2.1) t16.length ((g2 3).2.2.1); rw [h 3 (show 3 < 4 by decide)], trivial⟩ (by kernel_rfl) (fun _ h => ⟨fun _ => (0, none, 0, none), h.drew⟩) ⟨?_, ?_, ?_, ?_, ?_, ?_, ?_, ?_, ?_, ?_, ?_, ?_, ?_, trivial⟩ ?_
  ·intro Lx g19 s K hl hh k
   show At 18 ((0, _) :: Lx) _ _
   refine av rfl (r_move rfl) ?_
   exact at_nil k
  ·intro Lx g19 s K hl hh k
   show At 18 ((6, _) :: (0, _) :: Lx) _ _
   refine av rfl (r_npc rfl ha4) ?_
   exact at_nil k
  ·intro Lx g19 s K hl hh k
   show At 18 ((7, _) :: (0, _) :: Lx) _ _
   refine av rfl (r_fieldAddr (fo := 1) Try.underlying84 rfl rfl (fun w => ⟨_, Try.sizeOf42 w⟩) rfl) ?_
   exact at_nil k
  ·intro Lx g19 s K hl hh k
   show At 18 ((8, _) :: (0, _) :: Lx) _ _
   obtain rfl : s = 0 := by omega
   refine av rfl (r_load_cell Try.isAgg42 rfl (hcell0 (c := (cPtr gh)) (y := t3.2.f_four) .z hb5 (fun _ h => h) (Lens.comp (Lens.whole _ _) (fun z => { t3.2 with f_four := z }) (c_allowed_Table_f_four gh t3.2)) rfl)) ?_
   exact at_nil k
  ·intro Lx g19 K k
   show At 18 ((9, _) :: (0, _) :: Lx) _ _
   refine at_callG (V := fun p cap => .slice p t6.length cap) (T := fun p cap => (heapE hK g0_ n0_ gh h_ :: rowE c_api_Entry 52 p cap t6 :: G_)) Try.func30 rfl (by kernel_rfl) rfl rfl (fun w hw => trie_Trie_All_ok ht6 hw) ?_
   intro p7 c8
   exact at_nil (k (0, p7, c8, none))
  ·intro Lx g19 s K hl hh k
   show At 18 ((0, _) :: Lx) _ _
   refine av rfl (r_move rfl) ?_
   exact at_nil k
  ·intro Lx g19 s K hl hh k
   show At 18 ((11, _) :: (0, _) :: Lx) _ _
   refine av rfl (r_npc rfl ha10) ?_
   exact at_nil k
  ·intro Lx g19 s K hl hh k
   show At 18 ((12, _) :: (0, _) :: Lx) _ _
   refine av rfl (r_fieldAddr (fo := 2) Try.underlying84 rfl rfl (fun w => ⟨_, Try.sizeOf42 w⟩) rfl) ?_
   exact at_nil k
  ·intro Lx g19 s K hl hh k
   show At 18 ((13, _) :: (0, _) :: Lx) _ _
   rcases (by omega : s = 0 ∨ s = 1) with rfl | rfl
   ·skip
    refine av rfl (r_load_cell Try.isAgg42 rfl (hcell0 (c := (cPtr gh)) (y := t9.2.f_six) .z hb11 (fun _ h => h) (Lens.comp (Lens.whole _ _) (fun z => { t9.2 with f_six := z }) (c_allowed_Table_f_six gh t9.2)) rfl)) ?_
    exact at_nil k
   ·skip
    refine av rfl (r_load_cell Try.isAgg42 rfl (hcell0 (c := (cPtr gh)) (y := t9.2.f_six) .z hb11 (fun _ h => h) (Lens.comp (Lens.whole _ _) (fun z => { t9.2 with f_six := z }) (c_allowed_Table_f_six gh t9.2)) rfl)) ?_
    exact at_nil k
  ·intro Lx g19 K k
   show At 18 ((14, _) :: (0, _) :: Lx) _ _
   refine at_callG (V := fun p cap => .slice p t12.length cap) (T := fun p cap => (heapE hK g0_ n0_ gh h_ :: rowE c_api_Entry 52 p cap t12 :: rowE c_api_Entry 52 ((g19 0).2.1) ((g19 0).2.2.1) t6 :: G_)) Try.func30 rfl (by kernel_rfl) rfl rfl (fun w hw => trie_Trie_All_ok ht12 hw) ?_
   intro p13 c14
   exact at_nil (k (0, p13, c14, none))
  ·intro Lx g19 K k
   show At 18 ((10, _) :: (15, _) :: (0, _) :: Lx) _ _
   refine at_litG (cs := Cd.all (cSl c_api_Entry) ([((((g19 0).2.1), ((g19 0).2.2.1)), t6), ((((g19 1).2.1), ((g19 1).2.2.1)), t12)] : List ((Option Addr × Nat) × List S_api_Entry))) Try.underlying133 Try.sizeOf44 Try.zeroValue44 rfl rfl rfl (by kernel_rfl) rfl ?_
   intro b15
   exact at_nil (k (b15, none, 0, none))
  ·intro Lx g19 K k
   show At 18 ((16, _) :: (0, _) :: Lx) _ _
   refine at_callO (c := c_api_Entry) (e := 52) (ys := t16) (V := fun p cap => .slice p t16.length cap) Try.func82 rfl (by kernel_rfl) rfl rfl (fun w hw => slices_Concat_api_Entry_ok _ _ _ _ ht16 w ⟨([((((g19 0).2.1), ((g19 0).2.2.1)), t6), ((((g19 1).2.1), ((g19 1).2.2.1)), t12)] : List ((Option Addr × Nat) × List S_api_Entry)), rfl, cells_row (hw.ok (Upd.mem .z)), (all_cons (hw.own (.s (.s (.s .z)))).row (all_cons (hw.own (.s (.s .z))).row all_nil))⟩) ?_
   intro p17 c18
   exact at_nil (k (0, p17, c18, none))
  ·intro Lx g19 s K hl hh k
   show At 18 ((17, _) :: (0, _) :: Lx) _ _
   refine av rfl (r_assign rfl) ?_
   exact at_nil k
  intro g19
  show At 18 [(6, _), (7, _), (8, _), (9, _), (10, _), (11, _), (12, _), (13, _), (14, _), (15, _), (16, _), (17, _), (2, _), (0, _)] _ _
  refine at_drop (H := _) (.s .z) ?_
  refine at_drop (H := _) (.s (.s .z)) ?_
  refine at_drop (H := _) (.s (.s .z)) ?_
  refine at_weak [(2, _)] ⟨rfl, trivial⟩ ?_
  refine at_then_normal ?_
  refine at_ret ?_
  refine at_front (.s .z) ?_
  have K := of_some hF
  subst K
  exact at_return1 rfl rfl (fun w1 hw => ⟨(g19 3).2.1, (g19 3).2.2.1, rfl, hw⟩)
def allowed_Table_Of.l0 (x1 : Int) (t1 : List S_api_Entry) (i8 : List S_api_Prefix) (i9 : Int) : Option (List S_api_Prefix) :=
  if (decide (i9 < (t1.length : Int))) = true then (if (0 : Int) ≤ i9 ∧ i9 < (t1.length : Int) then if ((lget t1 i9).f_Owner == x1) = true then (if (i8.length + 1) * 32 ≤ 140737488355328 then allowed_Table_Of.l0 x1 t1 (i8 ++ [(lget t1 i9).f_P]) (wr .i64 (i9 + 1)) else none) else (allowed_Table_Of.l0 x1 t1 i8 (wr .i64 (i9 + 1))) else none) else (some i8)
  partial_fixpoint
def allowed_Table_Of (h_ : List HV) (x0 : Option Nat) (x1 : Int) : Option (List S_api_Prefix) :=
  allowed_Table_All h_ x0 >>= fun t1 => allowed_Table_Of.l0 x1 t1 ([] : List S_api_Prefix) 0 >>= fun q7 => some q7
theorem allowed_Table_Of_ok {h_ : List HV} {x0 : Option Nat} {x1 : Int} {r : List S_api_Prefix} (hF : allowed_Table_Of h_ x0 x1 = some r) : ∀ {w0 w : World} {G_ : List Ent} {g0_ : Nat → Nat} {n0_ : Nat} {gh : Nat → Nat} (hw_ : Wd w0 (heapE hK g0_ n0_ gh h_ :: G_) w),
    Calls Try.prog 42 #[pv gh x0, .int .i64 x1] w (fun e w' => ∃ (p : Option Addr) (cap : Nat), e = .returned (.slice p r.length cap) ∧ Wd w0 (heapE hK g0_ n0_ gh h_ :: rowE c_api_Prefix 46 p cap r :: G_) w') := by
 intro w0 w G_ g0_ n0_ gh hw_
 unfold allowed_Table_Of at hF
 refine calls_enter (l := [pv gh x0, .int .i64 x1]) Try.func42 rfl rfl rfl ?_
 refine at_enterF hw_ ?_
 refine at_weak [(0, _), (1, _)] ⟨rfl, rfl, trivial⟩ ?_
 refine sr ?_
 refine av rfl (r_assign rfl) ?_
 refine nws [(0, _), (1, _)] ⟨rfl, rfl, trivial⟩ ?_
 refine av rfl (r_assign rfl) ?_
 refine nwt [(0, _), (1, _), (5, _)] ⟨rfl, rfl, rfl, trivial⟩ ?_
 refine at_seq ?_
 refine sr ?_
 refine av rfl (r_move rfl) ?_
 obtain ⟨t1, ht1, hF⟩ := of_bindM hF
 refine at_callG (V := fun p cap => .slice p t1.length cap) (T := fun p cap => (heapE hK g0_ n0_ gh h_ :: rowE c_api_Entry 52 p cap t1 :: G_)) Try.func40 rfl (by kernel_rfl) rfl rfl (fun w hw => allowed_Table_All_ok ht1 hw) ?_
 intro p2 c3
 refine av rfl (r_len_sl Try.underlying44 rfl) ?_
 refine av rfl (r_move rfl) ?_
 refine nwt [(1, _), (5, _), (9, _), (10, _), (11, _)] ⟨rfl, rfl, rfl, rfl, rfl, trivial⟩ ?_
 refine at_block ?_
 refine at_own_nil c_api_Prefix 46 ?_
 refine at_weak [(1, _), (5, .slice (nn 4) ([] : List S_api_Prefix).length 0), (9, _), (10, _), (11, _)] ⟨rfl, rfl, rfl, rfl, rfl, trivial⟩ ?_
 obtain ⟨q7, hq7, hF⟩ := of_bindM hF
 refine at_weak [(1, _), (5, _), (9, _), (10, _), (11, _)] ⟨rfl, rfl, rfl, rfl, rfl, trivial⟩ ?_
 refine at_loop_n (B := 0) (A := fun Y => ∀ (p12 : Option Addr) (c13 : Nat), At 26 [(5, .slice p12 q7.length c13)] (Wd w0 (rowE c_api_Prefix 46 p12 c13 q7 :: heapE hK g0_ n0_ gh h_ :: G_)) Y) ?_ ?_
 ·intro K
  refine allowed_Table_Of.l0.partial_correctness x1 t1 (motive := fun i8 i9 x => KN (fun Y => ∀ (p12 : Option Addr) (c13 : Nat), At 26 [(5, .slice p12 x.length c13)] (Wd w0 (rowE c_api_Prefix 46 p12 c13 x :: heapE hK g0_ n0_ gh h_ :: G_)) Y) _ 0 → Round (fun Y => ∀ (p10 : Option Addr) (c11 : Nat), At 26 [(1, .int .i64 x1), (5, .slice p10 i8.length c11), (9, .slice p2 t1.length c3), (10, .int .i64 (t1.length : Int)), (11, .int .i64 i9)] (Wd w0 (rowE c_api_Prefix 46 p10 c11 i8 :: heapE hK g0_ n0_ gh h_ :: rowE c_api_Entry 52 p2 c3 t1 :: G_)) Y) _ _ _) ?_ _ _ _ hq7 K (nn 4) 0
  ·clear K hF
   intro g ih i8 i9 x hF K p10 c11
   refine at_round ?_
   refine sr ?_
   refine av rfl (r_ilss rfl rfl) ?_
   refine nwt [(1, _), (5, _), (9, _), (10, _), (11, _), (12, _)] ⟨rfl, rfl, rfl, rfl, rfl, rfl, trivial⟩ ?_
   refine at_seq ?_
   rcases of_ite hF with ⟨h14, hF⟩ | ⟨h14, hF⟩
   ·refine at_cond_true rfl h14 ?_
    refine sn ?_
    refine at_seq ?_
    refine at_block ?_
    refine sr ?_
    obtain ⟨h15, hF⟩ := of_guard hF
    refine at_pure (φ := ∃ b o, p2 = some ⟨b, o, none⟩) (fun _ hw => row_ptr (hw.own (.s (.s .z))).row h15) ?_
    rintro ⟨b17, o18, hp16⟩
    refine av rfl (r_idx Try.underlying44 Try.sizeOf52 rfl rfl h15 hp16) ?_
    refine av rfl (r_load_aggc (c := c_api_Entry) (z := lget t1 i9) Try.isAgg52 Try.sizeOf52 rfl (fun w1 hw => row_cell (W := fun w1 => w1 = _) (fun w1 h => by subst h; exact Below.refl _ _) (hw.own (.s (.s .z))).row h15 hp16 _ rfl)) ?_
    refine at_alloc (cs := Cd.cs c_api_Entry ({ f_P := zqV2_0, f_Owner := (0 : Int) } : S_api_Entry)) Try.zeroValue52 rfl rfl ?_
    intro b19
    refine at_store (c := c_api_Entry) (z := lget t1 i9) .z (Lens.whole _ _) Try.sizeOf52 rfl rfl rfl ?_
    refine nws [(1, _), (5, _), (7, _), (9, _), (10, _), (11, _)] ⟨rfl, rfl, rfl, rfl, rfl, rfl, trivial⟩ ?_
    refine av rfl (r_fieldAddr (fo := 18) Try.underlying52 rfl rfl (fun w => ⟨_, Try.sizeOf3 w⟩) rfl) ?_
    refine av rfl (r_load_cell Try.isAgg3 rfl (lens_cell0 (c := (cInt .i64)) (y := (lget t1 i9).f_Owner) .z (Lens.comp (Lens.whole _ _) (fun z => { lget t1 i9 with f_Owner := z }) (c_api_Entry_f_Owner (lget t1 i9))) rfl)) ?_
    refine av rfl (r_move rfl) ?_
    refine av rfl (r_ieql rfl rfl) ?_
    refine nwt [(1, _), (5, _), (7, _), (9, _), (10, _), (11, _), (18, _)] ⟨rfl, rfl, rfl, rfl, rfl, rfl, rfl, trivial⟩ ?_
    rcases of_ite hF with ⟨h20, hF⟩ | ⟨h20, hF⟩
    ·refine at_cond_true rfl h20 ?_
     refine at_region ?_
     refine av rfl (r_move rfl) ?_
     refine av rfl (r_fieldAddr (fo := 0) Try.underlying52 rfl rfl (fun w => ⟨_, Try.sizeOf46 w⟩) rfl) ?_
     refine av rfl (r_load_aggc (c := c_api_Prefix) (z := (lget t1 i9).f_P) Try.isAgg46 Try.sizeOf46 rfl (lens_cell .z (Lens.comp (Lens.whole _ _) (fun z => { lget t1 i9 with f_P := z }) (c_api_Entry_f_P (lget t1 i9))))) ?_
     refine at_litL (c := c_api_Prefix) ([zqV2_0] : List S_api_Prefix) ([(lget t1 i9).f_P] : List S_api_Prefix) Try.underlying35 Try.sizeOf46 Try.zeroValue46 rfl rfl rfl (by kernel_rfl) (fill_step (c := c_api_Prefix) (z := (lget t1 i9).f_P) rfl (Lens.all c_api_Prefix ([zqV2_0] : List S_api_Prefix) 0 (by decide)) rfl rfl) rfl ?_
     intro b21
     obtain ⟨h22, hF⟩ := of_guard hF
     refine at_append (z := .agg (Cd.cs c_api_Prefix zqV2_0).toArray) (c := c_api_Prefix) (ys := ([(lget t1 i9).f_P] : List S_api_Prefix)) (.s (.s .z)) Try.underlying35 infoV246 (by kernel_rfl) (by kernel_rfl) rfl rfl rfl rfl (fun _ hw => cells_src (hw.ok (Upd.mem .z))) (by kernel_rfl) h22 (app_small h22) rfl ?_
     intro p23 c24
     refine av rfl (r_assign rfl) ?_
     refine at_nil ?_
     refine at_drop (H := _) .z ?_
     refine at_drop (H := _) .z ?_
     refine at_weak [(1, _), (5, _), (9, _), (10, _), (11, _)] ⟨rfl, rfl, rfl, rfl, rfl, trivial⟩ ?_
     refine at_blk_normal (at_then_normal ?_)
     refine at_region ?_
     refine av rfl (r_iadd rfl rfl) ?_
     refine av rfl (r_move rfl) ?_
     refine nwt [(1, _), (5, _), (9, _), (10, _), (11, _)] ⟨rfl, rfl, rfl, rfl, rfl, trivial⟩ ?_
     exact at_weak_k (ih _ _ _ hF K p23 c24) ⟨rfl, rfl, rfl, rfl, rfl, trivial⟩
    ·refine at_cond_false rfl h20 ?_
     refine at_skip ?_
     refine at_blk_normal (at_then_normal ?_)
     refine at_region ?_
     refine av rfl (r_iadd rfl rfl) ?_
     refine av rfl (r_move rfl) ?_
     refine at_nil ?_
     refine at_drop (H := _) .z ?_
     refine at_weak [(1, _), (5, _), (9, _), (10, _), (11, _)] ⟨rfl, rfl, rfl, rfl, rfl, trivial⟩ ?_
     refine at_then_normal ?_
     exact at_weak_k (ih _ _ _ hF K p10 c11) ⟨rfl, rfl, rfl, rfl, rfl, trivial⟩
   ·refine at_cond_false rfl h14 ?_
    refine at_exit ?_
    refine at_then_exit (at_then_exit ?_)
    refine at_drop (H := _) (.s (.s .z)) ?_
    obtain rfl := of_some hF
    exact at_weak_k (K p10 c11) ⟨rfl, trivial⟩
 ·skip
  intro p12 c13
  refine at_blk_same ?_
  refine at_then_normal ?_
  refine sr ?_
  refine av rfl (r_move rfl) ?_
  refine av rfl (r_assign rfl) ?_
  refine nwt [(4, _)] ⟨rfl, trivial⟩ ?_
  refine at_ret ?_
  refine at_front (.s .z) ?_
  have K := of_some hF
  subst K
  exact at_return1 rfl rfl (fun w1 hw => ⟨p12, c13, rfl, hw⟩)
def allowed_Table_Find (h_ : List HV) (x0 : Option Nat) (x1 : S_api_Addr) : Option (Int × Bool) :=
  allowed_Table_made h_ x0 >>= fun t2 => if (!t2) = true then (some (0, false)) else (allowed_Table_own h_ x0 x1 >>= fun t4 => trie_Trie_Find h_ t4 x1 >>= fun t5 => some (t5.1.f_Owner, t5.2))
set_option maxHeartbeats 3200000 in
theorem allowed_Table_Find_ok {h_ : List HV} {x0 : Option Nat} {x1 : S_api_Addr} {r : Int × Bool} (hF : allowed_Table_Find h_ x0 x1 = some r) : ∀ {w0 w : World} {G_ : List Ent} {g0_ : Nat → Nat} {n0_ : Nat} {gh : Nat → Nat} (hw_ : Wd w0 (heapE hK g0_ n0_ gh h_ :: G_) w),
    Calls Try.prog 44 #[pv gh x0, .agg (Cd.cs c_api_Addr x1).toArray] w (fun e w' => e = .returned (.tuple #[.int .i64 r.1, .bool r.2]) ∧ Wd w0 (heapE hK g0_ n0_ gh h_ :: G_) w') := by
 intro w0 w G_ g0_ n0_ gh hw_
 unfold allowed_Table_Find at hF
 refine calls_enter (l := [pv gh x0, .agg (Cd.cs c_api_Addr x1).toArray]) Try.func44 rfl rfl rfl ?_
 refine at_enterF hw_ ?_
 refine at_weak [(0, _), (1, _)] ⟨rfl, rfl, trivial⟩ ?_
 refine sr ?_
 refine at_box (cs := Cd.cs c_api_Addr x1) rfl rfl rfl ?_
 intro b1
 refine av rfl (r_assign rfl) ?_
 refine av rfl (r_assign rfl) ?_
 refine nwt [(0, _), (3, _)] ⟨rfl, rfl, trivial⟩ ?_
 refine at_seq ?_
 refine sr ?_
 refine av rfl (r_move rfl) ?_
 obtain ⟨t2, ht2, hF⟩ := of_bindM hF
 refine at_callR (.s .z) Try.func79 rfl (by kernel_rfl) rfl rfl (fun w hw => allowed_Table_made_ok ht2 hw) ?_
 refine av rfl (r_not rfl) ?_
 refine nwt [(0, _), (3, _), (10, _)] ⟨rfl, rfl, rfl, trivial⟩ ?_
 rcases of_ite hF with ⟨h3, hF⟩ | ⟨h3, hF⟩
 ·refine at_cond_true rfl h3 ?_
  refine sr ?_
  refine av rfl (r_assign rfl) ?_
  refine av rfl (r_assign rfl) ?_
  refine at_nil ?_
  refine at_drop (H := _) .z ?_
  refine at_weak [(4, _), (5, _)] ⟨rfl, rfl, trivial⟩ ?_
  refine at_then_normal ?_
  refine rt ?_
  have K := of_some hF
  subst K
  exact at_return2 rfl rfl rfl (fun w1 hw => ⟨rfl, hw⟩)
 ·refine at_cond_false rfl h3 ?_
  refine sn ?_
  refine at_seq ?_
  refine at_weak [(0, _), (3, _)] ⟨rfl, rfl, trivial⟩ ?_
  obtain ⟨t4, ht4, hF⟩ := of_bindM hF
  obtain ⟨t5, ht5, hF⟩ := of_bindM hF
  refine at_inv [.q 12 (fun g7 => pv gh x0) [] 0 1, .q 13 (fun g7 => .agg (Cd.cs c_api_Addr x1).toArray) [] 0 1, .q 14 (fun g7 => pv gh t4) [0, 1] 0 1, .q 15 (fun g7 => .agg (Cd.cs c_api_Addr x1).toArray) [] 0 1, .q 16 (fun g7 => .tuple #[.agg (Cd.cs c_api_Entry t5.1).toArray, .bool t5.2]) [2, 3] 0 1, .q 11 (fun g7 => .tuple #[.agg (Cd.cs c_api_Entry t5.1).toArray, .bool t5.2]) [4] 0 1, .q 17 (fun g7 => .agg (Cd.cs c_api_Entry t5.1).toArray) [5] 0 1, .q 18 (fun g7 => .bool t5.2) [5] 0 2, .al 0 6 (fun g7 => .pointer (some ⟨((g7 0).1), 0, none⟩)) [], .st 1 none [8, 6], .q 7 (fun g7 => .bool t5.2) [7] 2 2] (fun g7 s => match s with | 0 => (Wd w0 (cellsE b1 (Cd.cs c_api_Addr x1) 32 :: heapE hK g0_ n0_ gh h_ :: G_)) | 1 => (Wd w0 (cellsE ((g7 0).1) (Cd.cs c_api_Entry ({ f_P := zqV2_0, f_Owner := (0 : Int) } : S_api_Entry)) 52 :: cellsE b1 (Cd.cs c_api_Addr x1) 32 :: heapE hK g0_ n0_ gh h_ :: G_)) | _ => (Wd w0 (cellsE ((g7 0).1) (Cd.cs c_api_Entry t5.1) 52 :: cellsE b1 (Cd.cs c_api_Addr x1) 32 :: heapE hK g0_ n0_ gh h_ :: G_))) 2 (by kernel_rfl) (by kernel_rfl) (by kernel_rfl) (by kernel_rfl) (by kernel_rfl) ⟨fun _ _ _ => rfl, fun _ _ _ => rfl, fun _ _ _ => rfl, fun _ _ _ => rfl, fun _ _ _ => rfl, fun _ _ _ => rfl, fun _ _ _ => rfl, fun _ _ _ => rfl, fun g7 g2 h => by show (.pointer (some ⟨((g7 0).1), 0, none⟩) : Value) = .pointer (some ⟨((g2 0).1), 0, none⟩); rw [h 0 (show 0 < 1 by decide)], fun _ _ _ => rfl, fun _ _ _ => rfl, trivial⟩ (by kernel_rfl) (fun _ h => ⟨fun _ => (0, none, 0, none), h.drew⟩) ⟨?_, ?_, ?_, ?_, ?_, ?_, ?_, ?_, ?_, ?_, ?_, trivial⟩ ?_
  ·intro Lx g7 s K hl hh k
   show At 22 ((0, _) :: (3, _) :: Lx) _ _
   refine av rfl (r_move rfl) ?_
   exact at_nil k
  ·intro Lx g7 s K hl hh k
   show At 22 ((0, _) :: (3, _) :: Lx) _ _
   rcases (by omega : s = 0 ∨ s = 1) with rfl | rfl
   ·skip
    refine av rfl (r_load_aggc (c := c_api_Addr) (z := x1) Try.isAgg32 Try.sizeOf32 rfl (lens_cell .z (Lens.whole _ _))) ?_
    exact at_nil k
   ·skip
    refine av rfl (r_load_aggc (c := c_api_Addr) (z := x1) Try.isAgg32 Try.sizeOf32 rfl (lens_cell (.s .z) (Lens.whole _ _))) ?_
    exact at_nil k
  ·intro Lx g7 s K hl hh k
   show At 22 ((12, _) :: (13, _) :: (0, _) :: (3, _) :: Lx) _ _
   rcases (by omega : s = 0 ∨ s = 1) with rfl | rfl
   ·skip
    refine at_callR (.s .z) Try.func80 rfl (by kernel_rfl) rfl rfl (fun w hw => allowed_Table_own_ok ht4 hw) ?_
    exact at_nil k
   ·skip
    refine at_callR (.s (.s .z)) Try.func80 rfl (by kernel_rfl) rfl rfl (fun w hw => allowed_Table_own_ok ht4 hw) ?_
    exact at_nil k
  ·intro Lx g7 s K hl hh k
   show At 22 ((0, _) :: (3, _) :: Lx) _ _
   rcases (by omega : s = 0 ∨ s = 1) with rfl | rfl
   ·skip
    refine av rfl (r_load_aggc (c := c_api_Addr) (z := x1) Try.isAgg32 Try.sizeOf32 rfl (lens_cell .z (Lens.whole _ _))) ?_
    exact at_nil k
   ·skip
    refine av rfl (r_load_aggc (c := c_api_Addr) (z := x1) Try.isAgg32 Try.sizeOf32 rfl (lens_cell (.s .z) (Lens.whole _ _))) ?_
    exact at_nil k
  ·intro Lx g7 s K hl hh k
   show At 22 ((14, _) :: (15, _) :: (0, _) :: (3, _) :: Lx) _ _
   rcases (by omega : s = 0 ∨ s = 1) with rfl | rfl
   ·skip
    refine at_callR (.s .z) Try.func26 rfl (by kernel_rfl) rfl rfl (fun w hw => trie_Trie_Find_ok ht5 hw) ?_
    exact at_nil k
   ·skip
    refine at_callR (.s (.s .z)) Try.func26 rfl (by kernel_rfl) rfl rfl (fun w hw => trie_Trie_Find_ok ht5 hw) ?_
    exact at_nil k
  ·intro Lx g7 s K hl hh k
   show At 22 ((16, _) :: (0, _) :: (3, _) :: Lx) _ _
   refine av rfl (r_move rfl) ?_
   exact at_nil k
  ·intro Lx g7 s K hl hh k
   show At 22 ((11, _) :: (0, _) :: (3, _) :: Lx) _ _
   refine av rfl (r_extract rfl rfl) ?_
   exact at_nil k
  ·intro Lx g7 s K hl hh k
   show At 22 ((11, _) :: (0, _) :: (3, _) :: Lx) _ _
   refine av rfl (r_extract rfl rfl) ?_
   exact at_nil k
  ·intro Lx g7 K k
   show At 22 ((0, _) :: (3, _) :: Lx) _ _
   refine at_alloc (cs := Cd.cs c_api_Entry ({ f_P := zqV2_0, f_Owner := (0 : Int) } : S_api_Entry)) Try.zeroValue52 rfl rfl ?_
   intro b6
   exact at_nil (k (b6, none, 0, none))
  ·intro Lx g7 K k
   show At 22 ((6, _) :: (17, _) :: (0, _) :: (3, _) :: Lx) _ _
   refine at_store (c := c_api_Entry) (z := t5.1) .z (Lens.whole _ _) Try.sizeOf52 rfl rfl rfl ?_
   exact at_nil k
  ·intro Lx g7 s K hl hh k
   show At 22 ((18, _) :: (0, _) :: (3, _) :: Lx) _ _
   refine av rfl (r_assign rfl) ?_
   exact at_nil k
  intro g7
  show At 22 [(12, _), (13, _), (14, _), (15, _), (16, _), (11, _), (17, _), (18, _), (6, _), (7, _), (0, _), (3, _)] _ _
  refine at_drop (H := _) (.s .z) ?_
  refine at_weak [(6, _), (7, _)] ⟨rfl, rfl, trivial⟩ ?_
  refine at_then_normal ?_
  refine sr ?_
  refine av rfl (r_fieldAddr (fo := 18) Try.underlying52 rfl rfl (fun w => ⟨_, Try.sizeOf3 w⟩) rfl) ?_
  refine av rfl (r_load_cell Try.isAgg3 rfl (lens_cell0 (c := (cInt .i64)) (y := t5.1.f_Owner) .z (Lens.comp (Lens.whole _ _) (fun z => { t5.1 with f_Owner := z }) (c_api_Entry_f_Owner t5.1)) rfl)) ?_
  refine av rfl (r_move rfl) ?_
  refine av rfl (r_assign rfl) ?_
  refine av rfl (r_assign rfl) ?_
  refine at_nil ?_
  refine at_drop (H := _) .z ?_
  refine at_weak [(4, _), (5, _)] ⟨rfl, rfl, trivial⟩ ?_
  refine at_then_normal ?_
  refine at_ret ?_
  have K := of_some hF
  subst K
  exact at_return2 rfl rfl rfl (fun w1 hw => ⟨rfl, hw⟩)
def allowed_Table_Drop.l0 (x0 : Option Nat) (t1 : List S_api_Prefix) (i5 : Int) (i6 : List HV) : Option (List HV) :=
  if (decide (i5 < (t1.length : Int))) = true then (if (0 : Int) ≤ i5 ∧ i5 < (t1.length : Int) then allowed_Table_own i6 x0 ((lget t1 i5).f_A) >>= fun t13 => trie_Trie_Drop i6 t13 (lget t1 i5) >>= fun t14 => hn_allowed_Table t14.2 x0 >>= fun t16 => hn_M82 t14.2 t16.2.f_owners >>= fun t19 => allowed_Table_Drop.l0 x0 t1 (wr .i64 (i5 + 1)) (List.set t14.2 t19.1 (HV.M82 (mdel t19.2 (lget t1 i5)))) else none) else (some i6)
  partial_fixpoint
def allowed_Table_Drop (h_ : List HV) (x0 : Option Nat) (x1 : Int) : Option (Int × List HV) :=
  allowed_Table_Of h_ x0 x1 >>= fun t1 => allowed_Table_Drop.l0 x0 t1 0 h_ >>= fun q4 => some ((t1.length : Int), q4)
set_option maxHeartbeats 3200000 in
theorem allowed_Table_Drop_ok {h_ : List HV} {x0 : Option Nat} {x1 : Int} {r : Int × List HV} (hF : allowed_Table_Drop h_ x0 x1 = some r) : ∀ {w0 w : World} {G_ : List Ent} {g0_ : Nat → Nat} {n0_ : Nat} {gh : Nat → Nat} (hw_ : Wd w0 (heapE hK g0_ n0_ gh h_ :: G_) w),
    Calls Try.prog 46 #[pv gh x0, .int .i64 x1] w (fun e w' => e = .returned (.int .i64 r.1) ∧ Wd w0 (heapE hK g0_ n0_ gh r.2 :: G_) w') := by
 intro w0 w G_ g0_ n0_ gh hw_
 unfold allowed_Table_Drop at hF
 refine calls_enter (l := [pv gh x0, .int .i64 x1]) Try.func46 rfl rfl rfl ?_
 refine at_enterF hw_ ?_
 refine at_weak [(0, _), (1, _)] ⟨rfl, rfl, trivial⟩ ?_
 refine sr ?_
 refine av rfl (r_assign rfl) ?_
 refine nws [(0, _), (1, _)] ⟨rfl, rfl, trivial⟩ ?_
 refine av rfl (r_move rfl) ?_
 refine av rfl (r_move rfl) ?_
 obtain ⟨t1, ht1, hF⟩ := of_bindM hF
 refine at_callG (V := fun p cap => .slice p t1.length cap) (T := fun p cap => (heapE hK g0_ n0_ gh h_ :: rowE c_api_Prefix 46 p cap t1 :: G_)) Try.func42 rfl (by kernel_rfl) rfl rfl (fun w hw => allowed_Table_Of_ok ht1 hw) ?_
 intro p2 c3
 refine av rfl (r_assign rfl) ?_
 refine nwt [(0, _), (5, _)] ⟨rfl, rfl, trivial⟩ ?_
 refine at_seq ?_
 refine sr ?_
 refine av rfl (r_move rfl) ?_
 refine av rfl (r_len_sl Try.underlying35 rfl) ?_
 refine av rfl (r_move rfl) ?_
 refine nwt [(0, _), (5, _), (11, _), (12, _), (13, _)] ⟨rfl, rfl, rfl, rfl, rfl, trivial⟩ ?_
 refine at_block ?_
 obtain ⟨q4, hq4, hF⟩ := of_bindM hF
 refine at_weak [(0, _), (5, _), (11, _), (12, _), (13, _)] ⟨rfl, rfl, rfl, rfl, rfl, trivial⟩ ?_
 refine at_loop_n (B := 0) (A := fun Y => At 31 [(5, .slice p2 t1.length c3)] (Wd w0 (heapE hK g0_ n0_ gh q4 :: rowE c_api_Prefix 46 p2 c3 t1 :: G_)) Y) ?_ ?_
 ·intro K
  refine allowed_Table_Drop.l0.partial_correctness x0 t1 (motive := fun i5 i6 x => KN (fun Y => At 31 [(5, .slice p2 t1.length c3)] (Wd w0 (heapE hK g0_ n0_ gh x :: rowE c_api_Prefix 46 p2 c3 t1 :: G_)) Y) _ 0 → Round (fun Y => At 31 [(0, pv gh x0), (5, .slice p2 t1.length c3), (11, .slice p2 t1.length c3), (12, .int .i64 (t1.length : Int)), (13, .int .i64 i5)] (Wd w0 (heapE hK g0_ n0_ gh i6 :: rowE c_api_Prefix 46 p2 c3 t1 :: G_)) Y) _ _ _) ?_ _ _ _ hq4 K
  ·clear K hF
   intro g ih i5 i6 x hF K
   refine at_round ?_
   refine sr ?_
   refine av rfl (r_ilss rfl rfl) ?_
   refine nwt [(0, _), (5, _), (11, _), (12, _), (13, _), (14, _)] ⟨rfl, rfl, rfl, rfl, rfl, rfl, trivial⟩ ?_
   refine at_seq ?_
   rcases of_ite hF with ⟨h7, hF⟩ | ⟨h7, hF⟩
   ·refine at_cond_true rfl h7 ?_
    refine sn ?_
    refine at_seq ?_
    refine at_block ?_
    refine sr ?_
    obtain ⟨h8, hF⟩ := of_guard hF
    refine at_pure (φ := ∃ b o, p2 = some ⟨b, o, none⟩) (fun _ hw => row_ptr (hw.own (.s .z)).row h8) ?_
    rintro ⟨b10, o11, hp9⟩
    refine av rfl (r_idx Try.underlying35 Try.sizeOf46 rfl rfl h8 hp9) ?_
    refine av rfl (r_load_aggc (c := c_api_Prefix) (z := lget t1 i5) Try.isAgg46 Try.sizeOf46 rfl (fun w1 hw => row_cell (W := fun w1 => w1 = _) (fun w1 h => by subst h; exact Below.refl _ _) (hw.own (.s .z)).row h8 hp9 _ rfl)) ?_
    refine at_alloc (cs := Cd.cs c_api_Prefix zqV2_0) Try.zeroValue46 rfl rfl ?_
    intro b12
    refine at_store (c := c_api_Prefix) (z := lget t1 i5) .z (Lens.whole _ _) Try.sizeOf46 rfl rfl rfl ?_
    refine nwt [(0, _), (5, _), (7, _), (11, _), (12, _), (13, _)] ⟨rfl, rfl, rfl, rfl, rfl, rfl, trivial⟩ ?_
    refine at_seq ?_
    refine at_weak [(0, _), (5, _), (7, _), (11, _), (12, _), (13, _)] ⟨rfl, rfl, rfl, rfl, rfl, rfl, trivial⟩ ?_
    obtain ⟨t13, ht13, hF⟩ := of_bindM hF
    obtain ⟨t14, ht14, hF⟩ := of_bindM hF
    refine at_inv [.q 17 (fun g15 => pv gh x0) [] 0 0, .q 18 (fun g15 => .pointer (some ⟨b12, 0 + 0, none⟩)) [] 0 0, .q 19 (fun g15 => .agg (Cd.cs c_api_Addr ((lget t1 i5).f_A)).toArray) [1] 0 0, .q 20 (fun g15 => pv gh t13) [0, 2] 0 0, .q 21 (fun g15 => .agg (Cd.cs c_api_Prefix (lget t1 i5)).toArray) [] 0 0, .st 0 (some (22, fun g15 => .int .i64 t14.1)) [3, 4]] (fun g15 s => match s with | 0 => (Wd w0 (cellsE b12 (Cd.cs c_api_Prefix (lget t1 i5)) 46 :: heapE hK g0_ n0_ gh i6 :: rowE c_api_Prefix 46 p2 c3 t1 :: G_)) | _ => (Wd w0 (heapE hK g0_ n0_ gh t14.2 :: cellsE b12 (Cd.cs c_api_Prefix (lget t1 i5)) 46 :: rowE c_api_Prefix 46 p2 c3 t1 :: G_))) 1 (by kernel_rfl) (by kernel_rfl) (by kernel_rfl) (by kernel_rfl) (by kernel_rfl) ⟨fun _ _ _ => rfl, fun _ _ _ => rfl, fun _ _ _ => rfl, fun _ _ _ => rfl, fun _ _ _ => rfl, fun _ _ _ => rfl, trivial⟩ (by kernel_rfl) (fun _ h => ⟨fun _ => (0, none, 0, none), h.drew⟩) ⟨?_, ?_, ?_, ?_, ?_, ?_, trivial⟩ ?_
    ·intro Lx g15 s K hl hh k
     show At 31 ((0, _) :: (5, _) :: (7, _) :: (11, _) :: (12, _) :: (13, _) :: Lx) _ _
     refine av rfl (r_move rfl) ?_
     exact at_nil k
    ·intro Lx g15 s K hl hh k
     show At 31 ((0, _) :: (5, _) :: (7, _) :: (11, _) :: (12, _) :: (13, _) :: Lx) _ _
     refine av rfl (r_fieldAddr (fo := 0) Try.underlying46 rfl rfl (fun w => ⟨_, Try.sizeOf32 w⟩) rfl) ?_
     exact at_nil k
    ·intro Lx g15 s K hl hh k
     show At 31 ((18, _) :: (0, _) :: (5, _) :: (7, _) :: (11, _) :: (12, _) :: (13, _) :: Lx) _ _
     obtain rfl : s = 0 := by omega
     refine av rfl (r_load_aggc (c := c_api_Addr) (z := (lget t1 i5).f_A) Try.isAgg32 Try.sizeOf32 rfl (lens_cell .z (Lens.comp (Lens.whole _ _) (fun z => { lget t1 i5 with f_A := z }) (c_api_Prefix_f_A (lget t1 i5))))) ?_
     exact at_nil k
    ·intro Lx g15 s K hl hh k
     show At 31 ((17, _) :: (19, _) :: (0, _) :: (5, _) :: (7, _) :: (11, _) :: (12, _) :: (13, _) :: Lx) _ _
     obtain rfl : s = 0 := by omega
     refine at_callR (.s .z) Try.func80 rfl (by kernel_rfl) rfl rfl (fun w hw => allowed_Table_own_ok ht13 hw) ?_
     exact at_nil k
    ·intro Lx g15 s K hl hh k
     show At 31 ((0, _) :: (5, _) :: (7, _) :: (11, _) :: (12, _) :: (13, _) :: Lx) _ _
     obtain rfl : s = 0 := by omega
     refine av rfl (r_load_aggc (c := c_api_Prefix) (z := lget t1 i5) Try.isAgg46 Try.sizeOf46 rfl (lens_cell .z (Lens.whole _ _))) ?_
     exact at_nil k
    ·intro Lx g15 K k
     show At 31 ((20, _) :: (21, _) :: (0, _) :: (5, _) :: (7, _) :: (11, _) :: (12, _) :: (13, _) :: Lx) _ _
     refine at_front (.s .z) ?_
     refine at_callN (v := .int .i64 t14.1) (T := (heapE hK g0_ n0_ gh t14.2 :: cellsE b12 (Cd.cs c_api_Prefix (lget t1 i5)) 46 :: rowE c_api_Prefix 46 p2 c3 t1 :: G_)) Try.func34 rfl (by kernel_rfl) rfl rfl (fun w hw => trie_Trie_Drop_ok ht14 hw) ?_
     exact at_nil k
    intro g15
    show At 31 [(17, _), (18, _), (19, _), (20, _), (21, _), (22, _), (0, _), (5, _), (7, _), (11, _), (12, _), (13, _)] _ _
    refine at_weak [(0, _), (5, _), (7, _), (11, _), (12, _), (13, _)] ⟨rfl, rfl, rfl, rfl, rfl, rfl, trivial⟩ ?_
    refine at_then_normal ?_
    refine at_weak [(0, _), (5, _), (7, _), (11, _), (12, _), (13, _)] ⟨rfl, rfl, rfl, rfl, rfl, rfl, trivial⟩ ?_
    obtain ⟨t16, ht16, hF⟩ := of_bindM hF
    obtain ⟨ha17, hb18⟩ := hn_allowed_Table_at ht16
    obtain ⟨t19, ht19, hF⟩ := of_bindM hF
    obtain ⟨ha20, hb21⟩ := hn_M82_at ht19
    refine at_inv [.q 23 (fun g22 => pv gh x0) [] 0 0, .q 24 (fun g22 => .pointer (some ⟨gh t16.1, 0, none⟩)) [0] 0 0, .q 25 (fun g22 => .pointer (some ⟨gh t16.1, 0 + 0, none⟩)) [1] 0 0, .q 26 (fun g22 => mv gh t16.2.f_owners) [2] 0 0, .q 27 (fun g22 => .agg (Cd.cs c_api_Prefix (lget t1 i5)).toArray) [] 0 0, .st 0 none [3, 4]] (fun g22 s => match s with | 0 => (Wd w0 (heapE hK g0_ n0_ gh t14.2 :: cellsE b12 (Cd.cs c_api_Prefix (lget t1 i5)) 46 :: rowE c_api_Prefix 46 p2 c3 t1 :: G_)) | _ => (Wd w0 (heapE hK g0_ n0_ gh (List.set t14.2 t19.1 (HV.M82 (mdel t19.2 (lget t1 i5)))) :: cellsE b12 (Cd.cs c_api_Prefix (lget t1 i5)) 46 :: rowE c_api_Prefix 46 p2 c3 t1 :: G_))) 1 (by kernel_rfl) (by kernel_rfl) (by kernel_rfl) (by kernel_rfl) (by kernel_rfl) ⟨fun _ _ _ => rfl, fun _ _ _ => rfl, fun _ _ _ => rfl, fun _ _ _ => rfl, fun _ _ _ => rfl, fun _ _ _ => rfl, trivial⟩ (by kernel_rfl) (fun _ h => ⟨fun _ => (0, none, 0, none), h.drew⟩) ⟨?_, ?_, ?_, ?_, ?_, ?_, trivial⟩ ?_
    ·intro Lx g22 s K hl hh k
     show At 31 ((0, _) :: (5, _) :: (7, _) :: (11, _) :: (12, _) :: (13, _) :: Lx) _ _
     refine av rfl (r_move rfl) ?_
     exact at_nil k
    ·intro Lx g22 s K hl hh k
     show At 31 ((23, _) :: (0, _) :: (5, _) :: (7, _) :: (11, _) :: (12, _) :: (13, _) :: Lx) _ _
     refine av rfl (r_npc rfl ha17) ?_
     exact at_nil k
    ·intro Lx g22 s K hl hh k
     show At 31 ((24, _) :: (0, _) :: (5, _) :: (7, _) :: (11, _) :: (12, _) :: (13, _) :: Lx) _ _
     refine av rfl (r_fieldAddr (fo := 0) Try.underlying84 rfl rfl (fun w => ⟨_, Try.sizeOf82 w⟩) rfl) ?_
     exact at_nil k
    ·intro Lx g22 s K hl hh k
     show At 31 ((25, _) :: (0, _) :: (5, _) :: (7, _) :: (11, _) :: (12, _) :: (13, _) :: Lx) _ _
     obtain rfl : s = 0 := by omega
     refine av rfl (r_load_cell Try.isAgg82 rfl (hcell0 (c := (cMapP gh)) (y := t16.2.f_owners) .z hb18 (fun _ h => h) (Lens.comp (Lens.whole _ _) (fun z => { t16.2 with f_owners := z }) (c_allowed_Table_f_owners gh t16.2)) rfl)) ?_
     exact at_nil k
    ·intro Lx g22 s K hl hh k
     show At 31 ((0, _) :: (5, _) :: (7, _) :: (11, _) :: (12, _) :: (13, _) :: Lx) _ _
     obtain rfl : s = 0 := by omega
     refine av rfl (r_load_aggc (c := c_api_Prefix) (z := lget t1 i5) Try.isAgg46 Try.sizeOf46 rfl (lens_cell (.s .z) (Lens.whole _ _))) ?_
     exact at_nil k
    ·intro Lx g22 K k
     show At 31 ((26, _) :: (27, _) :: (0, _) :: (5, _) :: (7, _) :: (11, _) :: (12, _) :: (13, _) :: Lx) _ _
     refine at_hdelete' (v' := HV.M82 (mdel t19.2 (lget t1 i5))) (k := lget t1 i5) .z hb21 (fun _ h => h) (fun _ h => h) (fun j hj => by cases hj) Try.underlying82 (keylaw_of Try.underlying46 (chk_struct (k := 2) Try.underlying46 (fun n x hn => (chkf_cons (c_api_Prefix_f_A x) rfl rfl Try.isAgg32 Try.sizeOf32 (.inl rfl) (chk_struct (k := 1) Try.underlying32 (fun n x hn => (chkf_cons (c_api_Addr_f_V x) rfl rfl Try.isAgg3 Try.sizeOf3 (.inr rfl) (chk_int Try.underlying3) (by omega) (chkf_cons (c_api_Addr_f_B x) rfl rfl Try.isAgg30 Try.sizeOf30 (.inl rfl) (chk_vec Try.underlying30 Try.sizeOf5 Try.isAgg5 (.inr rfl) (chk_int Try.underlying5)) (by omega) chkf_nil)))) (by omega) (chkf_cons (c_api_Prefix_f_Bits x) rfl rfl Try.isAgg3 Try.sizeOf3 (.inr rfl) (chk_int Try.underlying3) (by omega) chkf_nil)))) (by decide) (eq_api_Prefix_46) (by decide) plain_api_Prefix) rfl ha20 rfl ?_
     exact at_nil k
    intro g22
    show At 31 [(23, _), (24, _), (25, _), (26, _), (27, _), (0, _), (5, _), (7, _), (11, _), (12, _), (13, _)] _ _
    refine at_drop (H := _) (.s .z) ?_
    refine at_weak [(0, _), (5, _), (11, _), (12, _), (13, _)] ⟨rfl, rfl, rfl, rfl, rfl, trivial⟩ ?_
    refine at_blk_normal (at_then_normal ?_)
    refine at_region ?_
    refine av rfl (r_iadd rfl rfl) ?_
    refine av rfl (r_move rfl) ?_
    refine nwt [(0, _), (5, _), (11, _), (12, _), (13, _)] ⟨rfl, rfl, rfl, rfl, rfl, trivial⟩ ?_
    exact at_weak_k (ih _ _ _ hF K) ⟨rfl, rfl, rfl, rfl, rfl, trivial⟩
   ·refine at_cond_false rfl h7 ?_
    refine at_exit ?_
    refine at_then_exit (at_then_exit ?_)
    obtain rfl := of_some hF
    exact at_weak_k K ⟨rfl, trivial⟩
 ·skip
  skip
  refine at_blk_same ?_
  refine at_then_normal ?_
  refine sr ?_
  refine av rfl (r_move rfl) ?_
  refine av rfl (r_len_sl Try.underlying35 rfl) ?_
  refine av rfl (r_assign rfl) ?_
  refine at_nil ?_
  refine at_drop (H := _) (.s .z) ?_
  refine at_weak [(4, _)] ⟨rfl, trivial⟩ ?_
  refine at_then_normal ?_
  refine at_ret ?_
  have K := of_some hF
  subst K
  exact at_return1 rfl rfl (fun w1 hw => ⟨rfl, hw⟩)
def crawlwaylaw26_alive : Option (Bool) :=
  allowed_New ([] : List HV) >>= fun t1 => if (Option.isNone t1.1) = true then (some false) else (allowed_Table_Put t1.2 t1.1 ({ { ({ f_A := ({ f_V := (0 : Int), f_B := (Vector.replicate 16 (0 : Int) : (Vector Int 16)) } : S_api_Addr), f_Bits := (0 : Int) } : S_api_Prefix) with f_A := { { ({ f_V := (0 : Int), f_B := (Vector.replicate 16 (0 : Int) : (Vector Int 16)) } : S_api_Addr) with f_V := 4 } with f_B := vset (Vector.replicate 16 (0 : Int) : (Vector Int 16)) 0 10 } } with f_Bits := 8 }) 1 >>= fun t7 => if vp (List.length t1.2) t1.1 = true then allowed_Table_Put t7.2 t1.1 ({ { ({ f_A := ({ f_V := (0 : Int), f_B := (Vector.replicate 16 (0 : Int) : (Vector Int 16)) } : S_api_Addr), f_Bits := (0 : Int) } : S_api_Prefix) with f_A := { { ({ f_V := (0 : Int), f_B := (Vector.replicate 16 (0 : Int) : (Vector Int 16)) } : S_api_Addr) with f_V := 4 } with f_B := vset (Vector.replicate 16 (0 : Int) : (Vector Int 16)) 0 10 } } with f_Bits := 8 }) 2 >>= fun t12 => if vp (List.length t7.2) t1.1 = true then allowed_Table_Find t12.2 t1.1 ({ { ({ f_V := (0 : Int), f_B := (Vector.replicate 16 (0 : Int) : (Vector Int 16)) } : S_api_Addr) with f_V := 4 } with f_B := vset (vset (vset (vset (Vector.replicate 16 (0 : Int) : (Vector Int 16)) 0 10) 1 9) 2 9) 3 9 }) >>= fun t17 => if t17.2 = true then (if (t17.1 == 2) = true then (allowed_Table_Len t12.2 t1.1 >>= fun t20 => if (t20 == 1) = true then (allowed_Table_Of t12.2 t1.1 1 >>= fun t22 => some ((t22.length : Int) == 0)) else (some false)) else (some false)) else (some false) else none else none)
theorem crawlwaylaw26_alive_ok (r : Bool) (hF : crawlwaylaw26_alive  = some r) (w : World) :
    Calls Try.prog 35 #[] w (fun e w' => e = .returned (.bool r) ∧ Below w.heap.size w w') := by
 unfold crawlwaylaw26_alive at hF
 refine calls_enter (l := []) Try.func35 rfl rfl rfl ?_
 refine at_start ?_
 refine at_heap0 hK ?_
 intro gh
 refine at_weak [] trivial ?_
 refine sr ?_
 refine av rfl (r_assign rfl) ?_
 refine nws [] trivial ?_
 obtain ⟨t1, ht1, hF⟩ := of_bindM hF
 refine at_callH (γ := Unit) (h' := t1.2) (V := fun z gh => pv gh t1.1) (T := fun z => []) Try.func36 rfl (by kernel_rfl) rfl rfl (fun w hw => (allowed_New_ok ht1 hw).mono (by rintro e w' ⟨gh, he, hw'⟩; exact ⟨gh, (), he, hw'⟩)) ?_
 rintro gh ⟨⟩ hg2
 refine av rfl (r_assign rfl) ?_
 refine nwt [(1, _)] ⟨rfl, trivial⟩ ?_
 refine at_seq ?_
 refine sr ?_
 refine av rfl (r_move rfl) ?_
 refine av rfl (r_pnil (p := t1.1) Try.underlying68 rfl rfl (.inl rfl) rfl) ?_
 refine nwt [(1, _), (7, _)] ⟨rfl, rfl, trivial⟩ ?_
 rcases of_ite hF with ⟨h5, hF⟩ | ⟨h5, hF⟩
 ·refine at_cond_true rfl h5 ?_
  refine sr ?_
  refine av rfl (r_assign rfl) ?_
  refine nwt [(0, _)] ⟨rfl, trivial⟩ ?_
  refine rt ?_
  have K := of_some hF
  subst K
  exact at_return1 rfl rfl (fun w1 hw => ⟨rfl, hw.below⟩)
 ·refine at_cond_false rfl h5 ?_
  refine sns ?_
  refine av rfl (r_build_array (zs := Cd.cs (cVec (cInt .u8) 16 (by decide)) (Vector.replicate 16 (0 : Int) : (Vector Int 16))) (cs := Cd.cs (cVec (cInt .u8) 16 (by decide)) (vset (Vector.replicate 16 (0 : Int) : (Vector Int 16)) 0 10)) Try.underlying30 Try.zeroValue30 rfl Try.sizeOf5 rfl (fill_step (c := (cInt .u8)) (z := 10) rfl (Lens.vec (cInt .u8) (by decide) (Vector.replicate 16 (0 : Int) : (Vector Int 16)) 0 (by decide)) rfl rfl)) ?_
  refine av rfl (r_build_struct (zs := Cd.cs c_api_Addr zqV2_2) (cs := Cd.cs c_api_Addr ({ { zqV2_2 with f_V := 4 } with f_B := vset (Vector.replicate 16 (0 : Int) : (Vector Int 16)) 0 10 })) Try.underlying32 Try.zeroValue32 rfl (places_api_Addr_32) rfl (fill_step (c := (cInt .i64)) (z := 4) rfl (c_api_Addr_f_V zqV2_2) rfl (fill_step (c := (cVec (cInt .u8) 16 (by decide))) (z := vset (Vector.replicate 16 (0 : Int) : (Vector Int 16)) 0 10) rfl (c_api_Addr_f_B ({ zqV2_2 with f_V := 4 })) rfl rfl))) ?_
  refine av rfl (r_build_struct (zs := Cd.cs c_api_Prefix zqV2_0) (cs := Cd.cs c_api_Prefix ({ { zqV2_0 with f_A := { { zqV2_2 with f_V := 4 } with f_B := vset (Vector.replicate 16 (0 : Int) : (Vector Int 16)) 0 10 } } with f_Bits := 8 })) Try.underlying46 Try.zeroValue46 rfl (places_api_Prefix_46) rfl (fill_step (c := c_api_Addr) (z := { { zqV2_2 with f_V := 4 } with f_B := vset (Vector.replicate 16 (0 : Int) : (Vector Int 16)) 0 10 }) rfl (c_api_Prefix_f_A zqV2_0) rfl (fill_step (c := (cInt .i64)) (z := 8) rfl (c_api_Prefix_f_Bits ({ zqV2_0 with f_A := { { zqV2_2 with f_V := 4 } with f_B := vset (Vector.replicate 16 (0 : Int) : (Vector Int 16)) 0 10 } })) rfl rfl))) ?_
  refine at_alloc (cs := Cd.cs c_api_Prefix zqV2_0) Try.zeroValue46 rfl rfl ?_
  intro b6
  refine at_store (c := c_api_Prefix) (z := { { zqV2_0 with f_A := { { zqV2_2 with f_V := 4 } with f_B := vset (Vector.replicate 16 (0 : Int) : (Vector Int 16)) 0 10 } } with f_Bits := 8 }) .z (Lens.whole _ _) Try.sizeOf46 rfl rfl rfl ?_
  refine nws [(1, _), (2, _)] ⟨rfl, rfl, trivial⟩ ?_
  refine av rfl (r_move rfl) ?_
  refine av rfl (r_load_aggc (c := c_api_Prefix) (z := { { zqV2_0 with f_A := { { zqV2_2 with f_V := 4 } with f_B := vset (Vector.replicate 16 (0 : Int) : (Vector Int 16)) 0 10 } } with f_Bits := 8 }) Try.isAgg46 Try.sizeOf46 rfl (lens_cell .z (Lens.whole _ _))) ?_
  obtain ⟨t7, ht7, hF⟩ := of_bindM hF
  obtain ⟨h8, hF⟩ := of_guard hF
  refine at_front (.s .z) ?_
  refine at_callH (γ := Unit) (h' := t7.2) (V := fun z gh => .int .i64 t7.1) (T := fun z => [cellsE b6 (Cd.cs c_api_Prefix ({ { zqV2_0 with f_A := { { zqV2_2 with f_V := 4 } with f_B := vset (Vector.replicate 16 (0 : Int) : (Vector Int 16)) 0 10 } } with f_Bits := 8 })) 46]) Try.func37 rfl (by kernel_rfl) rfl rfl (fun w hw => (allowed_Table_Put_ok ht7 hw).mono (by rintro e w' ⟨gh, he, hw'⟩; exact ⟨gh, (), he, hw'⟩)) ?_
  rintro gh ⟨⟩ hg9
  refine at_ov (t := 1) rfl (pv_ext hg9 h8) ?_
  refine nws [(1, _), (2, _)] ⟨rfl, rfl, trivial⟩ ?_
  refine av rfl (r_move rfl) ?_
  refine av rfl (r_load_aggc (c := c_api_Prefix) (z := { { zqV2_0 with f_A := { { zqV2_2 with f_V := 4 } with f_B := vset (Vector.replicate 16 (0 : Int) : (Vector Int 16)) 0 10 } } with f_Bits := 8 }) Try.isAgg46 Try.sizeOf46 rfl (lens_cell (.s .z) (Lens.whole _ _))) ?_
  obtain ⟨t12, ht12, hF⟩ := of_bindM hF
  obtain ⟨h13, hF⟩ := of_guard hF
  refine at_callH (γ := Unit) (h' := t12.2) (V := fun z gh => .int .i64 t12.1) (T := fun z => [cellsE b6 (Cd.cs c_api_Prefix ({ { zqV2_0 with f_A := { { zqV2_2 with f_V := 4 } with f_B := vset (Vector.replicate 16 (0 : Int) : (Vector Int 16)) 0 10 } } with f_Bits := 8 })) 46]) Try.func37 rfl (by kernel_rfl) rfl rfl (fun w hw => (allowed_Table_Put_ok ht12 hw).mono (by rintro e w' ⟨gh, he, hw'⟩; exact ⟨gh, (), he, hw'⟩)) ?_
  rintro gh ⟨⟩ hg14
  refine at_ov (t := 1) rfl (pv_ext hg14 h13) ?_
  refine at_nil ?_
  refine at_drop (H := _) (.s .z) ?_
  refine at_weak [(1, _)] ⟨rfl, trivial⟩ ?_
  refine at_then_normal ?_
  refine sr ?_
  refine av rfl (r_move rfl) ?_
  refine av rfl (r_build_array (zs := Cd.cs (cVec (cInt .u8) 16 (by decide)) (Vector.replicate 16 (0 : Int) : (Vector Int 16))) (cs := Cd.cs (cVec (cInt .u8) 16 (by decide)) (vset (vset (vset (vset (Vector.replicate 16 (0 : Int) : (Vector Int 16)) 0 10) 1 9) 2 9) 3 9)) Try.underlying30 Try.zeroValue30 rfl Try.sizeOf5 rfl (fill_step (c := (cInt .u8)) (z := 10) rfl (Lens.vec (cInt .u8) (by decide) (Vector.replicate 16 (0 : Int) : (Vector Int 16)) 0 (by decide)) rfl (fill_step (c := (cInt .u8)) (z := 9) rfl (Lens.vec (cInt .u8) (by decide) (vset (Vector.replicate 16 (0 : Int) : (Vector Int 16)) 0 10) 1 (by decide)) rfl (fill_step (c := (cInt .u8)) (z := 9) rfl (Lens.vec (cInt .u8) (by decide) (vset (vset (Vector.replicate 16 (0 : Int) : (Vector Int 16)) 0 10) 1 9) 2 (by decide)) rfl (fill_step (c := (cInt .u8)) (z := 9) rfl (Lens.vec (cInt .u8) (by decide) (vset (vset (vset (Vector.replicate 16 (0 : Int) : (Vector Int 16)) 0 10) 1 9) 2 9) 3 (by decide)) rfl rfl))))) ?_
  refine av rfl (r_build_struct (zs := Cd.cs c_api_Addr zqV2_2) (cs := Cd.cs c_api_Addr ({ { zqV2_2 with f_V := 4 } with f_B := vset (vset (vset (vset (Vector.replicate 16 (0 : Int) : (Vector Int 16)) 0 10) 1 9) 2 9) 3 9 })) Try.underlying32 Try.zeroValue32 rfl (places_api_Addr_32) rfl (fill_step (c := (cInt .i64)) (z := 4) rfl (c_api_Addr_f_V zqV2_2) rfl (fill_step (c := (cVec (cInt .u8) 16 (by decide))) (z := vset (vset (vset (vset (Vector.replicate 16 (0 : Int) : (Vector Int 16)) 0 10) 1 9) 2 9) 3 9) rfl (c_api_Addr_f_B ({ zqV2_2 with f_V := 4 })) rfl rfl))) ?_
  obtain ⟨t17, ht17, hF⟩ := of_bindM hF
  refine at_callR .z Try.func44 rfl (by kernel_rfl) rfl rfl (fun w hw => allowed_Table_Find_ok ht17 hw) ?_
  refine av rfl (r_move rfl) ?_
  refine av rfl (r_extract rfl rfl) ?_
  refine av rfl (r_extract rfl rfl) ?_
  refine av rfl (r_assign rfl) ?_
  refine av rfl (r_assign rfl) ?_
  refine nws [(1, _), (3, _), (4, _)] ⟨rfl, rfl, rfl, trivial⟩ ?_
  refine av rfl (r_move rfl) ?_
  refine av rfl (r_move rfl) ?_
  rcases of_ite hF with ⟨h18, hF⟩ | ⟨h18, hF⟩
  ·refine at_fix (g := 25) rfl h18 ?_
   refine at_guard_yes rfl rfl rfl ?_
   refine av rfl (r_move rfl) ?_
   refine at_guard_yes rfl rfl rfl ?_
   refine av rfl (r_ieql rfl rfl) ?_
   refine av rfl (r_pick rfl rfl rfl) ?_
   refine av rfl (r_move rfl) ?_
   rcases of_ite hF with ⟨h19, hF⟩ | ⟨h19, hF⟩
   ·refine at_fix (g := 29) rfl h19 ?_
    refine at_guard_yes rfl rfl rfl ?_
    refine av rfl (r_move rfl) ?_
    refine at_guard_yes rfl rfl rfl ?_
    obtain ⟨t20, ht20, hF⟩ := of_bindM hF
    refine at_callR .z Try.func38 rfl (by kernel_rfl) rfl rfl (fun w hw => allowed_Table_Len_ok ht20 hw) ?_
    refine at_guard_yes rfl rfl rfl ?_
    refine av rfl (r_ieql rfl rfl) ?_
    refine av rfl (r_pick rfl rfl rfl) ?_
    refine av rfl (r_move rfl) ?_
    rcases of_ite hF with ⟨h21, hF⟩ | ⟨h21, hF⟩
    ·refine at_fix (g := 34) rfl h21 ?_
     refine at_guard_yes rfl rfl rfl ?_
     refine av rfl (r_move rfl) ?_
     refine at_guard_yes rfl rfl rfl ?_
     obtain ⟨t22, ht22, hF⟩ := of_bindM hF
     refine at_callG (V := fun p cap => .slice p t22.length cap) (T := fun p cap => [heapE hK gz 0 gh t12.2, rowE c_api_Prefix 46 p cap t22]) Try.func42 rfl (by kernel_rfl) rfl rfl (fun w hw => allowed_Table_Of_ok ht22 hw) ?_
     intro p23 c24
     refine at_guard_yes rfl rfl rfl ?_
     refine av rfl (r_len_sl Try.underlying35 rfl) ?_
     refine at_guard_yes rfl rfl rfl ?_
     refine av rfl (r_ieql rfl rfl) ?_
     refine av rfl (r_pick rfl rfl rfl) ?_
     refine av rfl (r_assign rfl) ?_
     refine at_nil ?_
     refine at_drop (H := _) (.s .z) ?_
     refine at_weak [(0, _)] ⟨rfl, trivial⟩ ?_
     refine at_then_normal ?_
     refine at_ret ?_
     have K := of_some hF
     subst K
     exact at_return1 rfl rfl (fun w1 hw => ⟨rfl, hw.below⟩)
    ·refine at_fix (g := 34) rfl h21 ?_
     refine at_guard_no rfl rfl rfl rfl rfl ?_
     refine at_guard_no rfl rfl rfl rfl rfl ?_
     refine at_guard_no rfl rfl rfl rfl rfl ?_
     refine at_guard_no rfl rfl rfl rfl rfl ?_
     refine av rfl (r_pick rfl rfl rfl) ?_
     refine av rfl (r_assign rfl) ?_
     refine nwt [(0, _)] ⟨rfl, trivial⟩ ?_
     refine at_ret ?_
     have K := of_some hF
     subst K
     exact at_return1 rfl rfl (fun w1 hw => ⟨rfl, hw.below⟩)
   ·refine at_fix (g := 29) rfl h19 ?_
    refine at_guard_no rfl rfl rfl rfl rfl ?_
    refine at_guard_no rfl rfl rfl rfl rfl ?_
    refine at_guard_no rfl rfl rfl rfl rfl ?_
    refine av rfl (r_pick rfl rfl rfl) ?_
    refine av rfl (r_move rfl) ?_
    refine at_guard_no rfl rfl rfl rfl rfl ?_
    refine at_guard_no rfl rfl rfl rfl rfl ?_
    refine at_guard_no rfl rfl rfl rfl rfl ?_
    refine at_guard_no rfl rfl rfl rfl rfl ?_
    refine av rfl (r_pick rfl rfl rfl) ?_
    refine av rfl (r_assign rfl) ?_
    refine nwt [(0, _)] ⟨rfl, trivial⟩ ?_
    refine at_ret ?_
    have K := of_some hF
    subst K
    exact at_return1 rfl rfl (fun w1 hw => ⟨rfl, hw.below⟩)
  ·refine at_fix (g := 25) rfl h18 ?_
   refine at_guard_no rfl rfl rfl rfl rfl ?_
   refine at_guard_no rfl rfl rfl rfl rfl ?_
   refine av rfl (r_pick rfl rfl rfl) ?_
   refine av rfl (r_move rfl) ?_
   refine at_guard_no rfl rfl rfl rfl rfl ?_
   refine at_guard_no rfl rfl rfl rfl rfl ?_
   refine at_guard_no rfl rfl rfl rfl rfl ?_
   refine av rfl (r_pick rfl rfl rfl) ?_
   refine av rfl (r_move rfl) ?_
   refine at_guard_no rfl rfl rfl rfl rfl ?_
   refine at_guard_no rfl rfl rfl rfl rfl ?_
   refine at_guard_no rfl rfl rfl rfl rfl ?_
   refine at_guard_no rfl rfl rfl rfl rfl ?_
   refine av rfl (r_pick rfl rfl rfl) ?_
   refine av rfl (r_assign rfl) ?_
   refine nwt [(0, _)] ⟨rfl, trivial⟩ ?_
   refine at_ret ?_
   have K := of_some hF
   subst K
   exact at_return1 rfl rfl (fun w1 hw => ⟨rfl, hw.below⟩)
def crawlwaylaw26_step (h_ : List HV) (x0 : Option Nat) (x1 : List S_api_Entry) (x2 : S_crawlwaylaw25_Deed) : Option (List S_api_Entry × Bool × List HV) :=
  if (x2.f_Kind == 0) = true then (crawlwayref26_Put x1 ({ { ({ f_P := ({ f_A := ({ f_V := (0 : Int), f_B := (Vector.replicate 16 (0 : Int) : (Vector Int 16)) } : S_api_Addr), f_Bits := (0 : Int) } : S_api_Prefix), f_Owner := (0 : Int) } : S_api_Entry) with f_P := x2.f_P } with f_Owner := x2.f_Own }) >>= fun t3 => allowed_Table_Put h_ x0 x2.f_P x2.f_Own >>= fun t6 => some (t3.1, (t6.1 == t3.2), t6.2)) else (crawlwayref26_Drop x1 x2.f_Own >>= fun t10 => allowed_Table_Drop h_ x0 x2.f_Own >>= fun t13 => some (t10, (t13.1 == wr .i64 ((x1.length : Int) - (t10.length : Int))), t13.2))
theorem crawlwaylaw26_step_ok {h_ : List HV} {x0 : Option Nat} {x1 : List S_api_Entry} {x2 : S_crawlwaylaw25_Deed} {r : List S_api_Entry × Bool × List HV} (hF : crawlwaylaw26_step h_ x0 x1 x2 = some r) : ∀ {w0 w : World} {G_ : List Ent} {g0_ : Nat → Nat} {n0_ : Nat} {gh : Nat → Nat} {p1_ : Option Addr} {c1_ : Nat} (hw_ : Wd w0 (heapE hK g0_ n0_ gh h_ :: rowE c_api_Entry 52 p1_ c1_ x1 :: G_) w),
    Calls Try.prog 39 #[pv gh x0, .slice p1_ x1.length c1_, .agg (Cd.cs c_crawlwaylaw25_Deed x2).toArray] w (fun e w' => ∃ (gh : Nat → Nat) (p : Option Addr) (cap : Nat), e = .returned (.tuple #[.slice p r.1.length cap, .bool r.2.1]) ∧ Wd w0 (heapE hK g0_ n0_ gh r.2.2 :: rowE c_api_Entry 52 p cap r.1 :: G_) w') := by
 intro w0 w G_ g0_ n0_ gh p1_ c1_ hw_
 unfold crawlwaylaw26_step at hF
 refine calls_enter (l := [pv gh x0, .slice p1_ x1.length c1_, .agg (Cd.cs c_crawlwaylaw25_Deed x2).toArray]) Try.func39 rfl rfl rfl ?_
 refine at_enterF hw_ ?_
 refine at_weak [(0, _), (1, _), (2, _)] ⟨rfl, rfl, rfl, trivial⟩ ?_
 refine sr ?_
 refine at_box (cs := Cd.cs c_crawlwaylaw25_Deed x2) rfl rfl rfl ?_
 intro b1
 refine av rfl (r_assign rfl) ?_
 refine av rfl (r_assign rfl) ?_
 refine nwt [(0, _), (1, _), (5, _)] ⟨rfl, rfl, rfl, trivial⟩ ?_
 refine at_seq ?_
 refine sr ?_
 refine av rfl (r_fieldAddr (fo := 0) Try.underlying72 rfl rfl (fun w => ⟨_, Try.sizeOf3 w⟩) rfl) ?_
 refine av rfl (r_load_cell Try.isAgg3 rfl (lens_cell0 (c := (cInt .i64)) (y := x2.f_Kind) .z (Lens.comp (Lens.whole _ _) (fun z => { x2 with f_Kind := z }) (c_crawlwaylaw25_Deed_f_Kind x2)) rfl)) ?_
 refine av rfl (r_ieql rfl rfl) ?_
 refine nwt [(0, _), (1, _), (5, _), (13, _)] ⟨rfl, rfl, rfl, rfl, trivial⟩ ?_
 rcases of_ite hF with ⟨h2, hF⟩ | ⟨h2, hF⟩
 ·refine at_cond_true rfl h2 ?_
  refine sr ?_
  refine av rfl (r_move rfl) ?_
  refine av rfl (r_fieldAddr (fo := 1) Try.underlying72 rfl rfl (fun w => ⟨_, Try.sizeOf46 w⟩) rfl) ?_
  refine av rfl (r_load_aggc (c := c_api_Prefix) (z := x2.f_P) Try.isAgg46 Try.sizeOf46 rfl (lens_cell .z (Lens.comp (Lens.whole _ _) (fun z => { x2 with f_P := z }) (c_crawlwaylaw25_Deed_f_P x2)))) ?_
  refine av rfl (r_fieldAddr (fo := 19) Try.underlying72 rfl rfl (fun w => ⟨_, Try.sizeOf3 w⟩) rfl) ?_
  refine av rfl (r_load_cell Try.isAgg3 rfl (lens_cell0 (c := (cInt .i64)) (y := x2.f_Own) .z (Lens.comp (Lens.whole _ _) (fun z => { x2 with f_Own := z }) (c_crawlwaylaw25_Deed_f_Own x2)) rfl)) ?_
  refine av rfl (r_build_struct (zs := Cd.cs c_api_Entry ({ f_P := zqV2_0, f_Owner := (0 : Int) } : S_api_Entry)) (cs := Cd.cs c_api_Entry ({ { ({ f_P := zqV2_0, f_Owner := (0 : Int) } : S_api_Entry) with f_P := x2.f_P } with f_Owner := x2.f_Own })) Try.underlying52 Try.zeroValue52 rfl (places_api_Entry_52) rfl (fill_step (c := c_api_Prefix) (z := x2.f_P) rfl (c_api_Entry_f_P ({ f_P := zqV2_0, f_Owner := (0 : Int) } : S_api_Entry)) rfl (fill_step (c := (cInt .i64)) (z := x2.f_Own) rfl (c_api_Entry_f_Owner ({ ({ f_P := zqV2_0, f_Owner := (0 : Int) } : S_api_Entry) with f_P := x2.f_P })) rfl rfl))) ?_
  obtain ⟨t3, ht3, hF⟩ := of_bindM hF
  refine at_front (.s .z) ?_
  refine at_front (.s .z) ?_
  refine at_front (.s (.s .z)) ?_
  refine at_callG (V := fun p cap => .tuple #[.slice p t3.1.length cap, .int .i64 t3.2]) (T := fun p cap => (rowE c_api_Entry 52 p cap t3.1 :: cellsE b1 (Cd.cs c_crawlwaylaw25_Deed x2) 72 :: heapE hK g0_ n0_ gh h_ :: G_)) Try.func81 rfl (by kernel_rfl) rfl rfl (fun w hw => crawlwayref26_Put_ok ht3 hw) ?_
  intro p4 c5
  refine av rfl (r_move rfl) ?_
  refine av rfl (r_extract rfl rfl) ?_
  refine av rfl (r_extract rfl rfl) ?_
  refine av rfl (r_assign rfl) ?_
  refine av rfl (r_assign rfl) ?_
  refine nws [(0, _), (5, _), (8, _), (9, _)] ⟨rfl, rfl, rfl, rfl, trivial⟩ ?_
  refine av rfl (r_move rfl) ?_
  refine av rfl (r_move rfl) ?_
  refine av rfl (r_fieldAddr (fo := 1) Try.underlying72 rfl rfl (fun w => ⟨_, Try.sizeOf46 w⟩) rfl) ?_
  refine av rfl (r_load_aggc (c := c_api_Prefix) (z := x2.f_P) Try.isAgg46 Try.sizeOf46 rfl (lens_cell (.s .z) (Lens.comp (Lens.whole _ _) (fun z => { x2 with f_P := z }) (c_crawlwaylaw25_Deed_f_P x2)))) ?_
  refine av rfl (r_fieldAddr (fo := 19) Try.underlying72 rfl rfl (fun w => ⟨_, Try.sizeOf3 w⟩) rfl) ?_
  refine av rfl (r_load_cell Try.isAgg3 rfl (lens_cell0 (c := (cInt .i64)) (y := x2.f_Own) (.s .z) (Lens.comp (Lens.whole _ _) (fun z => { x2 with f_Own := z }) (c_crawlwaylaw25_Deed_f_Own x2)) rfl)) ?_
  obtain ⟨t6, ht6, hF⟩ := of_bindM hF
  refine at_front (.s .z) ?_
  refine at_front (.s .z) ?_
  refine at_front (.s (.s .z)) ?_
  refine at_callH (γ := Unit) (h' := t6.2) (V := fun z gh => .int .i64 t6.1) (T := fun z => (rowE c_api_Entry 52 p4 c5 t3.1 :: cellsE b1 (Cd.cs c_crawlwaylaw25_Deed x2) 72 :: G_)) Try.func37 rfl (by kernel_rfl) rfl rfl (fun w hw => (allowed_Table_Put_ok ht6 hw).mono (by rintro e w' ⟨gh, he, hw'⟩; exact ⟨gh, (), he, hw'⟩)) ?_
  rintro gh ⟨⟩ hg7
  refine av rfl (r_move rfl) ?_
  refine av rfl (r_ieql rfl rfl) ?_
  refine av rfl (r_assign rfl) ?_
  refine av rfl (r_assign rfl) ?_
  refine at_nil ?_
  refine at_drop (H := _) (.s (.s .z)) ?_
  refine at_weak [(6, _), (7, _)] ⟨rfl, rfl, trivial⟩ ?_
  refine at_then_normal ?_
  refine rt ?_
  have K := of_some hF
  subst K
  exact at_return2 rfl rfl rfl (fun w1 hw => ⟨gh, p4, c5, rfl, hw⟩)
 ·refine at_cond_false rfl h2 ?_
  refine sns ?_
  refine av rfl (r_move rfl) ?_
  refine av rfl (r_fieldAddr (fo := 19) Try.underlying72 rfl rfl (fun w => ⟨_, Try.sizeOf3 w⟩) rfl) ?_
  refine av rfl (r_load_cell Try.isAgg3 rfl (lens_cell0 (c := (cInt .i64)) (y := x2.f_Own) .z (Lens.comp (Lens.whole _ _) (fun z => { x2 with f_Own := z }) (c_crawlwaylaw25_Deed_f_Own x2)) rfl)) ?_
  obtain ⟨t10, ht10, hF⟩ := of_bindM hF
  refine at_callO (c := c_api_Entry) (e := 52) (ys := t10) (V := fun p cap => .slice p t10.length cap) Try.func47 rfl (by kernel_rfl) rfl rfl (fun w hw => crawlwayref26_Drop_ok _ _ _ _ _ ht10 w (hw.own (.s (.s .z))).row) ?_
  intro p11 c12
  refine av rfl (r_assign rfl) ?_
  refine nws [(0, _), (1, _), (5, _), (10, _)] ⟨rfl, rfl, rfl, rfl, trivial⟩ ?_
  refine av rfl (r_move rfl) ?_
  refine av rfl (r_move rfl) ?_
  refine av rfl (r_fieldAddr (fo := 19) Try.underlying72 rfl rfl (fun w => ⟨_, Try.sizeOf3 w⟩) rfl) ?_
  refine av rfl (r_load_cell Try.isAgg3 rfl (lens_cell0 (c := (cInt .i64)) (y := x2.f_Own) (.s .z) (Lens.comp (Lens.whole _ _) (fun z => { x2 with f_Own := z }) (c_crawlwaylaw25_Deed_f_Own x2)) rfl)) ?_
  obtain ⟨t13, ht13, hF⟩ := of_bindM hF
  refine at_front (.s .z) ?_
  refine at_front (.s .z) ?_
  refine at_front (.s (.s .z)) ?_
  refine at_callN (v := .int .i64 t13.1) (T := (heapE hK g0_ n0_ gh t13.2 :: rowE c_api_Entry 52 p11 c12 t10 :: cellsE b1 (Cd.cs c_crawlwaylaw25_Deed x2) 72 :: rowE c_api_Entry 52 p1_ c1_ x1 :: G_)) Try.func46 rfl (by kernel_rfl) rfl rfl (fun w hw => allowed_Table_Drop_ok ht13 hw) ?_
  refine av rfl (r_move rfl) ?_
  refine av rfl (r_len_sl Try.underlying44 rfl) ?_
  refine av rfl (r_move rfl) ?_
  refine av rfl (r_len_sl Try.underlying44 rfl) ?_
  refine av rfl (r_isub rfl rfl) ?_
  refine av rfl (r_ieql rfl rfl) ?_
  refine av rfl (r_assign rfl) ?_
  refine av rfl (r_assign rfl) ?_
  refine at_nil ?_
  refine at_drop (H := _) (.s (.s .z)) ?_
  refine at_drop (H := _) (.s (.s .z)) ?_
  refine at_weak [(6, _), (7, _)] ⟨rfl, rfl, trivial⟩ ?_
  refine at_then_normal ?_
  refine at_ret ?_
  have K := of_some hF
  subst K
  exact at_return2 rfl rfl rfl (fun w1 hw => ⟨gh, p11, c12, rfl, hw⟩)
end Go.Proofs.Ythccncpephpdjaa
namespace Go.Proofs.Ythccncpephpdjaa
open E Go.RowKit
def crawlwaylaw26_AllowedPlays.l0 (x0 : List S_crawlwaylaw25_Deed) (x1 : Int) (t3 : Option Nat × List HV) (i12 : List S_api_Entry) (i13 : Int) (i14 : List HV) : Option (Ctl (Bool) (List HV)) :=
  if (decide (i13 < (x0.length : Int))) = true then (if (0 : Int) ≤ i13 ∧ i13 < (x0.length : Int) then crawlwaylaw26_step i14 t3.1 i12 (lget x0 i13) >>= fun t23 => if vp (List.length i14) t3.1 = true then if (!t23.2.1) = true then (some (.ret false)) else (allowed_Table_Len t23.2.2 t3.1 >>= fun t29 => if (t29 != (t23.1.length : Int)) = true then (some (.ret false)) else (allowed_Table_All t23.2.2 t3.1 >>= fun t31 => crawlwayref25_Same t31 t23.1 >>= fun t34 => if (!t34) = true then (some (.ret false)) else (allowed_Table_Of t23.2.2 t3.1 x1 >>= fun t36 => crawlwayref26_Of t23.1 x1 >>= fun t39 => crawlwayref11_Same t36 t39 >>= fun t42 => if (!t42) = true then (some (.ret false)) else (crawlwaylaw26_AllowedPlays.l0 x0 x1 t3 t23.1 (wr .i64 (i13 + 1)) t23.2.2)))) else none else none) else (some (.nx i14))
  partial_fixpoint
def crawlwaylaw26_AllowedPlays (x0 : List S_crawlwaylaw25_Deed) (x1 : Int) : Option (Bool) :=
  if (decide ((x0.length : Int) > 40)) = true then (crawlwaylaw26_alive >>= fun t2 => some t2) else (allowed_New ([] : List HV) >>= fun t3 => if (Option.isNone t3.1) = true then (some false) else (crawlwaylaw26_AllowedPlays.l0 x0 x1 t3 ([] : List S_api_Entry) 0 t3.2 >>= fun q11 => match q11 with | .ret r' => some r' | .nx sq11 => (crawlwaylaw26_alive >>= fun t44 => some t44)))
theorem crawlwaylaw26_AllowedPlays_ok (x0 : List S_crawlwaylaw25_Deed) (p0_ : Option Addr) (c0_ : Nat) (x1 : Int) (r : Bool) (hF : crawlwaylaw26_AllowedPlays x0 x1 = some r) (w : World) (hr0 : Row c_crawlwaylaw25_Deed w p0_ c0_ x0) :
    Calls Try.prog 10 #[.slice p0_ x0.length c0_, .int .i64 x1] w (fun e w' => e = .returned (.bool r) ∧ Below w.heap.size w w') := by
 unfold crawlwaylaw26_AllowedPlays at hF
 refine calls_enter (l := [.slice p0_ x0.length c0_, .int .i64 x1]) Try.func10 rfl rfl rfl ?_
 refine at_start ?_
 refine at_heap0 hK ?_
 intro gh
 refine at_weak [(0, _), (1, _)] ⟨rfl, rfl, trivial⟩ ?_
 refine sr ?_
 refine av rfl (r_assign rfl) ?_
 refine nwt [(0, _), (1, _)] ⟨rfl, rfl, trivial⟩ ?_
 refine at_seq ?_
 refine sr ?_
 refine av rfl (r_move rfl) ?_
 refine av rfl (r_len_sl Try.underlying71 rfl) ?_
 refine av rfl (r_igtr rfl rfl) ?_
 refine nwt [(0, _), (1, _), (13, _)] ⟨rfl, rfl, rfl, trivial⟩ ?_
 rcases of_ite hF with ⟨h1, hF⟩ | ⟨h1, hF⟩
 ·refine at_cond_true rfl h1 ?_
  refine sr ?_
  obtain ⟨t2, ht2, hF⟩ := of_bindM hF
  refine at_callB Try.func35 rfl (by kernel_rfl) rfl rfl (fun w hw => crawlwaylaw26_alive_ok  _ ht2 w) ?_
  refine av rfl (r_assign rfl) ?_
  refine nwt [(4, _)] ⟨rfl, trivial⟩ ?_
  refine rt ?_
  have K := of_some hF
  subst K
  exact at_return1 rfl rfl (fun w1 hw => ⟨rfl, hw.below⟩)
 ·refine at_cond_false rfl h1 ?_
  refine sns ?_
  obtain ⟨t3, ht3, hF⟩ := of_bindM hF
  refine at_callH (γ := Unit) (h' := t3.2) (V := fun z gh => pv gh t3.1) (T := fun z => []) Try.func36 rfl (by kernel_rfl) rfl rfl (fun w hw => (allowed_New_ok ht3 hw).mono (by rintro e w' ⟨gh, he, hw'⟩; exact ⟨gh, (), he, hw'⟩)) ?_
  rintro gh ⟨⟩ hg4
  refine av rfl (r_assign rfl) ?_
  refine nwt [(0, _), (1, _), (5, _)] ⟨rfl, rfl, rfl, trivial⟩ ?_
  refine at_seq ?_
  refine sr ?_
  refine av rfl (r_move rfl) ?_
  refine av rfl (r_pnil (p := t3.1) Try.underlying68 rfl rfl (.inl rfl) rfl) ?_
  refine nwt [(0, _), (1, _), (5, _), (17, _)] ⟨rfl, rfl, rfl, rfl, trivial⟩ ?_
  rcases of_ite hF with ⟨h7, hF⟩ | ⟨h7, hF⟩
  ·refine at_cond_true rfl h7 ?_
   refine sr ?_
   refine av rfl (r_assign rfl) ?_
   refine nwt [(4, _)] ⟨rfl, trivial⟩ ?_
   refine rt ?_
   have K := of_some hF
   subst K
   exact at_return1 rfl rfl (fun w1 hw => ⟨rfl, hw.below⟩)
  ·refine at_cond_false rfl h7 ?_
   refine sns ?_
   refine av rfl (r_assign rfl) ?_
   refine nwt [(0, _), (1, _), (5, _), (6, _)] ⟨rfl, rfl, rfl, rfl, trivial⟩ ?_
   refine at_seq ?_
   refine sr ?_
   refine av rfl (r_move rfl) ?_
   refine av rfl (r_len_sl Try.underlying71 rfl) ?_
   refine av rfl (r_move rfl) ?_
   refine nwt [(1, _), (5, _), (6, _), (18, _), (19, _), (20, _)] ⟨rfl, rfl, rfl, rfl, rfl, rfl, trivial⟩ ?_
   refine at_block ?_
   refine at_own_nil c_api_Entry 52 ?_
   refine at_weak [(1, _), (5, _), (6, .slice (nn 8) ([] : List S_api_Entry).length 0), (18, _), (19, _), (20, _)] ⟨rfl, rfl, rfl, rfl, rfl, rfl, trivial⟩ ?_
   obtain ⟨q11, hq11, hF⟩ := of_bindM hF
   refine at_weak [(1, _), (5, _), (6, _), (18, _), (19, _), (20, _)] ⟨rfl, rfl, rfl, rfl, rfl, rfl, trivial⟩ ?_
   refine at_loop_r (B := 0) (r := r) (q := q11) (A := fun sq11 Y => ∀ (gh : Nat → Nat), At 60 [] (Wd w [heapE hK gz 0 gh sq11]) Y) ?_ ?_
   ·intro K
    refine crawlwaylaw26_AllowedPlays.l0.partial_correctness x0 x1 t3 (motive := fun i12 i13 i14 x => KR (fun sq11 Y => ∀ (gh : Nat → Nat), At 60 [] (Wd w [heapE hK gz 0 gh sq11]) Y) _ 0 r x → Round (fun Y => ∀ (gh : Nat → Nat) (p15 : Option Addr) (c16 : Nat), At 60 [(1, .int .i64 x1), (5, pv gh t3.1), (6, .slice p15 i12.length c16), (18, .slice p0_ x0.length c0_), (19, .int .i64 (x0.length : Int)), (20, .int .i64 i13)] (Wd w [rowE c_api_Entry 52 p15 c16 i12, heapE hK gz 0 gh i14]) Y) _ _ _) ?_ _ _ _ _ hq11 K gh (nn 8) 0
    ·clear K hF
     intro g ih i12 i13 i14 x hF K gh p15 c16
     refine at_round ?_
     refine sr ?_
     refine av rfl (r_ilss rfl rfl) ?_
     refine nwt [(1, _), (5, _), (6, _), (18, _), (19, _), (20, _), (21, _)] ⟨rfl, rfl, rfl, rfl, rfl, rfl, rfl, trivial⟩ ?_
     refine at_seq ?_
     rcases of_ite hF with ⟨h17, hF⟩ | ⟨h17, hF⟩
     ·refine at_cond_true rfl h17 ?_
      refine sn ?_
      refine at_seq ?_
      refine at_block ?_
      refine sr ?_
      obtain ⟨h18, hF⟩ := of_guard hF
      obtain ⟨b20, o21, hp19⟩ := row_ptr hr0 h18
      refine av rfl (r_idx Try.underlying71 Try.sizeOf72 rfl rfl h18 hp19) ?_
      refine av rfl (r_load_aggc (c := c_crawlwaylaw25_Deed) (z := lget x0 i13) Try.isAgg72 Try.sizeOf72 rfl (row_cell (fun _ h => h.below) hr0 h18 hp19)) ?_
      refine at_alloc (cs := Cd.cs c_crawlwaylaw25_Deed ({ f_Kind := (0 : Int), f_P := ({ f_A := ({ f_V := (0 : Int), f_B := (Vector.replicate 16 (0 : Int) : (Vector Int 16)) } : S_api_Addr), f_Bits := (0 : Int) } : S_api_Prefix), f_Own := (0 : Int) } : S_crawlwaylaw25_Deed)) Try.zeroValue72 rfl rfl ?_
      intro b22
      refine at_store (c := c_crawlwaylaw25_Deed) (z := lget x0 i13) .z (Lens.whole _ _) Try.sizeOf72 rfl rfl rfl ?_
      refine nws [(1, _), (5, _), (6, _), (8, _), (18, _), (19, _), (20, _)] ⟨rfl, rfl, rfl, rfl, rfl, rfl, rfl, trivial⟩ ?_
      refine av rfl (r_move rfl) ?_
      refine av rfl (r_move rfl) ?_
      refine av rfl (r_load_aggc (c := c_crawlwaylaw25_Deed) (z := lget x0 i13) Try.isAgg72 Try.sizeOf72 rfl (lens_cell .z (Lens.whole _ _))) ?_
      obtain ⟨t23, ht23, hF⟩ := of_bindM hF
      obtain ⟨h24, hF⟩ := of_guard hF
      refine at_front (.s .z) ?_
      refine at_front (.s (.s .z)) ?_
      refine at_callH (γ := Option Addr × Nat) (h' := t23.2.2) (V := fun z gh => .tuple #[.slice z.1 t23.1.length z.2, .bool t23.2.1]) (T := fun z => [rowE c_api_Entry 52 z.1 z.2 t23.1, cellsE b22 (Cd.cs c_crawlwaylaw25_Deed (lget x0 i13)) 72]) Try.func39 rfl (by kernel_rfl) rfl rfl (fun w hw => (crawlwaylaw26_step_ok ht23 hw).mono (by rintro e w' ⟨gh, p, c, he, hw'⟩; exact ⟨gh, (p, c), he, hw'⟩)) ?_
      rintro gh ⟨p26, c27⟩ hg25
      refine at_ov (t := 5) rfl (pv_ext hg25 h24) ?_
      refine av rfl (r_move rfl) ?_
      refine av rfl (r_extract rfl rfl) ?_
      refine av rfl (r_extract rfl rfl) ?_
      refine av rfl (r_assign rfl) ?_
      refine av rfl (r_assign rfl) ?_
      refine at_nil ?_
      refine at_drop (H := _) (.s (.s .z)) ?_
      refine at_weak [(1, _), (5, _), (9, _), (10, _), (18, _), (19, _), (20, _)] ⟨rfl, rfl, rfl, rfl, rfl, rfl, rfl, trivial⟩ ?_
      refine at_then_normal ?_
      refine sr ?_
      refine av rfl (r_move rfl) ?_
      refine av rfl (r_assign rfl) ?_
      refine nws [(1, _), (5, _), (6, _), (10, _), (18, _), (19, _), (20, _)] ⟨rfl, rfl, rfl, rfl, rfl, rfl, rfl, trivial⟩ ?_
      refine av rfl (r_move rfl) ?_
      refine av rfl (r_not rfl) ?_
      refine av rfl (r_move rfl) ?_
      rcases of_ite hF with ⟨h28, hF⟩ | ⟨h28, hF⟩
      ·refine at_fix (g := 34) rfl h28 ?_
       refine at_guard_no rfl rfl rfl rfl rfl ?_
       refine at_guard_no rfl rfl rfl rfl rfl ?_
       refine at_guard_no rfl rfl rfl rfl rfl ?_
       refine at_guard_no rfl rfl rfl rfl rfl ?_
       refine at_guard_no rfl rfl rfl rfl rfl ?_
       refine av rfl (r_pick rfl rfl rfl) ?_
       refine av rfl (r_move rfl) ?_
       refine at_guard_no rfl rfl rfl rfl rfl ?_
       refine at_guard_no rfl rfl rfl rfl rfl ?_
       refine at_guard_no rfl rfl rfl rfl rfl ?_
       refine at_guard_no rfl rfl rfl rfl rfl ?_
       refine at_guard_no rfl rfl rfl rfl rfl ?_
       refine av rfl (r_pick rfl rfl rfl) ?_
       refine av rfl (r_move rfl) ?_
       refine at_guard_no rfl rfl rfl rfl rfl ?_
       refine at_guard_no rfl rfl rfl rfl rfl ?_
       refine at_guard_no rfl rfl rfl rfl rfl ?_
       refine at_guard_no rfl rfl rfl rfl rfl ?_
       refine at_guard_no rfl rfl rfl rfl rfl ?_
       refine at_guard_no rfl rfl rfl rfl rfl ?_
       refine at_guard_no rfl rfl rfl rfl rfl ?_
       refine at_guard_no rfl rfl rfl rfl rfl ?_
       refine av rfl (r_pick rfl rfl rfl) ?_
       refine nwt [(1, _), (5, _), (6, _), (18, _), (19, _), (20, _), (57, _)] ⟨rfl, rfl, rfl, rfl, rfl, rfl, rfl, trivial⟩ ?_
       refine at_cond_true rfl rfl ?_
       refine sr ?_
       refine av rfl (r_assign rfl) ?_
       refine at_nil ?_
       refine at_drop (H := _) (.s .z) ?_
       refine at_weak [(4, _)] ⟨rfl, trivial⟩ ?_
       refine at_then_normal ?_
       refine at_ret ?_
       refine at_blk_ret (at_then_ret (at_then_ret (at_blk_ret (at_then_ret ?_))))
       obtain rfl := of_some hF
       subst K
       exact at_return1 rfl rfl (fun w1 hw => ⟨rfl, hw.below⟩)
      ·refine at_fix (g := 34) rfl h28 ?_
       refine at_guard_yes rfl rfl rfl ?_
       refine av rfl (r_move rfl) ?_
       refine at_guard_yes rfl rfl rfl ?_
       obtain ⟨t29, ht29, hF⟩ := of_bindM hF
       refine at_callR .z Try.func38 rfl (by kernel_rfl) rfl rfl (fun w hw => allowed_Table_Len_ok ht29 hw) ?_
       refine at_guard_yes rfl rfl rfl ?_
       refine av rfl (r_move rfl) ?_
       refine at_guard_yes rfl rfl rfl ?_
       refine av rfl (r_len_sl Try.underlying44 rfl) ?_
       refine at_guard_yes rfl rfl rfl ?_
       refine av rfl (r_ineq rfl rfl) ?_
       refine av rfl (r_pick rfl rfl rfl) ?_
       refine av rfl (r_move rfl) ?_
       rcases of_ite hF with ⟨h30, hF⟩ | ⟨h30, hF⟩
       ·refine at_fix (g := 41) rfl h30 ?_
        refine at_guard_no rfl rfl rfl rfl rfl ?_
        refine at_guard_no rfl rfl rfl rfl rfl ?_
        refine at_guard_no rfl rfl rfl rfl rfl ?_
        refine at_guard_no rfl rfl rfl rfl rfl ?_
        refine at_guard_no rfl rfl rfl rfl rfl ?_
        refine av rfl (r_pick rfl rfl rfl) ?_
        refine av rfl (r_move rfl) ?_
        refine at_guard_no rfl rfl rfl rfl rfl ?_
        refine at_guard_no rfl rfl rfl rfl rfl ?_
        refine at_guard_no rfl rfl rfl rfl rfl ?_
        refine at_guard_no rfl rfl rfl rfl rfl ?_
        refine at_guard_no rfl rfl rfl rfl rfl ?_
        refine at_guard_no rfl rfl rfl rfl rfl ?_
        refine at_guard_no rfl rfl rfl rfl rfl ?_
        refine at_guard_no rfl rfl rfl rfl rfl ?_
        refine av rfl (r_pick rfl rfl rfl) ?_
        refine nwt [(1, _), (5, _), (6, _), (18, _), (19, _), (20, _), (57, _)] ⟨rfl, rfl, rfl, rfl, rfl, rfl, rfl, trivial⟩ ?_
        refine at_cond_true rfl rfl ?_
        refine sr ?_
        refine av rfl (r_assign rfl) ?_
        refine at_nil ?_
        refine at_drop (H := _) (.s .z) ?_
        refine at_weak [(4, _)] ⟨rfl, trivial⟩ ?_
        refine at_then_normal ?_
        refine at_ret ?_
        refine at_blk_ret (at_then_ret (at_then_ret (at_blk_ret (at_then_ret ?_))))
        obtain rfl := of_some hF
        subst K
        exact at_return1 rfl rfl (fun w1 hw => ⟨rfl, hw.below⟩)
       ·refine at_fix (g := 41) rfl h30 ?_
        refine at_guard_yes rfl rfl rfl ?_
        refine av rfl (r_move rfl) ?_
        refine at_guard_yes rfl rfl rfl ?_
        obtain ⟨t31, ht31, hF⟩ := of_bindM hF
        refine at_callG (V := fun p cap => .slice p t31.length cap) (T := fun p cap => [heapE hK gz 0 gh t23.2.2, rowE c_api_Entry 52 p cap t31, rowE c_api_Entry 52 p26 c27 t23.1]) Try.func40 rfl (by kernel_rfl) rfl rfl (fun w hw => allowed_Table_All_ok ht31 hw) ?_
        intro p32 c33
        refine at_guard_yes rfl rfl rfl ?_
        refine av rfl (r_move rfl) ?_
        refine at_guard_yes rfl rfl rfl ?_
        obtain ⟨t34, ht34, hF⟩ := of_bindM hF
        refine at_callB Try.func29 rfl (by kernel_rfl) rfl rfl (fun w hw => crawlwayref25_Same_ok _ _ _ _ _ _ _ ht34 w (hw.own (.s .z)).row (hw.own (.s (.s .z))).row) ?_
        refine at_guard_yes rfl rfl rfl ?_
        refine av rfl (r_not rfl) ?_
        refine av rfl (r_pick rfl rfl rfl) ?_
        refine av rfl (r_move rfl) ?_
        rcases of_ite hF with ⟨h35, hF⟩ | ⟨h35, hF⟩
        ·refine at_fix (g := 48) rfl h35 ?_
         refine at_guard_no rfl rfl rfl rfl rfl ?_
         refine at_guard_no rfl rfl rfl rfl rfl ?_
         refine at_guard_no rfl rfl rfl rfl rfl ?_
         refine at_guard_no rfl rfl rfl rfl rfl ?_
         refine at_guard_no rfl rfl rfl rfl rfl ?_
         refine at_guard_no rfl rfl rfl rfl rfl ?_
         refine at_guard_no rfl rfl rfl rfl rfl ?_
         refine at_guard_no rfl rfl rfl rfl rfl ?_
         refine av rfl (r_pick rfl rfl rfl) ?_
         refine at_nil ?_
         refine at_drop (H := _) (.s .z) ?_
         refine at_weak [(1, _), (5, _), (6, _), (18, _), (19, _), (20, _), (57, _)] ⟨rfl, rfl, rfl, rfl, rfl, rfl, rfl, trivial⟩ ?_
         refine at_then_normal ?_
         refine at_cond_true rfl rfl ?_
         refine sr ?_
         refine av rfl (r_assign rfl) ?_
         refine at_nil ?_
         refine at_drop (H := _) (.s .z) ?_
         refine at_weak [(4, _)] ⟨rfl, trivial⟩ ?_
         refine at_then_normal ?_
         refine at_ret ?_
         refine at_blk_ret (at_then_ret (at_then_ret (at_blk_ret (at_then_ret ?_))))
         obtain rfl := of_some hF
         subst K
         exact at_return1 rfl rfl (fun w1 hw => ⟨rfl, hw.below⟩)
        ·refine at_fix (g := 48) rfl h35 ?_
         refine at_guard_yes rfl rfl rfl ?_
         refine av rfl (r_move rfl) ?_
         refine at_guard_yes rfl rfl rfl ?_
         refine av rfl (r_move rfl) ?_
         refine at_guard_yes rfl rfl rfl ?_
         obtain ⟨t36, ht36, hF⟩ := of_bindM hF
         refine at_callG (V := fun p cap => .slice p t36.length cap) (T := fun p cap => [heapE hK gz 0 gh t23.2.2, rowE c_api_Prefix 46 p cap t36, rowE c_api_Entry 52 p32 c33 t31, rowE c_api_Entry 52 p26 c27 t23.1]) Try.func42 rfl (by kernel_rfl) rfl rfl (fun w hw => allowed_Table_Of_ok ht36 hw) ?_
         intro p37 c38
         refine at_guard_yes rfl rfl rfl ?_
         refine av rfl (r_move rfl) ?_
         refine at_guard_yes rfl rfl rfl ?_
         refine av rfl (r_move rfl) ?_
         refine at_guard_yes rfl rfl rfl ?_
         obtain ⟨t39, ht39, hF⟩ := of_bindM hF
         refine at_callO (c := c_api_Prefix) (e := 46) (ys := t39) (V := fun p cap => .slice p t39.length cap) Try.func43 rfl (by kernel_rfl) rfl rfl (fun w hw => crawlwayref26_Of_ok _ _ _ _ _ ht39 w (hw.own (.s (.s (.s .z)))).row) ?_
         intro p40 c41
         refine at_guard_yes rfl rfl rfl ?_
         obtain ⟨t42, ht42, hF⟩ := of_bindM hF
         refine at_callB Try.func41 rfl (by kernel_rfl) rfl rfl (fun w hw => crawlwayref11_Same_ok _ _ _ _ _ _ _ ht42 w (hw.own (.s (.s .z))).row (hw.own .z).row) ?_
         refine at_guard_yes rfl rfl rfl ?_
         refine av rfl (r_not rfl) ?_
         refine av rfl (r_pick rfl rfl rfl) ?_
         refine at_nil ?_
         refine at_drop (H := _) .z ?_
         refine at_drop (H := _) (.s .z) ?_
         refine at_drop (H := _) (.s .z) ?_
         refine at_weak [(1, _), (5, _), (6, _), (18, _), (19, _), (20, _), (57, _)] ⟨rfl, rfl, rfl, rfl, rfl, rfl, rfl, trivial⟩ ?_
         refine at_then_normal ?_
         rcases of_ite hF with ⟨h43, hF⟩ | ⟨h43, hF⟩
         ·refine at_cond_true rfl h43 ?_
          refine sr ?_
          refine av rfl (r_assign rfl) ?_
          refine at_nil ?_
          refine at_drop (H := _) (.s .z) ?_
          refine at_weak [(4, _)] ⟨rfl, trivial⟩ ?_
          refine at_then_normal ?_
          refine at_ret ?_
          refine at_blk_ret (at_then_ret (at_then_ret (at_blk_ret (at_then_ret ?_))))
          obtain rfl := of_some hF
          subst K
          exact at_return1 rfl rfl (fun w1 hw => ⟨rfl, hw.below⟩)
         ·refine at_cond_false rfl h43 ?_
          refine at_skip ?_
          refine at_blk_normal (at_then_normal ?_)
          refine at_region ?_
          refine av rfl (r_iadd rfl rfl) ?_
          refine av rfl (r_move rfl) ?_
          refine nwt [(1, _), (5, _), (6, _), (18, _), (19, _), (20, _)] ⟨rfl, rfl, rfl, rfl, rfl, rfl, trivial⟩ ?_
          refine at_front (.s .z) ?_
          exact at_weak_k (ih _ _ _ _ hF K gh p26 c27) ⟨rfl, rfl, rfl, rfl, rfl, rfl, trivial⟩
     ·refine at_cond_false rfl h17 ?_
      refine at_exit ?_
      refine at_then_exit (at_then_exit ?_)
      refine at_drop (H := _) .z ?_
      obtain rfl := of_some hF
      exact at_weak_k (K gh) trivial
   ·cases q11 with
    | ret r' => exact of_some hF
    | nx sq11 =>
     intro gh
     refine at_blk_same ?_
     refine at_then_normal ?_
     refine sr ?_
     obtain ⟨t44, ht44, hF⟩ := of_bindM hF
     refine at_callB Try.func35 rfl (by kernel_rfl) rfl rfl (fun w hw => crawlwaylaw26_alive_ok  _ ht44 w) ?_
     refine av rfl (r_assign rfl) ?_
     refine nwt [(4, _)] ⟨rfl, trivial⟩ ?_
     refine at_ret ?_
     have K := of_some hF
     subst K
     exact at_return1 rfl rfl (fun w1 hw => ⟨rfl, hw.below⟩)
end Go.Proofs.Ythccncpephpdjaa
namespace Go.Proofs.Ythccncpephpdjaa.Adr
open E Go.RowKit
def vb (l : List UInt8) : Vector Int 16 := lvec 16 (ob l)
theorem vb_toList {l : List UInt8} (h : l.length = 16) : (vb l).toList = ob l := by
  unfold vb
  rw [lvec_toList 16 (ob l) (by rw [ob_length]; omega), List.take_of_length_le (by rw [ob_length]; omega)]
theorem vb_of {v : Vector Int 16} {l : List UInt8} (h : v.toList = ob l) : v = vb l := by
  have hl : l.length = 16 := by have := congrArg List.length h; rw [ob_length] at this; simpa using this.symm
  apply Vector.toList_inj.1
  rw [vb_toList hl, h]
theorem vb_inj {l k : List UInt8} (hl : l.length = 16) (hk : k.length = 16) : vb l = vb k ↔ l = k := by
  constructor
  · intro h
    have := congrArg Vector.toList h
    rw [vb_toList hl, vb_toList hk] at this
    exact ob_inj this
  · intro h; rw [h]
def mkA (V : Int) (l : List UInt8) : S_api_Addr := { f_V := V, f_B := vb l }
theorem exists_mkA (a : S_api_Addr) (h : ok_api_Addr a) : ∃ V l, a = mkA V l ∧ l.length = 16 ∧ (Lit.int .i64 V).wf = true := by
  obtain ⟨l, hl⟩ := exists_ob a.f_B.toList h.2
  have hlen : l.length = 16 := by have := congrArg List.length hl; rw [ob_length] at this; simpa using this.symm
  refine ⟨a.f_V, l, ?_, hlen, h.1⟩
  cases a with | mk V B =>
  show S_api_Addr.mk V B = S_api_Addr.mk V (vb l)
  have hB : B = vb l := vb_of hl
  rw [hB]
theorem mkA_inj {V W : Int} {l k : List UInt8} (hl : l.length = 16) (hk : k.length = 16) : mkA V l = mkA W k ↔ V = W ∧ l = k := by
  unfold mkA
  rw [S_api_Addr.mk.injEq, vb_inj hl hk]
def bg (l : List UInt8) (i : Nat) : Nat := (l.getD i 0).toNat
theorem bg_lt (l : List UInt8) (i : Nat) : bg l i < 256 := (l.getD i 0).toNat_lt
theorem bg_get {l : List UInt8} {i : Nat} {c : UInt8} (h : l[i]? = some c) : bg l i = c.toNat := by
  unfold bg; rw [List.getD_eq_getElem?_getD, h]; rfl
theorem vget_vb {l : List UInt8} (hl : l.length = 16) (i : Nat) (hi : i < 16) : vget (vb l) (i : Int) = (bg l i : Int) := by
  unfold vget
  rw [vb_toList hl, Int.toNat_natCast]
  have hc : l[i]? = some l[i] := List.getElem?_eq_getElem (by omega)
  rw [bg_get hc, List.getD_eq_getElem?_getD]
  unfold ob
  rw [List.getElem?_map, hc]; rfl
theorem vset_vb {l : List UInt8} (hl : l.length = 16) (i : Nat) (c : UInt8) : vset (vb l) (i : Int) (c.toNat : Int) = vb (l.set i c) := by
  apply Vector.toList_inj.1
  rw [vset_toList, vb_toList hl, vb_toList (by simpa using hl), Int.toNat_natCast]
  unfold ob
  rw [List.map_set]
theorem zero_vb : (Vector.replicate 16 (0 : Int) : Vector Int 16) = vb (List.replicate 16 0) := by
  apply vb_of
  rfl
theorem zero_mkA : ({ f_V := (0 : Int), f_B := (Vector.replicate 16 (0 : Int) : (Vector Int 16)) } : S_api_Addr) = mkA 0 (List.replicate 16 0) := by
  unfold mkA; rw [zero_vb]
theorem ob_take (l : List UInt8) (n : Nat) : (ob l).take n = ob (l.take n) := by unfold ob; rw [List.map_take]
theorem lsub_ob (l : List UInt8) (n : Nat) : lsub (ob l) 0 (n : Int) = ob (l.take n) := by
  unfold lsub
  rw [Int.toNat_natCast, show (0 : Int).toNat = 0 from rfl, List.drop_zero, ob_take]
def fourL (m : List UInt8) : List UInt8 := m ++ List.replicate 12 0
theorem fourL_len {m : List UInt8} (h : m.length = 4) : (fourL m).length = 16 := by simp [fourL, h]
theorem four_eq (v : Vector Int 4) (m : List UInt8) (h : v.toList = ob m) : addr_Four v = some (mkA 4 (fourL m)) := by
  have hm : m.length = 4 := by have := congrArg List.length h; rw [ob_length] at this; simpa using this.symm
  unfold addr_Four mkA
  refine congrArg some ?_
  show S_api_Addr.mk 4 _ = S_api_Addr.mk 4 _
  congr 1
  apply vb_of
  show (vcopy (Vector.replicate 16 (0 : Int)) (Int.toNat 0) (List.take (Int.toNat (16 - 0)) v.toList)).toList = _
  rw [h, show Int.toNat (16 - 0) = 16 from rfl, List.take_of_length_le (by rw [ob_length]; omega), show Int.toNat 0 = 0 from rfl, vcopy_toList _ _ _ (by rw [ob_length]; omega)]
  rw [List.take_zero, List.nil_append, Nat.zero_add, ob_length, hm]
  unfold fourL
  rw [ob_append]; rfl
theorem take4 {l : List UInt8} (hl : l.length = 16) : (lvec 4 (lsub (vb l).toList 0 4)).toList = ob (l.take 4) := by
  have e : lsub (vb l).toList 0 4 = ob (l.take 4) := by rw [vb_toList hl]; exact lsub_ob l 4
  rw [e, lvec_toList 4 _ (by rw [ob_length]; simp; omega), List.take_of_length_le (by rw [ob_length]; simp; omega)]
theorem take4_len {l : List UInt8} (hl : l.length = 16) : 4 ≤ (lsub (vb l).toList 0 4).length := by
  have e : lsub (vb l).toList 0 4 = ob (l.take 4) := by rw [vb_toList hl]; exact lsub_ob l 4
  rw [e, ob_length]; simp; omega
def low (l : List UInt8) : Bool := (l.drop 4).all (· == 0)
def rightL (V : Int) (l : List UInt8) : Bool := V == 6 || (V == 4 && low l)
theorem all_zero : ∀ (k : List UInt8), k.all (· == 0) = true ↔ k = List.replicate k.length 0
  | [] => by simp
  | c :: r => by
    rw [List.all_cons, Bool.and_eq_true, all_zero r, List.length_cons, List.replicate_succ, List.cons.injEq, beq_iff_eq]
theorem low_iff {l : List UInt8} (hl : l.length = 16) : low l = true ↔ l = fourL (l.take 4) := by
  unfold low fourL
  rw [all_zero]
  have h12 : (l.drop 4).length = 12 := by simp; omega
  rw [h12]
  constructor
  · intro h
    rw [← h]; exact (List.take_append_drop 4 l).symm
  · intro h
    have h1 : l.drop 4 = (l.take 4 ++ List.replicate 12 0).drop 4 := congrArg (List.drop 4) h
    rw [h1]
    exact List.drop_left' (by simp; omega)
theorem right_code {V : Int} {l : List UInt8} (hl : l.length = 16) : addr_Right (mkA V l) = some (rightL V l) := by
  unfold addr_Right rightL
  show (if (V == 6) = true then some true else (if (V == 4) = true then (if 4 ≤ (lsub (vb l).toList 0 4).length then addr_Four (lvec 4 (lsub (vb l).toList 0 4)) >>= fun t8 => some (decide (mkA V l = t8)) else none) else some false)) = _
  cases h6 : (V == 6)
  · cases h4 : (V == 4)
    · rfl
    · have hV : V = 4 := by simpa using h4
      rw [if_neg Bool.false_ne_true, if_pos rfl, if_pos (take4_len hl), four_eq _ _ (take4 hl), bindM_some]
      congr 1
      rw [Bool.false_or, Bool.true_and, Bool.eq_iff_iff, decide_eq_true_eq, mkA_inj hl (fourL_len (by simp; omega)), low_iff hl]
      exact ⟨fun h => h.2, fun h => ⟨hV, h⟩⟩
  · rfl
theorem right_loop {V : Int} {l : List UInt8} (hl : l.length = 16) : ∀ (k i : Nat), i + k = 16 → crawlwayref10_Right.l0 (mkA V l) (i : Int) = some (if (l.drop i).all (· == 0) = true then .nx () else .ret false) := by
  intro k
  induction k with
  | zero =>
    intro i hi
    have hz : decide ((i : Int) < 16) = false := decide_eq_false (by omega)
    rw [crawlwayref10_Right.l0.eq_def, hz, List.drop_eq_nil_of_le (by omega)]; rfl
  | succ k ih =>
    intro i hi
    have hz : decide ((i : Int) < 16) = true := decide_eq_true (by omega)
    obtain ⟨c, hc, hd⟩ := drop_get l i (by omega)
    have hg : (0 : Int) ≤ (i : Int) ∧ (i : Int) < 16 := by omega
    rw [crawlwayref10_Right.l0.eq_def, hz, if_pos rfl, if_pos hg, hd, List.all_cons]
    show (if (vget (vb l) (i : Int) != 0) = true then _ else _) = _
    rw [vget_vb hl i (by omega), bg_get hc]
    by_cases h0 : c = 0
    · subst h0
      have e1 : (((0 : UInt8).toNat : Int) != 0) = false := rfl
      rw [e1, if_neg Bool.false_ne_true, wr_i64 (by omega) (by omega), show ((i : Int) + 1) = ((i + 1 : Nat) : Int) by omega, ih (i + 1) (by omega)]
      rw [show ((0 : UInt8) == 0) = true from rfl, Bool.true_and]
    · have hne : c.toNat ≠ 0 := fun e => h0 (UInt8.toNat.inj e)
      have e1 : ((c.toNat : Int) != 0) = true := by rw [bne_iff_ne]; omega
      have e2 : (c == 0) = false := by rw [beq_eq_false_iff_ne]; exact h0
      rw [e1, if_pos rfl, e2, Bool.false_and]; rfl
theorem right_ref {V : Int} {l : List UInt8} (hl : l.length = 16) : crawlwayref10_Right (mkA V l) = some (rightL V l) := by
  unfold crawlwayref10_Right rightL
  have h := right_loop (V := V) hl 12 4 rfl
  rw [show ((4 : Nat) : Int) = 4 from rfl] at h
  rw [h]
  show (if (V == 6) = true then some true else _) = _
  cases h6 : (V == 6)
  · rw [if_neg Bool.false_ne_true, bindM_some]
    unfold low
    by_cases hz : (l.drop 4).all (· == 0) = true
    · rw [if_pos hz, hz]
      show some (V == 4) = _
      rw [Bool.false_or, Bool.and_true]
    · rw [if_neg hz]
      have : (l.drop 4).all (· == 0) = false := by simpa using hz
      rw [this, Bool.and_false]; rfl
  · rfl
def widthL (V : Int) (l : List UInt8) : Nat := if rightL V l = true then (if V = 4 then 32 else 128) else 0
theorem width_code {V : Int} {l : List UInt8} (hl : l.length = 16) : addr_Width (mkA V l) = some ((widthL V l : Nat) : Int) := by
  unfold addr_Width widthL
  rw [right_code hl, bindM_some]
  cases rightL V l
  · rfl
  · show (if (V == 4) = true then some (32 : Int) else some 128) = _
    by_cases h : V = 4
    · rw [if_pos (by simpa using h), if_pos rfl, if_pos h]; rfl
    · rw [if_neg (by simpa using h), if_pos rfl, if_neg h]; rfl
theorem right_cases {V : Int} {l : List UInt8} (h : rightL V l = true) : V = 6 ∨ (V = 4 ∧ low l = true) := by
  unfold rightL at h
  rw [Bool.or_eq_true, Bool.and_eq_true, beq_iff_eq, beq_iff_eq] at h
  exact h
theorem width_le {V : Int} {l : List UInt8} : widthL V l ≤ 128 := by
  unfold widthL; split <;> (try split) <;> omega
end Go.Proofs.Ythccncpephpdjaa.Adr
namespace Go.Proofs.Ythccncpephpdjaa.Adr
open E Go.RowKit
theorem width_ref {V : Int} {l : List UInt8} (hl : l.length = 16) : crawlwayref10_Width (mkA V l) = some ((widthL V l : Nat) : Int) := by
  unfold crawlwayref10_Width widthL
  rw [right_ref hl, bindM_some]
  cases rightL V l
  · rfl
  · show (if (V == 4) = true then some (32 : Int) else some 128) = _
    by_cases h : V = 4
    · rw [if_pos (by simpa using h), if_pos rfl, if_pos h]; rfl
    · rw [if_neg (by simpa using h), if_pos rfl, if_neg h]; rfl
def mb (b : UInt8) (k : Nat) : UInt8 := UInt8.ofNat (b.toNat - b.toNat % 2 ^ (8 - k))
theorem mb_fin : ∀ (b : Fin 256) (k : Fin 9), iand .u8 ((b.val : Nat) : Int) (ishl .u8 255 ((8 - k.val : Nat) : Int)) = ((b.val - b.val % 2 ^ (8 - k.val) : Nat) : Int) := by decide +kernel
theorem mb_toNat (b : UInt8) (k : Nat) : (mb b k).toNat = b.toNat - b.toNat % 2 ^ (8 - k) := by
  unfold mb
  have := b.toNat_lt
  rw [UInt8.toNat_ofNat', Nat.mod_eq_of_lt (by omega)]
theorem mb_code (b : UInt8) (k : Nat) (hk : k ≤ 8) : iand .u8 (b.toNat : Int) (ishl .u8 255 ((8 - k : Nat) : Int)) = ((mb b k).toNat : Int) := by
  rw [mb_toNat]
  exact mb_fin ⟨b.toNat, b.toNat_lt⟩ ⟨k, by omega⟩
theorem mb_zero (b : UInt8) : mb b 0 = 0 := by
  apply UInt8.toNat.inj
  have := b.toNat_lt
  rw [mb_toNat, show 2 ^ (8 - 0) = 256 from rfl, Nat.mod_eq_of_lt (by omega), Nat.sub_self]; rfl
theorem mb_of_zero (k : Nat) : mb 0 k = 0 := by
  apply UInt8.toNat.inj
  rw [mb_toNat, show (0 : UInt8).toNat = 0 from rfl, Nat.zero_mod]
theorem mb_step_fin : ∀ (b : Fin 256) (k : Fin 8), b.val - b.val % 2 ^ (8 - (k.val + 1)) = b.val - b.val % 2 ^ (8 - k.val) + (b.val / 2 ^ (7 - k.val) % 2) * (128 / 2 ^ k.val) := by decide +kernel
theorem mb_step (b : UInt8) (k : Nat) (hk : k < 8) : (mb b (k + 1)).toNat = (mb b k).toNat + (b.toNat / 2 ^ (7 - k) % 2) * (128 / 2 ^ k) := by
  rw [mb_toNat, mb_toNat]
  exact mb_step_fin ⟨b.toNat, b.toNat_lt⟩ ⟨k, hk⟩
/-- How many of a byte's first bits stay. -/
def lft (bits : Int) (q : Nat) : Nat := (min (max (bits - 8 * (q : Int)) 0) 8).toNat
theorem lft_le (bits : Int) (q : Nat) : lft bits q ≤ 8 := by unfold lft; omega
def mfull (l : List UInt8) (bits : Int) : List UInt8 := l.mapIdx fun q b => mb b (lft bits q)
theorem mfull_len (l : List UInt8) (bits : Int) : (mfull l bits).length = l.length := by simp [mfull]
theorem mfull_get (l : List UInt8) (bits : Int) (i : Nat) : (mfull l bits)[i]? = (l[i]?).map fun b => mb b (lft bits i) := by
  unfold mfull; rw [List.getElem?_mapIdx]
theorem set_step {α : Type} (A l : List α) (i : Nat) (x : α) (hA : A.length = l.length) (hx : A[i]? = some x) : (A.take i ++ l.drop i).set i x = A.take (i + 1) ++ l.drop (i + 1) := by
  have hi : i < A.length := (List.getElem?_eq_some_iff.1 hx).1
  apply List.ext_getElem?
  intro j
  have h1 : (A.take i).length = i := by simp; omega
  have h2 : (A.take (i + 1)).length = i + 1 := by simp; omega
  rw [List.getElem?_set]
  by_cases hj : i = j
  · subst hj
    have hl : i < (A.take i ++ l.drop i).length := by simp; omega
    rw [if_pos rfl, if_pos hl, List.getElem?_append_left (by omega), List.getElem?_take, if_pos (by omega), hx]
  · rw [if_neg hj]
    by_cases hlt : j < i
    · rw [List.getElem?_append_left (by omega), List.getElem?_append_left (by omega), List.getElem?_take, List.getElem?_take, if_pos hlt, if_pos (by omega)]
    · rw [List.getElem?_append_right (by omega), List.getElem?_append_right (by omega), List.getElem?_drop, List.getElem?_drop, h1, h2]
      congr 1; omega
theorem lft_code (bits : Int) (hb : -9223372036854775808 ≤ bits ∧ bits < 9223372036854775808) (i : Nat) (hi : i < 16) (h0 : ¬ bits < 0) :
    (if 8 < (if wr .i64 (bits - (wr .i64 (8 * (i : Int)))) < 0 then 0 else wr .i64 (bits - (wr .i64 (8 * (i : Int))))) then 8 else (if wr .i64 (bits - (wr .i64 (8 * (i : Int)))) < 0 then 0 else wr .i64 (bits - (wr .i64 (8 * (i : Int)))))) = ((lft bits i : Nat) : Int) := by
  have e1 : wr .i64 (8 * (i : Int)) = 8 * (i : Int) := wr_i64 (by omega) (by omega)
  rw [e1, wr_i64 (by omega) (by omega)]
  unfold lft
  by_cases h1 : bits - 8 * (i : Int) < 0
  · rw [if_pos h1]; split <;> omega
  · rw [if_neg h1]; split <;> omega
theorem mask_loop (V bits : Int) (l : List UInt8) (hl : l.length = 16) (hb : -9223372036854775808 ≤ bits ∧ bits < 9223372036854775808) : ∀ (k i : Nat), i + k = 16 →
    addr_Mask.l0 bits (i : Int) (mkA V ((mfull l bits).take i ++ l.drop i)) = some (mkA V (mfull l bits)) := by
  have hml := mfull_len l bits
  intro k
  induction k with
  | zero =>
    intro i hi
    have hz : decide ((i : Int) < 16) = false := decide_eq_false (by omega)
    rw [addr_Mask.l0.eq_def, hz, if_neg Bool.false_ne_true, List.drop_eq_nil_of_le (by omega), List.append_nil, List.take_of_length_le (by omega)]
  | succ k ih =>
    intro i hi
    have hz : decide ((i : Int) < 16) = true := decide_eq_true (by omega)
    have hc : l[i]? = some l[i] := List.getElem?_eq_getElem (by omega)
    generalize hcc : l[i] = c at hc
    have hAlen : ((mfull l bits).take i ++ l.drop i).length = 16 := by simp; omega
    have hAi : ((mfull l bits).take i ++ l.drop i)[i]? = some c := by
      rw [List.getElem?_append_right (by simp; omega), List.getElem?_drop]
      have : i + (i - ((mfull l bits).take i).length) = i := by simp; omega
      rw [this, hc]
    have hg : (0 : Int) ≤ (i : Int) ∧ (i : Int) < 16 := by omega
    have hv : vget (vb ((mfull l bits).take i ++ l.drop i)) (i : Int) = (c.toNat : Int) := by rw [vget_vb hAlen i (by omega), bg_get hAi]
    have hstep := set_step (mfull l bits) l i (mb c (lft bits i)) hml (by rw [mfull_get, hc]; rfl)
    have hle := lft_le bits i
    have hset : ∀ s : Int, s = ((8 - lft bits i : Nat) : Int) → ({ mkA V ((mfull l bits).take i ++ l.drop i) with f_B := vset (vb ((mfull l bits).take i ++ l.drop i)) (i : Int) (iand .u8 (vget (vb ((mfull l bits).take i ++ l.drop i)) (i : Int)) (ishl .u8 255 s)) } : S_api_Addr) =
        mkA V ((mfull l bits).take (i + 1) ++ l.drop (i + 1)) := fun s hs => by
      rw [hs, hv, mb_code c _ hle, vset_vb hAlen, hstep]; rfl
    have e8 : wr .u64 (wr .i64 (8 - ((lft bits i : Nat) : Int))) = ((8 - lft bits i : Nat) : Int) := by
      rw [wr_i64 (by omega) (by omega), wr_u64 (by omega) (by omega)]; omega
    have hn : (0 : Int) ≤ ((8 - lft bits i : Nat) : Int) := by omega
    have hi1 : wr .i64 ((i : Int) + 1) = ((i + 1 : Nat) : Int) := by rw [wr_i64 (by omega) (by omega)]; omega
    rw [addr_Mask.l0.eq_def, hz, if_pos rfl]
    by_cases h0 : bits < 0
    · have hl0 : lft bits i = 0 := by unfold lft; omega
      have e80 : wr .u64 (wr .i64 (8 - 0)) = ((8 - lft bits i : Nat) : Int) := by rw [hl0]; rfl
      rw [if_pos (decide_eq_true h0), if_pos hg, e80, if_pos hn, if_pos hg, hi1]
      have := hset _ rfl
      rw [show (mkA V ((mfull l bits).take i ++ l.drop i)).f_B = vb ((mfull l bits).take i ++ l.drop i) from rfl, this]
      exact ih (i + 1) (by omega)
    · rw [if_neg (by rw [decide_eq_true_eq]; exact h0), if_pos hg, lft_code bits hb i (by omega) h0, e8, if_pos hn, if_pos hg, hi1]
      have := hset _ rfl
      rw [show (mkA V ((mfull l bits).take i ++ l.drop i)).f_B = vb ((mfull l bits).take i ++ l.drop i) from rfl, this]
      exact ih (i + 1) (by omega)
def maskA (V : Int) (l : List UInt8) (bits : Int) : S_api_Addr := if rightL V l = true then mkA V (mfull l bits) else mkA 0 (List.replicate 16 0)
theorem mask_code {V bits : Int} {l : List UInt8} (hl : l.length = 16) (hb : -9223372036854775808 ≤ bits ∧ bits < 9223372036854775808) : addr_Mask (mkA V l) bits = some (maskA V l bits) := by
  unfold addr_Mask maskA
  rw [right_code hl, bindM_some]
  cases rightL V l
  · show some _ = _
    rw [zero_mkA]; rfl
  · have h := mask_loop V bits l hl hb 16 0 rfl
    rw [List.take_zero, List.nil_append, List.drop_zero, show ((0 : Nat) : Int) = 0 from rfl] at h
    show (addr_Mask.l0 bits 0 (mkA V l) >>= fun q5 => some q5) = _
    rw [h]; rfl
def bit (l : List UInt8) (i : Nat) : Nat := bg l (i / 8) / 2 ^ (7 - i % 8) % 2
theorem digit_loop (i : Nat) (hi : i < 9223372036854775808) : ∀ (k n : Nat), n < 256 → i % 8 + k ≤ 7 → crawlwayref10_digit.l0 (i : Int) (n : Int) ((i % 8 + k : Nat) : Int) = some ((n / 2 ^ k : Nat) : Int) := by
  intro k
  have hm : Int.tmod (i : Int) 8 = ((i % 8 : Nat) : Int) := by rw [Int.tmod_eq_emod_of_nonneg (by omega)]; omega
  induction k with
  | zero =>
    intro n hn hk
    rw [crawlwayref10_digit.l0.eq_def, hm, if_neg (by rw [decide_eq_true_eq]; omega), Nat.pow_zero, Nat.div_one]
  | succ k ih =>
    intro n hn hk
    have e1 : wr .i64 (Int.tdiv (n : Int) 2) = ((n / 2 : Nat) : Int) := by
      have : Int.tdiv (n : Int) 2 = ((n / 2 : Nat) : Int) := by rw [Int.tdiv_eq_ediv_of_nonneg (by omega)]; omega
      rw [this, wr_i64 (by omega) (by omega)]
    have e2 : wr .i64 (((i % 8 + (k + 1) : Nat) : Int) - 1) = ((i % 8 + k : Nat) : Int) := by rw [wr_i64 (by omega) (by omega)]; omega
    rw [crawlwayref10_digit.l0.eq_def, hm, if_pos (decide_eq_true (by omega)), e1, e2, ih (n / 2) (by omega) (by omega), Nat.div_div_eq_div_mul]
    rw [Nat.pow_succ, Nat.mul_comm]
theorem digit_ref {V : Int} {l : List UInt8} (hl : l.length = 16) (i : Nat) (hi : i < 128) : crawlwayref10_digit (mkA V l) (i : Int) = some ((bit l i : Nat) : Int) := by
  have hd : wr .i64 (Int.tdiv (i : Int) 8) = ((i / 8 : Nat) : Int) := by
    have : Int.tdiv (i : Int) 8 = ((i / 8 : Nat) : Int) := by rw [Int.tdiv_eq_ediv_of_nonneg (by omega)]; omega
    rw [this, wr_i64 (by omega) (by omega)]
  have hb := bg_lt l (i / 8)
  unfold crawlwayref10_digit
  rw [hd, if_pos (by omega)]
  show (crawlwayref10_digit.l0 (i : Int) (wr .i64 (vget (vb l) ((i / 8 : Nat) : Int))) 7 >>= fun q3 => some (Int.tmod q3 2)) = _
  rw [vget_vb hl _ (by omega), wr_i64 (by omega) (by omega)]
  have h := digit_loop i (by omega) (7 - i % 8) (bg l (i / 8)) hb (by omega)
  rw [show i % 8 + (7 - i % 8) = 7 by omega, show ((7 : Nat) : Int) = 7 from rfl] at h
  rw [h, bindM_some]
  unfold bit
  refine congrArg some ?_
  have := Int.tmod_eq_emod_of_nonneg (a := ((bg l (i / 8) / 2 ^ (7 - i % 8) : Nat) : Int)) (b := 2) (Int.natCast_nonneg _)
  rw [this]; exact (Int.natCast_emod _ 2).symm
theorem bit_lt (l : List UInt8) (i : Nat) : bit l i < 2 := Nat.mod_lt _ (by omega)
def lftN (t q : Nat) : Nat := min (t - 8 * q) 8
def refm (l : List UInt8) (t : Nat) : List UInt8 := l.mapIdx fun q b => mb b (lftN t q)
theorem refm_len (l : List UInt8) (t : Nat) : (refm l t).length = l.length := by simp [refm]
theorem refm_get (l : List UInt8) (t i : Nat) : (refm l t)[i]? = (l[i]?).map fun b => mb b (lftN t i) := by
  unfold refm; rw [List.getElem?_mapIdx]
theorem refm_step (l : List UInt8) (hl : l.length = 16) (i : Nat) (hi : i < 128) : refm l (i + 1) = (refm l i).set (i / 8) (mb (l.getD (i / 8) 0) (i % 8 + 1)) := by
  apply List.ext_getElem?
  intro j
  rw [List.getElem?_set, refm_get, refm_get]
  by_cases hj : i / 8 = j
  · subst hj
    have hlt : i / 8 < (refm l i).length := by rw [refm_len]; omega
    have hc : l[i / 8]? = some l[i / 8] := List.getElem?_eq_getElem (by omega)
    have e : lftN (i + 1) (i / 8) = i % 8 + 1 := by unfold lftN; omega
    rw [if_pos rfl, if_pos hlt, hc, List.getD_eq_getElem?_getD, hc, e]; rfl
  · rw [if_neg hj]
    have : lftN (i + 1) j = lftN i j := by unfold lftN; omega
    rw [this]
theorem refMask_l1 (i : Nat) (hi : i < 9223372036854775808) : ∀ (k j n : Nat), n < 256 → j + k = i % 8 → crawlwayref10_Mask.l1 (i : Int) (n : Int) (j : Int) = some ((n / 2 ^ k : Nat) : Int) := by
  intro k
  have hm : Int.tmod (i : Int) 8 = ((i % 8 : Nat) : Int) := by rw [Int.tmod_eq_emod_of_nonneg (by omega)]; omega
  induction k with
  | zero =>
    intro j n hn hk
    rw [crawlwayref10_Mask.l1.eq_def, hm, if_neg (by rw [decide_eq_true_eq]; omega), Nat.pow_zero, Nat.div_one]
  | succ k ih =>
    intro j n hn hk
    have e1 : wr .i64 (Int.tdiv (n : Int) 2) = ((n / 2 : Nat) : Int) := by
      have : Int.tdiv (n : Int) 2 = ((n / 2 : Nat) : Int) := by rw [Int.tdiv_eq_ediv_of_nonneg (by omega)]; omega
      rw [this, wr_i64 (by omega) (by omega)]
    have e2 : wr .i64 ((j : Int) + 1) = ((j + 1 : Nat) : Int) := by rw [wr_i64 (by omega) (by omega)]; omega
    rw [crawlwayref10_Mask.l1.eq_def, hm, if_pos (decide_eq_true (by omega)), e1, e2, ih (j + 1) (n / 2) (by omega) (by omega), Nat.div_div_eq_div_mul]
    rw [Nat.pow_succ, Nat.mul_comm]
theorem refMask_loop (V bits : Int) (l : List UInt8) (hl : l.length = 16) (w : Nat) (hw : w ≤ 128) : ∀ (k i : Nat), i + k = min w bits.toNat →
    crawlwayref10_Mask.l0 (mkA V l) bits (w : Int) (i : Int) (mkA V (refm l i)) = some (mkA V (refm l (min w bits.toNat))) := by
  intro k
  induction k with
  | zero =>
    intro i hi
    rw [crawlwayref10_Mask.l0.eq_def]
    by_cases h1 : i < w
    · have hb : decide ((i : Int) < bits) = false := decide_eq_false (by omega)
      rw [if_pos (decide_eq_true (by omega)), hb, if_neg Bool.false_ne_true, show i = min w bits.toNat by omega]
    · rw [if_neg (by rw [decide_eq_true_eq]; omega), show i = min w bits.toNat by omega]
  | succ k ih =>
    intro i hi
    have hi128 : i < 128 := by omega
    have hd : wr .i64 (Int.tdiv (i : Int) 8) = ((i / 8 : Nat) : Int) := by
      have : Int.tdiv (i : Int) 8 = ((i / 8 : Nat) : Int) := by rw [Int.tdiv_eq_ediv_of_nonneg (by omega)]; omega
      rw [this, wr_i64 (by omega) (by omega)]
    have hi1 : wr .i64 ((i : Int) + 1) = ((i + 1 : Nat) : Int) := by rw [wr_i64 (by omega) (by omega)]; omega
    have hl1 := refMask_l1 i (by omega) (i % 8) 0 128 (by omega) (by omega)
    rw [show ((128 : Nat) : Int) = 128 from rfl, show ((0 : Nat) : Int) = 0 from rfl] at hl1
    have hc : l[i / 8]? = some l[i / 8] := List.getElem?_eq_getElem (by omega)
    generalize hcc : l[i / 8] = c at hc
    have hgd : l.getD (i / 8) 0 = c := by rw [List.getD_eq_getElem?_getD, hc]; rfl
    have hbit : bit l i = c.toNat / 2 ^ (7 - i % 8) % 2 := by unfold bit; rw [bg_get hc]
    have hst := mb_step c (i % 8) (by omega)
    have hlt := (mb c (i % 8 + 1)).toNat_lt
    have hrl : (refm l i).length = 16 := by rw [refm_len]; exact hl
    have hri : (refm l i)[i / 8]? = some (mb c (i % 8)) := by
      have e : lftN i (i / 8) = i % 8 := by unfold lftN; omega
      rw [refm_get, hc, e]; rfl
    have hstep := refm_step l hl i hi128
    rw [hgd] at hstep
    rw [crawlwayref10_Mask.l0.eq_def, if_pos (decide_eq_true (by omega)), if_pos (decide_eq_true (by omega)), digit_ref hl i hi128, bindM_some, hl1, bindM_some, hd, hi1]
    by_cases hb : bit l i = 1
    · have hbb : (((bit l i : Nat) : Int) == 1) = true := by rw [hb]; rfl
      rw [hbb, if_pos rfl, if_pos (by omega), if_pos (by omega)]
      have hset : ({ mkA V (refm l i) with f_B := vset (mkA V (refm l i)).f_B ((i / 8 : Nat) : Int) (wr .u8 ((vget (mkA V (refm l i)).f_B ((i / 8 : Nat) : Int)) + (wr .u8 ((128 / 2 ^ (i % 8) : Nat) : Int)))) } : S_api_Addr) = mkA V (refm l (i + 1)) := by
        show S_api_Addr.mk V (vset (vb (refm l i)) ((i / 8 : Nat) : Int) (wr .u8 ((vget (vb (refm l i)) ((i / 8 : Nat) : Int)) + (wr .u8 ((128 / 2 ^ (i % 8) : Nat) : Int))))) = _
        have hq : 128 / 2 ^ (i % 8) < 256 := Nat.lt_of_le_of_lt (Nat.div_le_self _ _) (by omega)
        have e6 : wr .u8 ((128 / 2 ^ (i % 8) : Nat) : Int) = ((128 / 2 ^ (i % 8) : Nat) : Int) := by
          generalize 128 / 2 ^ (i % 8) = z at hq
          exact wr_u8 (by omega) (by omega)
        rw [vget_vb hrl _ (by omega), bg_get hri, e6]
        have e5 : wr .u8 (((mb c (i % 8)).toNat : Int) + ((128 / 2 ^ (i % 8) : Nat) : Int)) = ((mb c (i % 8 + 1)).toNat : Int) := by
          rw [hst, ← hbit, hb, Nat.one_mul] at hlt
          rw [hst, ← hbit, hb, Nat.one_mul]
          generalize 128 / 2 ^ (i % 8) = z at hlt
          rw [wr_u8 (by omega) (by omega)]; omega
        rw [e5, vset_vb hrl, ← hstep]; rfl
      rw [hset]
      exact ih (i + 1) (by omega)
    · have h0 : bit l i = 0 := by have := bit_lt l i; omega
      have hbb : (((bit l i : Nat) : Int) == 1) = false := by rw [h0]; rfl
      rw [hbb, if_neg Bool.false_ne_true]
      have : refm l (i + 1) = refm l i := by
        rw [hstep]
        have e6 : mb c (i % 8 + 1) = mb c (i % 8) := by
          apply UInt8.toNat.inj
          rw [hst, ← hbit, h0]; omega
        rw [e6]
        apply List.ext_getElem?
        intro j
        rw [List.getElem?_set]
        by_cases hj : i / 8 = j
        · subst hj; rw [if_pos rfl, if_pos (by omega), hri]
        · rw [if_neg hj]
      rw [← this]
      exact ih (i + 1) (by omega)
theorem refm_zero (l : List UInt8) (hl : l.length = 16) : refm l 0 = List.replicate 16 0 := by
  apply List.ext_getElem?
  intro j
  rw [refm_get]
  by_cases hj : j < 16
  · have hc : l[j]? = some l[j] := List.getElem?_eq_getElem (by omega)
    rw [hc, List.getElem?_replicate, if_pos hj]
    have e : lftN 0 j = 0 := by unfold lftN; omega
    rw [e]
    exact congrArg some (mb_zero _)
  · rw [List.getElem?_eq_none (by omega), List.getElem?_eq_none (by simp; omega)]; rfl
theorem refm_full {V bits : Int} {l : List UInt8} (hl : l.length = 16) (hr : rightL V l = true) : refm l (min (widthL V l) bits.toNat) = mfull l bits := by
  apply List.ext_getElem?
  intro j
  rw [refm_get, mfull_get]
  by_cases hj : j < 16
  · have hc : l[j]? = some l[j] := List.getElem?_eq_getElem (by omega)
    rw [hc]
    show some _ = some _
    congr 1
    rcases right_cases hr with h6 | ⟨h4, hlow⟩
    · have hw : widthL V l = 128 := by unfold widthL; rw [if_pos hr, if_neg (by omega)]
      have : lftN (min (widthL V l) bits.toNat) j = lft bits j := by rw [hw]; unfold lftN lft; omega
      rw [this]
    · have hw : widthL V l = 32 := by unfold widthL; rw [if_pos hr, if_pos h4]
      by_cases hj4 : j < 4
      · have : lftN (min (widthL V l) bits.toNat) j = lft bits j := by rw [hw]; unfold lftN lft; omega
        rw [this]
      · have hz : l[j] = 0 := by
          have h1 := (low_iff hl).1 hlow
          have h2 : l[j]? = some 0 := by
            rw [h1]; unfold fourL
            rw [List.getElem?_append_right (by simp; omega), List.getElem?_replicate, if_pos (by simp; omega)]
          rw [hc] at h2; exact Option.some.inj h2
        rw [hz]
        exact (mb_of_zero _).trans (mb_of_zero _).symm
  · rw [List.getElem?_eq_none (by omega)]; rfl
theorem mask_ref {V bits : Int} {l : List UInt8} (hl : l.length = 16) : crawlwayref10_Mask (mkA V l) bits = some (maskA V l bits) := by
  unfold crawlwayref10_Mask maskA
  rw [right_ref hl, bindM_some]
  cases hr : rightL V l
  · show some _ = _
    rw [zero_mkA]; rfl
  · have h := refMask_loop V bits l hl (widthL V l) width_le (min (widthL V l) bits.toNat) 0 (by omega)
    rw [refm_zero l hl, show ((0 : Nat) : Int) = 0 from rfl, refm_full hl hr] at h
    show (crawlwayref10_Width (mkA V l) >>= fun t6 => crawlwayref10_Mask.l0 (mkA V l) bits t6 0 (S_api_Addr.mk V (Vector.replicate 16 (0 : Int))) >>= fun q7 => some q7) = _
    rw [width_ref hl, bindM_some, zero_vb]
    show (crawlwayref10_Mask.l0 (mkA V l) bits _ 0 (mkA V (List.replicate 16 0)) >>= fun q7 => some q7) = _
    rw [h]; rfl
end Go.Proofs.Ythccncpephpdjaa.Adr
namespace Go.Proofs.Ythccncpephpdjaa.Cid
open E Go.RowKit
open Adr
def mkP (A : S_api_Addr) (b : Int) : S_api_Prefix := { f_A := A, f_Bits := b }
def zP : S_api_Prefix := { f_A := ({ f_V := (0 : Int), f_B := (Vector.replicate 16 (0 : Int) : (Vector Int 16)) } : S_api_Addr), f_Bits := (0 : Int) }
theorem exists_mkP (a : S_api_Prefix) (h : ok_api_Prefix a) : ∃ V l b, a = mkP (mkA V l) b ∧ l.length = 16 ∧ (Lit.int .i64 b).wf = true := by
  obtain ⟨V, l, hA, hl, _⟩ := exists_mkA a.f_A h.1
  refine ⟨V, l, a.f_Bits, ?_, hl, h.2⟩
  cases a with | mk A n =>
  simp only at hA
  subst hA; rfl
theorem mkP_inj {V W : Int} {l k : List UInt8} {b c : Int} (hl : l.length = 16) (hk : k.length = 16) : mkP (mkA V l) b = mkP (mkA W k) c ↔ (V = W ∧ l = k) ∧ b = c := by
  unfold mkP
  rw [S_api_Prefix.mk.injEq, mkA_inj hl hk]
def fits (V : Int) (l : List UInt8) (b : Int) : Bool := rightL V l && (decide (0 ≤ b) && decide (b ≤ (widthL V l : Int)))
theorem fits_iff {V : Int} {l : List UInt8} {b : Int} : fits V l b = true ↔ rightL V l = true ∧ 0 ≤ b ∧ b ≤ (widthL V l : Int) := by
  unfold fits
  simp only [Bool.and_eq_true, decide_eq_true_eq]
def ofP (V : Int) (l : List UInt8) (b : Int) : S_api_Prefix × Int := if rightL V l = true then (if fits V l b = true then (mkP (mkA V (mfull l b)) b, 0) else (zP, 6)) else (zP, 1)
theorem of_code {V b : Int} {l : List UInt8} (hl : l.length = 16) : cidr_Of (mkA V l) b = some (ofP V l b) := by
  unfold cidr_Of ofP
  rw [right_code hl, bindM_some]
  have hw := width_le (V := V) (l := l)
  cases hr : rightL V l with
  | false => rfl
  | true =>
    rw [if_neg (show ¬ (!true) = true by decide), if_pos rfl]
    by_cases h0 : b < 0
    · have hf : ¬ fits V l b = true := fun h => by have := (fits_iff.1 h).2.1; omega
      rw [if_pos (decide_eq_true h0), if_neg hf]; rfl
    · rw [if_neg (by rw [decide_eq_true_eq]; exact h0), width_code hl, bindM_some]
      by_cases h1 : b > (widthL V l : Int)
      · have hf : ¬ fits V l b = true := fun h => by have := (fits_iff.1 h).2.2; omega
        rw [if_pos (decide_eq_true h1), if_neg hf]; rfl
      · have hf : fits V l b = true := fits_iff.2 ⟨hr, by omega, by omega⟩
        rw [if_neg (by rw [decide_eq_true_eq]; exact h1), mask_code hl (by omega), bindM_some, if_pos hf]
        unfold maskA
        rw [if_pos hr]; rfl
def rightP (V : Int) (l : List UInt8) (b : Int) : Bool := fits V l b && decide (mfull l b = l)
theorem rightP_iff {V : Int} {l : List UInt8} {b : Int} : rightP V l b = true ↔ (rightL V l = true ∧ 0 ≤ b ∧ b ≤ (widthL V l : Int)) ∧ mfull l b = l := by
  unfold rightP
  rw [Bool.and_eq_true, fits_iff, decide_eq_true_eq]
theorem mlen {l : List UInt8} (hl : l.length = 16) (b : Int) : (mfull l b).length = 16 := by rw [mfull_len, hl]
theorem cright_code {V b : Int} {l : List UInt8} (hl : l.length = 16) : cidr_Right (mkP (mkA V l) b) = some (rightP V l b) := by
  unfold cidr_Right
  show (cidr_Of (mkA V l) b >>= fun t2 => if (t2.2 == 0) = true then some (decide (t2.1 = mkP (mkA V l) b)) else some false) = _
  rw [of_code hl, bindM_some]
  unfold ofP rightP
  cases hr : rightL V l with
  | false =>
    have hf : fits V l b = false := by unfold fits; rw [hr]; rfl
    rw [hf]; rfl
  | true =>
    rw [if_pos rfl]
    cases hf : fits V l b with
    | false => rfl
    | true =>
      rw [if_pos rfl]
      show (if ((0 : Int) == 0) = true then some (decide (mkP (mkA V (mfull l b)) b = mkP (mkA V l) b)) else some false) = _
      rw [if_pos (by rfl), Bool.true_and]
      refine congrArg some ?_
      rw [decide_eq_decide, mkP_inj (mlen hl b) hl]
      exact ⟨fun h => h.1.2, fun h => ⟨⟨rfl, h⟩, rfl⟩⟩
theorem cright_ref {V b : Int} {l : List UInt8} (hl : l.length = 16) : crawlwayref11_Right (mkP (mkA V l) b) = some (rightP V l b) := by
  unfold crawlwayref11_Right rightP
  show (crawlwayref10_Right (mkA V l) >>= fun t2 => if (!t2) = true then some false else (if decide (b < 0) = true then some false else (crawlwayref10_Width (mkA V l) >>= fun t5 => if decide (b > t5) = true then some false else (crawlwayref10_Mask (mkA V l) b >>= fun t7 => some (decide (mkA V l = t7)))))) = _
  rw [right_ref hl, bindM_some]
  cases hr : rightL V l with
  | false =>
    have hf : fits V l b = false := by unfold fits; rw [hr]; rfl
    rw [hf]; rfl
  | true =>
    rw [if_neg (show ¬ (!true) = true by decide)]
    by_cases h0 : b < 0
    · have hf : fits V l b = false := by cases h : fits V l b with | false => rfl | true => have := (fits_iff.1 h).2.1; omega
      rw [if_pos (decide_eq_true h0), hf]; rfl
    · rw [if_neg (by rw [decide_eq_true_eq]; exact h0), width_ref hl, bindM_some]
      by_cases h1 : b > (widthL V l : Int)
      · have hf : fits V l b = false := by cases h : fits V l b with | false => rfl | true => have := (fits_iff.1 h).2.2; omega
        rw [if_pos (decide_eq_true h1), hf]; rfl
      · have hf : fits V l b = true := fits_iff.2 ⟨hr, by omega, by omega⟩
        rw [if_neg (by rw [decide_eq_true_eq]; exact h1), mask_ref hl, bindM_some, hf, Bool.true_and]
        unfold maskA
        rw [if_pos hr]
        refine congrArg some ?_
        rw [decide_eq_decide, mkA_inj hl (mlen hl b)]
        exact ⟨fun h => h.2.symm, fun h => ⟨rfl, h.symm⟩⟩
end Go.Proofs.Ythccncpephpdjaa.Cid
namespace Go.Proofs.Ythccncpephpdjaa.Adr
open E Go.RowKit Cid
theorem bit_code {V i : Int} {l : List UInt8} (hl : l.length = 16) (hi : -9223372036854775808 ≤ i ∧ i < 9223372036854775808) :
    addr_Bit (mkA V l) i = some (if 0 ≤ i ∧ i < (widthL V l : Int) then ((bit l i.toNat : Nat) : Int) else -1) := by
  unfold addr_Bit
  rw [width_code hl, bindM_some]
  have hw := width_le (V := V) (l := l)
  by_cases h0 : i < 0
  · rw [if_pos (decide_eq_true h0), if_neg (by omega)]
  · rw [if_neg (by rw [decide_eq_true_eq]; exact h0)]
    by_cases h1 : i ≥ (widthL V l : Int)
    · rw [if_pos (decide_eq_true h1), if_neg (by omega)]
    · rw [if_neg (by rw [decide_eq_true_eq]; exact h1)]
      obtain ⟨n, rfl⟩ := Int.eq_ofNat_of_zero_le (show 0 ≤ i by omega)
      have hn : n < 128 := by omega
      have e1 : ishr .i64 (n : Int) 3 = ((n / 8 : Nat) : Int) := ishr_nat .i64 n 3 (by decide)
      have e2 : iand .i64 (n : Int) 7 = ((n % 8 : Nat) : Int) := by
        unfold iand
        have h7 : (BitVec.ofInt IntKind.i64.bits (7 : Int)).toNat = 7 := by decide
        have hb : (BitVec.ofInt IntKind.i64.bits (n : Int)).toNat = n := toNat_ofInt 64 n (by omega)
        rw [BitVec.toNat_and, h7, hb, show (7 : Nat) = 2 ^ 3 - 1 from rfl, Nat.and_two_pow_sub_one_eq_mod]
        have := wr_i64 (x := ((n % 2 ^ 3 : Nat) : Int)) (by omega) (by omega)
        exact this
      have e3 : wr .u64 (wr .i64 (7 - ((n % 8 : Nat) : Int))) = ((7 - n % 8 : Nat) : Int) := by rw [wr_i64 (by omega) (by omega), wr_u64 (by omega) (by omega)]; omega
      have hb := bg_lt l (n / 8)
      have h3 : (0 : Int) ≤ (n : Int) ∧ (n : Int) < (widthL V l : Int) := by omega
      rw [e1, e2, e3, if_pos (by omega), if_pos (by omega), if_pos h3]
      refine congrArg some ?_
      show iand .i64 (wr .i64 (ishr .u8 (vget (vb l) ((n / 8 : Nat) : Int)) ((7 - n % 8 : Nat) : Int))) 1 = _
      rw [vget_vb hl _ (by omega), ishr_nat .u8 _ _ (by show 7 - n % 8 ≤ 8; omega)]
      have hdl : bg l (n / 8) / 2 ^ (7 - n % 8) < 256 := Nat.lt_of_le_of_lt (Nat.div_le_self _ _) hb
      generalize hx : bg l (n / 8) / 2 ^ (7 - n % 8) = x at hdl
      rw [wr_i64 (by omega) (by omega)]
      have e4 : iand .i64 (x : Int) 1 = ((x % 2 : Nat) : Int) := by
        unfold iand
        have h1 : (BitVec.ofInt IntKind.i64.bits (1 : Int)).toNat = 1 := by decide
        have hb : (BitVec.ofInt IntKind.i64.bits (x : Int)).toNat = x := toNat_ofInt 64 x (by omega)
        rw [BitVec.toNat_and, h1, hb, Nat.and_one_is_mod]
        have := wr_i64 (x := ((x % 2 : Nat) : Int)) (by omega) (by omega)
        exact this
      rw [e4]
      unfold bit
      rw [Int.toNat_natCast, hx]
def fd (p : Nat → Bool) : Nat → Nat → Nat
  | 0, i => i
  | f + 1, i => if p i = true then fd p f (i + 1) else i
theorem fd_le (p : Nat → Bool) : ∀ (f i : Nat), fd p f i ≤ i + f
  | 0, i => Nat.le_refl _
  | f + 1, i => by
    unfold fd
    split
    · have := fd_le p f (i + 1); omega
    · omega
theorem fd_all (p : Nat → Bool) : ∀ (f i j : Nat), i ≤ j → j < fd p f i → p j = true
  | 0, i, j, h1, h2 => by unfold fd at h2; omega
  | f + 1, i, j, h1, h2 => by
    unfold fd at h2
    by_cases hp : p i = true
    · rw [if_pos hp] at h2
      by_cases hj : j = i
      · subst hj; exact hp
      · exact fd_all p f (i + 1) j (by omega) h2
    · rw [if_neg hp] at h2; omega
theorem fd_stop (p : Nat → Bool) : ∀ (f i : Nat), fd p f i < i + f → p (fd p f i) = false
  | 0, i, h => by unfold fd at h; omega
  | f + 1, i, h => by
    unfold fd at h ⊢
    by_cases hp : p i = true
    · rw [if_pos hp] at h ⊢
      exact fd_stop p f (i + 1) (by omega)
    · rw [if_neg hp]; simpa using hp
/-- Are the bits at a place alike? -/
def alikeB (l k : List UInt8) (i : Nat) : Bool := decide (bit l i = bit k i)
theorem refCommon_loop {V W : Int} {l k : List UInt8} (hl : l.length = 16) (hk : k.length = 16) (t : Nat) (ht : t ≤ 128) : ∀ (f i : Nat), i + f = t →
    crawlwayref10_Common.l0 (mkA V l) (mkA W k) (t : Int) (i : Int) = some ((fd (alikeB l k) f i : Nat) : Int) := by
  intro f
  induction f with
  | zero =>
    intro i hi
    rw [crawlwayref10_Common.l0.eq_def, if_neg (by rw [decide_eq_true_eq]; omega)]; rfl
  | succ f ih =>
    intro i hi
    rw [crawlwayref10_Common.l0.eq_def, if_pos (decide_eq_true (by omega)), digit_ref hl i (by omega), bindM_some, digit_ref hk i (by omega), bindM_some]
    unfold fd
    by_cases h : bit l i = bit k i
    · have h1 : (((bit l i : Nat) : Int) == ((bit k i : Nat) : Int)) = true := by rw [h]; exact beq_self_eq_true _
      have h2 : alikeB l k i = true := decide_eq_true h
      rw [h1, if_pos rfl, h2, if_pos rfl, wr_i64 (by omega) (by omega), show ((i : Int) + 1) = ((i + 1 : Nat) : Int) by omega]
      exact ih (i + 1) (by omega)
    · have h1 : (((bit l i : Nat) : Int) == ((bit k i : Nat) : Int)) = false := by rw [beq_eq_false_iff_ne]; omega
      have h2 : alikeB l k i = false := decide_eq_false h
      rw [h1, if_neg Bool.false_ne_true, h2, if_neg Bool.false_ne_true]
def commonL (V : Int) (l : List UInt8) (W : Int) (k : List UInt8) : Int :=
  if rightL V l = true ∧ rightL W k = true ∧ V = W then ((fd (alikeB l k) (widthL V l) 0 : Nat) : Int) else -1
theorem common_ref {V W : Int} {l k : List UInt8} (hl : l.length = 16) (hk : k.length = 16) : crawlwayref10_Common (mkA V l) (mkA W k) = some (commonL V l W k) := by
  unfold crawlwayref10_Common commonL
  rw [right_ref hl, bindM_some]
  cases hr : rightL V l
  · show some (-1 : Int) = _
    rw [if_neg (by simp)]
  · show (crawlwayref10_Right (mkA W k) >>= fun t5 => _) = _
    rw [right_ref hk, bindM_some]
    cases hs : rightL W k
    · show some (-1 : Int) = _
      rw [if_neg (by simp)]
    · show (if (V != W) = true then _ else _) = _
      by_cases hv : V = W
      · subst hv
        have hne : (V != V) = false := by simp
        rw [hne, if_neg Bool.false_ne_true, width_ref hl, bindM_some]
        have h1 := refCommon_loop (V := V) (W := V) hl hk (widthL V l) width_le (widthL V l) 0 (by omega)
        rw [show ((0 : Nat) : Int) = 0 from rfl] at h1
        rw [h1, bindM_some, if_pos ⟨rfl, rfl, rfl⟩]
      · have hne : (V != W) = true := by simpa using hv
        rw [hne, if_pos rfl, if_neg (fun h => hv h.2.2)]
def lessL : List UInt8 → List UInt8 → Bool
  | x :: a, y :: b => if x ≠ y then decide (x < y) else lessL a b
  | _, _ => false
def lessA (V : Int) (l : List UInt8) (W : Int) (k : List UInt8) : Bool := if V = W then lessL l k else decide (V < W)
theorem refLess_loop {V W : Int} {l k : List UInt8} (hl : l.length = 16) (hk : k.length = 16) (f : Nat) : ∀ i : Nat, i + f = 16 →
    ∃ q, crawlwayref10_Less.l0 (mkA V l) (mkA W k) i = some q ∧ (match q with | .ret r => r = lessL (l.drop i) (k.drop i) | .nx _ => lessL (l.drop i) (k.drop i) = false) := by
  induction f with
  | zero =>
    intro i hi
    have hz : decide ((i : Int) < 16) = false := decide_eq_false (by omega)
    rw [crawlwayref10_Less.l0.eq_def, hz]
    refine ⟨_, rfl, ?_⟩
    rw [List.drop_eq_nil_of_le (by omega)]; rfl
  | succ f ih =>
    intro i hi
    have hz : decide ((i : Int) < 16) = true := decide_eq_true (by omega)
    obtain ⟨x, hx, hdx⟩ := drop_get l i (by omega)
    obtain ⟨y, hy, hdy⟩ := drop_get k i (by omega)
    have hg : (0 : Int) ≤ (i : Int) ∧ (i : Int) < 16 := by omega
    have ex : vget (mkA V l).f_B (i : Int) = x.toNat := by show vget (vb l) (i : Int) = _; rw [vget_vb hl i (by omega), bg_get hx]
    have ey : vget (mkA W k).f_B (i : Int) = y.toNat := by show vget (vb k) (i : Int) = _; rw [vget_vb hk i (by omega), bg_get hy]
    rw [crawlwayref10_Less.l0.eq_def, hz, if_pos rfl, if_pos hg, if_pos hg, ex, ey, hdx, hdy]
    unfold lessL
    by_cases hxy : x = y
    · subst hxy
      have h1 : ((x.toNat : Int) != (x.toNat : Int)) = false := by simp
      obtain ⟨q, hq, hm⟩ := ih (i + 1) (by omega)
      rw [h1, if_neg Bool.false_ne_true, wr_i64 (by omega) (by omega), show ((i : Int) + 1) = ((i + 1 : Nat) : Int) by omega]
      refine ⟨q, hq, ?_⟩
      rw [if_neg (by simp)]
      exact hm
    · have hne : x.toNat ≠ y.toNat := fun e => hxy (UInt8.toNat.inj e)
      have h1 : ((x.toNat : Int) != (y.toNat : Int)) = true := by rw [bne_iff_ne]; omega
      rw [h1, if_pos rfl, if_pos hg, if_pos hg]
      refine ⟨_, rfl, ?_⟩
      show decide ((x.toNat : Int) < (y.toNat : Int)) = _
      rw [if_pos hxy, Bool.eq_iff_iff, decide_eq_true_eq, decide_eq_true_eq, UInt8.lt_iff_toNat_lt]
      omega
theorem less_ref {V W : Int} {l k : List UInt8} (hl : l.length = 16) (hk : k.length = 16) : crawlwayref10_Less (mkA V l) (mkA W k) = some (lessA V l W k) := by
  unfold crawlwayref10_Less lessA
  show (if (V != W) = true then some (decide (V < W)) else _) = _
  by_cases h : V = W
  · have hne : (V != W) = false := by simpa using h
    obtain ⟨q, hq, hm⟩ := refLess_loop (V := V) (W := W) hl hk 16 0 rfl
    rw [show ((0 : Nat) : Int) = 0 from rfl] at hq
    rw [hne, if_neg Bool.false_ne_true, if_pos h, hq, bindM_some]
    rw [List.drop_zero, List.drop_zero] at hm
    cases q with
    | ret r => show some r = _; rw [show r = _ from hm]
    | nx u => show some false = _; rw [show lessL l k = false from hm]
  · have hne : (V != W) = true := by simpa using h
    rw [hne, if_pos rfl, if_neg h]
theorem mb_alike (x y : UInt8) : ∀ (k : Nat), k ≤ 8 → (∀ j, j < k → x.toNat / 2 ^ (7 - j) % 2 = y.toNat / 2 ^ (7 - j) % 2) → mb x k = mb y k
  | 0, _, _ => by rw [mb_zero, mb_zero]
  | k + 1, hk, h => by
    apply UInt8.toNat.inj
    rw [mb_step x k (by omega), mb_step y k (by omega), mb_alike x y k (by omega) (fun j hj => h j (by omega)), h k (by omega)]
theorem mfull_alike {l k : List UInt8} (hl : l.length = 16) (hk : k.length = 16) (c : Nat) (hc : c ≤ 128) (h : ∀ j, j < c → bit l j = bit k j) : mfull l (c : Int) = mfull k (c : Int) := by
  apply List.ext_getElem?
  intro j
  rw [mfull_get, mfull_get]
  by_cases hj : j < 16
  · have hx : l[j]? = some l[j] := List.getElem?_eq_getElem (by omega)
    have hy : k[j]? = some k[j] := List.getElem?_eq_getElem (by omega)
    generalize l[j] = x at hx
    generalize k[j] = y at hy
    rw [hx, hy]
    show some _ = some _
    congr 1
    refine mb_alike x y _ (lft_le _ _) fun i hi => ?_
    have hlt : i < 8 := by have := lft_le (c : Int) j; omega
    have hb := h (8 * j + i) (by unfold lft at hi; omega)
    unfold bit at hb
    rw [show (8 * j + i) / 8 = j by omega, show (8 * j + i) % 8 = i by omega, bg_get hx, bg_get hy] at hb
    exact hb
  · rw [List.getElem?_eq_none (by omega), List.getElem?_eq_none (by omega)]
theorem mb_bit_fin : ∀ (x : Fin 256) (m : Fin 9) (j : Fin 8), j.val < m.val → (x.val - x.val % 2 ^ (8 - m.val)) / 2 ^ (7 - j.val) % 2 = x.val / 2 ^ (7 - j.val) % 2 := by decide +kernel
theorem bit_mfull {l : List UInt8} (hl : l.length = 16) (b : Int) (i : Nat) (hi : (i : Int) < b) (h128 : i < 128) : bit (mfull l b) i = bit l i := by
  unfold bit
  obtain ⟨c, hc⟩ : ∃ c, l[i / 8]? = some c := ⟨_, List.getElem?_eq_getElem (by omega)⟩
  have hm : (mfull l b)[i / 8]? = some (mb c (lft b (i / 8))) := by rw [mfull_get, hc]; rfl
  rw [bg_get hc, bg_get hm, mb_toNat]
  have hle := lft_le b (i / 8)
  have hlt : i % 8 < lft b (i / 8) := by unfold lft; omega
  exact mb_bit_fin ⟨c.toNat, c.toNat_lt⟩ ⟨lft b (i / 8), by omega⟩ ⟨i % 8, by omega⟩ hlt
theorem fd_far (p : Nat → Bool) (f c : Nat) (hc : c ≤ f) (h : ∀ j, j < c → p j = true) : c ≤ fd p f 0 := by
  rcases Nat.lt_or_ge (fd p f 0) c with hlt | hge
  · have h1 := fd_stop p f 0 (by omega)
    rw [h _ hlt] at h1; cases h1
  · exact hge
theorem same_bits {V W : Int} {l k : List UInt8} {b : Int} (hl : l.length = 16) (hk : k.length = 16) (hp : rightP V l b = true) (hV : V = W) (hr : rightL W k = true) : decide (mfull k b = l) = decide (commonL V l W k ≥ b) := by
  subst hV
  obtain ⟨⟨hrl, h0, h1⟩, hm⟩ := rightP_iff.1 hp
  have hw := width_le (V := V) (l := l)
  obtain ⟨c, rfl⟩ := Int.eq_ofNat_of_zero_le h0
  have hc : commonL V l V k = ((fd (alikeB l k) (widthL V l) 0 : Nat) : Int) := by unfold commonL; rw [if_pos ⟨hrl, hr, rfl⟩]
  rw [hc, decide_eq_decide]
  constructor
  · intro h
    have := fd_far (alikeB l k) (widthL V l) c (by omega) fun j hj => by
      unfold alikeB
      refine decide_eq_true ?_
      rw [← h, bit_mfull hk (c : Int) j (by omega) (by omega)]
    omega
  · intro h
    have hall := fd_all (alikeB l k) (widthL V l) 0
    have := mfull_alike hl hk c (by omega) fun j hj => of_decide_eq_true (hall j (by omega) (by omega))
    rw [← this, hm]
def hasP (V : Int) (l : List UInt8) (b W : Int) (k : List UInt8) : Bool := rightP V l b && (rightL W k && (decide (W = V) && decide (mfull k b = l)))
theorem has_ref {V b W : Int} {l k : List UInt8} (hl : l.length = 16) (hk : k.length = 16) : crawlwayref11_Has (mkP (mkA V l) b) (mkA W k) = some (hasP V l b W k) := by
  unfold crawlwayref11_Has hasP
  rw [cright_ref hl, bindM_some]
  cases hp : rightP V l b with
  | false => rfl
  | true =>
    obtain ⟨⟨hrl, h0, h1⟩, hm⟩ := rightP_iff.1 hp
    rw [if_pos rfl, Bool.true_and]
    show (crawlwayref10_Common (mkA V l) (mkA W k) >>= fun t5 => some (decide (t5 ≥ b))) = _
    rw [common_ref hl hk, bindM_some]
    refine congrArg some ?_
    cases hr : rightL W k with
    | false =>
      have hc : commonL V l W k = -1 := by unfold commonL; rw [if_neg (by rw [hr]; simp)]
      rw [hc, Bool.false_and]
      exact decide_eq_false (by omega)
    | true =>
      rw [Bool.true_and]
      by_cases hV : W = V
      · rw [decide_eq_true hV, Bool.true_and]
        exact (same_bits hl hk hp hV.symm hr).symm
      · have hc : commonL V l W k = -1 := by unfold commonL; rw [if_neg (fun h => hV h.2.2.symm)]
        rw [hc, decide_eq_false hV, Bool.false_and]
        exact decide_eq_false (by omega)
end Go.Proofs.Ythccncpephpdjaa.Adr
namespace Go.Proofs.Ythccncpephpdjaa.Tri
open E Go.RowKit
open Adr Cid
def sbb (b : UInt8) (k : Nat) : UInt8 := UInt8.ofNat (b.toNat ||| 128 / 2 ^ k)
theorem sbb_fin : ∀ (b : Fin 256) (k : Fin 8), (b.val ||| 128 / 2 ^ k.val) < 256 ∧ ∀ j : Fin 8, (b.val ||| 128 / 2 ^ k.val) / 2 ^ (7 - j.val) % 2 = if j = k then 1 else b.val / 2 ^ (7 - j.val) % 2 := by decide +kernel
theorem sbb_toNat (b : UInt8) (k : Nat) (hk : k < 8) : (sbb b k).toNat = (b.toNat ||| 128 / 2 ^ k) := by
  unfold sbb
  rw [UInt8.toNat_ofNat', Nat.mod_eq_of_lt]
  exact (sbb_fin ⟨b.toNat, b.toNat_lt⟩ ⟨k, hk⟩).1
theorem sbb_bit (b : UInt8) (k j : Nat) (hk : k < 8) (hj : j < 8) : (sbb b k).toNat / 2 ^ (7 - j) % 2 = if j = k then 1 else b.toNat / 2 ^ (7 - j) % 2 := by
  rw [sbb_toNat b k hk]
  have := (sbb_fin ⟨b.toNat, b.toNat_lt⟩ ⟨k, hk⟩).2 ⟨j, hj⟩
  simpa using this
def sb (l : List UInt8) (d : Nat) : List UInt8 := l.set (d / 8) (sbb (l.getD (d / 8) 0) (d % 8))
theorem sb_len (l : List UInt8) (d : Nat) : (sb l d).length = l.length := by simp [sb]
theorem bit_sb {l : List UInt8} (hl : l.length = 16) {d : Nat} (hd : d < 128) (i : Nat) : bit (sb l d) i = if i = d then 1 else bit l i := by
  unfold bit bg sb
  by_cases h8 : i / 8 = d / 8
  · have e1 : ((l.set (d / 8) (sbb (l.getD (d / 8) 0) (d % 8))).getD (i / 8) 0) = sbb (l.getD (d / 8) 0) (d % 8) := by
      rw [h8, List.getD_eq_getElem?_getD, List.getElem?_set_self (by omega)]; rfl
    rw [e1, sbb_bit _ _ _ (by omega) (by omega), h8]
    by_cases hi : i = d
    · subst hi; simp
    · rw [if_neg (by omega), if_neg hi]
  · rw [if_neg (by intro e; subst e; exact h8 rfl), List.getD_eq_getElem?_getD, List.getElem?_set_ne (by omega), ← List.getD_eq_getElem?_getD]
theorem mb_eight (b : UInt8) : mb b 8 = b := by
  apply UInt8.toNat_inj.1
  rw [mb_toNat]
  simp; omega
theorem mfull_all {l : List UInt8} (hl : l.length = 16) : mfull l 128 = l := by
  apply List.ext_getElem?
  intro i
  rw [mfull_get]
  cases h : l[i]? with
  | none => rfl
  | some b =>
    have : i < 16 := by rw [← hl]; exact (List.getElem?_eq_some_iff.1 h).1
    have e : lft 128 i = 8 := by unfold lft; omega
    rw [e, Option.map_some, mb_eight]
theorem bits_ext {l k : List UInt8} (hl : l.length = 16) (hk : k.length = 16) (h : ∀ i, i < 128 → bit l i = bit k i) : l = k := by
  have := mfull_alike hl hk 128 (Nat.le_refl _) h
  rw [show ((128 : Nat) : Int) = 128 from rfl] at this
  rwa [mfull_all hl, mfull_all hk] at this
def zl : List UInt8 := List.replicate 16 0
theorem zl_len : zl.length = 16 := by simp [zl]
theorem bit_zl (i : Nat) : bit zl i = 0 := by
  unfold bit bg zl
  have : (List.replicate 16 (0 : UInt8)).getD (i / 8) 0 = 0 := by
    rw [List.getD_eq_getElem?_getD, List.getElem?_replicate]
    split <;> rfl
  rw [this]; simp
/-- The address behind a path. -/
def adrG : List UInt8 → Nat → List Nat → List UInt8
  | l, _, [] => l
  | l, d, b :: p => adrG (if b = 1 then sb l d else l) (d + 1) p
theorem adrG_len : ∀ (p : List Nat) (l : List UInt8) (d : Nat), (adrG l d p).length = l.length
  | [], _, _ => rfl
  | b :: p, l, d => by
    unfold adrG
    rw [adrG_len p]
    split
    · exact sb_len l d
    · rfl
theorem bit_adrG : ∀ (p : List Nat) (l : List UInt8) (d : Nat), l.length = 16 → d + p.length ≤ 128 → (∀ b ∈ p, b < 2) → (∀ i, d ≤ i → bit l i = 0) → ∀ i, bit (adrG l d p) i = if i < d then bit l i else p.getD (i - d) 0
  | [], l, d, _, _, _, h0, i => by
    unfold adrG
    split
    · rfl
    · rw [h0 i (by omega)]; simp
  | b :: p, l, d, hl, hd, hb, h0, i => by
    unfold adrG
    simp only [List.length_cons] at hd
    have hb0 := hb b (List.mem_cons_self ..)
    have e := bit_sb hl (d := d) (by omega)
    rw [bit_adrG p _ (d + 1) (by split; rw [sb_len, hl]; exact hl) (by omega) (fun x hx => hb x (List.mem_cons_of_mem _ hx)) (fun j hj => by
      split
      · rw [e j, if_neg (by omega)]; exact h0 j (by omega)
      · exact h0 j (by omega))]
    by_cases h1 : i < d
    · rw [if_pos (by omega), if_pos h1]
      split
      · rw [e, if_neg (by omega)]
      · rfl
    · rw [if_neg h1]
      by_cases h2 : i = d
      · subst h2
        rw [if_pos (by omega), Nat.sub_self]
        simp only [List.getD_cons_zero]
        split
        · next h => rw [e, if_pos rfl, h]
        · rw [h0 _ (Nat.le_refl _)]; omega
      · rw [if_neg (by omega), show i - d = (i - (d + 1)) + 1 by omega, List.getD_cons_succ]
theorem lessL_at : ∀ (q : Nat) (l k : List UInt8) (x y : UInt8), (∀ i, i < q → l[i]? = k[i]?) → l[q]? = some x → k[q]? = some y → x < y → lessL l k = true
  | 0, l, k, x, y, _, hx, hy, hxy => by
    cases l with
    | nil => simp at hx
    | cons a l =>
      cases k with
      | nil => simp at hy
      | cons b k =>
        simp at hx hy
        subst hx hy
        unfold lessL
        simp [UInt8.ne_of_lt hxy, hxy]
  | q + 1, l, k, x, y, h, hx, hy, hxy => by
    cases l with
    | nil => simp at hx
    | cons a l =>
      cases k with
      | nil => simp at hy
      | cons b k =>
        have e := h 0 (by omega)
        simp at e hx hy
        subst e
        unfold lessL
        simp
        exact lessL_at q l k x y (fun i hi => by have := h (i + 1) (by omega); simpa using this) hx hy hxy
theorem byte_less {x y : UInt8} {m : Nat} (hm : m < 8) (h : ∀ j, j < m → x.toNat / 2 ^ (7 - j) % 2 = y.toNat / 2 ^ (7 - j) % 2) (h0 : x.toNat / 2 ^ (7 - m) % 2 = 0) (h1 : y.toNat / 2 ^ (7 - m) % 2 = 1) : x < y := by
  have e := congrArg UInt8.toNat (mb_alike x y m (by omega) h)
  rw [mb_toNat, mb_toNat] at e
  have hx := x.toNat_lt
  have hy := y.toNat_lt
  show x.toNat < y.toNat
  have : m = 0 ∨ m = 1 ∨ m = 2 ∨ m = 3 ∨ m = 4 ∨ m = 5 ∨ m = 6 ∨ m = 7 := by omega
  rcases this with rfl | rfl | rfl | rfl | rfl | rfl | rfl | rfl <;> simp at e h0 h1 <;> omega
theorem less_bits {l k : List UInt8} (hl : l.length = 16) (hk : k.length = 16) {d : Nat} (hd : d < 128) (h : ∀ i, i < d → bit l i = bit k i) (h0 : bit l d = 0) (h1 : bit k d = 1) : lessL l k = true := by
  have gl : ∀ q, q < 16 → l[q]? = some (l.getD q 0) := fun q hq => by rw [List.getD_eq_getElem?_getD, List.getElem?_eq_getElem (by omega)]; rfl
  have gk : ∀ q, q < 16 → k[q]? = some (k.getD q 0) := fun q hq => by rw [List.getD_eq_getElem?_getD, List.getElem?_eq_getElem (by omega)]; rfl
  refine lessL_at (d / 8) l k _ _ (fun q hq => ?_) (gl _ (by omega)) (gk _ (by omega)) (byte_less (m := d % 8) (by omega) (fun j hj => ?_) h0 h1)
  · rw [gl q (by omega), gk q (by omega)]
    have e := mb_alike (l.getD q 0) (k.getD q 0) 8 (by omega) fun j hj => by
      have := h (8 * q + j) (by omega)
      unfold bit bg at this
      rwa [show (8 * q + j) / 8 = q by omega, show (8 * q + j) % 8 = j by omega] at this
    rw [mb_eight, mb_eight] at e
    rw [e]
  · have := h (8 * (d / 8) + j) (by omega)
    unfold bit bg at this
    rwa [show (8 * (d / 8) + j) / 8 = d / 8 by omega, show (8 * (d / 8) + j) % 8 = j by omega] at this
theorem lessL_cons (x y : UInt8) (l k : List UInt8) : lessL (x :: l) (y :: k) = if x = y then lessL l k else decide (x < y) := by
  show (if x ≠ y then decide (x < y) else lessL l k) = _
  by_cases e : x = y <;> simp [e]
theorem lessL_irr : ∀ (l : List UInt8), lessL l l = false
  | [] => rfl
  | x :: l => by unfold lessL; simp [lessL_irr l]
theorem lessL_asym : ∀ (l k : List UInt8), lessL l k = true → lessL k l = false
  | [], [], h => by simp [lessL] at h
  | [], _ :: _, h => by simp [lessL] at h
  | _ :: _, [], h => by simp [lessL] at h
  | x :: l, y :: k, h => by
    rw [lessL_cons] at h ⊢
    by_cases e : x = y
    · subst e; simp at h ⊢; exact lessL_asym l k h
    · rw [if_neg e] at h
      rw [if_neg (Ne.symm e)]
      simp at h ⊢
      exact UInt8.le_of_lt h
theorem lessL_trans : ∀ (l k m : List UInt8), lessL l k = true → lessL k m = true → lessL l m = true
  | [], k, m, h, _ => by cases k <;> simp [lessL] at h
  | _ :: _, [], m, h, _ => by simp [lessL] at h
  | _ :: _, _ :: _, [], _, h => by simp [lessL] at h
  | x :: l, y :: k, z :: m, h, g => by
    rw [lessL_cons] at h g ⊢
    by_cases e : x = y
    · subst e
      by_cases e2 : x = z
      · subst e2; simp at h g ⊢; exact lessL_trans l k m h g
      · rw [if_neg e2] at g ⊢; exact g
    · rw [if_neg e] at h
      by_cases e2 : y = z
      · subst e2; rw [if_neg e]; exact h
      · rw [if_neg e2] at g
        simp at h g
        have hxz := UInt8.lt_trans h g
        rw [if_neg (UInt8.ne_of_lt hxz)]
        simpa using hxz
theorem lessL_total : ∀ (l k : List UInt8), l.length = k.length → l ≠ k → lessL l k = false → lessL k l = true
  | [], [], _, h, _ => absurd rfl h
  | [], _ :: _, h, _, _ => by simp at h
  | _ :: _, [], h, _, _ => by simp at h
  | x :: l, y :: k, hl, hn, h => by
    rw [lessL_cons] at h ⊢
    by_cases e : x = y
    · subst e
      simp at h ⊢
      exact lessL_total l k (by simpa using hl) (by intro e; subst e; exact hn rfl) h
    · rw [if_neg e] at h
      rw [if_neg (Ne.symm e)]
      simp at h ⊢
      exact UInt8.lt_of_le_of_ne h (Ne.symm e)
theorem le_bits {l k : List UInt8} (hl : l.length = 16) (hk : k.length = 16) (h : ∀ i, i < 128 → bit l i ≤ bit k i) : l = k ∨ lessL l k = true := by
  by_cases e : fd (alikeB l k) 128 0 < 128
  · right
    have hs := fd_stop (alikeB l k) 128 0 (by omega)
    have ha := fd_all (alikeB l k) 128 0
    generalize fd (alikeB l k) 128 0 = d at e hs ha
    have hne : bit l d ≠ bit k d := by simpa [alikeB] using hs
    have h1 := h d e
    have h2 := bit_lt l d
    have h3 := bit_lt k d
    exact less_bits hl hk e (fun i hi => by simpa [alikeB] using ha i (by omega) hi) (by omega) (by omega)
  · left
    have hge := fd_le (alikeB l k) 128 0
    exact bits_ext hl hk fun i hi => by simpa [alikeB] using fd_all (alikeB l k) 128 0 i (by omega) (by omega)
abbrev Tr := List UInt8 × Nat × Int
def lessE (x y : Tr) : Bool := if x.1 = y.1 then decide (x.2.1 < y.2.1) else lessL x.1 y.1
theorem lessE_asym {x y : Tr} (h : lessE x y = true) : lessE y x = false := by
  unfold lessE at h ⊢
  by_cases e : x.1 = y.1
  · rw [if_pos e] at h; rw [if_pos e.symm]; simp at h ⊢; omega
  · rw [if_neg e] at h; rw [if_neg (Ne.symm e)]; exact lessL_asym _ _ h
theorem lessE_trans {x y z : Tr} (h : lessE x y = true) (g : lessE y z = true) : lessE x z = true := by
  unfold lessE at h g ⊢
  by_cases e : x.1 = y.1
  · rw [if_pos e] at h
    by_cases e2 : y.1 = z.1
    · rw [if_pos e2] at g; rw [if_pos (e.trans e2)]; simp at h g ⊢; omega
    · rw [if_neg e2] at g; rw [if_neg (by rw [e]; exact e2), e]; exact g
  · rw [if_neg e] at h
    by_cases e2 : y.1 = z.1
    · rw [if_neg (by rw [← e2]; exact e), ← e2]; exact h
    · rw [if_neg e2] at g
      have t := lessL_trans _ _ _ h g
      rw [if_neg (by intro e3; rw [e3, lessL_irr] at t; cases t)]; exact t
theorem lessE_total {x y : Tr} (hl : x.1.length = y.1.length) (hn : ¬ (x.1 = y.1 ∧ x.2.1 = y.2.1)) (h : lessE x y = false) : lessE y x = true := by
  unfold lessE at h ⊢
  by_cases e : x.1 = y.1
  · have hn' : x.2.1 ≠ y.2.1 := fun h' => hn ⟨e, h'⟩
    rw [if_pos e] at h; rw [if_pos e.symm]; simp at h ⊢; omega
  · rw [if_neg e] at h; rw [if_neg (Ne.symm e)]; exact lessL_total _ _ hl e h
theorem lessE_irr (x : Tr) : lessE x x = false := by unfold lessE; simp
theorem sorted_ext : ∀ (l k : List Tr), l.Pairwise (fun x y => lessE x y = true) → k.Pairwise (fun x y => lessE x y = true) → (∀ x, x ∈ l ↔ x ∈ k) → l = k
  | [], [], _, _, _ => rfl
  | [], y :: k, _, _, h => by have := (h y).2 (List.mem_cons_self ..); simp at this
  | x :: l, [], _, _, h => by have := (h x).1 (List.mem_cons_self ..); simp at this
  | x :: l, y :: k, hl, hk, h => by
    rw [List.pairwise_cons] at hl hk
    have exy : x = y := by
      rcases List.mem_cons.1 ((h x).1 (List.mem_cons_self ..)) with e | hx
      · exact e
      · rcases List.mem_cons.1 ((h y).2 (List.mem_cons_self ..)) with e | hy
        · exact e.symm
        · have h1 := hk.1 x hx
          have h2 := hl.1 y hy
          rw [lessE_asym h1] at h2; cases h2
    subst exy
    rw [sorted_ext l k hl.2 hk.2 fun z => ⟨fun hz => ?_, fun hz => ?_⟩]
    · rcases List.mem_cons.1 ((h z).1 (List.mem_cons_of_mem _ hz)) with e | hz'
      · subst e; have := hl.1 z hz; rw [lessE_irr] at this; cases this
      · exact hz'
    · rcases List.mem_cons.1 ((h z).2 (List.mem_cons_of_mem _ hz)) with e | hz'
      · subst e; have := hk.1 z hz; rw [lessE_irr] at this; cases this
      · exact hz'
inductive T where
  | nil
  | nd (is : Bool) (own : Int) (l r : T)
  deriving DecidableEq
namespace T
def val : T → List Nat → Option Int
  | nil, _ => none
  | nd is o _ _, [] => if is = true then some o else none
  | nd _ _ l r, b :: p => if b = 0 then l.val p else r.val p
def list : T → List UInt8 → Nat → List Tr
  | nil, _, _ => []
  | nd is o a b, l, d => (if is = true then [(l, d, o)] else []) ++ (a.list l (d + 1) ++ b.list (sb l d) (d + 1))
/-- No deeper than this. -/
def dok : T → Nat → Prop
  | nil, _ => True
  | nd _ _ a b, 0 => a = nil ∧ b = nil
  | nd _ _ a b, n + 1 => a.dok n ∧ b.dok n
theorem mem_list : ∀ (t : T) (l : List UInt8) (d : Nat) (x : Tr), x ∈ t.list l d ↔ ∃ p, (∀ b ∈ p, b < 2) ∧ t.val p = some x.2.2 ∧ x.1 = adrG l d p ∧ x.2.1 = d + p.length
  | nil, l, d, x => by simp [list, val]
  | nd is o a b, l, d, x => by
    unfold list
    rw [List.mem_append, List.mem_append, mem_list a, mem_list b]
    constructor
    · rintro (h | ⟨p, h1, h2, h3, h4⟩ | ⟨p, h1, h2, h3, h4⟩)
      · cases is with
        | false => simp at h
        | true => simp at h; subst h; exact ⟨[], by simp, by simp [val], rfl, by simp⟩
      · exact ⟨0 :: p, fun c hc => by rcases List.mem_cons.1 hc with rfl | hc; omega; exact h1 c hc, by simp [val, h2], by simpa [adrG] using h3, by simp [h4]; omega⟩
      · exact ⟨1 :: p, fun c hc => by rcases List.mem_cons.1 hc with rfl | hc; omega; exact h1 c hc, by simp [val, h2], by simpa [adrG] using h3, by simp [h4]; omega⟩
    · rintro ⟨p, h1, h2, h3, h4⟩
      cases p with
      | nil =>
        left
        obtain ⟨x1, x2, x3⟩ := x
        simp [val] at h2
        simp [adrG] at h3 h4
        simp [h2, h3, h4]
      | cons c p =>
        right
        have hc := h1 c (List.mem_cons_self ..)
        have h1' : ∀ b ∈ p, b < 2 := fun b hb => h1 b (List.mem_cons_of_mem _ hb)
        unfold adrG at h3
        rw [List.length_cons] at h4
        by_cases h0 : c = 0
        · subst h0; left
          exact ⟨p, h1', by simpa [val] using h2, by simpa using h3, by omega⟩
        · have : c = 1 := by omega
          subst this; right
          exact ⟨p, h1', by simpa [val] using h2, by simpa using h3, by omega⟩
theorem val_len : ∀ (t : T) (n : Nat) (p : List Nat) (o : Int), t.dok n → t.val p = some o → p.length ≤ n
  | nil, _, _, _, _, h => by simp [val] at h
  | nd .., _, [], _, _, _ => by simp
  | nd is o a b, 0, c :: p, o', hd, h => by
    obtain ⟨rfl, rfl⟩ := hd
    simp [val] at h
  | nd is o a b, n + 1, c :: p, o', hd, h => by
    unfold val at h
    rw [List.length_cons]
    split at h
    · have := val_len a n p o' hd.1 h; omega
    · have := val_len b n p o' hd.2 h; omega
theorem sorted : ∀ (t : T) (n : Nat) (l : List UInt8) (d : Nat), t.dok n → d + n ≤ 128 → l.length = 16 → (∀ i, d ≤ i → bit l i = 0) → (t.list l d).Pairwise (fun x y => lessE x y = true)
  | nil, _, _, _, _, _, _, _ => by simp [list]
  | nd is o a b, n, l, d, hd, hn, hl, h0 => by
    cases n with
    | zero =>
      obtain ⟨rfl, rfl⟩ := hd
      cases is <;> simp [list]
    | succ n =>
      have h0' : ∀ i, d + 1 ≤ i → bit (sb l d) i = 0 := fun i hi => by rw [bit_sb hl (by omega), if_neg (by omega)]; exact h0 i (by omega)
      have ia := sorted a n l (d + 1) hd.1 (by omega) hl fun i hi => h0 i (by omega)
      have ib := sorted b n (sb l d) (d + 1) hd.2 (by omega) (by rw [sb_len, hl]) h0'
      have fa : ∀ y ∈ a.list l (d + 1), y.1.length = 16 ∧ d < y.2.1 ∧ (∀ i, i < d + 1 → bit y.1 i = bit l i) ∧ ∀ i, bit l i ≤ bit y.1 i := fun y hy => by
        obtain ⟨p, h1, h2, h3, h4⟩ := (mem_list a l (d + 1) y).1 hy
        have hpl := val_len a n p _ hd.1 h2
        have e := bit_adrG p l (d + 1) hl (by omega) h1 fun i hi => h0 i (by omega)
        rw [h3]
        refine ⟨by rw [adrG_len, hl], by omega, fun i hi => by rw [e i, if_pos hi], fun i => ?_⟩
        rw [e i]
        split
        · exact Nat.le_refl _
        · rw [h0 i (by omega)]; exact Nat.zero_le _
      have fb : ∀ y ∈ b.list (sb l d) (d + 1), y.1.length = 16 ∧ d < y.2.1 ∧ (∀ i, i < d → bit y.1 i = bit l i) ∧ bit y.1 d = 1 ∧ ∀ i, bit l i ≤ bit y.1 i := fun y hy => by
        obtain ⟨p, h1, h2, h3, h4⟩ := (mem_list b (sb l d) (d + 1) y).1 hy
        have hpl := val_len b n p _ hd.2 h2
        have e := bit_adrG p (sb l d) (d + 1) (by rw [sb_len, hl]) (by omega) h1 h0'
        have es := bit_sb hl (d := d) (by omega)
        rw [h3]
        refine ⟨by rw [adrG_len, sb_len, hl], by omega, fun i hi => by rw [e i, if_pos (by omega), es, if_neg (by omega)], by rw [e d, if_pos (by omega), es, if_pos rfl], fun i => ?_⟩
        rw [e i]
        split
        · rw [es]
          split
          · have := bit_lt l i; omega
          · exact Nat.le_refl _
        · rw [h0 i (by omega)]; exact Nat.zero_le _
      have own : ∀ (y : Tr) (o : Int), y.1.length = 16 → d < y.2.1 → (∀ i, bit l i ≤ bit y.1 i) → lessE (l, d, o) y = true := fun y o hy hd hb => by
        unfold lessE
        split
        · simpa using hd
        · next hne => exact (le_bits hl hy fun i _ => hb i).resolve_left hne
      unfold list
      rw [List.pairwise_append, List.pairwise_append]
      refine ⟨by cases is <;> simp, ⟨ia, ib, fun x hx y hy => ?_⟩, fun x hx y hy => ?_⟩
      · obtain ⟨a1, a2, a3, a4⟩ := fa x hx
        obtain ⟨b1, b2, b3, b4, b5⟩ := fb y hy
        have : lessL x.1 y.1 = true := less_bits a1 b1 (d := d) (by omega) (fun i hi => by rw [a3 i (by omega), b3 i hi]) (by rw [a3 d (by omega)]; exact h0 d (Nat.le_refl _)) b4
        unfold lessE
        rw [if_neg (by intro e; rw [e, lessL_irr] at this; cases this)]
        exact this
      · cases is with
        | false => simp at hx
        | true =>
          simp at hx
          subst hx
          rcases List.mem_append.1 hy with hy | hy
          · obtain ⟨a1, a2, a3, a4⟩ := fa y hy; exact own y o a1 a2 a4
          · obtain ⟨b1, b2, b3, b4, b5⟩ := fb y hy; exact own y o b1 b2 b5
/-- The places along a path are there. -/
def ext : T → List Nat → T
  | nil, [] => nd false 0 nil nil
  | nil, b :: p => if b = 0 then nd false 0 (ext nil p) nil else nd false 0 nil (ext nil p)
  | nd is o l r, [] => nd is o l r
  | nd is o l r, b :: p => if b = 0 then nd is o (l.ext p) r else nd is o l (r.ext p)
/-- What stands at a path is another. -/
def put : T → List Nat → Bool → Int → T
  | nil, _, _, _ => nil
  | nd _ _ l r, [], is, o => nd is o l r
  | nd i q l r, b :: p, is, o => if b = 0 then nd i q (l.put p is o) r else nd i q l (r.put p is o)
/-- What leads nowhere is cut off. -/
def cut : T → T
  | nil => nil
  | nd is o l r => if is = false ∧ l.cut = nil ∧ r.cut = nil then nil else nd is o l.cut r.cut
/-- Is there a place at the path's end? -/
def has : T → List Nat → Bool
  | nil, _ => false
  | nd .., [] => true
  | nd _ _ l r, b :: p => if b = 0 then l.has p else r.has p
theorem val_ext_nil : ∀ (p q : List Nat), (ext nil p).val q = none
  | [], [] => by simp [ext, val]
  | [], c :: q => by simp [ext, val]
  | b :: p, [] => by unfold ext; split <;> simp [val]
  | b :: p, c :: q => by
    unfold ext
    split <;> simp only [val] <;> split <;> first | exact val_ext_nil p q | rfl
theorem val_ext : ∀ (t : T) (p q : List Nat), (t.ext p).val q = t.val q
  | nil, p, q => by rw [val_ext_nil]; rfl
  | nd .., [], _ => rfl
  | nd is o l r, b :: p, [] => by unfold ext; split <;> rfl
  | nd is o l r, b :: p, c :: q => by
    unfold ext
    split <;> simp only [val, val_ext l p q, val_ext r p q]
theorem has_ext_nil : ∀ (p : List Nat), (ext nil p).has p = true
  | [] => rfl
  | b :: p => by
    unfold ext
    split
    · next h => simp [has, h, has_ext_nil p]
    · next h => simp [has, h, has_ext_nil p]
theorem has_ext : ∀ (t : T) (p : List Nat), (t.ext p).has p = true
  | nil, p => has_ext_nil p
  | nd .., [] => rfl
  | nd is o l r, b :: p => by
    unfold ext
    split
    · next h => simp [has, h, has_ext l p]
    · next h => simp [has, h, has_ext r p]
theorem val_put : ∀ (t : T) (p : List Nat) (is : Bool) (o : Int) (q : List Nat), (∀ b ∈ p, b < 2) → (∀ b ∈ q, b < 2) → t.has p = true → (t.put p is o).val q = if q = p then (if is = true then some o else none) else t.val q
  | nil, p, is, o, q, _, _, h => by simp [has] at h
  | nd i u l r, [], is, o, [], _, _, _ => by simp [put, val]
  | nd i u l r, [], is, o, c :: q, _, _, _ => by simp [put, val]
  | nd i u l r, b :: p, is, o, [], _, _, _ => by
    unfold put
    split <;> simp [val]
  | nd i u l r, b :: p, is, o, c :: q, hp, hq, h => by
    have hb := hp b (List.mem_cons_self ..)
    have hc := hq c (List.mem_cons_self ..)
    have hp' : ∀ b ∈ p, b < 2 := fun b hb => hp b (List.mem_cons_of_mem _ hb)
    have hq' : ∀ b ∈ q, b < 2 := fun b hb => hq b (List.mem_cons_of_mem _ hb)
    unfold put
    unfold has at h
    by_cases h0 : b = 0
    · rw [if_pos h0] at h ⊢
      unfold val
      by_cases h1 : c = 0
      · rw [if_pos h1, val_put l p is o q hp' hq' h, if_pos h1]
        simp [h0, h1]
      · rw [if_neg h1, if_neg h1]
        rw [if_neg (by rw [List.cons.injEq]; omega)]
    · rw [if_neg h0] at h ⊢
      unfold val
      by_cases h1 : c = 0
      · rw [if_pos h1, if_pos h1]
        rw [if_neg (by rw [List.cons.injEq]; omega)]
      · rw [if_neg h1, val_put r p is o q hp' hq' h, if_neg h1]
        have : c = b := by omega
        simp [this]
theorem val_cut : ∀ (t : T) (q : List Nat), t.cut.val q = t.val q
  | nil, q => rfl
  | nd is o l r, q => by
    have il := val_cut l
    have ir := val_cut r
    unfold cut
    split
    · next h =>
      obtain ⟨h1, h2, h3⟩ := h
      rw [h2] at il
      rw [h3] at ir
      cases q with
      | nil => simp [val, h1]
      | cons c q =>
        have a := il q
        have b := ir q
        simp only [val] at a b ⊢
        rw [← a, ← b]; simp
    · cases q with
      | nil => rfl
      | cons c q => simp only [val, il, ir]
theorem dok_nil (n : Nat) : nil.dok n := by cases n <;> trivial
theorem dok_ext : ∀ (t : T) (n : Nat) (p : List Nat), t.dok n → p.length ≤ n → (t.ext p).dok n
  | nil, n, [], _, _ => by cases n <;> simp [ext, dok]
  | nil, 0, b :: p, _, h => by simp at h
  | nil, n + 1, b :: p, _, h => by
    have := dok_ext nil n p (dok_nil n) (by simpa using h)
    unfold ext
    split <;> simp [dok, this, dok_nil]
  | nd is o l r, n, [], h, _ => h
  | nd is o l r, 0, b :: p, _, h => by simp at h
  | nd is o l r, n + 1, b :: p, hd, h => by
    have h1 := dok_ext l n p hd.1 (by simpa using h)
    have h2 := dok_ext r n p hd.2 (by simpa using h)
    unfold ext
    split
    · exact ⟨h1, hd.2⟩
    · exact ⟨hd.1, h2⟩
theorem put_nil : ∀ (t : T) (p : List Nat) (is : Bool) (o : Int), t.put p is o = nil ↔ t = nil
  | nil, _, _, _ => by simp [put]
  | nd .., [], _, _ => by simp [put]
  | nd .., b :: p, _, _ => by unfold put; split <;> simp
theorem dok_put : ∀ (t : T) (n : Nat) (p : List Nat) (is : Bool) (o : Int), t.dok n → (t.put p is o).dok n
  | nil, n, p, is, o, h => h
  | nd i u l r, 0, [], is, o, h => h
  | nd i u l r, n + 1, [], is, o, h => h
  | nd i u l r, 0, b :: p, is, o, h => by
    unfold put
    split
    · exact ⟨(put_nil ..).2 h.1, h.2⟩
    · exact ⟨h.1, (put_nil ..).2 h.2⟩
  | nd i u l r, n + 1, b :: p, is, o, h => by
    unfold put
    split
    · exact ⟨dok_put l n p is o h.1, h.2⟩
    · exact ⟨h.1, dok_put r n p is o h.2⟩
theorem dok_cut : ∀ (t : T) (n : Nat), t.dok n → t.cut.dok n
  | nil, n, h => h
  | nd is o l r, n, h => by
    unfold cut
    split
    · exact dok_nil n
    · cases n with
      | zero =>
        obtain ⟨rfl, rfl⟩ := h
        exact ⟨rfl, rfl⟩
      | succ n => exact ⟨dok_cut l n h.1, dok_cut r n h.2⟩
end T
end Go.Proofs.Ythccncpephpdjaa.Tri
namespace Go.Proofs.Ythccncpephpdjaa.Tri
open E Go.RowKit
open Adr Cid
abbrev Nx := Vector (Option Nat) 2
def Rep (h : List HV) : T → Option Nat → List Nat → Prop
  | .nil, x, fp => x = none ∧ fp = []
  | .nd is o l r, x, fp => ∃ i nx f1 f2, x = some i ∧ h[i]? = some (.trie_node ⟨nx, is, o⟩) ∧ Rep h l (vget nx 0) f1 ∧ Rep h r (vget nx 1) f2 ∧ fp = i :: (f1 ++ f2) ∧ (i :: (f1 ++ f2)).Nodup
theorem Rep.frame {h h' : List HV} : ∀ {t : T} {x : Option Nat} {fp : List Nat}, Rep h t x fp → (∀ i ∈ fp, h'[i]? = h[i]?) → Rep h' t x fp
  | .nil, _, _, hr, _ => hr
  | .nd is o l r, x, fp, ⟨i, nx, f1, f2, hx, hi, hl, hr, hf, hn⟩, he => by
    subst hf
    refine ⟨i, nx, f1, f2, hx, (he i (List.mem_cons_self ..)).trans hi, hl.frame fun j hj => he j ?_, hr.frame fun j hj => he j ?_, rfl, hn⟩ <;> simp [hj]
theorem Rep.lt {h : List HV} : ∀ {t : T} {x : Option Nat} {fp : List Nat}, Rep h t x fp → ∀ i ∈ fp, i < h.length
  | .nil, _, _, ⟨_, hf⟩, i, hi => by subst hf; simp at hi
  | .nd is o l r, x, fp, ⟨i, nx, f1, f2, hx, hi, hl, hr, hf, hn⟩, j, hj => by
    subst hf
    rcases List.mem_cons.1 hj with rfl | hj
    · exact (List.getElem?_eq_some_iff.1 hi).1
    · rcases List.mem_append.1 hj with hj | hj
      · exact hl.lt j hj
      · exact hr.lt j hj
theorem Rep.nodup {h : List HV} : ∀ {t : T} {x : Option Nat} {fp : List Nat}, Rep h t x fp → fp.Nodup
  | .nil, _, _, ⟨_, hf⟩ => by subst hf; simp
  | .nd is o l r, x, fp, ⟨i, nx, f1, f2, hx, hi, hl, hr, hf, hn⟩ => by subst hf; exact hn
theorem Rep.none_iff {h : List HV} : ∀ {t : T} {x : Option Nat} {fp : List Nat}, Rep h t x fp → (x = none ↔ t = .nil)
  | .nil, _, _, ⟨hx, _⟩ => by simp [hx]
  | .nd is o l r, x, fp, ⟨i, nx, f1, f2, hx, _⟩ => by simp [hx]
theorem rep_nd {h : List HV} {is : Bool} {o : Int} {l r : T} {n : Nat} {nx : Nx} {f1 f2 : List Nat} (hi : h[n]? = some (.trie_node ⟨nx, is, o⟩)) (hl : Rep h l (vget nx 0) f1) (hr : Rep h r (vget nx 1) f2) (hn1 : n ∉ f1) (hn2 : n ∉ f2) (hd : ∀ a ∈ f1, ∀ b ∈ f2, a ≠ b) : Rep h (.nd is o l r) (some n) (n :: (f1 ++ f2)) :=
  ⟨n, nx, f1, f2, rfl, hi, hl, hr, rfl, by rw [List.nodup_cons, List.nodup_append]; exact ⟨by simp [hn1, hn2], hl.nodup, hr.nodup, hd⟩⟩
theorem rep_un {h : List HV} {is : Bool} {o : Int} {l r : T} {n : Nat} {fp : List Nat} (hr : Rep h (.nd is o l r) (some n) fp) : ∃ (nx : Nx) (f1 f2 : List Nat), h[n]? = some (.trie_node ⟨nx, is, o⟩) ∧ Rep h l (vget nx 0) f1 ∧ Rep h r (vget nx 1) f2 ∧ fp = n :: (f1 ++ f2) ∧ n ∉ f1 ∧ n ∉ f2 ∧ ∀ a ∈ f1, ∀ b ∈ f2, a ≠ b := by
  obtain ⟨i, nx, f1, f2, hx, hi, hl, hr, hf, hn⟩ := hr
  cases hx
  rw [List.nodup_cons, List.nodup_append] at hn
  exact ⟨nx, f1, f2, hi, hl, hr, hf, fun e => hn.1 (List.mem_append_left _ e), fun e => hn.1 (List.mem_append_right _ e), hn.2.2.2⟩
/-- From here along this path one comes there. -/
def Loc (h : List HV) : Option Nat → List Nat → Nat → Prop
  | x, [], n => x = some n
  | x, b :: p, n => ∃ i nd, x = some i ∧ h[i]? = some (.trie_node nd) ∧ Loc h (vget nd.f_next (b : Int)) p n
theorem vget2 (v : Nx) (i : Nat) (x : Option Nat) (hi : i < 2) : vget (vset v (i : Int) x) (i : Int) = x := by
  unfold vget
  rw [vset_toList, List.getD_eq_getElem?_getD, Int.toNat_natCast, List.getElem?_set_self (by simp; omega)]; rfl
theorem vget2' (v : Nx) (i j : Nat) (x : Option Nat) (hij : i ≠ j) : vget (vset v (i : Int) x) (j : Int) = vget v (j : Int) := by
  unfold vget
  rw [vset_toList, List.getD_eq_getElem?_getD, Int.toNat_natCast, Int.toNat_natCast, List.getElem?_set_ne hij, ← List.getD_eq_getElem?_getD]
theorem T.val_not_has : ∀ (t : T) (p : List Nat), t.has p = false → t.val p = none
  | .nil, _, _ => rfl
  | .nd .., [], h => by simp [T.has] at h
  | .nd is o l r, b :: p, h => by
    unfold T.has at h
    unfold T.val
    split at h
    · next e => rw [if_pos e]; exact T.val_not_has l p h
    · next e => rw [if_neg e]; exact T.val_not_has r p h
/-- A place in a tree, and what it is when another thing stands there. -/
theorem rep_loc {h : List HV} : ∀ {t : T} {x : Option Nat} {fp : List Nat} {p : List Nat} {n : Nat}, Rep h t x fp → (∀ b ∈ p, b < 2) → Loc h x p n →
    t.has p = true ∧ n ∈ fp ∧ ∃ nd, h[n]? = some (.trie_node nd) ∧ t.val p = (if nd.f_is = true then some nd.f_owner else none) ∧
      ∀ is o, Rep (h.set n (.trie_node { nd with f_is := is, f_owner := o })) (t.put p is o) x fp
  | .nil, x, fp, [], n, ⟨hx, _⟩, _, hL => by subst hx; cases hL
  | .nil, x, fp, b :: p, n, ⟨hx, _⟩, _, ⟨i, nd, hL, _⟩ => by subst hx; cases hL
  | .nd is o l r, x, fp, [], n, hR, _, hL => by
    cases hL
    obtain ⟨nx, f1, f2, hi, hl, hr, hf, n1, n2, hd⟩ := rep_un hR
    subst hf
    have hn : n < h.length := (List.getElem?_eq_some_iff.1 hi).1
    refine ⟨rfl, List.mem_cons_self .., _, hi, rfl, fun is' o' => ?_⟩
    refine rep_nd (nx := nx) (List.getElem?_set_self hn) (hl.frame fun j hj => ?_) (hr.frame fun j hj => ?_) n1 n2 hd
    · exact List.getElem?_set_ne (by intro e; subst e; exact n1 hj)
    · exact List.getElem?_set_ne (by intro e; subst e; exact n2 hj)
  | .nd is o l r, x, fp, b :: p, n, hR, hb, ⟨i, nd, hx, hi', hL⟩ => by
    subst hx
    obtain ⟨nx, f1, f2, hi, hl, hr, hf, n1, n2, hd⟩ := rep_un hR
    subst hf
    rw [hi] at hi'
    cases hi'
    have hb0 := hb b (List.mem_cons_self ..)
    have hb' : ∀ b ∈ p, b < 2 := fun c hc => hb c (List.mem_cons_of_mem _ hc)
    have hil : i < h.length := (List.getElem?_eq_some_iff.1 hi).1
    by_cases h0 : b = 0
    · subst h0
      obtain ⟨h1, h2, nd, h3, h4, h5⟩ := rep_loc hl hb' hL
      refine ⟨by simpa [T.has] using h1, by simp [h2], nd, h3, by simpa [T.val] using h4, fun is' o' => ?_⟩
      have hin : n ≠ i := by intro e; subst e; exact n1 h2
      simp only [T.put, if_pos]
      exact rep_nd ((List.getElem?_set_ne hin).trans hi) (h5 is' o') (hr.frame fun j hj => List.getElem?_set_ne (by intro e; subst e; exact hd _ h2 _ hj rfl)) n1 n2 hd
    · have : b = 1 := by omega
      subst this
      obtain ⟨h1, h2, nd, h3, h4, h5⟩ := rep_loc hr hb' hL
      refine ⟨by simpa [T.has] using h1, by simp [h2], nd, h3, by simpa [T.val] using h4, fun is' o' => ?_⟩
      have hin : n ≠ i := by intro e; subst e; exact n2 h2
      simp only [T.put, if_neg h0]
      exact rep_nd ((List.getElem?_set_ne hin).trans hi) (hl.frame fun j hj => List.getElem?_set_ne (by intro e; subst e; exact hd _ hj _ h2 rfl)) (h5 is' o') n1 n2 hd
def bf (l : List UInt8) : Nat → Nat → List Nat
  | _, 0 => []
  | d, k + 1 => bit l d :: bf l (d + 1) k
theorem bf_lt (l : List UInt8) : ∀ (k d : Nat), ∀ b ∈ bf l d k, b < 2
  | 0, d, b, h => by simp [bf] at h
  | k + 1, d, b, h => by
    rcases List.mem_cons.1 h with rfl | h
    · exact bit_lt l d
    · exact bf_lt l k (d + 1) b h
theorem bf_len (l : List UInt8) : ∀ (k d : Nat), (bf l d k).length = k
  | 0, _ => rfl
  | k + 1, d => by simp [bf, bf_len l k (d + 1)]
theorem bf_get (l : List UInt8) : ∀ (k d i : Nat), i < k → (bf l d k).getD i 0 = bit l (d + i)
  | 0, _, _, h => by omega
  | k + 1, d, 0, _ => rfl
  | k + 1, d, i + 1, h => by
    show (bf l (d + 1) k).getD i 0 = _
    rw [bf_get l k (d + 1) i (by omega)]; congr 1; omega
def zn : S_trie_node := { f_next := (Vector.replicate 2 (none : Option Nat) : (Vector (Option Nat) 2)), f_is := false, f_owner := (0 : Int) }
theorem hvp_zn (h : List HV) : hvp hK h (.trie_node zn) = true := rfl
structure Grow (h h' : List HV) (fp fp' : List Nat) : Prop where
  len : h.length ≤ h'.length
  old : ∀ j, j < h.length → j ∉ fp → h'[j]? = h[j]?
  new : ∀ j ∈ fp', j ∈ fp ∨ h.length ≤ j
theorem ext_zn : ∀ (p : List Nat), T.ext .nil p = T.ext (.nd false 0 .nil .nil) p
  | [] => rfl
  | _ :: _ => rfl
theorem wr1 {d : Nat} (h : d ≤ 1000) : wr .i64 ((d : Int) + 1) = ((d + 1 : Nat) : Int) := by rw [wr_i64 (by omega) (by omega)]; rfl
theorem put_loop {V : Int} {l : List UInt8} (hl : l.length = 16) (hr : rightL V l = true) (b : Nat) (hb : b ≤ widthL V l) (tk : Nat) : ∀ (k d n : Nat) (t : T) (h : List HV) (fp : List Nat), d + k = b → tk < h.length → Rep h t (some n) fp →
    ∃ n' h' fp', trie_Trie_Put.l0 (some tk) (mkP (mkA V l) (b : Int)) (some n) (d : Int) h = some (some n', h') ∧ Rep h' (t.ext (bf l d k)) (some n) fp' ∧ Loc h' (some n) (bf l d k) n' ∧ Grow h h' fp fp'
  | 0, d, n, t, h, fp, hd, htk, hR => by
    refine ⟨n, h, fp, ?_, ?_, rfl, Nat.le_refl _, fun _ _ _ => rfl, fun _ hj => .inl hj⟩
    · rw [trie_Trie_Put.l0.eq_def, if_neg (by rw [decide_eq_true_eq]; show ¬ (d : Int) < (b : Int); omega)]
    · cases t with
      | nil => cases hR.1
      | nd => exact hR
  | k + 1, d, n, t, h, fp, hd, htk, hR => by
    have hw := width_le (V := V) (l := l)
    cases t with
    | nil => cases hR.1
    | nd is o tl tr =>
    obtain ⟨nx, f1, f2, hi, hL, hRr, hf, n1, n2, hdj⟩ := rep_un hR
    subst hf
    have hnl : n < h.length := (List.getElem?_eq_some_iff.1 hi).1
    have hc2 := bit_lt l d
    have hbit : addr_Bit (mkA V l) (d : Int) = some ((bit l d : Nat) : Int) := by
      rw [bit_code hl (by omega), if_pos (by omega), Int.toNat_natCast]
    have hg2 : (0 : Int) ≤ ((bit l d : Nat) : Int) ∧ ((bit l d : Nat) : Int) < 2 := by omega
    rw [trie_Trie_Put.l0.eq_def, if_pos (by rw [decide_eq_true_eq]; show (d : Int) < (b : Int); omega)]
    simp only [mkP, hbit, bindM_some, hn_trie_node_of hi, if_pos hg2]
    rw [wr1 (by omega)]
    have wdl := (hL.none_iff).1
    have wdr := (hRr.none_iff).1
    generalize hc : bit l d = c at *
    have ebf : bf l d (k + 1) = c :: bf l (d + 1) k := by simp [bf, hc]
    rw [ebf]
    by_cases hv : vget nx (c : Int) = none
    · -- a new place
      rw [if_pos (by rw [hv]; rfl), if_pos (by simp [vp, htk]), if_pos (by simp [vp, hnl]), if_pos (by simp [vp, hnl])]
      show ∃ n' h' fp', (if hvp hK h (.trie_node zn) = true then _ else none) = _ ∧ _
      rw [if_pos (hvp_zn h)]
      have hi1 : (h ++ [HV.trie_node zn])[n]? = some (.trie_node ⟨nx, is, o⟩) := by rw [List.getElem?_append_left hnl]; exact hi
      have e1 := hn_trie_node_of hi1
      unfold zn at e1
      simp only [e1, bindM_some, if_pos hg2]
      rw [if_pos (by simp [vp])]
      let h2 := (h ++ [HV.trie_node zn]).set n (.trie_node ⟨vset nx (c : Int) (some h.length), is, o⟩)
      have hi2 : h2[n]? = some (.trie_node ⟨vset nx (c : Int) (some h.length), is, o⟩) := by
        simp only [h2]; rw [List.getElem?_set_self (by simp; omega)]
      have e2 := hn_trie_node_of hi2
      simp only [h2] at e2
      unfold zn at e2
      simp only [e2, bindM_some, vget2 nx c _ hc2, if_pos hg2]
      have hl2 : h2.length = h.length + 1 := by simp [h2]
      have hm2 : h2[h.length]? = some (.trie_node zn) := by
        simp only [h2]; rw [List.getElem?_set_ne (by omega)]; simp
      have old2 : ∀ j, j < h.length → j ≠ n → h2[j]? = h[j]? := fun j hj hjn => by
        simp only [h2]; rw [List.getElem?_set_ne (by omega), List.getElem?_append_left hj]
      have hRm : Rep h2 (.nd false 0 .nil .nil) (some h.length) [h.length] := rep_nd (nx := zn.f_next) (f1 := []) (f2 := []) hm2 ⟨rfl, rfl⟩ ⟨rfl, rfl⟩ (by simp) (by simp) (by simp)
      obtain ⟨n', h', fp', c1, c2, c3, c4⟩ := put_loop hl hr b hb tk k (d + 1) h.length _ h2 _ (by omega) (by omega) hRm
      rw [← ext_zn] at c2
      have hn' : h'[n]? = some (.trie_node ⟨vset nx (c : Int) (some h.length), is, o⟩) := (c4.old n (by omega) (by simp; omega)).trans hi2
      have keep : ∀ j, j < h.length → j ≠ n → h'[j]? = h[j]? := fun j hj hjn => (c4.old j (by omega) (by simp; omega)).trans (old2 j hj hjn)
      have big : ∀ j ∈ fp', h.length ≤ j := fun j hj => by
        rcases c4.new j hj with e | e
        · simp at e; omega
        · omega
      have fr1 : ∀ j ∈ f1, h'[j]? = h[j]? := fun j hj => keep j (hL.lt j hj) (by intro e; subst e; exact n1 hj)
      have fr2 : ∀ j ∈ f2, h'[j]? = h[j]? := fun j hj => keep j (hRr.lt j hj) (by intro e; subst e; exact n2 hj)
      refine ⟨n', h', if c = 0 then n :: (fp' ++ f2) else n :: (f1 ++ fp'), c1, ?_, ⟨n, _, rfl, hn', by rw [vget2 nx c _ hc2]; exact c3⟩, by have := c4.len; omega, fun j hj hjf => keep j hj (by intro e; subst e; simp at hjf), fun j hj => ?_⟩
      · by_cases h0 : c = 0
        · subst h0
          have e0 : tl = .nil := wdl hv
          subst e0
          simp only [T.ext, if_pos]
          refine rep_nd hn' (by have := vget2 nx 0 (some h.length) (by omega); rw [show ((0 : Nat) : Int) = 0 from rfl] at this ⊢; rw [this]; exact c2) (by have := vget2' nx 0 1 (some h.length) (by omega); rw [show ((0 : Nat) : Int) = 0 from rfl, show ((1 : Nat) : Int) = 1 from rfl] at this; rw [show ((0 : Nat) : Int) = 0 from rfl, this]; exact hRr.frame fr2) (fun e => by have := big n e; omega) n2 (fun a ha c hc => by have := big a ha; have := hRr.lt c hc; omega)
        · have e1 : c = 1 := by omega
          subst e1
          have e0 : tr = .nil := wdr hv
          subst e0
          simp only [T.ext, if_neg h0]
          refine rep_nd hn' (by have := vget2' nx 1 0 (some h.length) (by omega); rw [show ((0 : Nat) : Int) = 0 from rfl, show ((1 : Nat) : Int) = 1 from rfl] at this; rw [show ((1 : Nat) : Int) = 1 from rfl, this]; exact hL.frame fr1) (by have := vget2 nx 1 (some h.length) (by omega); rw [show ((1 : Nat) : Int) = 1 from rfl] at this ⊢; rw [this]; exact c2) n1 (fun e => by have := big n e; omega) (fun a ha c hc => by have := big c hc; have := hL.lt a ha; omega)
      · split at hj <;> simp at hj ⊢
        · rcases hj with hj | hj | hj
          · exact .inl (.inl hj)
          · exact .inr (big j hj)
          · exact .inl (.inr (.inr hj))
        · rcases hj with hj | hj | hj
          · exact .inl (.inl hj)
          · exact .inl (.inr (.inl hj))
          · exact .inr (big j hj)
    · rw [if_neg (by intro e; exact hv (Option.isNone_iff_eq_none.1 e))]
      obtain ⟨m, hm⟩ := Option.ne_none_iff_exists'.1 hv
      rw [hm]
      by_cases h0 : c = 0
      · subst h0
        simp at hm
        rw [hm] at hL
        obtain ⟨n', h', fp', c1, c2, c3, c4⟩ := put_loop hl hr b hb tk k (d + 1) m tl h f1 (by omega) htk hL
        have hn' : h'[n]? = some (.trie_node ⟨nx, is, o⟩) := (c4.old n hnl n1).trans hi
        have fr2 : ∀ j ∈ f2, h'[j]? = h[j]? := fun j hj => c4.old j (hRr.lt j hj) fun e => hdj j e j hj rfl
        have ap : ∀ j ∈ fp', j ∈ f1 ∨ h.length ≤ j := c4.new
        refine ⟨n', h', n :: (fp' ++ f2), c1, ?_, ⟨n, _, rfl, hn', by simpa [hm] using c3⟩, c4.len, fun j hj hjf => c4.old j hj (by simp at hjf; exact hjf.2.1), fun j hj => ?_⟩
        · simp only [T.ext, if_pos]
          refine rep_nd hn' (by rw [hm]; exact c2) (hRr.frame fr2) (fun e => ?_) n2 (fun a ha c hc e => ?_)
          · rcases ap n e with e | e
            · exact n1 e
            · omega
          · subst e
            rcases ap a ha with e | e
            · exact hdj a e a hc rfl
            · have := hRr.lt a hc; omega
        · simp at hj ⊢
          rcases hj with hj | hj | hj
          · exact .inl (.inl hj)
          · exact (ap j hj).imp (fun e => .inr (.inl e)) id
          · exact .inl (.inr (.inr hj))
      · have e1 : c = 1 := by omega
        subst e1
        simp at hm
        rw [hm] at hRr
        obtain ⟨n', h', fp', c1, c2, c3, c4⟩ := put_loop hl hr b hb tk k (d + 1) m tr h f2 (by omega) htk hRr
        have hn' : h'[n]? = some (.trie_node ⟨nx, is, o⟩) := (c4.old n hnl n2).trans hi
        have fr1 : ∀ j ∈ f1, h'[j]? = h[j]? := fun j hj => c4.old j (hL.lt j hj) fun e => hdj j hj j e rfl
        have ap : ∀ j ∈ fp', j ∈ f2 ∨ h.length ≤ j := c4.new
        refine ⟨n', h', n :: (f1 ++ fp'), c1, ?_, ⟨n, _, rfl, hn', by simpa [hm] using c3⟩, c4.len, fun j hj hjf => c4.old j hj (by simp at hjf; exact hjf.2.2), fun j hj => ?_⟩
        · simp only [T.ext, if_neg h0]
          refine rep_nd hn' (hL.frame fr1) (by rw [hm]; exact c2) n1 (fun e => ?_) (fun a ha c hc e => ?_)
          · rcases ap n e with e | e
            · exact n2 e
            · omega
          · subst e
            rcases ap a hc with e | e
            · exact hdj a ha a e rfl
            · have := hL.lt a ha; omega
        · simp at hj ⊢
          rcases hj with hj | hj | hj
          · exact .inl (.inl hj)
          · exact .inl (.inr (.inl hj))
          · exact (ap j hj).imp (fun e => .inr (.inr e)) id
/-- Where a prefix lies, if it does. -/
theorem at_loop {V : Int} {l : List UInt8} (hl : l.length = 16) (b : Nat) (hb : b ≤ widthL V l) (h : List HV) : ∀ (k d : Nat) (t : T) (x : Option Nat) (fp : List Nat), d + k = b → Rep h t x fp →
    ∃ y, trie_Trie_at.l0 h (mkP (mkA V l) (b : Int)) x (d : Int) = some y ∧ (y = none → t.has (bf l d k) = false) ∧ ∀ n, y = some n → Loc h x (bf l d k) n
  | 0, d, t, x, fp, hd, hR => by
    refine ⟨x, ?_, fun e => ?_, fun n e => e⟩
    · rw [trie_Trie_at.l0.eq_def, if_neg (by rw [decide_eq_true_eq]; show ¬ (d : Int) < (b : Int); omega)]
    · rw [hR.none_iff.1 e]; rfl
  | k + 1, d, t, x, fp, hd, hR => by
    have hw := width_le (V := V) (l := l)
    rw [trie_Trie_at.l0.eq_def, if_pos (by rw [decide_eq_true_eq]; show (d : Int) < (b : Int); omega)]
    cases t with
    | nil =>
      obtain ⟨hx, _⟩ := hR
      subst hx
      exact ⟨none, rfl, fun _ => rfl, fun n e => by cases e⟩
    | nd is o tl tr =>
    obtain ⟨n, hx⟩ : ∃ n, x = some n := by obtain ⟨i, _, _, _, hx, _⟩ := hR; exact ⟨i, hx⟩
    subst hx
    obtain ⟨nx, f1, f2, hi, hL, hRr, hf, n1, n2, hdj⟩ := rep_un hR
    have hc2 := bit_lt l d
    have hbit : addr_Bit (mkA V l) (d : Int) = some ((bit l d : Nat) : Int) := by
      rw [bit_code hl (by omega), if_pos (by omega), Int.toNat_natCast]
    have hg2 : (0 : Int) ≤ ((bit l d : Nat) : Int) ∧ ((bit l d : Nat) : Int) < 2 := by omega
    rw [if_pos (show (!(Option.isNone (some n))) = true from rfl)]
    simp only [mkP, hbit, bindM_some, hn_trie_node_of hi, if_pos hg2]
    rw [wr1 (by omega)]
    generalize hc : bit l d = c at *
    have ebf : bf l d (k + 1) = c :: bf l (d + 1) k := by simp [bf, hc]
    rw [ebf]
    by_cases h0 : c = 0
    · subst h0
      obtain ⟨y, q1, q2, q3⟩ := at_loop hl b hb h k (d + 1) tl _ f1 (by omega) hL
      exact ⟨y, q1, fun e => by simpa [T.has] using q2 e, fun m e => ⟨n, _, rfl, hi, q3 m e⟩⟩
    · have e1 : c = 1 := by omega
      subst e1
      obtain ⟨y, q1, q2, q3⟩ := at_loop hl b hb h k (d + 1) tr _ f2 (by omega) hRr
      exact ⟨y, q1, fun e => by simpa [T.has] using q2 e, fun m e => ⟨n, _, rfl, hi, q3 m e⟩⟩
end Go.Proofs.Ythccncpephpdjaa.Tri
namespace Go.Proofs.Ythccncpephpdjaa.Tri
open E Go.RowKit
open Adr Cid
theorem T.list_nd (is : Bool) (o : Int) (a b : T) (l : List UInt8) (d : Nat) : (T.nd is o a b).list l d = (if is = true then [(l, d, o)] else []) ++ (a.list l (d + 1) ++ b.list (sb l d) (d + 1)) := rfl
theorem T.cut_nd (is : Bool) (o : Int) (l r : T) : (T.nd is o l r).cut = if is = false ∧ l.cut = .nil ∧ r.cut = .nil then .nil else .nd is o l.cut r.cut := rfl
theorem prune_step {rec_ : List HV → Option Nat → Option (Bool × List HV)} {n : Nat} {t4 : Nat × S_trie_node} {is bare : Bool} {o : Int} {i : Nat} (hi2 : i < 2) {h : List HV} {nxc : Nx} {tc : T} {fc : List Nat}
    (hn : h[n]? = some (.trie_node ⟨nxc, is, o⟩)) (hc : Rep h tc (vget t4.2.f_next (i : Int)) fc) (hnf : n ∉ fc) (hsame : vget nxc (i : Int) = vget t4.2.f_next (i : Int))
    (ih : ∀ m, vget t4.2.f_next (i : Int) = some m → ∃ h', rec_ h (some m) = some (decide (tc.cut = .nil), h') ∧ h'.length = h.length ∧ (∀ j, j ∉ fc → h'[j]? = h[j]?) ∧ ∃ fc', (∀ j ∈ fc', j ∈ fc) ∧ (tc.cut ≠ .nil → Rep h' tc.cut (some m) fc')) :
    ∃ h' nxc' fc', trie_node_prune.l0 rec_ (some n) t4 bare (i : Int) h = trie_node_prune.l0 rec_ (some n) t4 (bare && decide (tc.cut = .nil)) ((i + 1 : Nat) : Int) h' ∧ h'.length = h.length ∧ (∀ j, j ≠ n → j ∉ fc → h'[j]? = h[j]?) ∧ h'[n]? = some (.trie_node ⟨nxc', is, o⟩) ∧
      (∀ j ∈ fc', j ∈ fc) ∧ Rep h' tc.cut (vget nxc' (i : Int)) fc' ∧ ∀ j : Nat, j ≠ i → vget nxc' (j : Int) = vget nxc (j : Int) := by
  have hnl : n < h.length := (List.getElem?_eq_some_iff.1 hn).1
  rw [trie_node_prune.l0.eq_def, if_pos (by rw [decide_eq_true_eq]; omega), if_pos (by omega), wr1 (by omega)]
  cases hv : vget t4.2.f_next (i : Int) with
  | none =>
    have e : tc = .nil := hc.none_iff.1 hv
    subst e
    rw [if_pos (show Option.isNone (none : Option Nat) = true from rfl)]
    refine ⟨h, nxc, [], by simp [T.cut], rfl, fun _ _ _ => rfl, hn, by simp, ⟨by rw [hsame, hv], rfl⟩, fun _ _ => rfl⟩
  | some m =>
    rw [if_neg (by simp)]
    obtain ⟨h1, e1, e2, e3, fc', e4, e5⟩ := ih m hv
    rw [e1, bindM_some]
    have hn1 : h1[n]? = some (.trie_node ⟨nxc, is, o⟩) := (e3 n hnf).trans hn
    by_cases hcut : tc.cut = .nil
    · simp only [hcut, decide_true]
      rw [if_pos trivial, hn_trie_node_of hn1, bindM_some, if_pos (by omega)]
      refine ⟨_, vset nxc (i : Int) none, [], by rw [Bool.and_true], by simp [e2], fun j hj hjf => by rw [List.getElem?_set_ne (by omega)]; exact e3 j hjf, List.getElem?_set_self (by omega), by simp, ⟨vget2 nxc i none hi2, rfl⟩, fun j hj => vget2' nxc i j none (by omega)⟩
    · rw [decide_eq_false hcut, if_neg (by simp), Bool.and_false]
      exact ⟨h1, nxc, fc', rfl, e2, fun j _ hjf => e3 j hjf, hn1, e4, by rw [hsame, hv]; exact e5 hcut, fun _ _ => rfl⟩
theorem prune_go : ∀ (t : T) (k f : Nat) (h : List HV) (n : Nat) (fp : List Nat), t.dok k → k < f → Rep h t (some n) fp →
    ∃ h', trie_node_prune.go f h (some n) = some (decide (t.cut = .nil), h') ∧ h'.length = h.length ∧ (∀ j, j ∉ fp → h'[j]? = h[j]?) ∧ ∃ fp', (∀ j ∈ fp', j ∈ fp) ∧ ∃ is o l r, t = .nd is o l r ∧ Rep h' (.nd is o l.cut r.cut) (some n) fp'
  | .nil, _, _, _, _, _, _, _, hR => by cases hR.1
  | .nd is o l r, k, 0, h, n, fp, _, hf, hR => by omega
  | .nd is o l r, k, f + 1, h, n, fp, hd, hf, hR => by
    obtain ⟨nx, f1, f2, hi, hL, hRr, hfp, n1, n2, hdj⟩ := rep_un hR
    subst hfp
    have il : ∀ (h0 : List HV) (m : Nat), Rep h0 l (some m) f1 → ∃ h', trie_node_prune.go f h0 (some m) = some (decide (l.cut = .nil), h') ∧ h'.length = h0.length ∧ (∀ j, j ∉ f1 → h'[j]? = h0[j]?) ∧ ∃ fc', (∀ j ∈ fc', j ∈ f1) ∧ (l.cut ≠ .nil → Rep h' l.cut (some m) fc') := fun h0 m hr0 => by
      cases k with
      | zero => rw [hd.1] at hr0; cases hr0.1
      | succ k =>
        obtain ⟨h', a1, a2, a3, fp', a4, is', o', l', r', rfl, a5⟩ := prune_go l k f h0 m f1 hd.1 (by omega) hr0
        refine ⟨h', a1, a2, a3, fp', a4, fun hne => ?_⟩
        unfold T.cut at hne ⊢
        split
        · next hh => rw [if_pos hh] at hne; exact absurd rfl hne
        · exact a5
    have ir : ∀ (h0 : List HV) (m : Nat), Rep h0 r (some m) f2 → ∃ h', trie_node_prune.go f h0 (some m) = some (decide (r.cut = .nil), h') ∧ h'.length = h0.length ∧ (∀ j, j ∉ f2 → h'[j]? = h0[j]?) ∧ ∃ fc', (∀ j ∈ fc', j ∈ f2) ∧ (r.cut ≠ .nil → Rep h' r.cut (some m) fc') := fun h0 m hr0 => by
      cases k with
      | zero => rw [hd.2] at hr0; cases hr0.1
      | succ k =>
        obtain ⟨h', a1, a2, a3, fp', a4, is', o', l', r', rfl, a5⟩ := prune_go r k f h0 m f2 hd.2 (by omega) hr0
        refine ⟨h', a1, a2, a3, fp', a4, fun hne => ?_⟩
        unfold T.cut at hne ⊢
        split
        · next hh => rw [if_pos hh] at hne; exact absurd rfl hne
        · exact a5
    rw [trie_node_prune.go]
    simp only [hn_trie_node_of hi, bindM_some]
    obtain ⟨h1, nx1, g1, b1, b2, b3, b4, b5, b6, b7⟩ := prune_step (rec_ := trie_node_prune.go f) (t4 := (n, ⟨nx, is, o⟩)) (i := 0) (bare := !is) (by omega) hi hL n1 rfl (fun m hm => by
      have hL' := hL
      rw [show ((0 : Nat) : Int) = 0 from rfl] at hm
      rw [show vget nx 0 = some m from hm] at hL'
      exact il h m hL')
    have hR1 : Rep h1 r (vget nx 1) f2 := hRr.frame fun j hj => b3 j (by intro e; subst e; exact n2 hj) fun e => hdj j e j hj rfl
    have e71 := b7 1 (by omega)
    obtain ⟨h2, nx2, g2, c1, c2, c3, c4, c5, c6, c7⟩ := prune_step (rec_ := trie_node_prune.go f) (t4 := (n, ⟨nx, is, o⟩)) (i := 1) (bare := !is && decide (l.cut = .nil)) (by omega) b4 hR1 n2 (by simpa using e71) (fun m hm => by
      have hR' := hR1
      rw [show ((1 : Nat) : Int) = 1 from rfl] at hm
      rw [show vget nx 1 = some m from hm] at hR'
      exact ir h1 m hR')
    rw [show ((0 : Nat) : Int) = 0 from rfl] at b1
    rw [b1, c1, trie_node_prune.l0.eq_def, if_neg (by simp), bindM_some]
    have e70 := c7 0 (by omega)
    rw [show ((0 : Nat) : Int) = 0 from rfl] at e70 b6
    refine ⟨h2, ?_, by omega, fun j hj => ?_, n :: (g1 ++ g2), fun j hj => ?_, is, o, l, r, rfl, ?_⟩
    · refine congrArg some (Prod.ext ?_ rfl)
      show (!is && decide (l.cut = .nil) && decide (r.cut = .nil)) = decide (T.cut (.nd is o l r) = .nil)
      rw [T.cut_nd]
      cases is <;> by_cases q1 : l.cut = .nil <;> by_cases q2 : r.cut = .nil <;> simp [q1, q2]
    · simp at hj
      rw [c3 j (by omega) hj.2.2]; exact b3 j (by omega) hj.2.1
    · simp at hj ⊢
      rcases hj with hj | hj | hj
      · exact .inl hj
      · exact .inr (.inl (b5 j hj))
      · exact .inr (.inr (c5 j hj))
    · refine rep_nd c4 (by rw [e70]; exact b6.frame fun j hj => c3 j (by intro e; subst e; exact n1 (b5 _ hj)) fun e => hdj j (b5 j hj) j e rfl) c6 (fun e => n1 (b5 _ e)) (fun e => n2 (c5 _ e)) fun a ha c hc => hdj a (b5 a ha) c (c5 c hc)
def toE (F : Int) (x : Tr) : S_api_Entry := { f_P := mkP (mkA F x.1) (x.2.1 : Int), f_Owner := x.2.2 }
theorem ior_fin : ∀ (b : Fin 256) (k : Fin 8), ior .u8 ((b.val : Nat) : Int) ((128 / 2 ^ k.val : Nat) : Int) = ((b.val ||| 128 / 2 ^ k.val : Nat) : Int) := by decide +kernel
theorem ior_code (l : List UInt8) (d : Nat) : ior .u8 (bg l (d / 8) : Int) ((128 / 2 ^ (d % 8) : Nat) : Int) = ((sbb (l.getD (d / 8) 0) (d % 8)).toNat : Int) := by
  rw [sbb_toNat _ _ (by omega)]
  exact ior_fin ⟨bg l (d / 8), bg_lt l _⟩ ⟨d % 8, by omega⟩
theorem and7 {n : Nat} (hn : n ≤ 1000) : iand .i64 (n : Int) 7 = ((n % 8 : Nat) : Int) := by
  unfold iand
  have h7 : (BitVec.ofInt IntKind.i64.bits (7 : Int)).toNat = 7 := by decide
  have hb : (BitVec.ofInt IntKind.i64.bits (n : Int)).toNat = n := toNat_ofInt 64 n (by omega)
  rw [BitVec.toNat_and, h7, hb, show (7 : Nat) = 2 ^ 3 - 1 from rfl, Nat.and_two_pow_sub_one_eq_mod]
  exact wr_i64 (x := ((n % 2 ^ 3 : Nat) : Int)) (by omega) (by omega)
theorem each_nil (f : Nat) (h : List HV) (a : S_api_Addr) (d : Int) (out : List S_api_Entry) : trie_node_each__trie_Trie_All_1.go (f + 1) h none a d out = some out := rfl
theorem each_go (F : Int) : ∀ (t : T) (k f : Nat) (h : List HV) (x : Option Nat) (fp : List Nat) (l : List UInt8) (d : Nat) (out : List S_api_Entry), Rep h t x fp → t.dok k → k + 2 ≤ f → d + k ≤ 128 → l.length = 16 → out.length + (t.list l d).length ≤ 1000 →
    trie_node_each__trie_Trie_All_1.go f h x (mkA F l) (d : Int) out = some (out ++ (t.list l d).map (toE F))
  | .nil, k, f, h, x, fp, l, d, out, hR, _, hf, _, _, _ => by
    obtain ⟨f, rfl⟩ : ∃ g, f = g + 1 := ⟨f - 1, by omega⟩
    rw [hR.1, each_nil]; simp [T.list]
  | .nd is o tl tr, k, f, h, x, fp, l, d, out, hR, hd, hf, hdk, hl, hout => by
    obtain ⟨f, rfl⟩ : ∃ g, f = g + 1 := ⟨f - 1, by omega⟩
    obtain ⟨n, hx⟩ : ∃ n, x = some n := by obtain ⟨i, _, _, _, hx, _⟩ := hR; exact ⟨i, hx⟩
    subst hx
    obtain ⟨nx, f1, f2, hi, hL, hRr, hfp, n1, n2, hdj⟩ := rep_un hR
    have il : ∀ out : List S_api_Entry, out.length + (tl.list l (d + 1)).length ≤ 1000 → trie_node_each__trie_Trie_All_1.go f h (vget nx 0) (mkA F l) ((d + 1 : Nat) : Int) out = some (out ++ (tl.list l (d + 1)).map (toE F)) := fun out ho => by
      cases k with
      | zero =>
        obtain ⟨f, rfl⟩ : ∃ g, f = g + 1 := ⟨f - 1, by omega⟩
        have e := hd.1
        subst e
        rw [hL.1, each_nil]; simp [T.list]
      | succ k => exact each_go F tl k f h _ f1 l (d + 1) out hL hd.1 (by omega) (by omega) hl ho
    have ir : ∀ out : List S_api_Entry, tr ≠ .nil → out.length + (tr.list (sb l d) (d + 1)).length ≤ 1000 → trie_node_each__trie_Trie_All_1.go f h (vget nx 1) (mkA F (sb l d)) ((d + 1 : Nat) : Int) out = some (out ++ (tr.list (sb l d) (d + 1)).map (toE F)) := fun out hne ho => by
      cases k with
      | zero => exact absurd hd.2 hne
      | succ k => exact each_go F tr k f h _ f2 (sb l d) (d + 1) out hRr hd.2 (by omega) (by omega) (by rw [sb_len, hl]) ho
    have hdr : tr ≠ .nil → d < 128 := fun hne => by
      cases k with
      | zero => exact absurd hd.2 hne
      | succ k => omega
    have nr := hRr.none_iff
    have wd : wr .i64 ((d : Int) + 1) = ((d + 1 : Nat) : Int) := wr1 (by omega)
    have tail : ∀ out : List S_api_Entry, out.length + (tr.list (sb l d) (d + 1)).length ≤ 1000 → (if (!(Option.isNone (vget nx 1))) = true then (if (0 : Int) ≤ ishr .i64 (d : Int) 3 ∧ ishr .i64 (d : Int) 3 < 16 then if (0 : Int) ≤ wr .u64 (iand .i64 (d : Int) 7) then if (0 : Int) ≤ ishr .i64 (d : Int) 3 ∧ ishr .i64 (d : Int) 3 < 16 then trie_node_each__trie_Trie_All_1.go f h (vget nx 1) ({ mkA F l with f_B := vset (mkA F l).f_B (ishr .i64 (d : Int) 3) (ior .u8 (vget (mkA F l).f_B (ishr .i64 (d : Int) 3)) (ishr .u8 128 (wr .u64 (iand .i64 (d : Int) 7)))) }) (wr .i64 ((d : Int) + 1)) out >>= fun t31 => some t31 else none else none else none) else (some out)) = some (out ++ (tr.list (sb l d) (d + 1)).map (toE F)) := fun out ho => by
      cases hv : vget nx 1 with
      | none => rw [nr.1 hv]; simp [T.list]
      | some m =>
        have hne : tr ≠ .nil := fun e => by rw [nr.2 e] at hv; cases hv
        have hd128 := hdr hne
        have e1 : ishr .i64 (d : Int) 3 = ((d / 8 : Nat) : Int) := ishr_nat .i64 d 3 (by decide)
        have e2 := and7 (n := d) (by omega)
        have e3 : wr .u64 ((d % 8 : Nat) : Int) = ((d % 8 : Nat) : Int) := wr_u64 (by omega) (by omega)
        have e4 : ishr .u8 128 ((d % 8 : Nat) : Int) = ((128 / 2 ^ (d % 8) : Nat) : Int) := ishr_nat .u8 128 (d % 8) (by show d % 8 ≤ 8; omega)
        rw [if_pos (show (!(Option.isNone (some m))) = true from rfl), e1, e2, e3, e4, if_pos (by omega), if_pos (by omega), if_pos (by omega), wd]
        have e5 : ({ mkA F l with f_B := vset (mkA F l).f_B ((d / 8 : Nat) : Int) (ior .u8 (vget (mkA F l).f_B ((d / 8 : Nat) : Int)) ((128 / 2 ^ (d % 8) : Nat) : Int)) } : S_api_Addr) = mkA F (sb l d) := by
          show ({ f_V := F, f_B := vset (vb l) ((d / 8 : Nat) : Int) (ior .u8 (vget (vb l) ((d / 8 : Nat) : Int)) ((128 / 2 ^ (d % 8) : Nat) : Int)) } : S_api_Addr) = _
          rw [vget_vb hl _ (by omega), ior_code, vset_vb hl]
          rfl
        rw [e5, ← hv, ir out hne ho]; rfl
    have hlen : ((T.nd is o tl tr).list l d).length = (if is = true then 1 else 0) + ((tl.list l (d + 1)).length + (tr.list (sb l d) (d + 1)).length) := by
      rw [T.list_nd]
      cases is <;> simp
      omega
    rw [hlen] at hout
    rw [trie_node_each__trie_Trie_All_1.go]
    simp only [Option.isNone_some, Bool.false_eq_true, if_false, hn_trie_node_of hi, bindM_some]
    cases is with
    | true =>
      rw [if_pos (show true = true from rfl)] at hout ⊢
      unfold trie_Trie_All_1
      rw [if_pos (by omega), bindM_some, wd]
      rw [il _ (by rw [List.length_append, List.length_singleton]; omega), bindM_some]
      rw [wd] at tail
      rw [tail _ (by simp; omega)]
      rw [T.list_nd]
      simp [toE, mkP]
    | false =>
      rw [if_neg (show ¬ (false = true) from Bool.false_ne_true)] at hout ⊢
      rw [wd, il _ (by omega), bindM_some]
      rw [wd] at tail
      rw [tail _ (by simp; omega)]
      rw [T.list_nd]
      simp
def T.deep : T → List Nat → Nat → Option (Nat × Int)
  | .nil, _, _ => none
  | .nd is o _ _, [], d => if is = true then some (d, o) else none
  | .nd is o l r, b :: q, d => match (if b = 0 then l.deep q (d + 1) else r.deep q (d + 1)) with
    | some z => some z
    | none => if is = true then some (d, o) else none
theorem deep_spec : ∀ (t : T) (q : List Nat) (d : Nat), (t.deep q d = none → ∀ m, m ≤ q.length → t.val (q.take m) = none) ∧ ∀ j o, t.deep q d = some (j, o) → ∃ m, m ≤ q.length ∧ j = d + m ∧ t.val (q.take m) = some o ∧ ∀ m', m < m' → m' ≤ q.length → t.val (q.take m') = none
  | .nil, q, d => ⟨fun _ _ _ => rfl, fun j o h => by simp [T.deep] at h⟩
  | .nd is o l r, [], d => by
    constructor
    · intro h m hm
      have : m = 0 := by simpa using hm
      subst this
      cases is <;> simp_all [T.deep, T.val]
    · intro j o' h
      cases is with
      | false => simp [T.deep] at h
      | true =>
        simp [T.deep] at h
        exact ⟨0, Nat.le_refl _, by omega, by simp [T.val, h.2], fun m' h1 h2 => by simp at h2; omega⟩
  | .nd is o l r, b :: q, d => by
    obtain ⟨l1, l2⟩ := deep_spec l q (d + 1)
    obtain ⟨r1, r2⟩ := deep_spec r q (d + 1)
    have key : ∀ (c : T), (c.deep q (d + 1) = none → ∀ m, m ≤ q.length → c.val (q.take m) = none) → (∀ j o, c.deep q (d + 1) = some (j, o) → ∃ m, m ≤ q.length ∧ j = d + 1 + m ∧ c.val (q.take m) = some o ∧ ∀ m', m < m' → m' ≤ q.length → c.val (q.take m') = none) →
        (∀ m, (T.nd is o l r).val ((b :: q).take (m + 1)) = c.val (q.take m)) → (T.nd is o l r).deep (b :: q) d = (match c.deep q (d + 1) with | some z => some z | none => if is = true then some (d, o) else none) →
        ((T.nd is o l r).deep (b :: q) d = none → ∀ m, m ≤ (b :: q).length → (T.nd is o l r).val ((b :: q).take m) = none) ∧ ∀ j o', (T.nd is o l r).deep (b :: q) d = some (j, o') → ∃ m, m ≤ (b :: q).length ∧ j = d + m ∧ (T.nd is o l r).val ((b :: q).take m) = some o' ∧ ∀ m', m < m' → m' ≤ (b :: q).length → (T.nd is o l r).val ((b :: q).take m') = none := fun c c1 c2 hv hdp => by
      rw [hdp]
      cases hcd : c.deep q (d + 1) with
      | some z =>
        obtain ⟨j0, o0⟩ := z
        refine ⟨fun h => by simp at h, fun j o' h => ?_⟩
        simp at h
        obtain ⟨m, m1, m2, m3, m4⟩ := c2 j0 o0 hcd
        refine ⟨m + 1, by simp; omega, by omega, by rw [hv, m3, h.2], fun m' h1 h2 => ?_⟩
        obtain ⟨m', rfl⟩ : ∃ k, m' = k + 1 := ⟨m' - 1, by omega⟩
        rw [hv]; simp at h2
        exact m4 m' (by omega) (by omega)
      | none =>
        have cn := c1 hcd
        constructor
        · intro h m hm
          cases m with
          | zero => cases is <;> simp_all [T.val]
          | succ m => rw [hv]; simp at hm; exact cn m (by omega)
        · intro j o' h
          cases is with
          | false => simp at h
          | true =>
            simp at h
            refine ⟨0, Nat.zero_le _, by omega, by simp [T.val, h.2], fun m' h1 h2 => ?_⟩
            obtain ⟨m', rfl⟩ : ∃ k, m' = k + 1 := ⟨m' - 1, by omega⟩
            rw [hv]; simp at h2
            exact cn m' (by omega)
    by_cases h0 : b = 0
    · refine key l l1 l2 (fun m => by simp [T.val, h0]) ?_
      conv => lhs; unfold T.deep
      rw [if_pos h0]
    · refine key r r1 r2 (fun m => by simp [T.val, h0]) ?_
      conv => lhs; unfold T.deep
      rw [if_neg h0]
def findR (V : Int) (a : List UInt8) (z : Option (Nat × Int)) (st : Bool × S_api_Entry) : Bool × S_api_Entry := match z with
  | some (j, o) => (true, { f_P := mkP (mkA V (mfull a (j : Int))) (j : Int), f_Owner := o })
  | none => st
theorem find_loop {V : Int} {a : List UInt8} (hl : a.length = 16) (hr : rightL V a = true) (h : List HV) : ∀ (k i : Nat) (t : T) (x : Option Nat) (fp : List Nat) (is : Bool) (e : S_api_Entry), i + k = widthL V a → Rep h t x fp →
    trie_Trie_Find.l0 h (mkA V a) is x (i : Int) e = some (findR V a (t.deep (bf a i k) i) (is, e))
  | k, i, .nil, x, fp, is, e, hi, hR => by
    rw [trie_Trie_Find.l0.eq_def, hR.1, if_neg (by simp)]
    rfl
  | k, i, .nd s o tl tr, x, fp, is, e, hik, hR => by
    have hw := width_le (V := V) (l := a)
    obtain ⟨n, hx⟩ : ∃ n, x = some n := by obtain ⟨i, _, _, _, hx, _⟩ := hR; exact ⟨i, hx⟩
    subst hx
    obtain ⟨nx, f1, f2, hi, hL, hRr, hfp, n1, n2, hdj⟩ := rep_un hR
    have hof : cidr_Of (mkA V a) (i : Int) = some (mkP (mkA V (mfull a (i : Int))) (i : Int), 0) := by
      rw [of_code hl]
      unfold ofP
      rw [if_pos hr, if_pos (fits_iff.2 ⟨hr, by omega, by omega⟩)]
    rw [trie_Trie_Find.l0.eq_def, if_pos (show (!(Option.isNone (some n))) = true from rfl)]
    simp only [hn_trie_node_of hi, bindM_some, hof, width_code hl]
    cases k with
    | zero =>
      have e0 : (i : Int) == ((widthL V a : Nat) : Int) := by simp; omega
      simp only [e0, if_true]
      cases s <;> simp [bf, T.deep, findR, mkP]
    | succ k =>
      have e0 : ((i : Int) == ((widthL V a : Nat) : Int)) = false := by simp; omega
      have hc2 := bit_lt a i
      have hbit : addr_Bit (mkA V a) (i : Int) = some ((bit a i : Nat) : Int) := by
        rw [bit_code hl (by omega), if_pos (by omega), Int.toNat_natCast]
      have hg2 : (0 : Int) ≤ ((bit a i : Nat) : Int) ∧ ((bit a i : Nat) : Int) < 2 := by omega
      simp only [e0, Bool.false_eq_true, if_false, hbit, bindM_some, if_pos hg2]
      rw [wr1 (by omega)]
      have hrec : ∀ (is : Bool) (e : S_api_Entry), trie_Trie_Find.l0 h (mkA V a) is (vget nx ((bit a i : Nat) : Int)) ((i + 1 : Nat) : Int) e = some (findR V a (if bit a i = 0 then tl.deep (bf a (i + 1) k) (i + 1) else tr.deep (bf a (i + 1) k) (i + 1)) (is, e)) := fun is e => by
        by_cases h0 : bit a i = 0
        · rw [if_pos h0, h0]; exact find_loop hl hr h k (i + 1) tl _ f1 is e (by omega) hL
        · rw [if_neg h0, show bit a i = 1 by omega]; exact find_loop hl hr h k (i + 1) tr _ f2 is e (by omega) hRr
      rw [hrec, hrec]
      have edp : (T.nd s o tl tr).deep (bf a i (k + 1)) i = (match (if bit a i = 0 then tl.deep (bf a (i + 1) k) (i + 1) else tr.deep (bf a (i + 1) k) (i + 1)) with | some z => some z | none => if s = true then some (i, o) else none) := by
        conv => lhs; unfold bf T.deep
      rw [edp]
      cases (if bit a i = 0 then tl.deep (bf a (i + 1) k) (i + 1) else tr.deep (bf a (i + 1) k) (i + 1)) with
      | some z => cases s <;> rfl
      | none => cases s <;> simp [findR, mkP]
end Go.Proofs.Ythccncpephpdjaa.Tri
namespace Go.Proofs.Ythccncpephpdjaa.Tri
open E Go.RowKit
open Adr Cid
def key (x y : Tr) : Prop := x.1 = y.1 ∧ x.2.1 = y.2.1
instance (x y : Tr) : Decidable (key x y) := inferInstanceAs (Decidable (_ ∧ _))
def Ln (X : List Tr) : Prop := ∀ x ∈ X, x.1.length = 16
theorem toE_key {F : Int} {x y : Tr} (hx : x.1.length = 16) (hy : y.1.length = 16) : (toE F x).f_P = (toE F y).f_P ↔ key x y := by
  show mkP (mkA F x.1) (x.2.1 : Int) = mkP (mkA F y.1) (y.2.1 : Int) ↔ _
  rw [mkP_inj hx hy]
  exact ⟨fun ⟨⟨_, h1⟩, h2⟩ => ⟨h1, by omega⟩, fun ⟨h1, h2⟩ => ⟨⟨rfl, h1⟩, by omega⟩⟩
theorem lget_map {F : Int} {X : List Tr} {i : Nat} {x : Tr} (h : X[i]? = some x) : lget (X.map (toE F)) (i : Int) = toE F x := by
  unfold lget
  rw [List.getD_eq_getElem?_getD, Int.toNat_natCast, List.getElem?_map, h]; rfl
theorem less11 {F : Int} {x y : Tr} (hx : x.1.length = 16) (hy : y.1.length = 16) : crawlwayref11_Less (toE F x).f_P (toE F y).f_P = some (lessE x y) := by
  unfold crawlwayref11_Less
  show (if (!decide (mkA F x.1 = mkA F y.1)) = true then (crawlwayref10_Less (mkA F x.1) (mkA F y.1) >>= fun t4 => some t4) else some (decide ((x.2.1 : Int) < (y.2.1 : Int)))) = _
  unfold lessE
  by_cases h : x.1 = y.1
  · have e : mkA F x.1 = mkA F y.1 := by rw [h]
    rw [decide_eq_true e, if_pos h]
    simp
  · have e : ¬ mkA F x.1 = mkA F y.1 := fun e => h ((mkA_inj hx hy).1 e).2
    rw [decide_eq_false e, if_neg h, less_ref hx hy]
    simp [lessA]
theorem drop_cons {X : List Tr} {i : Nat} {x : Tr} (h : X[i]? = some x) : X.drop i = x :: X.drop (i + 1) := by
  obtain ⟨hi, e⟩ := List.getElem?_eq_some_iff.1 h
  rw [← e]; exact List.drop_eq_getElem_cons hi
def fin (e : Tr) : List Tr → Bool → List Tr
  | [], inn => if inn = true then [] else [e]
  | x :: X, inn => if key x e then fin e X inn else if inn = false ∧ lessE e x = true then e :: x :: fin e X true else x :: fin e X inn
theorem fin_true (e : Tr) : ∀ (X : List Tr) (y : Tr), y ∈ fin e X true ↔ y ∈ X ∧ ¬ key y e
  | [], y => by simp [fin]
  | x :: X, y => by
    unfold fin
    split
    · next h =>
      rw [fin_true e X]
      constructor
      · exact fun ⟨a, b⟩ => ⟨List.mem_cons_of_mem _ a, b⟩
      · rintro ⟨a, b⟩
        rcases List.mem_cons.1 a with rfl | a
        · exact absurd h b
        · exact ⟨a, b⟩
    · next h =>
      rw [if_neg (by simp), List.mem_cons, fin_true e X, List.mem_cons]
      constructor
      · rintro (rfl | ⟨a, b⟩)
        · exact ⟨.inl rfl, h⟩
        · exact ⟨.inr a, b⟩
      · rintro ⟨rfl | a, b⟩
        · exact .inl rfl
        · exact .inr ⟨a, b⟩
theorem fin_false (e : Tr) : ∀ (X : List Tr) (y : Tr), y ∈ fin e X false ↔ (y ∈ X ∧ ¬ key y e) ∨ y = e
  | [], y => by simp [fin]
  | x :: X, y => by
    unfold fin
    split
    · next h =>
      rw [fin_false e X, List.mem_cons]
      constructor
      · rintro (⟨a, b⟩ | a)
        · exact .inl ⟨.inr a, b⟩
        · exact .inr a
      · rintro (⟨rfl | a, b⟩ | a)
        · exact absurd h b
        · exact .inl ⟨a, b⟩
        · exact .inr a
    · next h =>
      split
      · rw [List.mem_cons, List.mem_cons, fin_true e X, List.mem_cons]
        constructor
        · rintro (rfl | rfl | ⟨a, b⟩)
          · exact .inr rfl
          · exact .inl ⟨.inl rfl, h⟩
          · exact .inl ⟨.inr a, b⟩
        · rintro (⟨rfl | a, b⟩ | rfl)
          · exact .inr (.inl rfl)
          · exact .inr (.inr ⟨a, b⟩)
          · exact .inl rfl
      · rw [List.mem_cons, fin_false e X, List.mem_cons]
        constructor
        · rintro (rfl | ⟨a, b⟩ | rfl)
          · exact .inl ⟨.inl rfl, h⟩
          · exact .inl ⟨.inr a, b⟩
          · exact .inr rfl
        · rintro (⟨rfl | a, b⟩ | rfl)
          · exact .inl rfl
          · exact .inr (.inl ⟨a, b⟩)
          · exact .inr (.inr rfl)
abbrev Srt (X : List Tr) : Prop := X.Pairwise (fun x y => lessE x y = true)
theorem fin_true_sub (e : Tr) : ∀ (X : List Tr), (fin e X true).Sublist X
  | [] => by simp [fin]
  | x :: X => by
    unfold fin
    split
    · exact (fin_true_sub e X).trans (List.sublist_cons_self ..)
    · rw [if_neg (by simp)]; exact (fin_true_sub e X).cons_cons _
theorem fin_sorted {e : Tr} (he : e.1.length = 16) : ∀ (X : List Tr), Ln X → Srt X → Srt (fin e X false)
  | [], _, _ => by simp [fin]
  | x :: X, hl, hs => by
    have hs' := List.pairwise_cons.1 hs
    have hl' : Ln X := fun y hy => hl y (List.mem_cons_of_mem _ hy)
    unfold fin
    split
    · exact fin_sorted he X hl' hs'.2
    · next hk =>
      split
      · next h =>
        refine List.pairwise_cons.2 ⟨fun y hy => ?_, List.pairwise_cons.2 ⟨fun y hy => hs'.1 y ((fin_true_sub e X).subset hy), hs'.2.sublist (fin_true_sub e X)⟩⟩
        rcases List.mem_cons.1 hy with rfl | hy
        · exact h.2
        · exact lessE_trans h.2 (hs'.1 y ((fin_true_sub e X).subset hy))
      · next h =>
        refine List.pairwise_cons.2 ⟨fun y hy => ?_, fin_sorted he X hl' hs'.2⟩
        rcases (fin_false e X y).1 hy with ⟨hy, _⟩ | rfl
        · exact hs'.1 y hy
        · refine lessE_total (by rw [he, hl x (List.mem_cons_self ..)]) (fun ⟨a, b⟩ => hk ⟨a.symm, b.symm⟩) ?_
          cases hle : lessE y x with
          | false => rfl
          | true => exact absurd ⟨rfl, hle⟩ h
theorem fin_len (e : Tr) : ∀ (X : List Tr) (inn : Bool), (fin e X inn).length ≤ X.length + 1
  | [], inn => by unfold fin; split <;> simp
  | x :: X, inn => by
    have h1 := fin_len e X inn
    have h2 : (fin e X true).length ≤ X.length := (fin_true_sub e X).length_le
    unfold fin
    split
    · rw [List.length_cons]; omega
    · split
      · simp only [List.length_cons]; omega
      · simp only [List.length_cons]; omega
def out (e : Tr) (X : List Tr) : List Tr := X.filter fun x => decide (¬ key x e)
theorem same_loop (L : List S_api_Entry) (hn : L.length ≤ 1000) : ∀ (k i : Nat), i + k = L.length → crawlwayref25_Same.l0 L L (i : Int) = some (.nx ())
  | 0, i, hi => by rw [crawlwayref25_Same.l0.eq_def, if_neg (by rw [decide_eq_true_eq]; omega)]
  | k + 1, i, hi => by
    rw [crawlwayref25_Same.l0.eq_def, if_pos (by rw [decide_eq_true_eq]; omega), if_pos (by omega), if_pos (by omega), if_neg (by simp), wr1 (by omega)]
    exact same_loop L hn k (i + 1) (by omega)
theorem same_ref (L : List S_api_Entry) (hn : L.length ≤ 1000) : crawlwayref25_Same L L = some true := by
  unfold crawlwayref25_Same
  rw [if_neg (by simp), show (0 : Int) = ((0 : Nat) : Int) from rfl, same_loop L hn L.length 0 (by omega)]; rfl
def hasT (F : Int) (x : Tr) (V : Int) (a : List UInt8) : Bool := hasP F x.1 (x.2.1 : Int) V a
def fstep (F V : Int) (a : List UInt8) (st : Bool × S_api_Entry) (x : Tr) : Bool × S_api_Entry := if hasT F x V a = true then (if st.1 = false ∨ (x.2.1 : Int) > st.2.f_P.f_Bits then (true, toE F x) else st) else st
theorem findR_loop {F V : Int} {a : List UInt8} (ha : a.length = 16) {X : List Tr} (hX : Ln X) (hn : X.length ≤ 1000) : ∀ (k i : Nat) (is : Bool) (b : S_api_Entry), i + k = X.length →
    crawlwayref25_Find.l0 (X.map (toE F)) (mkA V a) is (i : Int) b = some ((X.drop i).foldl (fstep F V a) (is, b))
  | 0, i, is, b, hi => by
    rw [crawlwayref25_Find.l0.eq_def, if_neg (by rw [decide_eq_true_eq]; simp; omega), List.drop_eq_nil_of_le (by omega)]; rfl
  | k + 1, i, is, b, hi => by
    obtain ⟨x, hx⟩ : ∃ x, X[i]? = some x := ⟨_, List.getElem?_eq_getElem (by omega)⟩
    have hx16 := hX x (List.mem_of_getElem? hx)
    have hg : (0 : Int) ≤ (i : Int) ∧ (i : Int) < ((X.map (toE F)).length : Int) := by simp; omega
    have hh : crawlwayref11_Has (toE F x).f_P (mkA V a) = some (hasT F x V a) := has_ref hx16 ha
    rw [crawlwayref25_Find.l0.eq_def, if_pos (by rw [decide_eq_true_eq]; exact hg.2), if_pos hg, lget_map hx, hh, bindM_some, wr1 (by omega), drop_cons hx, List.foldl_cons]
    have hb : (toE F x).f_P.f_Bits = (x.2.1 : Int) := rfl
    unfold fstep
    cases hasT F x V a with
    | false =>
      rw [if_neg (by simp), if_neg (by simp)]
      exact findR_loop ha hX hn k (i + 1) is b (by omega)
    | true =>
      rw [if_pos rfl, if_pos rfl]
      cases is with
      | false =>
        rw [if_pos (by simp), if_pos hg, if_pos (.inl rfl)]
        exact findR_loop ha hX hn k (i + 1) true (toE F x) (by omega)
      | true =>
        rw [if_neg (by simp), if_pos hg, hb]
        by_cases hc : (x.2.1 : Int) > b.f_P.f_Bits
        · rw [if_pos (decide_eq_true hc), if_pos hg, if_pos (.inr hc)]
          exact findR_loop ha hX hn k (i + 1) true (toE F x) (by omega)
        · rw [if_neg (by rw [decide_eq_true_eq]; exact hc), if_neg (by simp; exact Int.not_lt.1 hc)]
          exact findR_loop ha hX hn k (i + 1) true b (by omega)
def zE : S_api_Entry := { f_P := ({ f_A := ({ f_V := (0 : Int), f_B := (Vector.replicate 16 (0 : Int) : (Vector Int 16)) } : S_api_Addr), f_Bits := (0 : Int) } : S_api_Prefix), f_Owner := (0 : Int) }
theorem find_ref {F V : Int} {a : List UInt8} (ha : a.length = 16) {X : List Tr} (hX : Ln X) (hn : X.length ≤ 1000) : crawlwayref25_Find (X.map (toE F)) (mkA V a) = some ((X.foldl (fstep F V a) (false, zE)).2, (X.foldl (fstep F V a) (false, zE)).1) := by
  unfold crawlwayref25_Find
  have := findR_loop (F := F) (V := V) ha hX hn X.length 0 false zE (by omega)
  rw [List.drop_zero] at this
  unfold zE at this ⊢
  rw [show (0 : Int) = ((0 : Nat) : Int) from rfl] at this ⊢
  rw [this]; rfl
theorem fold_none {F V : Int} {a : List UInt8} : ∀ (X : List Tr) (st : Bool × S_api_Entry), (∀ x ∈ X, hasT F x V a = false) → X.foldl (fstep F V a) st = st
  | [], _, _ => rfl
  | x :: X, st, h => by
    rw [List.foldl_cons]
    have e : fstep F V a st x = st := by unfold fstep; rw [h x (List.mem_cons_self ..), if_neg (by simp)]
    rw [e]
    exact fold_none X st fun y hy => h y (List.mem_cons_of_mem _ hy)
theorem fold_some {F V : Int} {a : List UInt8} : ∀ (X : List Tr) (st : Bool × S_api_Entry), (st.1 = true ∨ ∃ x ∈ X, hasT F x V a = true) →
    (X.foldl (fstep F V a) st).1 = true ∧ ((st.1 = true ∧ (X.foldl (fstep F V a) st).2 = st.2) ∨ ∃ x ∈ X, hasT F x V a = true ∧ (X.foldl (fstep F V a) st).2 = toE F x) ∧
      (st.1 = true → st.2.f_P.f_Bits ≤ (X.foldl (fstep F V a) st).2.f_P.f_Bits) ∧ ∀ x ∈ X, hasT F x V a = true → (x.2.1 : Int) ≤ (X.foldl (fstep F V a) st).2.f_P.f_Bits
  | [], st, h => by
    have h1 : st.1 = true := by rcases h with h | ⟨x, hx, _⟩; exact h; simp at hx
    exact ⟨h1, .inl ⟨h1, rfl⟩, fun _ => Int.le_refl _, by simp⟩
  | x :: X, st, h => by
    rw [List.foldl_cons]
    by_cases hx : hasT F x V a = true
    · by_cases hc : st.1 = false ∨ (x.2.1 : Int) > st.2.f_P.f_Bits
      · have e : fstep F V a st x = (true, toE F x) := by unfold fstep; rw [if_pos hx, if_pos hc]
        rw [e]
        obtain ⟨h1, h2, h3, h4⟩ := fold_some X (true, toE F x) (.inl rfl)
        have h3' := h3 rfl
        have hb : (toE F x).f_P.f_Bits = (x.2.1 : Int) := rfl
        refine ⟨h1, .inr ?_, fun hs => ?_, fun y hy hyh => ?_⟩
        · rcases h2 with ⟨_, h2⟩ | ⟨y, hy, q⟩
          · exact ⟨x, List.mem_cons_self .., hx, h2⟩
          · exact ⟨y, List.mem_cons_of_mem _ hy, q⟩
        · rcases hc with hc | hc
          · rw [hs] at hc; cases hc
          · simp only [hb] at h3'; omega
        · rcases List.mem_cons.1 hy with rfl | hy
          · simpa only [hb] using h3'
          · exact h4 y hy hyh
      · have e : fstep F V a st x = st := by unfold fstep; rw [if_pos hx, if_neg hc]
        rw [e]
        have hs : st.1 = true := by cases hq : st.1 with | true => rfl | false => exact absurd (.inl hq) hc
        obtain ⟨h1, h2, h3, h4⟩ := fold_some X st (.inl hs)
        refine ⟨h1, ?_, h3, fun y hy hyh => ?_⟩
        · rcases h2 with h2 | ⟨y, hy, q⟩
          · exact .inl h2
          · exact .inr ⟨y, List.mem_cons_of_mem _ hy, q⟩
        · rcases List.mem_cons.1 hy with rfl | hy
          · have := h3 hs
            have : ¬ (y.2.1 : Int) > st.2.f_P.f_Bits := fun h => hc (.inr h)
            omega
          · exact h4 y hy hyh
    · have e : fstep F V a st x = st := by unfold fstep; rw [if_neg hx]
      rw [e]
      obtain ⟨h1, h2, h3, h4⟩ := fold_some X st (by
        rcases h with h | ⟨y, hy, q⟩
        · exact .inl h
        · rcases List.mem_cons.1 hy with rfl | hy
          · exact absurd q hx
          · exact .inr ⟨y, hy, q⟩)
      refine ⟨h1, ?_, h3, fun y hy hyh => ?_⟩
      · rcases h2 with h2 | ⟨y, hy, q⟩
        · exact .inl h2
        · exact .inr ⟨y, List.mem_cons_of_mem _ hy, q⟩
      · rcases List.mem_cons.1 hy with rfl | hy
        · exact absurd hyh hx
        · exact h4 y hy hyh
theorem adr_bits {p : List Nat} (hp : ∀ b ∈ p, b < 2) (hl : p.length ≤ 128) (i : Nat) : bit (adrG zl 0 p) i = p.getD i 0 := by
  have := bit_adrG p zl 0 zl_len (by omega) hp (fun i _ => bit_zl i) i
  simpa using this
theorem adr_inj {p q : List Nat} (hp : ∀ b ∈ p, b < 2) (hq : ∀ b ∈ q, b < 2) (hl : p.length ≤ 128) (h : p.length = q.length) (e : adrG zl 0 p = adrG zl 0 q) : p = q := by
  apply List.ext_getElem h
  intro i h1 h2
  have a := adr_bits hp hl i
  have b := adr_bits hq (by omega) i
  rw [e, b, List.getD_eq_getElem?_getD, List.getD_eq_getElem?_getD, List.getElem?_eq_getElem h1, List.getElem?_eq_getElem h2] at a
  exact a.symm
theorem list_len16 (t : T) : Ln (t.list zl 0) := fun x hx => by
  obtain ⟨p, _, _, h, _⟩ := (T.mem_list t zl 0 x).1 hx
  rw [h, adrG_len, zl_len]
theorem list_srt {t : T} {n : Nat} (hd : t.dok n) (hn : n ≤ 128) : Srt (t.list zl 0) := T.sorted t n zl 0 hd (by omega) zl_len fun i _ => bit_zl i
theorem list_put {t : T} {n : Nat} {p : List Nat} (o : Int) (hd : t.dok n) (hn : n ≤ 128) (hp : ∀ b ∈ p, b < 2) (hl : p.length ≤ n) : ((t.ext p).put p true o).list zl 0 = fin (adrG zl 0 p, p.length, o) (t.list zl 0) false := by
  have he : (adrG zl 0 p).length = 16 := by rw [adrG_len, zl_len]
  have hd' := T.dok_put (t.ext p) n p true o (T.dok_ext t n p hd hl)
  refine sorted_ext _ _ (list_srt hd' hn) (fin_sorted he _ (list_len16 t) (list_srt hd hn)) fun x => ?_
  rw [fin_false, T.mem_list, T.mem_list]
  constructor
  · rintro ⟨q, h1, h2, h3, h4⟩
    rw [T.val_put _ _ _ _ _ hp h1 (T.has_ext t p), T.val_ext] at h2
    by_cases e : q = p
    · subst e
      rw [if_pos rfl, if_pos rfl] at h2
      right
      obtain ⟨x1, x2, x3⟩ := x
      simp at h2 h3 h4
      simp [h2, h3, h4]
    · rw [if_neg e] at h2
      left
      refine ⟨⟨q, h1, h2, h3, h4⟩, fun ⟨k1, k2⟩ => e ?_⟩
      rw [h3] at k1
      rw [h4] at k2
      simp at k1 k2
      exact adr_inj h1 hp (by omega) k2 k1
  · rintro (⟨⟨q, h1, h2, h3, h4⟩, hk⟩ | rfl)
    · refine ⟨q, h1, ?_, h3, h4⟩
      rw [T.val_put _ _ _ _ _ hp h1 (T.has_ext t p), T.val_ext, if_neg, h2]
      rintro rfl
      exact hk ⟨h3, by simpa using h4⟩
    · refine ⟨p, hp, ?_, rfl, by simp⟩
      rw [T.val_put _ _ _ _ _ hp hp (T.has_ext t p), if_pos rfl, if_pos rfl]
theorem list_drop {t : T} {n : Nat} {p : List Nat} (o : Int) (hd : t.dok n) (hn : n ≤ 128) (hp : ∀ b ∈ p, b < 2) (hl : p.length ≤ n) (hh : t.has p = true) (u : T) (hu : ∀ q, u.val q = (t.put p false 0).val q) (hud : u.dok n) : u.list zl 0 = out (adrG zl 0 p, p.length, o) (t.list zl 0) := by
  refine sorted_ext _ _ (list_srt hud hn) ((list_srt hd hn).sublist List.filter_sublist) fun x => ?_
  unfold out
  rw [List.mem_filter, T.mem_list, T.mem_list, decide_eq_true_eq]
  constructor
  · rintro ⟨q, h1, h2, h3, h4⟩
    rw [hu, T.val_put _ _ _ _ _ hp h1 hh] at h2
    by_cases e : q = p
    · subst e
      rw [if_pos rfl, if_neg (by simp)] at h2; cases h2
    · rw [if_neg e] at h2
      refine ⟨⟨q, h1, h2, h3, h4⟩, fun ⟨k1, k2⟩ => e ?_⟩
      rw [h3] at k1
      rw [h4] at k2
      simp at k1 k2
      exact adr_inj h1 hp (by omega) k2 k1
  · rintro ⟨⟨q, h1, h2, h3, h4⟩, hk⟩
    refine ⟨q, h1, ?_, h3, h4⟩
    rw [hu, T.val_put _ _ _ _ _ hp h1 hh, if_neg, h2]
    rintro rfl
    exact hk ⟨h3, by simpa using h4⟩
def wid (F : Int) : Nat := if F = 4 then 32 else 128
theorem wid_le (F : Int) : wid F ≤ 128 := by unfold wid; split <;> omega
theorem wid_of {F : Int} {l : List UInt8} (h : rightL F l = true) : widthL F l = wid F := by unfold widthL wid; rw [if_pos h]
theorem mb_hi_fin : ∀ (x : Fin 256) (m : Fin 9) (j : Fin 8), m.val ≤ j.val → (x.val - x.val % 2 ^ (8 - m.val)) / 2 ^ (7 - j.val) % 2 = 0 := by decide +kernel
theorem bit_mfull_hi {l : List UInt8} (hl : l.length = 16) (b i : Nat) (hi : b ≤ i) (h128 : i < 128) : bit (mfull l (b : Int)) i = 0 := by
  unfold bit
  have e : (mfull l (b : Int))[i / 8]? = some (mb (l.getD (i / 8) 0) (lft (b : Int) (i / 8))) := by
    rw [mfull_get, List.getD_eq_getElem?_getD, List.getElem?_eq_getElem (by omega)]; rfl
  rw [bg_get e, mb_toNat]
  have hle := lft_le (b : Int) (i / 8)
  exact mb_hi_fin ⟨(l.getD (i / 8) 0).toNat, (l.getD (i / 8) 0).toNat_lt⟩ ⟨lft (b : Int) (i / 8), by omega⟩ ⟨i % 8, by omega⟩ (by show lft (b : Int) (i / 8) ≤ i % 8; unfold lft; omega)
theorem adr_mfull {l : List UInt8} (hl : l.length = 16) {b : Nat} (hb : b ≤ 128) : adrG zl 0 (bf l 0 b) = mfull l (b : Int) := by
  refine bits_ext (by rw [adrG_len, zl_len]) (mlen hl _) fun i hi => ?_
  rw [adr_bits (bf_lt l b 0) (by rw [bf_len]; exact hb)]
  by_cases h : i < b
  · rw [bf_get l b 0 i h, bit_mfull hl _ _ (by omega) hi, Nat.zero_add]
  · rw [bit_mfull_hi hl b i (by omega) hi, List.getD_eq_getElem?_getD, List.getElem?_eq_none (by rw [bf_len]; omega)]; rfl
theorem bf_take (l : List UInt8) : ∀ (w d m : Nat), m ≤ w → (bf l d w).take m = bf l d m
  | _, _, 0, _ => by simp [bf]
  | 0, _, m + 1, h => by omega
  | w + 1, d, m + 1, h => by
    show bit l d :: (bf l (d + 1) w).take m = bit l d :: bf l (d + 1) m
    rw [bf_take l w (d + 1) m (by omega)]
theorem bf_of {p : List Nat} (hp : ∀ b ∈ p, b < 2) (hl : p.length ≤ 128) : bf (adrG zl 0 p) 0 p.length = p := by
  apply List.ext_getElem (bf_len ..)
  intro i h1 h2
  have a := bf_get (adrG zl 0 p) p.length 0 i h2
  rw [Nat.zero_add, adr_bits hp hl, List.getD_eq_getElem?_getD, List.getD_eq_getElem?_getD, List.getElem?_eq_getElem h1, List.getElem?_eq_getElem h2] at a
  exact a
theorem low_bits {l : List UInt8} (hl : l.length = 16) (h : ∀ i, 32 ≤ i → i < 128 → bit l i = 0) : low l = true := by
  unfold low
  rw [List.all_eq_true]
  intro x hx
  obtain ⟨j, hj⟩ := List.getElem?_of_mem hx
  rw [List.getElem?_drop] at hj
  have hlt : 4 + j < 16 := by rw [← hl]; exact (List.getElem?_eq_some_iff.1 hj).1
  have e := mb_alike x 0 8 (by omega) fun m hm => by
    have := h (8 * (4 + j) + m) (by omega) (by omega)
    unfold bit at this
    rw [show (8 * (4 + j) + m) / 8 = 4 + j by omega, show (8 * (4 + j) + m) % 8 = m by omega, bg_get hj] at this
    rw [this]; simp
  rw [mb_eight, mb_eight] at e
  rw [e]; rfl
/-- What is in a tree of a family is right. -/
theorem right_path {F : Int} (hF : F = 4 ∨ F = 6) {p : List Nat} (hp : ∀ b ∈ p, b < 2) (hl : p.length ≤ wid F) : rightP F (adrG zl 0 p) (p.length : Int) = true := by
  have hw := wid_le F
  have h16 : (adrG zl 0 p).length = 16 := by rw [adrG_len, zl_len]
  have hr : rightL F (adrG zl 0 p) = true := by
    rcases hF with rfl | rfl
    · have : low (adrG zl 0 p) = true := low_bits h16 fun i h1 h2 => by
        rw [adr_bits hp (by omega), List.getD_eq_getElem?_getD, List.getElem?_eq_none (by have : wid 4 = 32 := rfl; omega)]; rfl
      unfold rightL; rw [this]; rfl
    · unfold rightL; rfl
  refine rightP_iff.2 ⟨⟨hr, by omega, by rw [wid_of hr]; omega⟩, ?_⟩
  have := adr_mfull h16 (b := p.length) (by omega)
  rw [bf_of hp (by omega)] at this
  exact this.symm
theorem path_right {F : Int} {l : List UInt8} (hl : l.length = 16) {b : Int} (h : rightP F l b = true) : ∃ n : Nat, b = (n : Int) ∧ n ≤ wid F ∧ adrG zl 0 (bf l 0 n) = l := by
  obtain ⟨⟨h1, h2, h3⟩, h4⟩ := rightP_iff.1 h
  obtain ⟨n, rfl⟩ := Int.eq_ofNat_of_zero_le h2
  have hw := wid_le F
  rw [wid_of h1] at h3
  refine ⟨n, rfl, by omega, ?_⟩
  rw [adr_mfull hl (by omega)]; exact h4
end Go.Proofs.Ythccncpephpdjaa.Tri
