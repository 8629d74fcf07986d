/- Functions with the same answers as the Go functions that they are named for, and the proofs of it, by a program of this project (gen.py). -/
import Derived.Test.YthccncpephpdjaaT
import Derived.Test.YthccncpephpdjaaShelf
import Derived.Test.YthccncpephpdjaaW
import Derived.Test.YthccncpephpdjaaL
import Derived.Test.YthccncpephpdjaaR
import Derived.Test.YthccncpephpdjaaN
import Derived.Test.YthccncpephpdjaaLit
import Derived.Test.YthccncpephpdjaaInl
import Derived.Test.YthccncpephpdjaaHp
import Derived.Test.YthccncpephpdjaaProg
import Derived.Test.YthccncpephpdjaaU1
import Derived.Test.YthccncpephpdjaaU2
import Derived.Test.YthccncpephpdjaaU3
set_option linter.unusedVariables false
set_option linter.unusedSimpArgs false
namespace Go.Proofs.Ythccncpephpdjaa
open E Go.RowKit


def crawlwaylaw25_TriePlays.l0 (x1 : List S_crawlwaylaw25_Deed) (q3 : Int) (t6 : Option Nat × List HV) (i15 : List S_api_Entry) (i16 : Int) (i17 : List HV) : Option (Ctl (Bool) (List HV)) :=
  if (decide (i16 < (x1.length : Int))) = true then (if (0 : Int) ≤ i16 ∧ i16 < (x1.length : Int) then crawlwaylaw25_step i17 t6.1 q3 i15 (lget x1 i16) >>= fun t26 => if vp (List.length i17) t6.1 = true then if (!t26.2.1) = true then (some (.ret false)) else (trie_Trie_Len t26.2.2 t6.1 >>= fun t32 => if (t32 != (t26.1.length : Int)) = true then (some (.ret false)) else (trie_Trie_All t26.2.2 t6.1 >>= fun t34 => crawlwayref25_Same t34 t26.1 >>= fun t37 => if (!t37) = true then (some (.ret false)) else (trie_Trie_Get t26.2.2 t6.1 ((lget x1 i16).f_P) >>= fun t39 => crawlwayref25_Place t26.1 ((lget x1 i16).f_P) >>= fun t40 => if (t39.2 != decide (t40 ≥ 0)) = true then (some (.ret false)) else (if t39.2 = true then (if (0 : Int) ≤ t40 ∧ t40 < (t26.1.length : Int) then if (t39.1 != (lget t26.1 t40).f_Owner) = true then (some (.ret false)) else (if (!t39.2) = true then (if (t39.1 != 0) = true then (some (.ret false)) else (crawlwaylaw25_TriePlays.l0 x1 q3 t6 t26.1 (wr .i64 (i16 + 1)) t26.2.2)) else (crawlwaylaw25_TriePlays.l0 x1 q3 t6 t26.1 (wr .i64 (i16 + 1)) t26.2.2)) else none) else (if (!t39.2) = true then (if (t39.1 != 0) = true then (some (.ret false)) else (crawlwaylaw25_TriePlays.l0 x1 q3 t6 t26.1 (wr .i64 (i16 + 1)) t26.2.2)) else (crawlwaylaw25_TriePlays.l0 x1 q3 t6 t26.1 (wr .i64 (i16 + 1)) t26.2.2)))))) else none else none) else (some (.nx i17))
  partial_fixpoint
def crawlwaylaw25_TriePlays (x0 : Bool) (x1 : List S_crawlwaylaw25_Deed) : Option (Bool) :=
  if (decide ((x1.length : Int) > 40)) = true then (crawlwaylaw25_alive >>= fun t2 => some t2) else ((if x0 = true then (some 6) else (some 4)) >>= fun q3 => trie_New ([] : List HV) q3 >>= fun t6 => if (Option.isNone t6.1) = true then (some false) else (crawlwaylaw25_TriePlays.l0 x1 q3 t6 ([] : List S_api_Entry) 0 t6.2 >>= fun q14 => match q14 with | .ret r' => some r' | .nx sq14 => (crawlwaylaw25_alive >>= fun t52 => some t52)))
theorem crawlwaylaw25_TriePlays_ok (x0 : Bool) (x1 : List S_crawlwaylaw25_Deed) (p1_ : Option Addr) (c1_ : Nat) (r : Bool) (hF : crawlwaylaw25_TriePlays x0 x1 = some r) (w : World) (hr1 : Row c_crawlwaylaw25_Deed w p1_ c1_ x1) :
    Calls Try.prog 7 #[.bool x0, .slice p1_ x1.length c1_] w (fun e w' => e = .returned (.bool r) ∧ Below w.heap.size w w') := by
  unfold crawlwaylaw25_TriePlays at hF
  refine calls_enter (l := [.bool x0, .slice p1_ x1.length c1_]) Try.func7 rfl rfl rfl ?_
  refine at_start ?_
  refine at_heap0 hK ?_
  intro gh
  refine at_weak [(0, _), (1, _)] ⟨rfl, rfl, trivial⟩ ?_
  refine at_seq ?_
  refine at_region ?_
  refine at_val rfl rfl rfl (r_assign rfl) ?_
  refine at_nil ?_
  refine at_weak [(0, _), (1, _)] ⟨rfl, rfl, trivial⟩ ?_
  refine at_then_normal ?_
  refine at_seq ?_
  refine at_seq ?_
  refine at_region ?_
  refine at_val rfl rfl rfl (r_move rfl) ?_
  refine at_val rfl rfl rfl (r_len_sl Try.underlying41 rfl) ?_
  refine at_val rfl rfl rfl (r_igtr rfl rfl) ?_
  refine at_nil ?_
  refine at_weak [(0, _), (1, _), (17, _)] ⟨rfl, rfl, rfl, trivial⟩ ?_
  refine at_then_normal ?_
  rcases of_ite hF with ⟨h1, hF⟩ | ⟨h1, hF⟩
  · refine at_cond_true rfl h1 ?_
    refine at_seq ?_
    refine at_region ?_
    obtain ⟨t2, ht2, hF⟩ := of_bindM hF
    refine at_callB Try.func23 rfl (by kernel_rfl) rfl rfl (fun w hw => crawlwaylaw25_alive_ok  _ ht2 w) ?_
    refine at_val rfl rfl rfl (r_assign rfl) ?_
    refine at_nil ?_
    refine at_weak [(4, _)] ⟨rfl, trivial⟩ ?_
    refine at_then_normal ?_
    refine at_ret ?_
    refine at_then_ret ?_
    have K := of_some hF
    subst K
    exact at_return1 rfl rfl (fun w1 hw => ⟨rfl, hw.below⟩)
  · refine at_cond_false rfl h1 ?_
    refine at_skip ?_
    refine at_then_normal ?_
    refine at_seq ?_
    refine at_region ?_
    refine at_val rfl rfl rfl (r_assign rfl) ?_
    refine at_nil ?_
    refine at_weak [(0, _), (1, _), (5, _)] ⟨rfl, rfl, rfl, trivial⟩ ?_
    refine at_then_normal ?_
    obtain ⟨q3, hq3, hF⟩ := of_bindM hF
    refine at_joinp (A := fun Y => At 92 [(1, .slice p1_ x1.length c1_), (5, .int .i64 q3)] (Wd w [heapE hK gz 0 gh ([] : List HV)]) Y) ?_ ?_
    · intro Y K
      replace hF := hq3
      refine at_seq ?_
      refine at_region ?_
      refine at_val rfl rfl rfl (r_move rfl) ?_
      refine at_nil ?_
      refine at_weak [(1, _), (5, _), (19, _)] ⟨rfl, rfl, rfl, trivial⟩ ?_
      refine at_then_normal ?_
      rcases of_ite hF with ⟨h5, hF⟩ | ⟨h5, hF⟩
      · refine at_cond_true rfl h5 ?_
        refine at_region ?_
        refine at_val rfl rfl rfl (r_assign rfl) ?_
        refine at_nil ?_
        refine at_weak [(1, _), (5, _)] ⟨rfl, rfl, trivial⟩ ?_
        refine at_then_normal ?_
        obtain rfl := of_some hF
        exact at_weak_k K ⟨rfl, rfl, trivial⟩
      · refine at_cond_false rfl h5 ?_
        refine at_skip ?_
        refine at_then_normal ?_
        obtain rfl := of_some hF
        exact at_weak_k K ⟨rfl, rfl, trivial⟩
    · skip
      skip
      refine at_seq ?_
      refine at_region ?_
      refine at_val rfl rfl rfl (r_move rfl) ?_
      obtain ⟨t6, ht6, hF⟩ := of_bindM hF
      refine at_callH (γ := Unit) (h' := t6.2) (V := fun z gh => pv gh t6.1) (T := fun z => []) Try.func24 rfl (by kernel_rfl) rfl rfl (fun w hw => (trie_New_ok ht6 hw).mono (by rintro e w' ⟨gh, he, hw'⟩; exact ⟨gh, (), he, hw'⟩)) ?_
      rintro gh ⟨⟩ hg7
      refine at_val rfl rfl rfl (r_assign rfl) ?_
      refine at_nil ?_
      refine at_weak [(1, _), (5, _), (6, _)] ⟨rfl, rfl, rfl, trivial⟩ ?_
      refine at_then_normal ?_
      refine at_seq ?_
      refine at_seq ?_
      refine at_region ?_
      refine at_val rfl rfl rfl (r_move rfl) ?_
      refine at_val rfl rfl rfl (r_pnil (p := t6.1) Try.underlying42 rfl rfl (.inl rfl) rfl) ?_
      refine at_nil ?_
      refine at_weak [(1, _), (5, _), (6, _), (23, _)] ⟨rfl, rfl, rfl, rfl, trivial⟩ ?_
      refine at_then_normal ?_
      rcases of_ite hF with ⟨h10, hF⟩ | ⟨h10, hF⟩
      · refine at_cond_true rfl h10 ?_
        refine at_seq ?_
        refine at_region ?_
        refine at_val rfl rfl rfl (r_assign rfl) ?_
        refine at_nil ?_
        refine at_weak [(4, _)] ⟨rfl, trivial⟩ ?_
        refine at_then_normal ?_
        refine at_ret ?_
        refine at_then_ret ?_
        have K := of_some hF
        subst K
        exact at_return1 rfl rfl (fun w1 hw => ⟨rfl, hw.below⟩)
      · refine at_cond_false rfl h10 ?_
        refine at_skip ?_
        refine at_then_normal ?_
        refine at_seq ?_
        refine at_region ?_
        refine at_val rfl rfl rfl (r_assign rfl) ?_
        refine at_nil ?_
        refine at_weak [(1, _), (5, _), (6, _), (7, _)] ⟨rfl, rfl, rfl, rfl, trivial⟩ ?_
        refine at_then_normal ?_
        refine at_seq ?_
        refine at_seq ?_
        refine at_region ?_
        refine at_val rfl rfl rfl (r_move rfl) ?_
        refine at_val rfl rfl rfl (r_len_sl Try.underlying41 rfl) ?_
        refine at_val rfl rfl rfl (r_move rfl) ?_
        refine at_nil ?_
        refine at_weak [(5, _), (6, _), (7, _), (24, _), (25, _), (26, _)] ⟨rfl, rfl, rfl, rfl, rfl, rfl, trivial⟩ ?_
        refine at_then_normal ?_
        refine at_block ?_
        refine at_own_nil c_api_Entry 52 ?_
        refine at_weak [(5, _), (6, _), (7, .slice (nn 11) ([] : List S_api_Entry).length 0), (24, _), (25, _), (26, _)] ⟨rfl, rfl, rfl, rfl, rfl, rfl, trivial⟩ ?_
        obtain ⟨q14, hq14, hF⟩ := of_bindM hF
        refine at_weak [(5, _), (6, _), (7, _), (24, _), (25, _), (26, _)] ⟨rfl, rfl, rfl, rfl, rfl, rfl, trivial⟩ ?_
        refine at_loop_r (B := 0) (r := r) (q := q14) (A := fun sq14 Y => ∀ (gh : Nat → Nat), At 92 [] (Wd w [heapE hK gz 0 gh sq14]) Y) ?_ ?_
        · intro K
          refine crawlwaylaw25_TriePlays.l0.partial_correctness x1 q3 t6 (motive := fun i15 i16 i17 x => KR (fun sq14 Y => ∀ (gh : Nat → Nat), At 92 [] (Wd w [heapE hK gz 0 gh sq14]) Y) _ 0 r x → Round (fun Y => ∀ (gh : Nat → Nat) (p18 : Option Addr) (c19 : Nat), At 92 [(5, .int .i64 q3), (6, pv gh t6.1), (7, .slice p18 i15.length c19), (24, .slice p1_ x1.length c1_), (25, .int .i64 (x1.length : Int)), (26, .int .i64 i16)] (Wd w [rowE c_api_Entry 52 p18 c19 i15, heapE hK gz 0 gh i17]) Y) _ _ _) ?_ _ _ _ _ hq14 K gh (nn 11) 0
          · clear K hF
            intro g ih i15 i16 i17 x hF K gh p18 c19
            refine at_round ?_
            refine at_seq ?_
            refine at_region ?_
            refine at_val rfl rfl rfl (r_ilss rfl rfl) ?_
            refine at_nil ?_
            refine at_weak [(5, _), (6, _), (7, _), (24, _), (25, _), (26, _), (27, _)] ⟨rfl, rfl, rfl, rfl, rfl, rfl, rfl, trivial⟩ ?_
            refine at_then_normal ?_
            refine at_seq ?_
            rcases of_ite hF with ⟨h20, hF⟩ | ⟨h20, hF⟩
            · refine at_cond_true rfl h20 ?_
              refine at_skip ?_
              refine at_then_normal ?_
              refine at_seq ?_
              refine at_block ?_
              refine at_seq ?_
              refine at_region ?_
              obtain ⟨h21, hF⟩ := of_guard hF
              obtain ⟨b23, o24, hp22⟩ := row_ptr hr1 h21
              refine at_val rfl rfl rfl (r_idx Try.underlying41 Try.sizeOf48 rfl rfl h21 hp22) ?_
              refine at_val rfl rfl rfl (r_load_aggc (c := c_crawlwaylaw25_Deed) (z := lget x1 i16) Try.isAgg48 Try.sizeOf48 rfl (row_cell (fun _ h => h.below) hr1 h21 hp22)) ?_
              refine at_alloc (cs := Cd.cs c_crawlwaylaw25_Deed ({ f_Kind := (0 : Int), f_P := ({ f_A := ({ f_V := (0 : Int), f_B := (Vector.replicate 16 (0 : Int) : (Vector Int 16)) } : S_api_Addr), f_Bits := (0 : Int) } : S_api_Prefix), f_Own := (0 : Int) } : S_crawlwaylaw25_Deed)) Try.zeroValue48 rfl rfl ?_
              intro b25
              refine at_store (c := c_crawlwaylaw25_Deed) (z := lget x1 i16) .z (Lens.whole _ _) Try.sizeOf48 rfl rfl rfl ?_
              refine at_nil ?_
              refine at_weak [(5, _), (6, _), (7, _), (9, _), (24, _), (25, _), (26, _)] ⟨rfl, rfl, rfl, rfl, rfl, rfl, rfl, trivial⟩ ?_
              refine at_then_normal ?_
              refine at_seq ?_
              refine at_region ?_
              refine at_val rfl rfl rfl (r_move rfl) ?_
              refine at_val rfl rfl rfl (r_move rfl) ?_
              refine at_val rfl rfl rfl (r_move rfl) ?_
              refine at_val rfl rfl rfl (r_load_aggc (c := c_crawlwaylaw25_Deed) (z := lget x1 i16) Try.isAgg48 Try.sizeOf48 rfl (lens_cell .z (Lens.whole _ _))) ?_
              obtain ⟨t26, ht26, hF⟩ := of_bindM hF
              obtain ⟨h27, hF⟩ := of_guard hF
              refine at_front (.s .z) ?_
              refine at_front (.s (.s .z)) ?_
              refine at_callH (γ := Option Addr × Nat) (h' := t26.2.2) (V := fun z gh => .tuple #[.slice z.1 t26.1.length z.2, .bool t26.2.1]) (T := fun z => [rowE c_api_Entry 52 z.1 z.2 t26.1, cellsE b25 (Cd.cs c_crawlwaylaw25_Deed (lget x1 i16)) 48]) Try.func25 rfl (by kernel_rfl) rfl rfl (fun w hw => (crawlwaylaw25_step_ok ht26 hw).mono (by rintro e w' ⟨gh, p, c, he, hw'⟩; exact ⟨gh, (p, c), he, hw'⟩)) ?_
              rintro gh ⟨p29, c30⟩ hg28
              refine at_ov (t := 6) rfl (pv_ext hg28 h27) ?_
              refine at_val rfl rfl rfl (r_move rfl) ?_
              refine at_val rfl rfl rfl (r_extract rfl rfl) ?_
              refine at_val rfl rfl rfl (r_extract rfl rfl) ?_
              refine at_val rfl rfl rfl (r_assign rfl) ?_
              refine at_val rfl rfl rfl (r_assign rfl) ?_
              refine at_nil ?_
              refine at_weak [(5, _), (6, _), (9, _), (10, _), (11, _), (24, _), (25, _), (26, _)] ⟨rfl, rfl, rfl, rfl, rfl, rfl, rfl, rfl, trivial⟩ ?_
              refine at_then_normal ?_
              refine at_seq ?_
              refine at_region ?_
              refine at_val rfl rfl rfl (r_move rfl) ?_
              refine at_val rfl rfl rfl (r_assign rfl) ?_
              refine at_nil ?_
              refine at_weak [(5, _), (6, _), (7, _), (9, _), (11, _), (24, _), (25, _), (26, _)] ⟨rfl, rfl, rfl, rfl, rfl, rfl, rfl, rfl, trivial⟩ ?_
              refine at_then_normal ?_
              refine at_seq ?_
              refine at_seq ?_
              refine at_region ?_
              refine at_val rfl rfl rfl (r_move rfl) ?_
              refine at_val rfl rfl rfl (r_not rfl) ?_
              refine at_val rfl rfl rfl (r_move rfl) ?_
              rcases of_ite hF with ⟨h31, hF⟩ | ⟨h31, hF⟩
              · refine at_fix (g := 41) rfl h31 ?_
                refine at_guard_no rfl rfl rfl rfl rfl ?_
                refine at_guard_no rfl rfl rfl rfl rfl ?_
                refine at_guard_no rfl rfl rfl rfl rfl ?_
                refine at_guard_no rfl rfl rfl rfl rfl ?_
                refine at_guard_no rfl rfl rfl rfl rfl ?_
                refine at_val rfl rfl rfl (r_pick rfl rfl rfl) ?_
                refine at_val rfl rfl rfl (r_move rfl) ?_
                refine at_guard_no rfl rfl rfl rfl rfl ?_
                refine at_guard_no rfl rfl rfl rfl rfl ?_
                refine at_guard_no rfl rfl rfl rfl rfl ?_
                refine at_guard_no rfl rfl rfl rfl rfl ?_
                refine at_guard_no rfl rfl rfl rfl rfl ?_
                refine at_val rfl rfl rfl (r_pick rfl rfl rfl) ?_
                refine at_nil ?_
                refine at_weak [(5, _), (6, _), (7, _), (9, _), (24, _), (25, _), (26, _), (54, _)] ⟨rfl, rfl, rfl, rfl, rfl, rfl, rfl, rfl, trivial⟩ ?_
                refine at_then_normal ?_
                refine at_cond_true rfl rfl ?_
                refine at_seq ?_
                refine at_region ?_
                refine at_val rfl rfl rfl (r_assign rfl) ?_
                refine at_nil ?_
                refine at_drop (H := _) (.s .z) ?_
                refine at_drop (H := _) (.s .z) ?_
                refine at_weak [(4, _)] ⟨rfl, trivial⟩ ?_
                refine at_then_normal ?_
                refine at_ret ?_
                refine at_then_ret (at_blk_ret (at_then_ret (at_then_ret (at_blk_ret (at_then_ret ?_)))))
                obtain rfl := of_some hF
                subst K
                exact at_return1 rfl rfl (fun w1 hw => ⟨rfl, hw.below⟩)
              · refine at_fix (g := 41) rfl h31 ?_
                refine at_guard_yes rfl rfl rfl ?_
                refine at_val rfl rfl rfl (r_move rfl) ?_
                refine at_guard_yes rfl rfl rfl ?_
                obtain ⟨t32, ht32, hF⟩ := of_bindM hF
                refine at_callR .z Try.func28 rfl (by kernel_rfl) rfl rfl (fun w hw => trie_Trie_Len_ok ht32 hw) ?_
                refine at_guard_yes rfl rfl rfl ?_
                refine at_val rfl rfl rfl (r_move rfl) ?_
                refine at_guard_yes rfl rfl rfl ?_
                refine at_val rfl rfl rfl (r_len_sl Try.underlying44 rfl) ?_
                refine at_guard_yes rfl rfl rfl ?_
                refine at_val rfl rfl rfl (r_ineq rfl rfl) ?_
                refine at_val rfl rfl rfl (r_pick rfl rfl rfl) ?_
                refine at_val rfl rfl rfl (r_move rfl) ?_
                rcases of_ite hF with ⟨h33, hF⟩ | ⟨h33, hF⟩
                · refine at_fix (g := 48) rfl h33 ?_
                  refine at_guard_no rfl rfl rfl rfl rfl ?_
                  refine at_guard_no rfl rfl rfl rfl rfl ?_
                  refine at_guard_no rfl rfl rfl rfl rfl ?_
                  refine at_guard_no rfl rfl rfl rfl rfl ?_
                  refine at_guard_no rfl rfl rfl rfl rfl ?_
                  refine at_val rfl rfl rfl (r_pick rfl rfl rfl) ?_
                  refine at_nil ?_
                  refine at_weak [(5, _), (6, _), (7, _), (9, _), (24, _), (25, _), (26, _), (54, _)] ⟨rfl, rfl, rfl, rfl, rfl, rfl, rfl, rfl, trivial⟩ ?_
                  refine at_then_normal ?_
                  refine at_cond_true rfl rfl ?_
                  refine at_seq ?_
                  refine at_region ?_
                  refine at_val rfl rfl rfl (r_assign rfl) ?_
                  refine at_nil ?_
                  refine at_drop (H := _) (.s .z) ?_
                  refine at_drop (H := _) (.s .z) ?_
                  refine at_weak [(4, _)] ⟨rfl, trivial⟩ ?_
                  refine at_then_normal ?_
                  refine at_ret ?_
                  refine at_then_ret (at_blk_ret (at_then_ret (at_then_ret (at_blk_ret (at_then_ret ?_)))))
                  obtain rfl := of_some hF
                  subst K
                  exact at_return1 rfl rfl (fun w1 hw => ⟨rfl, hw.below⟩)
                · refine at_fix (g := 48) rfl h33 ?_
                  refine at_guard_yes rfl rfl rfl ?_
                  refine at_val rfl rfl rfl (r_move rfl) ?_
                  refine at_guard_yes rfl rfl rfl ?_
                  obtain ⟨t34, ht34, hF⟩ := of_bindM hF
                  refine at_callG (V := fun p cap => .slice p t34.length cap) (T := fun p cap => [heapE hK gz 0 gh t26.2.2, rowE c_api_Entry 52 p cap t34, rowE c_api_Entry 52 p29 c30 t26.1, cellsE b25 (Cd.cs c_crawlwaylaw25_Deed (lget x1 i16)) 48]) Try.func30 rfl (by kernel_rfl) rfl rfl (fun w hw => trie_Trie_All_ok ht34 hw) ?_
                  intro p35 c36
                  refine at_guard_yes rfl rfl rfl ?_
                  refine at_val rfl rfl rfl (r_move rfl) ?_
                  refine at_guard_yes rfl rfl rfl ?_
                  obtain ⟨t37, ht37, hF⟩ := of_bindM hF
                  refine at_callB Try.func29 rfl (by kernel_rfl) rfl rfl (fun w hw => crawlwayref25_Same_ok _ _ _ _ _ _ _ ht37 w (hw.own (.s .z)).row (hw.own (.s (.s .z))).row) ?_
                  refine at_guard_yes rfl rfl rfl ?_
                  refine at_val rfl rfl rfl (r_not rfl) ?_
                  refine at_val rfl rfl rfl (r_pick rfl rfl rfl) ?_
                  refine at_nil ?_
                  refine at_drop (H := _) (.s .z) ?_
                  refine at_weak [(5, _), (6, _), (7, _), (9, _), (24, _), (25, _), (26, _), (54, _)] ⟨rfl, rfl, rfl, rfl, rfl, rfl, rfl, rfl, trivial⟩ ?_
                  refine at_then_normal ?_
                  rcases of_ite hF with ⟨h38, hF⟩ | ⟨h38, hF⟩
                  · refine at_cond_true rfl h38 ?_
                    refine at_seq ?_
                    refine at_region ?_
                    refine at_val rfl rfl rfl (r_assign rfl) ?_
                    refine at_nil ?_
                    refine at_drop (H := _) (.s .z) ?_
                    refine at_drop (H := _) (.s .z) ?_
                    refine at_weak [(4, _)] ⟨rfl, trivial⟩ ?_
                    refine at_then_normal ?_
                    refine at_ret ?_
                    refine at_then_ret (at_blk_ret (at_then_ret (at_then_ret (at_blk_ret (at_then_ret ?_)))))
                    obtain rfl := of_some hF
                    subst K
                    exact at_return1 rfl rfl (fun w1 hw => ⟨rfl, hw.below⟩)
                  · refine at_cond_false rfl h38 ?_
                    refine at_skip ?_
                    refine at_then_normal ?_
                    refine at_seq ?_
                    refine at_region ?_
                    refine at_val rfl rfl rfl (r_move rfl) ?_
                    refine at_val rfl rfl rfl (r_fieldAddr (fo := 1) Try.underlying48 rfl rfl (fun w => ⟨_, Try.sizeOf46 w⟩) rfl) ?_
                    refine at_val rfl rfl rfl (r_load_aggc (c := c_api_Prefix) (z := (lget x1 i16).f_P) Try.isAgg46 Try.sizeOf46 rfl (lens_cell (.s (.s .z)) (Lens.comp (Lens.whole _ _) (fun z => { lget x1 i16 with f_P := z }) (c_crawlwaylaw25_Deed_f_P (lget x1 i16))))) ?_
                    obtain ⟨t39, ht39, hF⟩ := of_bindM hF
                    refine at_callR .z Try.func31 rfl (by kernel_rfl) rfl rfl (fun w hw => trie_Trie_Get_ok ht39 hw) ?_
                    refine at_val rfl rfl rfl (r_move rfl) ?_
                    refine at_val rfl rfl rfl (r_extract rfl rfl) ?_
                    refine at_val rfl rfl rfl (r_extract rfl rfl) ?_
                    refine at_val rfl rfl rfl (r_assign rfl) ?_
                    refine at_val rfl rfl rfl (r_assign rfl) ?_
                    refine at_nil ?_
                    refine at_weak [(5, _), (6, _), (7, _), (9, _), (12, _), (13, _), (24, _), (25, _), (26, _)] ⟨rfl, rfl, rfl, rfl, rfl, rfl, rfl, rfl, rfl, trivial⟩ ?_
                    refine at_then_normal ?_
                    refine at_seq ?_
                    refine at_region ?_
                    refine at_val rfl rfl rfl (r_move rfl) ?_
                    refine at_val rfl rfl rfl (r_fieldAddr (fo := 1) Try.underlying48 rfl rfl (fun w => ⟨_, Try.sizeOf46 w⟩) rfl) ?_
                    refine at_val rfl rfl rfl (r_load_aggc (c := c_api_Prefix) (z := (lget x1 i16).f_P) Try.isAgg46 Try.sizeOf46 rfl (lens_cell (.s (.s .z)) (Lens.comp (Lens.whole _ _) (fun z => { lget x1 i16 with f_P := z }) (c_crawlwaylaw25_Deed_f_P (lget x1 i16))))) ?_
                    obtain ⟨t40, ht40, hF⟩ := of_bindM hF
                    refine at_callB Try.func32 rfl (by kernel_rfl) rfl rfl (fun w hw => crawlwayref25_Place_ok _ _ _ _ _ ht40 w (hw.own (.s .z)).row) ?_
                    refine at_val rfl rfl rfl (r_assign rfl) ?_
                    refine at_nil ?_
                    refine at_drop (H := _) (.s (.s .z)) ?_
                    refine at_weak [(5, _), (6, _), (7, _), (12, _), (13, _), (14, _), (24, _), (25, _), (26, _)] ⟨rfl, rfl, rfl, rfl, rfl, rfl, rfl, rfl, rfl, trivial⟩ ?_
                    refine at_then_normal ?_
                    refine at_seq ?_
                    refine at_region ?_
                    refine at_val rfl rfl rfl (r_move rfl) ?_
                    refine at_val rfl rfl rfl (r_move rfl) ?_
                    refine at_val rfl rfl rfl (r_igeq rfl rfl) ?_
                    refine at_val rfl rfl rfl (r_bool Try.underlying4 rfl rfl (.inr rfl) rfl) ?_
                    refine at_val rfl rfl rfl (r_move rfl) ?_
                    rcases of_ite hF with ⟨h41, hF⟩ | ⟨h41, hF⟩
                    · refine at_fix (g := 70) rfl h41 ?_
                      refine at_guard_no rfl rfl rfl rfl rfl ?_
                      refine at_guard_no rfl rfl rfl rfl rfl ?_
                      refine at_guard_undef rfl rfl rfl rfl ?_
                      refine at_guard_undef rfl rfl rfl rfl ?_
                      refine at_guard_undef rfl rfl rfl rfl ?_
                      refine at_guard_undef rfl rfl rfl rfl ?_
                      refine at_guard_undef rfl rfl rfl rfl ?_
                      refine at_guard_undef rfl rfl rfl rfl ?_
                      refine at_guard_undef rfl rfl rfl rfl ?_
                      refine at_guard_no rfl rfl rfl rfl rfl ?_
                      refine at_val rfl rfl rfl (r_pick rfl rfl rfl) ?_
                      refine at_val rfl rfl rfl (r_move rfl) ?_
                      refine at_guard_no rfl rfl rfl rfl rfl ?_
                      refine at_guard_no rfl rfl rfl rfl rfl ?_
                      refine at_guard_no rfl rfl rfl rfl rfl ?_
                      refine at_guard_undef rfl rfl rfl rfl ?_
                      refine at_guard_undef rfl rfl rfl rfl ?_
                      refine at_guard_no rfl rfl rfl rfl rfl ?_
                      refine at_val rfl rfl rfl (r_pick rfl rfl rfl) ?_
                      refine at_nil ?_
                      refine at_weak [(5, _), (6, _), (7, _), (24, _), (25, _), (26, _), (89, _)] ⟨rfl, rfl, rfl, rfl, rfl, rfl, rfl, trivial⟩ ?_
                      refine at_then_normal ?_
                      refine at_cond_true rfl rfl ?_
                      refine at_seq ?_
                      refine at_region ?_
                      refine at_val rfl rfl rfl (r_assign rfl) ?_
                      refine at_nil ?_
                      refine at_drop (H := _) (.s .z) ?_
                      refine at_weak [(4, _)] ⟨rfl, trivial⟩ ?_
                      refine at_then_normal ?_
                      refine at_ret ?_
                      refine at_blk_ret (at_then_ret (at_then_ret (at_blk_ret (at_then_ret ?_))))
                      obtain rfl := of_some hF
                      subst K
                      exact at_return1 rfl rfl (fun w1 hw => ⟨rfl, hw.below⟩)
                    · refine at_fix (g := 70) rfl h41 ?_
                      refine at_guard_yes rfl rfl rfl ?_
                      refine at_val rfl rfl rfl (r_move rfl) ?_
                      refine at_guard_yes rfl rfl rfl ?_
                      refine at_val rfl rfl rfl (r_move rfl) ?_
                      rcases of_ite hF with ⟨h42, hF⟩ | ⟨h42, hF⟩
                      · refine at_fix (g := 72) rfl h42 ?_
                        refine at_guard_yes rfl rfl rfl ?_
                        refine at_val rfl rfl rfl (r_move rfl) ?_
                        refine at_guard_yes rfl rfl rfl ?_
                        refine at_val rfl rfl rfl (r_move rfl) ?_
                        refine at_guard_yes rfl rfl rfl ?_
                        refine at_val rfl rfl rfl (r_move rfl) ?_
                        refine at_guard_yes rfl rfl rfl ?_
                        obtain ⟨h43, hF⟩ := of_guard hF
                        refine at_pure (φ := ∃ b o, p29 = some ⟨b, o, none⟩) (fun _ hw => row_ptr (hw.own (.s .z)).row h43) ?_
                        rintro ⟨b45, o46, hp44⟩
                        refine at_val rfl rfl rfl (r_idx Try.underlying44 Try.sizeOf52 rfl rfl h43 hp44) ?_
                        refine at_guard_yes rfl rfl rfl ?_
                        refine at_val rfl rfl rfl (r_fieldAddr (fo := 18) Try.underlying52 rfl rfl (fun w => ⟨_, Try.sizeOf3 w⟩) rfl) ?_
                        refine at_guard_yes rfl rfl rfl ?_
                        refine at_val rfl rfl rfl (r_load_cell Try.isAgg3 rfl (fun w1 hw => row_lens0 (y := (lget t26.1 t40).f_Owner) (W := fun w1 => w1 = _) (fun w1 h => by subst h; exact Below.refl _ _) (hw.own (.s .z)).row h43 hp44 (Lens.comp (Lens.whole _ _) (fun z => { (lget t26.1 t40) with f_Owner := z }) (c_api_Entry_f_Owner (lget t26.1 t40))) rfl _ rfl)) ?_
                        refine at_guard_yes rfl rfl rfl ?_
                        refine at_val rfl rfl rfl (r_ineq rfl rfl) ?_
                        refine at_guard_yes rfl rfl rfl ?_
                        refine at_val rfl rfl rfl (r_pick rfl rfl rfl) ?_
                        refine at_val rfl rfl rfl (r_pick rfl rfl rfl) ?_
                        refine at_val rfl rfl rfl (r_move rfl) ?_
                        rcases of_ite hF with ⟨h47, hF⟩ | ⟨h47, hF⟩
                        · refine at_fix (g := 82) rfl h47 ?_
                          refine at_guard_no rfl rfl rfl rfl rfl ?_
                          refine at_guard_no rfl rfl rfl rfl rfl ?_
                          refine at_guard_no rfl rfl rfl rfl rfl ?_
                          refine at_guard_undef rfl rfl rfl rfl ?_
                          refine at_guard_undef rfl rfl rfl rfl ?_
                          refine at_guard_no rfl rfl rfl rfl rfl ?_
                          refine at_val rfl rfl rfl (r_pick rfl rfl rfl) ?_
                          refine at_nil ?_
                          refine at_weak [(5, _), (6, _), (7, _), (24, _), (25, _), (26, _), (89, _)] ⟨rfl, rfl, rfl, rfl, rfl, rfl, rfl, trivial⟩ ?_
                          refine at_then_normal ?_
                          refine at_cond_true rfl rfl ?_
                          refine at_seq ?_
                          refine at_region ?_
                          refine at_val rfl rfl rfl (r_assign rfl) ?_
                          refine at_nil ?_
                          refine at_drop (H := _) (.s .z) ?_
                          refine at_weak [(4, _)] ⟨rfl, trivial⟩ ?_
                          refine at_then_normal ?_
                          refine at_ret ?_
                          refine at_blk_ret (at_then_ret (at_then_ret (at_blk_ret (at_then_ret ?_))))
                          obtain rfl := of_some hF
                          subst K
                          exact at_return1 rfl rfl (fun w1 hw => ⟨rfl, hw.below⟩)
                        · refine at_fix (g := 82) rfl h47 ?_
                          refine at_guard_yes rfl rfl rfl ?_
                          refine at_val rfl rfl rfl (r_move rfl) ?_
                          refine at_guard_yes rfl rfl rfl ?_
                          refine at_val rfl rfl rfl (r_not rfl) ?_
                          refine at_guard_yes rfl rfl rfl ?_
                          refine at_val rfl rfl rfl (r_move rfl) ?_
                          rcases of_ite hF with ⟨h48, hF⟩ | ⟨h48, hF⟩
                          · refine at_fix (g := 85) rfl h48 ?_
                            refine at_guard_yes rfl rfl rfl ?_
                            refine at_val rfl rfl rfl (r_move rfl) ?_
                            refine at_guard_yes rfl rfl rfl ?_
                            refine at_val rfl rfl rfl (r_ineq rfl rfl) ?_
                            refine at_guard_yes rfl rfl rfl ?_
                            refine at_val rfl rfl rfl (r_pick rfl rfl rfl) ?_
                            refine at_val rfl rfl rfl (r_pick rfl rfl rfl) ?_
                            refine at_nil ?_
                            refine at_weak [(5, _), (6, _), (7, _), (24, _), (25, _), (26, _), (89, _)] ⟨rfl, rfl, rfl, rfl, rfl, rfl, rfl, trivial⟩ ?_
                            refine at_then_normal ?_
                            rcases of_ite hF with ⟨h49, hF⟩ | ⟨h49, hF⟩
                            · refine at_cond_true rfl h49 ?_
                              refine at_seq ?_
                              refine at_region ?_
                              refine at_val rfl rfl rfl (r_assign rfl) ?_
                              refine at_nil ?_
                              refine at_drop (H := _) (.s .z) ?_
                              refine at_weak [(4, _)] ⟨rfl, trivial⟩ ?_
                              refine at_then_normal ?_
                              refine at_ret ?_
                              refine at_blk_ret (at_then_ret (at_then_ret (at_blk_ret (at_then_ret ?_))))
                              obtain rfl := of_some hF
                              subst K
                              exact at_return1 rfl rfl (fun w1 hw => ⟨rfl, hw.below⟩)
                            · refine at_cond_false rfl h49 ?_
                              refine at_skip ?_
                              refine at_blk_normal (at_then_normal ?_)
                              refine at_region ?_
                              refine at_val rfl rfl rfl (r_iadd rfl rfl) ?_
                              refine at_val rfl rfl rfl (r_move rfl) ?_
                              refine at_nil ?_
                              refine at_weak [(5, _), (6, _), (7, _), (24, _), (25, _), (26, _)] ⟨rfl, rfl, rfl, rfl, rfl, rfl, trivial⟩ ?_
                              refine at_then_normal ?_
                              refine at_front (.s .z) ?_
                              exact at_weak_k (ih _ _ _ _ hF K gh p29 c30) ⟨rfl, rfl, rfl, rfl, rfl, rfl, trivial⟩
                          · refine at_fix (g := 85) rfl h48 ?_
                            refine at_guard_no rfl rfl rfl rfl rfl ?_
                            refine at_guard_no rfl rfl rfl rfl rfl ?_
                            refine at_guard_yes rfl rfl rfl ?_
                            refine at_val rfl rfl rfl (r_pick rfl rfl rfl) ?_
                            refine at_val rfl rfl rfl (r_pick rfl rfl rfl) ?_
                            refine at_nil ?_
                            refine at_weak [(5, _), (6, _), (7, _), (24, _), (25, _), (26, _), (89, _)] ⟨rfl, rfl, rfl, rfl, rfl, rfl, rfl, trivial⟩ ?_
                            refine at_then_normal ?_
                            refine at_cond_false rfl rfl ?_
                            refine at_skip ?_
                            refine at_blk_normal (at_then_normal ?_)
                            refine at_region ?_
                            refine at_val rfl rfl rfl (r_iadd rfl rfl) ?_
                            refine at_val rfl rfl rfl (r_move rfl) ?_
                            refine at_nil ?_
                            refine at_weak [(5, _), (6, _), (7, _), (24, _), (25, _), (26, _)] ⟨rfl, rfl, rfl, rfl, rfl, rfl, trivial⟩ ?_
                            refine at_then_normal ?_
                            refine at_front (.s .z) ?_
                            exact at_weak_k (ih _ _ _ _ hF K gh p29 c30) ⟨rfl, rfl, rfl, rfl, rfl, rfl, trivial⟩
                      · refine at_fix (g := 72) rfl h42 ?_
                        refine at_guard_no rfl rfl rfl rfl rfl ?_
                        refine at_guard_no rfl rfl rfl rfl rfl ?_
                        refine at_guard_no rfl rfl rfl rfl rfl ?_
                        refine at_guard_no rfl rfl rfl rfl rfl ?_
                        refine at_guard_no rfl rfl rfl rfl rfl ?_
                        refine at_guard_no rfl rfl rfl rfl rfl ?_
                        refine at_guard_no rfl rfl rfl rfl rfl ?_
                        refine at_guard_yes rfl rfl rfl ?_
                        refine at_val rfl rfl rfl (r_pick rfl rfl rfl) ?_
                        refine at_val rfl rfl rfl (r_pick rfl rfl rfl) ?_
                        refine at_val rfl rfl rfl (r_move rfl) ?_
                        refine at_guard_yes rfl rfl rfl ?_
                        refine at_val rfl rfl rfl (r_move rfl) ?_
                        refine at_guard_yes rfl rfl rfl ?_
                        refine at_val rfl rfl rfl (r_not rfl) ?_
                        refine at_guard_yes rfl rfl rfl ?_
                        refine at_val rfl rfl rfl (r_move rfl) ?_
                        rcases of_ite hF with ⟨h50, hF⟩ | ⟨h50, hF⟩
                        · refine at_fix (g := 85) rfl h50 ?_
                          refine at_guard_yes rfl rfl rfl ?_
                          refine at_val rfl rfl rfl (r_move rfl) ?_
                          refine at_guard_yes rfl rfl rfl ?_
                          refine at_val rfl rfl rfl (r_ineq rfl rfl) ?_
                          refine at_guard_yes rfl rfl rfl ?_
                          refine at_val rfl rfl rfl (r_pick rfl rfl rfl) ?_
                          refine at_val rfl rfl rfl (r_pick rfl rfl rfl) ?_
                          refine at_nil ?_
                          refine at_weak [(5, _), (6, _), (7, _), (24, _), (25, _), (26, _), (89, _)] ⟨rfl, rfl, rfl, rfl, rfl, rfl, rfl, trivial⟩ ?_
                          refine at_then_normal ?_
                          rcases of_ite hF with ⟨h51, hF⟩ | ⟨h51, hF⟩
                          · refine at_cond_true rfl h51 ?_
                            refine at_seq ?_
                            refine at_region ?_
                            refine at_val rfl rfl rfl (r_assign rfl) ?_
                            refine at_nil ?_
                            refine at_drop (H := _) (.s .z) ?_
                            refine at_weak [(4, _)] ⟨rfl, trivial⟩ ?_
                            refine at_then_normal ?_
                            refine at_ret ?_
                            refine at_blk_ret (at_then_ret (at_then_ret (at_blk_ret (at_then_ret ?_))))
                            obtain rfl := of_some hF
                            subst K
                            exact at_return1 rfl rfl (fun w1 hw => ⟨rfl, hw.below⟩)
                          · refine at_cond_false rfl h51 ?_
                            refine at_skip ?_
                            refine at_blk_normal (at_then_normal ?_)
                            refine at_region ?_
                            refine at_val rfl rfl rfl (r_iadd rfl rfl) ?_
                            refine at_val rfl rfl rfl (r_move rfl) ?_
                            refine at_nil ?_
                            refine at_weak [(5, _), (6, _), (7, _), (24, _), (25, _), (26, _)] ⟨rfl, rfl, rfl, rfl, rfl, rfl, trivial⟩ ?_
                            refine at_then_normal ?_
                            refine at_front (.s .z) ?_
                            exact at_weak_k (ih _ _ _ _ hF K gh p29 c30) ⟨rfl, rfl, rfl, rfl, rfl, rfl, trivial⟩
                        · refine at_fix (g := 85) rfl h50 ?_
                          refine at_guard_no rfl rfl rfl rfl rfl ?_
                          refine at_guard_no rfl rfl rfl rfl rfl ?_
                          refine at_guard_yes rfl rfl rfl ?_
                          refine at_val rfl rfl rfl (r_pick rfl rfl rfl) ?_
                          refine at_val rfl rfl rfl (r_pick rfl rfl rfl) ?_
                          refine at_nil ?_
                          refine at_weak [(5, _), (6, _), (7, _), (24, _), (25, _), (26, _), (89, _)] ⟨rfl, rfl, rfl, rfl, rfl, rfl, rfl, trivial⟩ ?_
                          refine at_then_normal ?_
                          refine at_cond_false rfl rfl ?_
                          refine at_skip ?_
                          refine at_blk_normal (at_then_normal ?_)
                          refine at_region ?_
                          refine at_val rfl rfl rfl (r_iadd rfl rfl) ?_
                          refine at_val rfl rfl rfl (r_move rfl) ?_
                          refine at_nil ?_
                          refine at_weak [(5, _), (6, _), (7, _), (24, _), (25, _), (26, _)] ⟨rfl, rfl, rfl, rfl, rfl, rfl, trivial⟩ ?_
                          refine at_then_normal ?_
                          refine at_front (.s .z) ?_
                          exact at_weak_k (ih _ _ _ _ hF K gh p29 c30) ⟨rfl, rfl, rfl, rfl, rfl, rfl, trivial⟩
            · refine at_cond_false rfl h20 ?_
              refine at_exit ?_
              refine at_then_exit (at_then_exit ?_)
              refine at_drop (H := _) .z ?_
              obtain rfl := of_some hF
              exact at_weak_k (K gh) trivial
        · cases q14 with
          | ret r' => exact of_some hF
          | nx sq14 =>
            intro gh
            refine at_blk_same ?_
            refine at_then_normal ?_
            refine at_seq ?_
            refine at_region ?_
            obtain ⟨t52, ht52, hF⟩ := of_bindM hF
            refine at_callB Try.func23 rfl (by kernel_rfl) rfl rfl (fun w hw => crawlwaylaw25_alive_ok  _ ht52 w) ?_
            refine at_val rfl rfl rfl (r_assign rfl) ?_
            refine at_nil ?_
            refine at_weak [(4, _)] ⟨rfl, trivial⟩ ?_
            refine at_then_normal ?_
            refine at_ret ?_
            have K := of_some hF
            subst K
            exact at_return1 rfl rfl (fun w1 hw => ⟨rfl, hw.below⟩)
end Go.Proofs.Ythccncpephpdjaa
