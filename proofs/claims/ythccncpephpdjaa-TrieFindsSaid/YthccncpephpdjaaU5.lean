/- Functions with the same answers as the Go functions that they are named for, and the proofs of it, by a program of this project (gen.py). -/
import Derived.Test.YthccncpephpdjaaT
import Derived.Test.YthccncpephpdjaaShelf
import Derived.Test.YthccncpephpdjaaW
import Derived.Test.YthccncpephpdjaaL
import Derived.Test.YthccncpephpdjaaR
import Derived.Test.YthccncpephpdjaaN
import Derived.Test.YthccncpephpdjaaLit
import Derived.Test.YthccncpephpdjaaInl
import Derived.Test.YthccncpephpdjaaHp
import Derived.Test.YthccncpephpdjaaProg
import Derived.Test.YthccncpephpdjaaU1
import Derived.Test.YthccncpephpdjaaU2
import Derived.Test.YthccncpephpdjaaU3
set_option linter.unusedVariables false
set_option linter.unusedSimpArgs false
namespace Go.Proofs.Ythccncpephpdjaa
open E Go.RowKit


def crawlwaylaw25_TrieFinds.l0 (x0 : List S_crawlwaylaw25_Deed) (t4 : Option Nat × List HV) (t8 : Option Nat × List HV) (i22 : List S_api_Entry) (i23 : List S_api_Entry) (i24 : Int) (i25 : List HV) : Option (List S_api_Entry × List S_api_Entry × List HV) :=
  if (decide (i24 < (x0.length : Int))) = true then (if (0 : Int) ≤ i24 ∧ i24 < (x0.length : Int) then crawlwaylaw25_step i25 t4.1 4 i22 (lget x0 i24) >>= fun t40 => if vp (List.length i25) t4.1 = true then if vp (List.length i25) t8.1 = true then crawlwaylaw25_step t40.2.2 t8.1 6 i23 (lget x0 i24) >>= fun t46 => if vp (List.length t40.2.2) t4.1 = true then if vp (List.length t40.2.2) t8.1 = true then crawlwaylaw25_TrieFinds.l0 x0 t4 t8 t40.1 t46.1 (wr .i64 (i24 + 1)) t46.2.2 else none else none else none else none else none) else (some (i22, i23, i25))
  partial_fixpoint
def crawlwaylaw25_TrieFinds (x0 : List S_crawlwaylaw25_Deed) (x1 : S_api_Addr) : Option (Bool) :=
  if (decide ((x0.length : Int) > 40)) = true then (crawlwaylaw25_alive >>= fun t3 => some t3) else (trie_New ([] : List HV) 4 >>= fun t4 => trie_New t4.2 6 >>= fun t8 => if vp (List.length t4.2) t4.1 = true then if (Option.isNone t4.1) = true then (some false) else (if (Option.isNone t8.1) = true then (some false) else (crawlwaylaw25_TrieFinds.l0 x0 t4 t8 ([] : List S_api_Entry) ([] : List S_api_Entry) 0 t8.2 >>= fun q21 => trie_Trie_Find q21.2.2 t4.1 x1 >>= fun t52 => trie_Trie_Find q21.2.2 t8.1 x1 >>= fun t54 => crawlwayref25_Find q21.1 x1 >>= fun t56 => crawlwayref25_Find q21.2.1 x1 >>= fun t58 => if (decide (t52.1 = t56.1)) = true then (if (t52.2 == t56.2) = true then (if (decide (t54.1 = t58.1)) = true then (if (t54.2 == t58.2) = true then (if t52.2 = true then (if (!t54.2) = true then (crawlwaylaw25_alive >>= fun t66 => some t66) else (some false)) else (crawlwaylaw25_alive >>= fun t67 => some t67)) else (some false)) else (some false)) else (some false)) else (some false))) else none)
theorem crawlwaylaw25_TrieFinds_ok (x0 : List S_crawlwaylaw25_Deed) (p0_ : Option Addr) (c0_ : Nat) (x1 : S_api_Addr) (r : Bool) (hF : crawlwaylaw25_TrieFinds x0 x1 = some r) (w : World) (hr0 : Row c_crawlwaylaw25_Deed w p0_ c0_ x0) :
    Calls Try.prog 6 #[.slice p0_ x0.length c0_, .agg (Cd.cs c_api_Addr x1).toArray] w (fun e w' => e = .returned (.bool r) ∧ Below w.heap.size w w') := by
  unfold crawlwaylaw25_TrieFinds at hF
  refine calls_enter (l := [.slice p0_ x0.length c0_, .agg (Cd.cs c_api_Addr x1).toArray]) Try.func6 rfl rfl rfl ?_
  refine at_start ?_
  refine at_heap0 hK ?_
  intro gh
  refine at_weak [(0, _), (1, _)] ⟨rfl, rfl, trivial⟩ ?_
  refine at_seq ?_
  refine at_region ?_
  refine at_box (cs := Cd.cs c_api_Addr x1) rfl rfl rfl ?_
  intro b1
  refine at_val rfl rfl rfl (r_assign rfl) ?_
  refine at_nil ?_
  refine at_weak [(0, _), (3, _)] ⟨rfl, rfl, trivial⟩ ?_
  refine at_then_normal ?_
  refine at_seq ?_
  refine at_seq ?_
  refine at_region ?_
  refine at_val rfl rfl rfl (r_move rfl) ?_
  refine at_val rfl rfl rfl (r_len_sl Try.underlying41 rfl) ?_
  refine at_val rfl rfl rfl (r_igtr rfl rfl) ?_
  refine at_nil ?_
  refine at_weak [(0, _), (3, _), (21, _)] ⟨rfl, rfl, rfl, trivial⟩ ?_
  refine at_then_normal ?_
  rcases of_ite hF with ⟨h2, hF⟩ | ⟨h2, hF⟩
  · refine at_cond_true rfl h2 ?_
    refine at_seq ?_
    refine at_region ?_
    obtain ⟨t3, ht3, hF⟩ := of_bindM hF
    refine at_callB Try.func23 rfl (by kernel_rfl) rfl rfl (fun w hw => crawlwaylaw25_alive_ok  _ ht3 w) ?_
    refine at_val rfl rfl rfl (r_assign rfl) ?_
    refine at_nil ?_
    refine at_drop (H := _) .z ?_
    refine at_weak [(4, _)] ⟨rfl, trivial⟩ ?_
    refine at_then_normal ?_
    refine at_ret ?_
    refine at_then_ret ?_
    have K := of_some hF
    subst K
    exact at_return1 rfl rfl (fun w1 hw => ⟨rfl, hw.below⟩)
  · refine at_cond_false rfl h2 ?_
    refine at_skip ?_
    refine at_then_normal ?_
    refine at_seq ?_
    refine at_region ?_
    obtain ⟨t4, ht4, hF⟩ := of_bindM hF
    refine at_front (.s .z) ?_
    refine at_callH (γ := Unit) (h' := t4.2) (V := fun z gh => pv gh t4.1) (T := fun z => [cellsE b1 (Cd.cs c_api_Addr x1) 32]) Try.func24 rfl (by kernel_rfl) rfl rfl (fun w hw => (trie_New_ok ht4 hw).mono (by rintro e w' ⟨gh, he, hw'⟩; exact ⟨gh, (), he, hw'⟩)) ?_
    rintro gh ⟨⟩ hg5
    obtain ⟨t8, ht8, hF⟩ := of_bindM hF
    obtain ⟨h9, hF⟩ := of_guard hF
    refine at_callH (γ := Unit) (h' := t8.2) (V := fun z gh => pv gh t8.1) (T := fun z => [cellsE b1 (Cd.cs c_api_Addr x1) 32]) Try.func24 rfl (by kernel_rfl) rfl rfl (fun w hw => (trie_New_ok ht8 hw).mono (by rintro e w' ⟨gh, he, hw'⟩; exact ⟨gh, (), he, hw'⟩)) ?_
    rintro gh ⟨⟩ hg10
    refine at_ov (t := 23) rfl (pv_ext hg10 h9) ?_
    refine at_val rfl rfl rfl (r_assign rfl) ?_
    refine at_val rfl rfl rfl (r_assign rfl) ?_
    refine at_nil ?_
    refine at_weak [(0, _), (3, _), (5, _), (6, _)] ⟨rfl, rfl, rfl, rfl, trivial⟩ ?_
    refine at_then_normal ?_
    refine at_seq ?_
    refine at_seq ?_
    refine at_region ?_
    refine at_val rfl rfl rfl (r_move rfl) ?_
    refine at_val rfl rfl rfl (r_pnil (p := t4.1) Try.underlying42 rfl rfl (.inl rfl) rfl) ?_
    refine at_val rfl rfl rfl (r_move rfl) ?_
    rcases of_ite hF with ⟨h13, hF⟩ | ⟨h13, hF⟩
    · refine at_fix (g := 27) rfl h13 ?_
      refine at_guard_no rfl rfl rfl rfl rfl ?_
      refine at_guard_no rfl rfl rfl rfl rfl ?_
      refine at_val rfl rfl rfl (r_pick rfl rfl rfl) ?_
      refine at_nil ?_
      refine at_weak [(0, _), (3, _), (5, _), (6, _), (30, _)] ⟨rfl, rfl, rfl, rfl, rfl, trivial⟩ ?_
      refine at_then_normal ?_
      refine at_cond_true rfl rfl ?_
      refine at_seq ?_
      refine at_region ?_
      refine at_val rfl rfl rfl (r_assign rfl) ?_
      refine at_nil ?_
      refine at_drop (H := _) (.s .z) ?_
      refine at_weak [(4, _)] ⟨rfl, trivial⟩ ?_
      refine at_then_normal ?_
      refine at_ret ?_
      refine at_then_ret ?_
      have K := of_some hF
      subst K
      exact at_return1 rfl rfl (fun w1 hw => ⟨rfl, hw.below⟩)
    · refine at_fix (g := 27) rfl h13 ?_
      refine at_guard_yes rfl rfl rfl ?_
      refine at_val rfl rfl rfl (r_move rfl) ?_
      refine at_guard_yes rfl rfl rfl ?_
      refine at_val rfl rfl rfl (r_pnil (p := t8.1) Try.underlying42 rfl rfl (.inl rfl) rfl) ?_
      refine at_val rfl rfl rfl (r_pick rfl rfl rfl) ?_
      refine at_nil ?_
      refine at_weak [(0, _), (3, _), (5, _), (6, _), (30, _)] ⟨rfl, rfl, rfl, rfl, rfl, trivial⟩ ?_
      refine at_then_normal ?_
      rcases of_ite hF with ⟨h14, hF⟩ | ⟨h14, hF⟩
      · refine at_cond_true rfl h14 ?_
        refine at_seq ?_
        refine at_region ?_
        refine at_val rfl rfl rfl (r_assign rfl) ?_
        refine at_nil ?_
        refine at_drop (H := _) (.s .z) ?_
        refine at_weak [(4, _)] ⟨rfl, trivial⟩ ?_
        refine at_then_normal ?_
        refine at_ret ?_
        refine at_then_ret ?_
        have K := of_some hF
        subst K
        exact at_return1 rfl rfl (fun w1 hw => ⟨rfl, hw.below⟩)
      · refine at_cond_false rfl h14 ?_
        refine at_skip ?_
        refine at_then_normal ?_
        refine at_seq ?_
        refine at_region ?_
        refine at_val rfl rfl rfl (r_assign rfl) ?_
        refine at_val rfl rfl rfl (r_assign rfl) ?_
        refine at_nil ?_
        refine at_weak [(0, _), (3, _), (5, _), (6, _), (7, _), (8, _)] ⟨rfl, rfl, rfl, rfl, rfl, rfl, trivial⟩ ?_
        refine at_then_normal ?_
        refine at_seq ?_
        refine at_seq ?_
        refine at_region ?_
        refine at_val rfl rfl rfl (r_move rfl) ?_
        refine at_val rfl rfl rfl (r_len_sl Try.underlying41 rfl) ?_
        refine at_val rfl rfl rfl (r_move rfl) ?_
        refine at_nil ?_
        refine at_weak [(3, _), (5, _), (6, _), (7, _), (8, _), (31, _), (32, _), (33, _)] ⟨rfl, rfl, rfl, rfl, rfl, rfl, rfl, rfl, trivial⟩ ?_
        refine at_then_normal ?_
        refine at_block ?_
        refine at_own_nil c_api_Entry 52 ?_
        refine at_weak [(3, _), (5, _), (6, _), (7, .slice (nn 15) ([] : List S_api_Entry).length 0), (8, _), (31, _), (32, _), (33, _)] ⟨rfl, rfl, rfl, rfl, rfl, rfl, rfl, rfl, trivial⟩ ?_
        refine at_own_nil c_api_Entry 52 ?_
        refine at_weak [(3, _), (5, _), (6, _), (7, _), (8, .slice (nn 16) ([] : List S_api_Entry).length 0), (31, _), (32, _), (33, _)] ⟨rfl, rfl, rfl, rfl, rfl, rfl, rfl, rfl, trivial⟩ ?_
        obtain ⟨q21, hq21, hF⟩ := of_bindM hF
        refine at_weak [(3, _), (5, _), (6, _), (7, _), (8, _), (31, _), (32, _), (33, _)] ⟨rfl, rfl, rfl, rfl, rfl, rfl, rfl, rfl, trivial⟩ ?_
        refine at_loop_n (B := 0) (A := fun Y => ∀ (gh : Nat → Nat) (p30 : Option Addr) (c31 : Nat) (p32 : Option Addr) (c33 : Nat), At 104 [(3, .pointer (some ⟨b1, 0, none⟩)), (5, pv gh t4.1), (6, pv gh t8.1), (7, .slice p30 q21.1.length c31), (8, .slice p32 q21.2.1.length c33)] (Wd w [rowE c_api_Entry 52 p32 c33 q21.2.1, rowE c_api_Entry 52 p30 c31 q21.1, heapE hK gz 0 gh q21.2.2, cellsE b1 (Cd.cs c_api_Addr x1) 32]) Y) ?_ ?_
        · intro K
          refine crawlwaylaw25_TrieFinds.l0.partial_correctness x0 t4 t8 (motive := fun i22 i23 i24 i25 x => KN (fun Y => ∀ (gh : Nat → Nat) (p30 : Option Addr) (c31 : Nat) (p32 : Option Addr) (c33 : Nat), At 104 [(3, .pointer (some ⟨b1, 0, none⟩)), (5, pv gh t4.1), (6, pv gh t8.1), (7, .slice p30 x.1.length c31), (8, .slice p32 x.2.1.length c33)] (Wd w [rowE c_api_Entry 52 p32 c33 x.2.1, rowE c_api_Entry 52 p30 c31 x.1, heapE hK gz 0 gh x.2.2, cellsE b1 (Cd.cs c_api_Addr x1) 32]) Y) _ 0 → Round (fun Y => ∀ (gh : Nat → Nat) (p26 : Option Addr) (c27 : Nat) (p28 : Option Addr) (c29 : Nat), At 104 [(3, .pointer (some ⟨b1, 0, none⟩)), (5, pv gh t4.1), (6, pv gh t8.1), (7, .slice p26 i22.length c27), (8, .slice p28 i23.length c29), (31, .slice p0_ x0.length c0_), (32, .int .i64 (x0.length : Int)), (33, .int .i64 i24)] (Wd w [rowE c_api_Entry 52 p28 c29 i23, rowE c_api_Entry 52 p26 c27 i22, heapE hK gz 0 gh i25, cellsE b1 (Cd.cs c_api_Addr x1) 32]) Y) _ _ _) ?_ _ _ _ _ _ hq21 K gh (nn 15) 0 (nn 16) 0
          · clear K hF
            intro g ih i22 i23 i24 i25 x hF K gh p26 c27 p28 c29
            refine at_round ?_
            refine at_seq ?_
            refine at_region ?_
            refine at_val rfl rfl rfl (r_ilss rfl rfl) ?_
            refine at_nil ?_
            refine at_weak [(3, _), (5, _), (6, _), (7, _), (8, _), (31, _), (32, _), (33, _), (34, _)] ⟨rfl, rfl, rfl, rfl, rfl, rfl, rfl, rfl, rfl, trivial⟩ ?_
            refine at_then_normal ?_
            refine at_seq ?_
            rcases of_ite hF with ⟨h34, hF⟩ | ⟨h34, hF⟩
            · refine at_cond_true rfl h34 ?_
              refine at_skip ?_
              refine at_then_normal ?_
              refine at_seq ?_
              refine at_block ?_
              refine at_seq ?_
              refine at_region ?_
              obtain ⟨h35, hF⟩ := of_guard hF
              obtain ⟨b37, o38, hp36⟩ := row_ptr hr0 h35
              refine at_val rfl rfl rfl (r_idx Try.underlying41 Try.sizeOf48 rfl rfl h35 hp36) ?_
              refine at_val rfl rfl rfl (r_load_aggc (c := c_crawlwaylaw25_Deed) (z := lget x0 i24) Try.isAgg48 Try.sizeOf48 rfl (row_cell (fun _ h => h.below) hr0 h35 hp36)) ?_
              refine at_alloc (cs := Cd.cs c_crawlwaylaw25_Deed ({ f_Kind := (0 : Int), f_P := ({ f_A := ({ f_V := (0 : Int), f_B := (Vector.replicate 16 (0 : Int) : (Vector Int 16)) } : S_api_Addr), f_Bits := (0 : Int) } : S_api_Prefix), f_Own := (0 : Int) } : S_crawlwaylaw25_Deed)) Try.zeroValue48 rfl rfl ?_
              intro b39
              refine at_store (c := c_crawlwaylaw25_Deed) (z := lget x0 i24) .z (Lens.whole _ _) Try.sizeOf48 rfl rfl rfl ?_
              refine at_nil ?_
              refine at_weak [(3, _), (5, _), (6, _), (7, _), (8, _), (10, _), (31, _), (32, _), (33, _)] ⟨rfl, rfl, rfl, rfl, rfl, rfl, rfl, rfl, rfl, trivial⟩ ?_
              refine at_then_normal ?_
              refine at_seq ?_
              refine at_region ?_
              refine at_val rfl rfl rfl (r_move rfl) ?_
              refine at_val rfl rfl rfl (r_move rfl) ?_
              refine at_val rfl rfl rfl (r_load_aggc (c := c_crawlwaylaw25_Deed) (z := lget x0 i24) Try.isAgg48 Try.sizeOf48 rfl (lens_cell .z (Lens.whole _ _))) ?_
              obtain ⟨t40, ht40, hF⟩ := of_bindM hF
              obtain ⟨h41, hF⟩ := of_guard hF
              obtain ⟨h42, hF⟩ := of_guard hF
              refine at_front (.s .z) ?_
              refine at_front (.s .z) ?_
              refine at_front (.s (.s .z)) ?_
              refine at_front (.s (.s (.s .z))) ?_
              refine at_callH (γ := Option Addr × Nat) (h' := t40.2.2) (V := fun z gh => .tuple #[.slice z.1 t40.1.length z.2, .bool t40.2.1]) (T := fun z => [rowE c_api_Entry 52 z.1 z.2 t40.1, cellsE b39 (Cd.cs c_crawlwaylaw25_Deed (lget x0 i24)) 48, rowE c_api_Entry 52 p28 c29 i23, cellsE b1 (Cd.cs c_api_Addr x1) 32]) Try.func25 rfl (by kernel_rfl) rfl rfl (fun w hw => (crawlwaylaw25_step_ok ht40 hw).mono (by rintro e w' ⟨gh, p, c, he, hw'⟩; exact ⟨gh, (p, c), he, hw'⟩)) ?_
              rintro gh ⟨p44, c45⟩ hg43
              refine at_ov (t := 5) rfl (pv_ext hg43 h41) ?_
              refine at_ov (t := 6) rfl (pv_ext hg43 h42) ?_
              refine at_val rfl rfl rfl (r_move rfl) ?_
              refine at_val rfl rfl rfl (r_extract rfl rfl) ?_
              refine at_val rfl rfl rfl (r_extract rfl rfl) ?_
              refine at_val rfl rfl rfl (r_assign rfl) ?_
              refine at_nil ?_
              refine at_weak [(3, _), (5, _), (6, _), (7, _), (8, _), (10, _), (31, _), (32, _), (33, _)] ⟨rfl, rfl, rfl, rfl, rfl, rfl, rfl, rfl, rfl, trivial⟩ ?_
              refine at_then_normal ?_
              refine at_region ?_
              refine at_val rfl rfl rfl (r_move rfl) ?_
              refine at_val rfl rfl rfl (r_move rfl) ?_
              refine at_val rfl rfl rfl (r_load_aggc (c := c_crawlwaylaw25_Deed) (z := lget x0 i24) Try.isAgg48 Try.sizeOf48 rfl (lens_cell (.s (.s .z)) (Lens.whole _ _))) ?_
              obtain ⟨t46, ht46, hF⟩ := of_bindM hF
              obtain ⟨h47, hF⟩ := of_guard hF
              obtain ⟨h48, hF⟩ := of_guard hF
              refine at_front (.s (.s .z)) ?_
              refine at_front (.s (.s .z)) ?_
              refine at_front (.s (.s (.s .z))) ?_
              refine at_front (.s (.s (.s .z))) ?_
              refine at_callH (γ := Option Addr × Nat) (h' := t46.2.2) (V := fun z gh => .tuple #[.slice z.1 t46.1.length z.2, .bool t46.2.1]) (T := fun z => [rowE c_api_Entry 52 z.1 z.2 t46.1, rowE c_api_Entry 52 p44 c45 t40.1, cellsE b39 (Cd.cs c_crawlwaylaw25_Deed (lget x0 i24)) 48, cellsE b1 (Cd.cs c_api_Addr x1) 32]) Try.func25 rfl (by kernel_rfl) rfl rfl (fun w hw => (crawlwaylaw25_step_ok ht46 hw).mono (by rintro e w' ⟨gh, p, c, he, hw'⟩; exact ⟨gh, (p, c), he, hw'⟩)) ?_
              rintro gh ⟨p50, c51⟩ hg49
              refine at_ov (t := 5) rfl (pv_ext hg49 h47) ?_
              refine at_ov (t := 6) rfl (pv_ext hg49 h48) ?_
              refine at_val rfl rfl rfl (r_move rfl) ?_
              refine at_val rfl rfl rfl (r_extract rfl rfl) ?_
              refine at_val rfl rfl rfl (r_extract rfl rfl) ?_
              refine at_val rfl rfl rfl (r_assign rfl) ?_
              refine at_nil ?_
              refine at_drop (H := _) (.s (.s (.s .z))) ?_
              refine at_weak [(3, _), (5, _), (6, _), (7, _), (8, _), (31, _), (32, _), (33, _)] ⟨rfl, rfl, rfl, rfl, rfl, rfl, rfl, rfl, trivial⟩ ?_
              refine at_blk_normal (at_then_normal ?_)
              refine at_region ?_
              refine at_val rfl rfl rfl (r_iadd rfl rfl) ?_
              refine at_val rfl rfl rfl (r_move rfl) ?_
              refine at_nil ?_
              refine at_weak [(3, _), (5, _), (6, _), (7, _), (8, _), (31, _), (32, _), (33, _)] ⟨rfl, rfl, rfl, rfl, rfl, rfl, rfl, rfl, trivial⟩ ?_
              refine at_then_normal ?_
              refine at_front (.s (.s .z)) ?_
              refine at_front (.s (.s .z)) ?_
              exact at_weak_k (ih _ _ _ _ _ hF K gh p44 c45 p50 c51) ⟨rfl, rfl, rfl, rfl, rfl, rfl, rfl, rfl, trivial⟩
            · refine at_cond_false rfl h34 ?_
              refine at_exit ?_
              refine at_then_exit (at_then_exit ?_)
              obtain rfl := of_some hF
              exact at_weak_k (K gh p26 c27 p28 c29) ⟨rfl, rfl, rfl, rfl, rfl, trivial⟩
        · skip
          intro gh p30 c31 p32 c33
          refine at_blk_same ?_
          refine at_then_normal ?_
          refine at_seq ?_
          refine at_region ?_
          refine at_val rfl rfl rfl (r_move rfl) ?_
          refine at_val rfl rfl rfl (r_load_aggc (c := c_api_Addr) (z := x1) Try.isAgg32 Try.sizeOf32 rfl (lens_cell (.s (.s (.s .z))) (Lens.whole _ _))) ?_
          obtain ⟨t52, ht52, hF⟩ := of_bindM hF
          refine at_callR (.s (.s .z)) Try.func26 rfl (by kernel_rfl) rfl rfl (fun w hw => trie_Trie_Find_ok ht52 hw) ?_
          refine at_val rfl rfl rfl (r_move rfl) ?_
          refine at_val rfl rfl rfl (r_extract rfl rfl) ?_
          refine at_val rfl rfl rfl (r_extract rfl rfl) ?_
          refine at_alloc (cs := Cd.cs c_api_Entry ({ f_P := ({ f_A := ({ f_V := (0 : Int), f_B := (Vector.replicate 16 (0 : Int) : (Vector Int 16)) } : S_api_Addr), f_Bits := (0 : Int) } : S_api_Prefix), f_Owner := (0 : Int) } : S_api_Entry)) Try.zeroValue52 rfl rfl ?_
          intro b53
          refine at_store (c := c_api_Entry) (z := t52.1) .z (Lens.whole _ _) Try.sizeOf52 rfl rfl rfl ?_
          refine at_val rfl rfl rfl (r_assign rfl) ?_
          refine at_nil ?_
          refine at_weak [(3, _), (6, _), (7, _), (8, _), (11, _), (12, _)] ⟨rfl, rfl, rfl, rfl, rfl, rfl, trivial⟩ ?_
          refine at_then_normal ?_
          refine at_seq ?_
          refine at_region ?_
          refine at_val rfl rfl rfl (r_move rfl) ?_
          refine at_val rfl rfl rfl (r_load_aggc (c := c_api_Addr) (z := x1) Try.isAgg32 Try.sizeOf32 rfl (lens_cell (.s (.s (.s (.s .z)))) (Lens.whole _ _))) ?_
          obtain ⟨t54, ht54, hF⟩ := of_bindM hF
          refine at_callR (.s (.s (.s .z))) Try.func26 rfl (by kernel_rfl) rfl rfl (fun w hw => trie_Trie_Find_ok ht54 hw) ?_
          refine at_val rfl rfl rfl (r_move rfl) ?_
          refine at_val rfl rfl rfl (r_extract rfl rfl) ?_
          refine at_val rfl rfl rfl (r_extract rfl rfl) ?_
          refine at_alloc (cs := Cd.cs c_api_Entry ({ f_P := ({ f_A := ({ f_V := (0 : Int), f_B := (Vector.replicate 16 (0 : Int) : (Vector Int 16)) } : S_api_Addr), f_Bits := (0 : Int) } : S_api_Prefix), f_Owner := (0 : Int) } : S_api_Entry)) Try.zeroValue52 rfl rfl ?_
          intro b55
          refine at_store (c := c_api_Entry) (z := t54.1) .z (Lens.whole _ _) Try.sizeOf52 rfl rfl rfl ?_
          refine at_val rfl rfl rfl (r_assign rfl) ?_
          refine at_nil ?_
          refine at_weak [(3, _), (7, _), (8, _), (11, _), (12, _), (13, _), (14, _)] ⟨rfl, rfl, rfl, rfl, rfl, rfl, rfl, trivial⟩ ?_
          refine at_then_normal ?_
          refine at_seq ?_
          refine at_region ?_
          refine at_val rfl rfl rfl (r_move rfl) ?_
          refine at_val rfl rfl rfl (r_load_aggc (c := c_api_Addr) (z := x1) Try.isAgg32 Try.sizeOf32 rfl (lens_cell (.s (.s (.s (.s (.s .z))))) (Lens.whole _ _))) ?_
          obtain ⟨t56, ht56, hF⟩ := of_bindM hF
          refine at_callB Try.func27 rfl (by kernel_rfl) rfl rfl (fun w hw => crawlwayref25_Find_ok _ _ _ _ _ ht56 w (hw.own (.s (.s (.s .z)))).row) ?_
          refine at_val rfl rfl rfl (r_move rfl) ?_
          refine at_val rfl rfl rfl (r_extract rfl rfl) ?_
          refine at_val rfl rfl rfl (r_extract rfl rfl) ?_
          refine at_alloc (cs := Cd.cs c_api_Entry ({ f_P := ({ f_A := ({ f_V := (0 : Int), f_B := (Vector.replicate 16 (0 : Int) : (Vector Int 16)) } : S_api_Addr), f_Bits := (0 : Int) } : S_api_Prefix), f_Owner := (0 : Int) } : S_api_Entry)) Try.zeroValue52 rfl rfl ?_
          intro b57
          refine at_store (c := c_api_Entry) (z := t56.1) .z (Lens.whole _ _) Try.sizeOf52 rfl rfl rfl ?_
          refine at_val rfl rfl rfl (r_assign rfl) ?_
          refine at_nil ?_
          refine at_drop (H := _) (.s (.s (.s (.s .z)))) ?_
          refine at_weak [(3, _), (8, _), (11, _), (12, _), (13, _), (14, _), (15, _), (16, _)] ⟨rfl, rfl, rfl, rfl, rfl, rfl, rfl, rfl, trivial⟩ ?_
          refine at_then_normal ?_
          refine at_seq ?_
          refine at_region ?_
          refine at_val rfl rfl rfl (r_move rfl) ?_
          refine at_val rfl rfl rfl (r_load_aggc (c := c_api_Addr) (z := x1) Try.isAgg32 Try.sizeOf32 rfl (lens_cell (.s (.s (.s (.s (.s .z))))) (Lens.whole _ _))) ?_
          obtain ⟨t58, ht58, hF⟩ := of_bindM hF
          refine at_callB Try.func27 rfl (by kernel_rfl) rfl rfl (fun w hw => crawlwayref25_Find_ok _ _ _ _ _ ht58 w (hw.own (.s (.s (.s .z)))).row) ?_
          refine at_val rfl rfl rfl (r_move rfl) ?_
          refine at_val rfl rfl rfl (r_extract rfl rfl) ?_
          refine at_val rfl rfl rfl (r_extract rfl rfl) ?_
          refine at_alloc (cs := Cd.cs c_api_Entry ({ f_P := ({ f_A := ({ f_V := (0 : Int), f_B := (Vector.replicate 16 (0 : Int) : (Vector Int 16)) } : S_api_Addr), f_Bits := (0 : Int) } : S_api_Prefix), f_Owner := (0 : Int) } : S_api_Entry)) Try.zeroValue52 rfl rfl ?_
          intro b59
          refine at_store (c := c_api_Entry) (z := t58.1) .z (Lens.whole _ _) Try.sizeOf52 rfl rfl rfl ?_
          refine at_val rfl rfl rfl (r_assign rfl) ?_
          refine at_nil ?_
          refine at_drop (H := _) (.s (.s (.s (.s .z)))) ?_
          refine at_drop (H := _) (.s (.s (.s (.s (.s .z))))) ?_
          refine at_weak [(11, _), (12, _), (13, _), (14, _), (15, _), (16, _), (17, _), (18, _)] ⟨rfl, rfl, rfl, rfl, rfl, rfl, rfl, rfl, trivial⟩ ?_
          refine at_then_normal ?_
          refine at_seq ?_
          refine at_region ?_
          refine at_val rfl rfl rfl (r_load_aggc (c := c_api_Entry) (z := t52.1) Try.isAgg52 Try.sizeOf52 rfl (lens_cell (.s (.s (.s .z))) (Lens.whole _ _))) ?_
          refine at_val rfl rfl rfl (r_load_aggc (c := c_api_Entry) (z := t56.1) Try.isAgg52 Try.sizeOf52 rfl (lens_cell (.s .z) (Lens.whole _ _))) ?_
          refine at_val rfl rfl rfl (r_eqagg (c := c_api_Entry) (a := t52.1) (b := t56.1) (eq_api_Entry_52) rfl Try.eqGuardType52 rfl rfl (.inl rfl) rfl) ?_
          refine at_val rfl rfl rfl (r_move rfl) ?_
          rcases of_ite hF with ⟨h60, hF⟩ | ⟨h60, hF⟩
          · refine at_fix (g := 79) rfl h60 ?_
            refine at_guard_yes rfl rfl rfl ?_
            refine at_val rfl rfl rfl (r_move rfl) ?_
            refine at_guard_yes rfl rfl rfl ?_
            refine at_val rfl rfl rfl (r_move rfl) ?_
            refine at_guard_yes rfl rfl rfl ?_
            refine at_val rfl rfl rfl (r_bool Try.underlying4 rfl rfl (.inl rfl) rfl) ?_
            refine at_val rfl rfl rfl (r_pick rfl rfl rfl) ?_
            refine at_val rfl rfl rfl (r_move rfl) ?_
            rcases of_ite hF with ⟨h61, hF⟩ | ⟨h61, hF⟩
            · refine at_fix (g := 84) rfl h61 ?_
              refine at_guard_yes rfl rfl rfl ?_
              refine at_val rfl rfl rfl (r_load_aggc (c := c_api_Entry) (z := t54.1) Try.isAgg52 Try.sizeOf52 rfl (lens_cell (.s (.s .z)) (Lens.whole _ _))) ?_
              refine at_guard_yes rfl rfl rfl ?_
              refine at_val rfl rfl rfl (r_load_aggc (c := c_api_Entry) (z := t58.1) Try.isAgg52 Try.sizeOf52 rfl (lens_cell .z (Lens.whole _ _))) ?_
              refine at_guard_yes rfl rfl rfl ?_
              refine at_val rfl rfl rfl (r_eqagg (c := c_api_Entry) (a := t54.1) (b := t58.1) (eq_api_Entry_52) rfl Try.eqGuardType52 rfl rfl (.inl rfl) rfl) ?_
              refine at_val rfl rfl rfl (r_pick rfl rfl rfl) ?_
              refine at_val rfl rfl rfl (r_move rfl) ?_
              rcases of_ite hF with ⟨h62, hF⟩ | ⟨h62, hF⟩
              · refine at_fix (g := 89) rfl h62 ?_
                refine at_guard_yes rfl rfl rfl ?_
                refine at_val rfl rfl rfl (r_move rfl) ?_
                refine at_guard_yes rfl rfl rfl ?_
                refine at_val rfl rfl rfl (r_move rfl) ?_
                refine at_guard_yes rfl rfl rfl ?_
                refine at_val rfl rfl rfl (r_bool Try.underlying4 rfl rfl (.inl rfl) rfl) ?_
                refine at_val rfl rfl rfl (r_pick rfl rfl rfl) ?_
                refine at_val rfl rfl rfl (r_move rfl) ?_
                rcases of_ite hF with ⟨h63, hF⟩ | ⟨h63, hF⟩
                · refine at_fix (g := 94) rfl h63 ?_
                  refine at_guard_yes rfl rfl rfl ?_
                  refine at_val rfl rfl rfl (r_move rfl) ?_
                  refine at_guard_yes rfl rfl rfl ?_
                  refine at_val rfl rfl rfl (r_move rfl) ?_
                  rcases of_ite hF with ⟨h64, hF⟩ | ⟨h64, hF⟩
                  · refine at_fix (g := 96) rfl h64 ?_
                    refine at_guard_yes rfl rfl rfl ?_
                    refine at_val rfl rfl rfl (r_move rfl) ?_
                    refine at_guard_yes rfl rfl rfl ?_
                    refine at_val rfl rfl rfl (r_pick rfl rfl rfl) ?_
                    refine at_guard_yes rfl rfl rfl ?_
                    refine at_val rfl rfl rfl (r_not rfl) ?_
                    refine at_val rfl rfl rfl (r_pick rfl rfl rfl) ?_
                    refine at_val rfl rfl rfl (r_move rfl) ?_
                    rcases of_ite hF with ⟨h65, hF⟩ | ⟨h65, hF⟩
                    · refine at_fix (g := 101) rfl h65 ?_
                      refine at_guard_yes rfl rfl rfl ?_
                      obtain ⟨t66, ht66, hF⟩ := of_bindM hF
                      refine at_callB Try.func23 rfl (by kernel_rfl) rfl rfl (fun w hw => crawlwaylaw25_alive_ok  _ ht66 w) ?_
                      refine at_val rfl rfl rfl (r_pick rfl rfl rfl) ?_
                      refine at_val rfl rfl rfl (r_assign rfl) ?_
                      refine at_nil ?_
                      refine at_drop (H := _) .z ?_
                      refine at_drop (H := _) .z ?_
                      refine at_drop (H := _) .z ?_
                      refine at_drop (H := _) .z ?_
                      refine at_weak [(4, _)] ⟨rfl, trivial⟩ ?_
                      refine at_then_normal ?_
                      refine at_ret ?_
                      have K := of_some hF
                      subst K
                      exact at_return1 rfl rfl (fun w1 hw => ⟨rfl, hw.below⟩)
                    · refine at_fix (g := 101) rfl h65 ?_
                      refine at_guard_no rfl rfl rfl rfl rfl ?_
                      refine at_val rfl rfl rfl (r_pick rfl rfl rfl) ?_
                      refine at_val rfl rfl rfl (r_assign rfl) ?_
                      refine at_nil ?_
                      refine at_drop (H := _) .z ?_
                      refine at_drop (H := _) .z ?_
                      refine at_drop (H := _) .z ?_
                      refine at_drop (H := _) .z ?_
                      refine at_weak [(4, _)] ⟨rfl, trivial⟩ ?_
                      refine at_then_normal ?_
                      refine at_ret ?_
                      have K := of_some hF
                      subst K
                      exact at_return1 rfl rfl (fun w1 hw => ⟨rfl, hw.below⟩)
                  · refine at_fix (g := 96) rfl h64 ?_
                    refine at_guard_no rfl rfl rfl rfl rfl ?_
                    refine at_guard_yes rfl rfl rfl ?_
                    refine at_val rfl rfl rfl (r_pick rfl rfl rfl) ?_
                    refine at_guard_yes rfl rfl rfl ?_
                    refine at_val rfl rfl rfl (r_not rfl) ?_
                    refine at_val rfl rfl rfl (r_pick rfl rfl rfl) ?_
                    refine at_val rfl rfl rfl (r_move rfl) ?_
                    refine at_guard_yes rfl rfl rfl ?_
                    obtain ⟨t67, ht67, hF⟩ := of_bindM hF
                    refine at_callB Try.func23 rfl (by kernel_rfl) rfl rfl (fun w hw => crawlwaylaw25_alive_ok  _ ht67 w) ?_
                    refine at_val rfl rfl rfl (r_pick rfl rfl rfl) ?_
                    refine at_val rfl rfl rfl (r_assign rfl) ?_
                    refine at_nil ?_
                    refine at_drop (H := _) .z ?_
                    refine at_drop (H := _) .z ?_
                    refine at_drop (H := _) .z ?_
                    refine at_drop (H := _) .z ?_
                    refine at_weak [(4, _)] ⟨rfl, trivial⟩ ?_
                    refine at_then_normal ?_
                    refine at_ret ?_
                    have K := of_some hF
                    subst K
                    exact at_return1 rfl rfl (fun w1 hw => ⟨rfl, hw.below⟩)
                · refine at_fix (g := 94) rfl h63 ?_
                  refine at_guard_no rfl rfl rfl rfl rfl ?_
                  refine at_guard_no rfl rfl rfl rfl rfl ?_
                  refine at_guard_undef rfl rfl rfl rfl ?_
                  refine at_guard_no rfl rfl rfl rfl rfl ?_
                  refine at_guard_no rfl rfl rfl rfl rfl ?_
                  refine at_val rfl rfl rfl (r_pick rfl rfl rfl) ?_
                  refine at_val rfl rfl rfl (r_move rfl) ?_
                  refine at_guard_no rfl rfl rfl rfl rfl ?_
                  refine at_val rfl rfl rfl (r_pick rfl rfl rfl) ?_
                  refine at_val rfl rfl rfl (r_assign rfl) ?_
                  refine at_nil ?_
                  refine at_drop (H := _) .z ?_
                  refine at_drop (H := _) .z ?_
                  refine at_drop (H := _) .z ?_
                  refine at_drop (H := _) .z ?_
                  refine at_weak [(4, _)] ⟨rfl, trivial⟩ ?_
                  refine at_then_normal ?_
                  refine at_ret ?_
                  have K := of_some hF
                  subst K
                  exact at_return1 rfl rfl (fun w1 hw => ⟨rfl, hw.below⟩)
              · refine at_fix (g := 89) rfl h62 ?_
                refine at_guard_no rfl rfl rfl rfl rfl ?_
                refine at_guard_no rfl rfl rfl rfl rfl ?_
                refine at_guard_no rfl rfl rfl rfl rfl ?_
                refine at_val rfl rfl rfl (r_pick rfl rfl rfl) ?_
                refine at_val rfl rfl rfl (r_move rfl) ?_
                refine at_guard_no rfl rfl rfl rfl rfl ?_
                refine at_guard_no rfl rfl rfl rfl rfl ?_
                refine at_guard_undef rfl rfl rfl rfl ?_
                refine at_guard_no rfl rfl rfl rfl rfl ?_
                refine at_guard_no rfl rfl rfl rfl rfl ?_
                refine at_val rfl rfl rfl (r_pick rfl rfl rfl) ?_
                refine at_val rfl rfl rfl (r_move rfl) ?_
                refine at_guard_no rfl rfl rfl rfl rfl ?_
                refine at_val rfl rfl rfl (r_pick rfl rfl rfl) ?_
                refine at_val rfl rfl rfl (r_assign rfl) ?_
                refine at_nil ?_
                refine at_drop (H := _) .z ?_
                refine at_drop (H := _) .z ?_
                refine at_drop (H := _) .z ?_
                refine at_drop (H := _) .z ?_
                refine at_weak [(4, _)] ⟨rfl, trivial⟩ ?_
                refine at_then_normal ?_
                refine at_ret ?_
                have K := of_some hF
                subst K
                exact at_return1 rfl rfl (fun w1 hw => ⟨rfl, hw.below⟩)
            · refine at_fix (g := 84) rfl h61 ?_
              refine at_guard_no rfl rfl rfl rfl rfl ?_
              refine at_guard_no rfl rfl rfl rfl rfl ?_
              refine at_guard_no rfl rfl rfl rfl rfl ?_
              refine at_val rfl rfl rfl (r_pick rfl rfl rfl) ?_
              refine at_val rfl rfl rfl (r_move rfl) ?_
              refine at_guard_no rfl rfl rfl rfl rfl ?_
              refine at_guard_no rfl rfl rfl rfl rfl ?_
              refine at_guard_no rfl rfl rfl rfl rfl ?_
              refine at_val rfl rfl rfl (r_pick rfl rfl rfl) ?_
              refine at_val rfl rfl rfl (r_move rfl) ?_
              refine at_guard_no rfl rfl rfl rfl rfl ?_
              refine at_guard_no rfl rfl rfl rfl rfl ?_
              refine at_guard_undef rfl rfl rfl rfl ?_
              refine at_guard_no rfl rfl rfl rfl rfl ?_
              refine at_guard_no rfl rfl rfl rfl rfl ?_
              refine at_val rfl rfl rfl (r_pick rfl rfl rfl) ?_
              refine at_val rfl rfl rfl (r_move rfl) ?_
              refine at_guard_no rfl rfl rfl rfl rfl ?_
              refine at_val rfl rfl rfl (r_pick rfl rfl rfl) ?_
              refine at_val rfl rfl rfl (r_assign rfl) ?_
              refine at_nil ?_
              refine at_drop (H := _) .z ?_
              refine at_drop (H := _) .z ?_
              refine at_drop (H := _) .z ?_
              refine at_drop (H := _) .z ?_
              refine at_weak [(4, _)] ⟨rfl, trivial⟩ ?_
              refine at_then_normal ?_
              refine at_ret ?_
              have K := of_some hF
              subst K
              exact at_return1 rfl rfl (fun w1 hw => ⟨rfl, hw.below⟩)
          · refine at_fix (g := 79) rfl h60 ?_
            refine at_guard_no rfl rfl rfl rfl rfl ?_
            refine at_guard_no rfl rfl rfl rfl rfl ?_
            refine at_guard_no rfl rfl rfl rfl rfl ?_
            refine at_val rfl rfl rfl (r_pick rfl rfl rfl) ?_
            refine at_val rfl rfl rfl (r_move rfl) ?_
            refine at_guard_no rfl rfl rfl rfl rfl ?_
            refine at_guard_no rfl rfl rfl rfl rfl ?_
            refine at_guard_no rfl rfl rfl rfl rfl ?_
            refine at_val rfl rfl rfl (r_pick rfl rfl rfl) ?_
            refine at_val rfl rfl rfl (r_move rfl) ?_
            refine at_guard_no rfl rfl rfl rfl rfl ?_
            refine at_guard_no rfl rfl rfl rfl rfl ?_
            refine at_guard_no rfl rfl rfl rfl rfl ?_
            refine at_val rfl rfl rfl (r_pick rfl rfl rfl) ?_
            refine at_val rfl rfl rfl (r_move rfl) ?_
            refine at_guard_no rfl rfl rfl rfl rfl ?_
            refine at_guard_no rfl rfl rfl rfl rfl ?_
            refine at_guard_undef rfl rfl rfl rfl ?_
            refine at_guard_no rfl rfl rfl rfl rfl ?_
            refine at_guard_no rfl rfl rfl rfl rfl ?_
            refine at_val rfl rfl rfl (r_pick rfl rfl rfl) ?_
            refine at_val rfl rfl rfl (r_move rfl) ?_
            refine at_guard_no rfl rfl rfl rfl rfl ?_
            refine at_val rfl rfl rfl (r_pick rfl rfl rfl) ?_
            refine at_val rfl rfl rfl (r_assign rfl) ?_
            refine at_nil ?_
            refine at_drop (H := _) .z ?_
            refine at_drop (H := _) .z ?_
            refine at_drop (H := _) .z ?_
            refine at_drop (H := _) .z ?_
            refine at_weak [(4, _)] ⟨rfl, trivial⟩ ?_
            refine at_then_normal ?_
            refine at_ret ?_
            have K := of_some hF
            subst K
            exact at_return1 rfl rfl (fun w1 hw => ⟨rfl, hw.below⟩)
end Go.Proofs.Ythccncpephpdjaa
