/- Functions with the same answers as the Go functions that they are named for, and the proofs of it, by a program of this project (gen.py). -/
import Derived.Test.YthccncpephpdjaaT
import Derived.Test.YthccncpephpdjaaShelf
import Derived.Test.YthccncpephpdjaaW
import Derived.Test.YthccncpephpdjaaL
import Derived.Test.YthccncpephpdjaaR
import Derived.Test.YthccncpephpdjaaN
import Derived.Test.YthccncpephpdjaaLit
import Derived.Test.YthccncpephpdjaaInl
import Derived.Test.YthccncpephpdjaaHp
import Derived.Test.YthccncpephpdjaaProg
import Derived.Test.YthccncpephpdjaaU1
import Derived.Test.YthccncpephpdjaaU2
import Derived.Test.YthccncpephpdjaaU3
set_option linter.unusedVariables false
set_option linter.unusedSimpArgs false
namespace Go.Proofs.Ythccncpephpdjaa
open E Go.RowKit


def crawlwaylaw25_TrieNobody (x0 : Int) (x1 : S_crawlwaylaw25_Deed) (x2 : S_api_Addr) : Option (Bool) :=
  trie_New ([] : List HV) x0 >>= fun t3 => if (x0 == 4) = true then (if ((!(Option.isNone t3.1)) != true) = true then (some false) else (trie_Trie_Get t3.2 (none : Option Nat) x1.f_P >>= fun t9 => trie_Trie_Find t3.2 (none : Option Nat) x2 >>= fun t10 => trie_Trie_Put t3.2 (none : Option Nat) x1.f_P x1.f_Own >>= fun t12 => if (t12.1 == 2) = true then (trie_Trie_Drop t12.2 (none : Option Nat) x1.f_P >>= fun t17 => if (t17.1 == 2) = true then (if (t9.1 == 0) = true then (if (!t9.2) = true then (if (decide (t10.1 = ({ f_P := ({ f_A := ({ f_V := (0 : Int), f_B := (Vector.replicate 16 (0 : Int) : (Vector Int 16)) } : S_api_Addr), f_Bits := (0 : Int) } : S_api_Prefix), f_Owner := (0 : Int) } : S_api_Entry))) = true then (if (!t10.2) = true then (trie_Trie_All t17.2 (none : Option Nat) >>= fun t23 => if ((t23.length : Int) == 0) = true then (trie_Trie_Len t17.2 (none : Option Nat) >>= fun t27 => if (t27 == 0) = true then (crawlwaylaw25_alive >>= fun t29 => some t29) else (some false)) else (some false)) else (some false)) else (some false)) else (some false)) else (some false)) else (some false)) else (some false))) else (if ((!(Option.isNone t3.1)) != (x0 == 6)) = true then (some false) else (trie_Trie_Get t3.2 (none : Option Nat) x1.f_P >>= fun t31 => trie_Trie_Find t3.2 (none : Option Nat) x2 >>= fun t32 => trie_Trie_Put t3.2 (none : Option Nat) x1.f_P x1.f_Own >>= fun t34 => if (t34.1 == 2) = true then (trie_Trie_Drop t34.2 (none : Option Nat) x1.f_P >>= fun t39 => if (t39.1 == 2) = true then (if (t31.1 == 0) = true then (if (!t31.2) = true then (if (decide (t32.1 = ({ f_P := ({ f_A := ({ f_V := (0 : Int), f_B := (Vector.replicate 16 (0 : Int) : (Vector Int 16)) } : S_api_Addr), f_Bits := (0 : Int) } : S_api_Prefix), f_Owner := (0 : Int) } : S_api_Entry))) = true then (if (!t32.2) = true then (trie_Trie_All t39.2 (none : Option Nat) >>= fun t45 => if ((t45.length : Int) == 0) = true then (trie_Trie_Len t39.2 (none : Option Nat) >>= fun t49 => if (t49 == 0) = true then (crawlwaylaw25_alive >>= fun t51 => some t51) else (some false)) else (some false)) else (some false)) else (some false)) else (some false)) else (some false)) else (some false)) else (some false)))
theorem crawlwaylaw25_TrieNobody_ok (x0 : Int) (x1 : S_crawlwaylaw25_Deed) (x2 : S_api_Addr) (r : Bool) (hF : crawlwaylaw25_TrieNobody x0 x1 x2 = some r) (w : World) :
    Calls Try.prog 8 #[.int .i64 x0, .agg (Cd.cs c_crawlwaylaw25_Deed x1).toArray, .agg (Cd.cs c_api_Addr x2).toArray] w (fun e w' => e = .returned (.bool r) ∧ Below w.heap.size w w') := by
  unfold crawlwaylaw25_TrieNobody at hF
  refine calls_enter (l := [.int .i64 x0, .agg (Cd.cs c_crawlwaylaw25_Deed x1).toArray, .agg (Cd.cs c_api_Addr x2).toArray]) Try.func8 rfl rfl rfl ?_
  refine at_start ?_
  refine at_heap0 hK ?_
  intro gh
  refine at_weak [(0, _), (1, _), (2, _)] ⟨rfl, rfl, rfl, trivial⟩ ?_
  refine at_seq ?_
  refine at_region ?_
  refine at_box (cs := Cd.cs c_crawlwaylaw25_Deed x1) rfl rfl rfl ?_
  intro b1
  refine at_box (cs := Cd.cs c_api_Addr x2) rfl rfl rfl ?_
  intro b2
  refine at_val rfl rfl rfl (r_assign rfl) ?_
  refine at_nil ?_
  refine at_weak [(0, _), (4, _), (5, _)] ⟨rfl, rfl, rfl, trivial⟩ ?_
  refine at_then_normal ?_
  refine at_seq ?_
  refine at_seq ?_
  refine at_region ?_
  refine at_val rfl rfl rfl (r_move rfl) ?_
  obtain ⟨t3, ht3, hF⟩ := of_bindM hF
  refine at_front (.s .z) ?_
  refine at_front (.s .z) ?_
  refine at_front (.s (.s .z)) ?_
  refine at_callH (γ := Unit) (h' := t3.2) (V := fun z gh => pv gh t3.1) (T := fun z => [cellsE b2 (Cd.cs c_api_Addr x2) 32, cellsE b1 (Cd.cs c_crawlwaylaw25_Deed x1) 48]) Try.func24 rfl (by kernel_rfl) rfl rfl (fun w hw => (trie_New_ok ht3 hw).mono (by rintro e w' ⟨gh, he, hw'⟩; exact ⟨gh, (), he, hw'⟩)) ?_
  rintro gh ⟨⟩ hg4
  refine at_val rfl rfl rfl (r_pnil (p := t3.1) Try.underlying42 rfl rfl (.inr rfl) rfl) ?_
  refine at_val rfl rfl rfl (r_move rfl) ?_
  refine at_val rfl rfl rfl (r_ieql rfl rfl) ?_
  refine at_val rfl rfl rfl (r_move rfl) ?_
  rcases of_ite hF with ⟨h7, hF⟩ | ⟨h7, hF⟩
  · refine at_fix (g := 17) rfl h7 ?_
    refine at_guard_no rfl rfl rfl rfl rfl ?_
    refine at_guard_no rfl rfl rfl rfl rfl ?_
    refine at_val rfl rfl rfl (r_pick rfl rfl rfl) ?_
    refine at_val rfl rfl rfl (r_bool Try.underlying4 rfl rfl (.inr rfl) rfl) ?_
    refine at_nil ?_
    refine at_weak [(4, _), (5, _), (21, _)] ⟨rfl, rfl, rfl, trivial⟩ ?_
    refine at_then_normal ?_
    rcases of_ite hF with ⟨h8, hF⟩ | ⟨h8, hF⟩
    · refine at_cond_true rfl h8 ?_
      refine at_seq ?_
      refine at_region ?_
      refine at_val rfl rfl rfl (r_assign rfl) ?_
      refine at_nil ?_
      refine at_drop (H := _) (.s .z) ?_
      refine at_drop (H := _) (.s .z) ?_
      refine at_weak [(6, _)] ⟨rfl, trivial⟩ ?_
      refine at_then_normal ?_
      refine at_ret ?_
      refine at_then_ret ?_
      have K := of_some hF
      subst K
      exact at_return1 rfl rfl (fun w1 hw => ⟨rfl, hw.below⟩)
    · refine at_cond_false rfl h8 ?_
      refine at_skip ?_
      refine at_then_normal ?_
      refine at_seq ?_
      refine at_region ?_
      refine at_val rfl rfl rfl (r_assign rfl) ?_
      refine at_nil ?_
      refine at_weak [(4, _), (5, _), (7, _)] ⟨rfl, rfl, rfl, trivial⟩ ?_
      refine at_then_normal ?_
      refine at_seq ?_
      refine at_region ?_
      refine at_val rfl rfl rfl (r_move rfl) ?_
      refine at_val rfl rfl rfl (r_fieldAddr (fo := 1) Try.underlying48 rfl rfl (fun w => ⟨_, Try.sizeOf46 w⟩) rfl) ?_
      refine at_val rfl rfl rfl (r_load_aggc (c := c_api_Prefix) (z := x1.f_P) Try.isAgg46 Try.sizeOf46 rfl (lens_cell (.s (.s .z)) (Lens.comp (Lens.whole _ _) (fun z => { x1 with f_P := z }) (c_crawlwaylaw25_Deed_f_P x1)))) ?_
      obtain ⟨t9, ht9, hF⟩ := of_bindM hF
      refine at_callR .z Try.func31 rfl (by kernel_rfl) rfl rfl (fun w hw => trie_Trie_Get_ok ht9 hw) ?_
      refine at_val rfl rfl rfl (r_move rfl) ?_
      refine at_val rfl rfl rfl (r_extract rfl rfl) ?_
      refine at_val rfl rfl rfl (r_extract rfl rfl) ?_
      refine at_val rfl rfl rfl (r_assign rfl) ?_
      refine at_val rfl rfl rfl (r_assign rfl) ?_
      refine at_nil ?_
      refine at_weak [(4, _), (5, _), (7, _), (8, _), (9, _)] ⟨rfl, rfl, rfl, rfl, rfl, trivial⟩ ?_
      refine at_then_normal ?_
      refine at_seq ?_
      refine at_region ?_
      refine at_val rfl rfl rfl (r_move rfl) ?_
      refine at_val rfl rfl rfl (r_load_aggc (c := c_api_Addr) (z := x2) Try.isAgg32 Try.sizeOf32 rfl (lens_cell (.s .z) (Lens.whole _ _))) ?_
      obtain ⟨t10, ht10, hF⟩ := of_bindM hF
      refine at_callR .z Try.func26 rfl (by kernel_rfl) rfl rfl (fun w hw => trie_Trie_Find_ok ht10 hw) ?_
      refine at_val rfl rfl rfl (r_move rfl) ?_
      refine at_val rfl rfl rfl (r_extract rfl rfl) ?_
      refine at_val rfl rfl rfl (r_extract rfl rfl) ?_
      refine at_alloc (cs := Cd.cs c_api_Entry ({ f_P := ({ f_A := ({ f_V := (0 : Int), f_B := (Vector.replicate 16 (0 : Int) : (Vector Int 16)) } : S_api_Addr), f_Bits := (0 : Int) } : S_api_Prefix), f_Owner := (0 : Int) } : S_api_Entry)) Try.zeroValue52 rfl rfl ?_
      intro b11
      refine at_store (c := c_api_Entry) (z := t10.1) .z (Lens.whole _ _) Try.sizeOf52 rfl rfl rfl ?_
      refine at_val rfl rfl rfl (r_assign rfl) ?_
      refine at_nil ?_
      refine at_drop (H := _) (.s (.s .z)) ?_
      refine at_weak [(4, _), (7, _), (8, _), (9, _), (10, _), (11, _)] ⟨rfl, rfl, rfl, rfl, rfl, rfl, trivial⟩ ?_
      refine at_then_normal ?_
      refine at_seq ?_
      refine at_region ?_
      refine at_val rfl rfl rfl (r_move rfl) ?_
      refine at_val rfl rfl rfl (r_fieldAddr (fo := 1) Try.underlying48 rfl rfl (fun w => ⟨_, Try.sizeOf46 w⟩) rfl) ?_
      refine at_val rfl rfl rfl (r_load_aggc (c := c_api_Prefix) (z := x1.f_P) Try.isAgg46 Try.sizeOf46 rfl (lens_cell (.s (.s .z)) (Lens.comp (Lens.whole _ _) (fun z => { x1 with f_P := z }) (c_crawlwaylaw25_Deed_f_P x1)))) ?_
      refine at_val rfl rfl rfl (r_fieldAddr (fo := 19) Try.underlying48 rfl rfl (fun w => ⟨_, Try.sizeOf3 w⟩) rfl) ?_
      refine at_val rfl rfl rfl (r_load_cell Try.isAgg3 rfl (lens_cell0 (c := (cInt .i64)) (y := x1.f_Own) (.s (.s .z)) (Lens.comp (Lens.whole _ _) (fun z => { x1 with f_Own := z }) (c_crawlwaylaw25_Deed_f_Own x1)) rfl)) ?_
      obtain ⟨t12, ht12, hF⟩ := of_bindM hF
      refine at_front (.s .z) ?_
      refine at_callH (γ := Unit) (h' := t12.2) (V := fun z gh => .int .i64 t12.1) (T := fun z => [cellsE b11 (Cd.cs c_api_Entry t10.1) 52, cellsE b1 (Cd.cs c_crawlwaylaw25_Deed x1) 48]) Try.func33 rfl (by kernel_rfl) rfl rfl (fun w hw => (trie_Trie_Put_ok ht12 hw).mono (by rintro e w' ⟨gh, he, hw'⟩; exact ⟨gh, (), he, hw'⟩)) ?_
      rintro gh ⟨⟩ hg13
      refine at_val rfl rfl rfl (r_ieql rfl rfl) ?_
      refine at_val rfl rfl rfl (r_move rfl) ?_
      rcases of_ite hF with ⟨h16, hF⟩ | ⟨h16, hF⟩
      · refine at_fix (g := 42) rfl h16 ?_
        refine at_guard_yes rfl rfl rfl ?_
        refine at_val rfl rfl rfl (r_move rfl) ?_
        refine at_guard_yes rfl rfl rfl ?_
        refine at_val rfl rfl rfl (r_fieldAddr (fo := 1) Try.underlying48 rfl rfl (fun w => ⟨_, Try.sizeOf46 w⟩) rfl) ?_
        refine at_guard_yes rfl rfl rfl ?_
        refine at_val rfl rfl rfl (r_load_aggc (c := c_api_Prefix) (z := x1.f_P) Try.isAgg46 Try.sizeOf46 rfl (lens_cell (.s (.s .z)) (Lens.comp (Lens.whole _ _) (fun z => { x1 with f_P := z }) (c_crawlwaylaw25_Deed_f_P x1)))) ?_
        refine at_guard_yes rfl rfl rfl ?_
        obtain ⟨t17, ht17, hF⟩ := of_bindM hF
        refine at_callN (v := .int .i64 t17.1) (T := [heapE hK gz 0 gh t17.2, cellsE b11 (Cd.cs c_api_Entry t10.1) 52, cellsE b1 (Cd.cs c_crawlwaylaw25_Deed x1) 48]) Try.func34 rfl (by kernel_rfl) rfl rfl (fun w hw => trie_Trie_Drop_ok ht17 hw) ?_
        refine at_guard_yes rfl rfl rfl ?_
        refine at_val rfl rfl rfl (r_ieql rfl rfl) ?_
        refine at_val rfl rfl rfl (r_pick rfl rfl rfl) ?_
        refine at_val rfl rfl rfl (r_move rfl) ?_
        rcases of_ite hF with ⟨h18, hF⟩ | ⟨h18, hF⟩
        · refine at_fix (g := 49) rfl h18 ?_
          refine at_guard_yes rfl rfl rfl ?_
          refine at_val rfl rfl rfl (r_move rfl) ?_
          refine at_guard_yes rfl rfl rfl ?_
          refine at_val rfl rfl rfl (r_ieql rfl rfl) ?_
          refine at_val rfl rfl rfl (r_pick rfl rfl rfl) ?_
          refine at_val rfl rfl rfl (r_move rfl) ?_
          rcases of_ite hF with ⟨h19, hF⟩ | ⟨h19, hF⟩
          · refine at_fix (g := 53) rfl h19 ?_
            refine at_guard_yes rfl rfl rfl ?_
            refine at_val rfl rfl rfl (r_move rfl) ?_
            refine at_guard_yes rfl rfl rfl ?_
            refine at_val rfl rfl rfl (r_not rfl) ?_
            refine at_val rfl rfl rfl (r_pick rfl rfl rfl) ?_
            refine at_val rfl rfl rfl (r_move rfl) ?_
            rcases of_ite hF with ⟨h20, hF⟩ | ⟨h20, hF⟩
            · refine at_fix (g := 57) rfl h20 ?_
              refine at_guard_yes rfl rfl rfl ?_
              refine at_val rfl rfl rfl (r_load_aggc (c := c_api_Entry) (z := t10.1) Try.isAgg52 Try.sizeOf52 rfl (lens_cell (.s .z) (Lens.whole _ _))) ?_
              refine at_guard_yes rfl rfl rfl ?_
              refine at_val rfl rfl rfl (r_build_struct (zs := Cd.cs c_api_Entry ({ f_P := ({ f_A := ({ f_V := (0 : Int), f_B := (Vector.replicate 16 (0 : Int) : (Vector Int 16)) } : S_api_Addr), f_Bits := (0 : Int) } : S_api_Prefix), f_Owner := (0 : Int) } : S_api_Entry)) (cs := Cd.cs c_api_Entry ({ f_P := ({ f_A := ({ f_V := (0 : Int), f_B := (Vector.replicate 16 (0 : Int) : (Vector Int 16)) } : S_api_Addr), f_Bits := (0 : Int) } : S_api_Prefix), f_Owner := (0 : Int) } : S_api_Entry)) Try.underlying52 Try.zeroValue52 rfl (places_api_Entry_52) rfl rfl) ?_
              refine at_guard_yes rfl rfl rfl ?_
              refine at_val rfl rfl rfl (r_eqagg (c := c_api_Entry) (a := t10.1) (b := ({ f_P := ({ f_A := ({ f_V := (0 : Int), f_B := (Vector.replicate 16 (0 : Int) : (Vector Int 16)) } : S_api_Addr), f_Bits := (0 : Int) } : S_api_Prefix), f_Owner := (0 : Int) } : S_api_Entry)) (eq_api_Entry_52) rfl Try.eqGuardType52 rfl rfl (.inl rfl) rfl) ?_
              refine at_val rfl rfl rfl (r_pick rfl rfl rfl) ?_
              refine at_val rfl rfl rfl (r_move rfl) ?_
              rcases of_ite hF with ⟨h21, hF⟩ | ⟨h21, hF⟩
              · refine at_fix (g := 62) rfl h21 ?_
                refine at_guard_yes rfl rfl rfl ?_
                refine at_val rfl rfl rfl (r_move rfl) ?_
                refine at_guard_yes rfl rfl rfl ?_
                refine at_val rfl rfl rfl (r_not rfl) ?_
                refine at_val rfl rfl rfl (r_pick rfl rfl rfl) ?_
                refine at_val rfl rfl rfl (r_move rfl) ?_
                rcases of_ite hF with ⟨h22, hF⟩ | ⟨h22, hF⟩
                · refine at_fix (g := 66) rfl h22 ?_
                  refine at_guard_yes rfl rfl rfl ?_
                  refine at_val rfl rfl rfl (r_move rfl) ?_
                  refine at_guard_yes rfl rfl rfl ?_
                  obtain ⟨t23, ht23, hF⟩ := of_bindM hF
                  refine at_callG (V := fun p cap => .slice p t23.length cap) (T := fun p cap => [heapE hK gz 0 gh t17.2, rowE c_api_Entry 52 p cap t23, cellsE b11 (Cd.cs c_api_Entry t10.1) 52, cellsE b1 (Cd.cs c_crawlwaylaw25_Deed x1) 48]) Try.func30 rfl (by kernel_rfl) rfl rfl (fun w hw => trie_Trie_All_ok ht23 hw) ?_
                  intro p24 c25
                  refine at_guard_yes rfl rfl rfl ?_
                  refine at_val rfl rfl rfl (r_len_sl Try.underlying44 rfl) ?_
                  refine at_guard_yes rfl rfl rfl ?_
                  refine at_val rfl rfl rfl (r_ieql rfl rfl) ?_
                  refine at_val rfl rfl rfl (r_pick rfl rfl rfl) ?_
                  refine at_val rfl rfl rfl (r_move rfl) ?_
                  rcases of_ite hF with ⟨h26, hF⟩ | ⟨h26, hF⟩
                  · refine at_fix (g := 72) rfl h26 ?_
                    refine at_guard_yes rfl rfl rfl ?_
                    refine at_val rfl rfl rfl (r_move rfl) ?_
                    refine at_guard_yes rfl rfl rfl ?_
                    obtain ⟨t27, ht27, hF⟩ := of_bindM hF
                    refine at_callR .z Try.func28 rfl (by kernel_rfl) rfl rfl (fun w hw => trie_Trie_Len_ok ht27 hw) ?_
                    refine at_guard_yes rfl rfl rfl ?_
                    refine at_val rfl rfl rfl (r_ieql rfl rfl) ?_
                    refine at_val rfl rfl rfl (r_pick rfl rfl rfl) ?_
                    refine at_val rfl rfl rfl (r_move rfl) ?_
                    rcases of_ite hF with ⟨h28, hF⟩ | ⟨h28, hF⟩
                    · refine at_fix (g := 77) rfl h28 ?_
                      refine at_guard_yes rfl rfl rfl ?_
                      obtain ⟨t29, ht29, hF⟩ := of_bindM hF
                      refine at_callB Try.func23 rfl (by kernel_rfl) rfl rfl (fun w hw => crawlwaylaw25_alive_ok  _ ht29 w) ?_
                      refine at_val rfl rfl rfl (r_pick rfl rfl rfl) ?_
                      refine at_val rfl rfl rfl (r_assign rfl) ?_
                      refine at_nil ?_
                      refine at_drop (H := _) (.s .z) ?_
                      refine at_drop (H := _) (.s .z) ?_
                      refine at_drop (H := _) (.s .z) ?_
                      refine at_weak [(6, _)] ⟨rfl, trivial⟩ ?_
                      refine at_then_normal ?_
                      refine at_ret ?_
                      have K := of_some hF
                      subst K
                      exact at_return1 rfl rfl (fun w1 hw => ⟨rfl, hw.below⟩)
                    · refine at_fix (g := 77) rfl h28 ?_
                      refine at_guard_no rfl rfl rfl rfl rfl ?_
                      refine at_val rfl rfl rfl (r_pick rfl rfl rfl) ?_
                      refine at_val rfl rfl rfl (r_assign rfl) ?_
                      refine at_nil ?_
                      refine at_drop (H := _) (.s .z) ?_
                      refine at_drop (H := _) (.s .z) ?_
                      refine at_drop (H := _) (.s .z) ?_
                      refine at_weak [(6, _)] ⟨rfl, trivial⟩ ?_
                      refine at_then_normal ?_
                      refine at_ret ?_
                      have K := of_some hF
                      subst K
                      exact at_return1 rfl rfl (fun w1 hw => ⟨rfl, hw.below⟩)
                  · refine at_fix (g := 72) rfl h26 ?_
                    refine at_guard_no rfl rfl rfl rfl rfl ?_
                    refine at_guard_no rfl rfl rfl rfl rfl ?_
                    refine at_guard_no rfl rfl rfl rfl rfl ?_
                    refine at_val rfl rfl rfl (r_pick rfl rfl rfl) ?_
                    refine at_val rfl rfl rfl (r_move rfl) ?_
                    refine at_guard_no rfl rfl rfl rfl rfl ?_
                    refine at_val rfl rfl rfl (r_pick rfl rfl rfl) ?_
                    refine at_val rfl rfl rfl (r_assign rfl) ?_
                    refine at_nil ?_
                    refine at_drop (H := _) (.s .z) ?_
                    refine at_drop (H := _) (.s .z) ?_
                    refine at_drop (H := _) (.s .z) ?_
                    refine at_weak [(6, _)] ⟨rfl, trivial⟩ ?_
                    refine at_then_normal ?_
                    refine at_ret ?_
                    have K := of_some hF
                    subst K
                    exact at_return1 rfl rfl (fun w1 hw => ⟨rfl, hw.below⟩)
                · refine at_fix (g := 66) rfl h22 ?_
                  refine at_guard_no rfl rfl rfl rfl rfl ?_
                  refine at_guard_no rfl rfl rfl rfl rfl ?_
                  refine at_guard_no rfl rfl rfl rfl rfl ?_
                  refine at_guard_no rfl rfl rfl rfl rfl ?_
                  refine at_val rfl rfl rfl (r_pick rfl rfl rfl) ?_
                  refine at_val rfl rfl rfl (r_move rfl) ?_
                  refine at_guard_no rfl rfl rfl rfl rfl ?_
                  refine at_guard_no rfl rfl rfl rfl rfl ?_
                  refine at_guard_no rfl rfl rfl rfl rfl ?_
                  refine at_val rfl rfl rfl (r_pick rfl rfl rfl) ?_
                  refine at_val rfl rfl rfl (r_move rfl) ?_
                  refine at_guard_no rfl rfl rfl rfl rfl ?_
                  refine at_val rfl rfl rfl (r_pick rfl rfl rfl) ?_
                  refine at_val rfl rfl rfl (r_assign rfl) ?_
                  refine at_nil ?_
                  refine at_drop (H := _) (.s .z) ?_
                  refine at_drop (H := _) (.s .z) ?_
                  refine at_weak [(6, _)] ⟨rfl, trivial⟩ ?_
                  refine at_then_normal ?_
                  refine at_ret ?_
                  have K := of_some hF
                  subst K
                  exact at_return1 rfl rfl (fun w1 hw => ⟨rfl, hw.below⟩)
              · refine at_fix (g := 62) rfl h21 ?_
                refine at_guard_no rfl rfl rfl rfl rfl ?_
                refine at_guard_no rfl rfl rfl rfl rfl ?_
                refine at_val rfl rfl rfl (r_pick rfl rfl rfl) ?_
                refine at_val rfl rfl rfl (r_move rfl) ?_
                refine at_guard_no rfl rfl rfl rfl rfl ?_
                refine at_guard_no rfl rfl rfl rfl rfl ?_
                refine at_guard_no rfl rfl rfl rfl rfl ?_
                refine at_guard_no rfl rfl rfl rfl rfl ?_
                refine at_val rfl rfl rfl (r_pick rfl rfl rfl) ?_
                refine at_val rfl rfl rfl (r_move rfl) ?_
                refine at_guard_no rfl rfl rfl rfl rfl ?_
                refine at_guard_no rfl rfl rfl rfl rfl ?_
                refine at_guard_no rfl rfl rfl rfl rfl ?_
                refine at_val rfl rfl rfl (r_pick rfl rfl rfl) ?_
                refine at_val rfl rfl rfl (r_move rfl) ?_
                refine at_guard_no rfl rfl rfl rfl rfl ?_
                refine at_val rfl rfl rfl (r_pick rfl rfl rfl) ?_
                refine at_val rfl rfl rfl (r_assign rfl) ?_
                refine at_nil ?_
                refine at_drop (H := _) (.s .z) ?_
                refine at_drop (H := _) (.s .z) ?_
                refine at_weak [(6, _)] ⟨rfl, trivial⟩ ?_
                refine at_then_normal ?_
                refine at_ret ?_
                have K := of_some hF
                subst K
                exact at_return1 rfl rfl (fun w1 hw => ⟨rfl, hw.below⟩)
            · refine at_fix (g := 57) rfl h20 ?_
              refine at_guard_no rfl rfl rfl rfl rfl ?_
              refine at_guard_no rfl rfl rfl rfl rfl ?_
              refine at_guard_no rfl rfl rfl rfl rfl ?_
              refine at_val rfl rfl rfl (r_pick rfl rfl rfl) ?_
              refine at_val rfl rfl rfl (r_move rfl) ?_
              refine at_guard_no rfl rfl rfl rfl rfl ?_
              refine at_guard_no rfl rfl rfl rfl rfl ?_
              refine at_val rfl rfl rfl (r_pick rfl rfl rfl) ?_
              refine at_val rfl rfl rfl (r_move rfl) ?_
              refine at_guard_no rfl rfl rfl rfl rfl ?_
              refine at_guard_no rfl rfl rfl rfl rfl ?_
              refine at_guard_no rfl rfl rfl rfl rfl ?_
              refine at_guard_no rfl rfl rfl rfl rfl ?_
              refine at_val rfl rfl rfl (r_pick rfl rfl rfl) ?_
              refine at_val rfl rfl rfl (r_move rfl) ?_
              refine at_guard_no rfl rfl rfl rfl rfl ?_
              refine at_guard_no rfl rfl rfl rfl rfl ?_
              refine at_guard_no rfl rfl rfl rfl rfl ?_
              refine at_val rfl rfl rfl (r_pick rfl rfl rfl) ?_
              refine at_val rfl rfl rfl (r_move rfl) ?_
              refine at_guard_no rfl rfl rfl rfl rfl ?_
              refine at_val rfl rfl rfl (r_pick rfl rfl rfl) ?_
              refine at_val rfl rfl rfl (r_assign rfl) ?_
              refine at_nil ?_
              refine at_drop (H := _) (.s .z) ?_
              refine at_drop (H := _) (.s .z) ?_
              refine at_weak [(6, _)] ⟨rfl, trivial⟩ ?_
              refine at_then_normal ?_
              refine at_ret ?_
              have K := of_some hF
              subst K
              exact at_return1 rfl rfl (fun w1 hw => ⟨rfl, hw.below⟩)
          · refine at_fix (g := 53) rfl h19 ?_
            refine at_guard_no rfl rfl rfl rfl rfl ?_
            refine at_guard_no rfl rfl rfl rfl rfl ?_
            refine at_val rfl rfl rfl (r_pick rfl rfl rfl) ?_
            refine at_val rfl rfl rfl (r_move rfl) ?_
            refine at_guard_no rfl rfl rfl rfl rfl ?_
            refine at_guard_no rfl rfl rfl rfl rfl ?_
            refine at_guard_no rfl rfl rfl rfl rfl ?_
            refine at_val rfl rfl rfl (r_pick rfl rfl rfl) ?_
            refine at_val rfl rfl rfl (r_move rfl) ?_
            refine at_guard_no rfl rfl rfl rfl rfl ?_
            refine at_guard_no rfl rfl rfl rfl rfl ?_
            refine at_val rfl rfl rfl (r_pick rfl rfl rfl) ?_
            refine at_val rfl rfl rfl (r_move rfl) ?_
            refine at_guard_no rfl rfl rfl rfl rfl ?_
            refine at_guard_no rfl rfl rfl rfl rfl ?_
            refine at_guard_no rfl rfl rfl rfl rfl ?_
            refine at_guard_no rfl rfl rfl rfl rfl ?_
            refine at_val rfl rfl rfl (r_pick rfl rfl rfl) ?_
            refine at_val rfl rfl rfl (r_move rfl) ?_
            refine at_guard_no rfl rfl rfl rfl rfl ?_
            refine at_guard_no rfl rfl rfl rfl rfl ?_
            refine at_guard_no rfl rfl rfl rfl rfl ?_
            refine at_val rfl rfl rfl (r_pick rfl rfl rfl) ?_
            refine at_val rfl rfl rfl (r_move rfl) ?_
            refine at_guard_no rfl rfl rfl rfl rfl ?_
            refine at_val rfl rfl rfl (r_pick rfl rfl rfl) ?_
            refine at_val rfl rfl rfl (r_assign rfl) ?_
            refine at_nil ?_
            refine at_drop (H := _) (.s .z) ?_
            refine at_drop (H := _) (.s .z) ?_
            refine at_weak [(6, _)] ⟨rfl, trivial⟩ ?_
            refine at_then_normal ?_
            refine at_ret ?_
            have K := of_some hF
            subst K
            exact at_return1 rfl rfl (fun w1 hw => ⟨rfl, hw.below⟩)
        · refine at_fix (g := 49) rfl h18 ?_
          refine at_guard_no rfl rfl rfl rfl rfl ?_
          refine at_guard_no rfl rfl rfl rfl rfl ?_
          refine at_val rfl rfl rfl (r_pick rfl rfl rfl) ?_
          refine at_val rfl rfl rfl (r_move rfl) ?_
          refine at_guard_no rfl rfl rfl rfl rfl ?_
          refine at_guard_no rfl rfl rfl rfl rfl ?_
          refine at_val rfl rfl rfl (r_pick rfl rfl rfl) ?_
          refine at_val rfl rfl rfl (r_move rfl) ?_
          refine at_guard_no rfl rfl rfl rfl rfl ?_
          refine at_guard_no rfl rfl rfl rfl rfl ?_
          refine at_guard_no rfl rfl rfl rfl rfl ?_
          refine at_val rfl rfl rfl (r_pick rfl rfl rfl) ?_
          refine at_val rfl rfl rfl (r_move rfl) ?_
          refine at_guard_no rfl rfl rfl rfl rfl ?_
          refine at_guard_no rfl rfl rfl rfl rfl ?_
          refine at_val rfl rfl rfl (r_pick rfl rfl rfl) ?_
          refine at_val rfl rfl rfl (r_move rfl) ?_
          refine at_guard_no rfl rfl rfl rfl rfl ?_
          refine at_guard_no rfl rfl rfl rfl rfl ?_
          refine at_guard_no rfl rfl rfl rfl rfl ?_
          refine at_guard_no rfl rfl rfl rfl rfl ?_
          refine at_val rfl rfl rfl (r_pick rfl rfl rfl) ?_
          refine at_val rfl rfl rfl (r_move rfl) ?_
          refine at_guard_no rfl rfl rfl rfl rfl ?_
          refine at_guard_no rfl rfl rfl rfl rfl ?_
          refine at_guard_no rfl rfl rfl rfl rfl ?_
          refine at_val rfl rfl rfl (r_pick rfl rfl rfl) ?_
          refine at_val rfl rfl rfl (r_move rfl) ?_
          refine at_guard_no rfl rfl rfl rfl rfl ?_
          refine at_val rfl rfl rfl (r_pick rfl rfl rfl) ?_
          refine at_val rfl rfl rfl (r_assign rfl) ?_
          refine at_nil ?_
          refine at_drop (H := _) (.s .z) ?_
          refine at_drop (H := _) (.s .z) ?_
          refine at_weak [(6, _)] ⟨rfl, trivial⟩ ?_
          refine at_then_normal ?_
          refine at_ret ?_
          have K := of_some hF
          subst K
          exact at_return1 rfl rfl (fun w1 hw => ⟨rfl, hw.below⟩)
      · refine at_fix (g := 42) rfl h16 ?_
        refine at_guard_no rfl rfl rfl rfl rfl ?_
        refine at_guard_no rfl rfl rfl rfl rfl ?_
        refine at_guard_no rfl rfl rfl rfl rfl ?_
        refine at_guard_no rfl rfl rfl rfl rfl ?_
        refine at_guard_no rfl rfl rfl rfl rfl ?_
        refine at_val rfl rfl rfl (r_pick rfl rfl rfl) ?_
        refine at_val rfl rfl rfl (r_move rfl) ?_
        refine at_guard_no rfl rfl rfl rfl rfl ?_
        refine at_guard_no rfl rfl rfl rfl rfl ?_
        refine at_val rfl rfl rfl (r_pick rfl rfl rfl) ?_
        refine at_val rfl rfl rfl (r_move rfl) ?_
        refine at_guard_no rfl rfl rfl rfl rfl ?_
        refine at_guard_no rfl rfl rfl rfl rfl ?_
        refine at_val rfl rfl rfl (r_pick rfl rfl rfl) ?_
        refine at_val rfl rfl rfl (r_move rfl) ?_
        refine at_guard_no rfl rfl rfl rfl rfl ?_
        refine at_guard_no rfl rfl rfl rfl rfl ?_
        refine at_guard_no rfl rfl rfl rfl rfl ?_
        refine at_val rfl rfl rfl (r_pick rfl rfl rfl) ?_
        refine at_val rfl rfl rfl (r_move rfl) ?_
        refine at_guard_no rfl rfl rfl rfl rfl ?_
        refine at_guard_no rfl rfl rfl rfl rfl ?_
        refine at_val rfl rfl rfl (r_pick rfl rfl rfl) ?_
        refine at_val rfl rfl rfl (r_move rfl) ?_
        refine at_guard_no rfl rfl rfl rfl rfl ?_
        refine at_guard_no rfl rfl rfl rfl rfl ?_
        refine at_guard_no rfl rfl rfl rfl rfl ?_
        refine at_guard_no rfl rfl rfl rfl rfl ?_
        refine at_val rfl rfl rfl (r_pick rfl rfl rfl) ?_
        refine at_val rfl rfl rfl (r_move rfl) ?_
        refine at_guard_no rfl rfl rfl rfl rfl ?_
        refine at_guard_no rfl rfl rfl rfl rfl ?_
        refine at_guard_no rfl rfl rfl rfl rfl ?_
        refine at_val rfl rfl rfl (r_pick rfl rfl rfl) ?_
        refine at_val rfl rfl rfl (r_move rfl) ?_
        refine at_guard_no rfl rfl rfl rfl rfl ?_
        refine at_val rfl rfl rfl (r_pick rfl rfl rfl) ?_
        refine at_val rfl rfl rfl (r_assign rfl) ?_
        refine at_nil ?_
        refine at_drop (H := _) (.s .z) ?_
        refine at_drop (H := _) (.s .z) ?_
        refine at_weak [(6, _)] ⟨rfl, trivial⟩ ?_
        refine at_then_normal ?_
        refine at_ret ?_
        have K := of_some hF
        subst K
        exact at_return1 rfl rfl (fun w1 hw => ⟨rfl, hw.below⟩)
  · refine at_fix (g := 17) rfl h7 ?_
    refine at_guard_yes rfl rfl rfl ?_
    refine at_val rfl rfl rfl (r_move rfl) ?_
    refine at_guard_yes rfl rfl rfl ?_
    refine at_val rfl rfl rfl (r_ieql rfl rfl) ?_
    refine at_val rfl rfl rfl (r_pick rfl rfl rfl) ?_
    refine at_val rfl rfl rfl (r_bool Try.underlying4 rfl rfl (.inr rfl) rfl) ?_
    refine at_nil ?_
    refine at_weak [(4, _), (5, _), (21, _)] ⟨rfl, rfl, rfl, trivial⟩ ?_
    refine at_then_normal ?_
    rcases of_ite hF with ⟨h30, hF⟩ | ⟨h30, hF⟩
    · refine at_cond_true rfl h30 ?_
      refine at_seq ?_
      refine at_region ?_
      refine at_val rfl rfl rfl (r_assign rfl) ?_
      refine at_nil ?_
      refine at_drop (H := _) (.s .z) ?_
      refine at_drop (H := _) (.s .z) ?_
      refine at_weak [(6, _)] ⟨rfl, trivial⟩ ?_
      refine at_then_normal ?_
      refine at_ret ?_
      refine at_then_ret ?_
      have K := of_some hF
      subst K
      exact at_return1 rfl rfl (fun w1 hw => ⟨rfl, hw.below⟩)
    · refine at_cond_false rfl h30 ?_
      refine at_skip ?_
      refine at_then_normal ?_
      refine at_seq ?_
      refine at_region ?_
      refine at_val rfl rfl rfl (r_assign rfl) ?_
      refine at_nil ?_
      refine at_weak [(4, _), (5, _), (7, _)] ⟨rfl, rfl, rfl, trivial⟩ ?_
      refine at_then_normal ?_
      refine at_seq ?_
      refine at_region ?_
      refine at_val rfl rfl rfl (r_move rfl) ?_
      refine at_val rfl rfl rfl (r_fieldAddr (fo := 1) Try.underlying48 rfl rfl (fun w => ⟨_, Try.sizeOf46 w⟩) rfl) ?_
      refine at_val rfl rfl rfl (r_load_aggc (c := c_api_Prefix) (z := x1.f_P) Try.isAgg46 Try.sizeOf46 rfl (lens_cell (.s (.s .z)) (Lens.comp (Lens.whole _ _) (fun z => { x1 with f_P := z }) (c_crawlwaylaw25_Deed_f_P x1)))) ?_
      obtain ⟨t31, ht31, hF⟩ := of_bindM hF
      refine at_callR .z Try.func31 rfl (by kernel_rfl) rfl rfl (fun w hw => trie_Trie_Get_ok ht31 hw) ?_
      refine at_val rfl rfl rfl (r_move rfl) ?_
      refine at_val rfl rfl rfl (r_extract rfl rfl) ?_
      refine at_val rfl rfl rfl (r_extract rfl rfl) ?_
      refine at_val rfl rfl rfl (r_assign rfl) ?_
      refine at_val rfl rfl rfl (r_assign rfl) ?_
      refine at_nil ?_
      refine at_weak [(4, _), (5, _), (7, _), (8, _), (9, _)] ⟨rfl, rfl, rfl, rfl, rfl, trivial⟩ ?_
      refine at_then_normal ?_
      refine at_seq ?_
      refine at_region ?_
      refine at_val rfl rfl rfl (r_move rfl) ?_
      refine at_val rfl rfl rfl (r_load_aggc (c := c_api_Addr) (z := x2) Try.isAgg32 Try.sizeOf32 rfl (lens_cell (.s .z) (Lens.whole _ _))) ?_
      obtain ⟨t32, ht32, hF⟩ := of_bindM hF
      refine at_callR .z Try.func26 rfl (by kernel_rfl) rfl rfl (fun w hw => trie_Trie_Find_ok ht32 hw) ?_
      refine at_val rfl rfl rfl (r_move rfl) ?_
      refine at_val rfl rfl rfl (r_extract rfl rfl) ?_
      refine at_val rfl rfl rfl (r_extract rfl rfl) ?_
      refine at_alloc (cs := Cd.cs c_api_Entry ({ f_P := ({ f_A := ({ f_V := (0 : Int), f_B := (Vector.replicate 16 (0 : Int) : (Vector Int 16)) } : S_api_Addr), f_Bits := (0 : Int) } : S_api_Prefix), f_Owner := (0 : Int) } : S_api_Entry)) Try.zeroValue52 rfl rfl ?_
      intro b33
      refine at_store (c := c_api_Entry) (z := t32.1) .z (Lens.whole _ _) Try.sizeOf52 rfl rfl rfl ?_
      refine at_val rfl rfl rfl (r_assign rfl) ?_
      refine at_nil ?_
      refine at_drop (H := _) (.s (.s .z)) ?_
      refine at_weak [(4, _), (7, _), (8, _), (9, _), (10, _), (11, _)] ⟨rfl, rfl, rfl, rfl, rfl, rfl, trivial⟩ ?_
      refine at_then_normal ?_
      refine at_seq ?_
      refine at_region ?_
      refine at_val rfl rfl rfl (r_move rfl) ?_
      refine at_val rfl rfl rfl (r_fieldAddr (fo := 1) Try.underlying48 rfl rfl (fun w => ⟨_, Try.sizeOf46 w⟩) rfl) ?_
      refine at_val rfl rfl rfl (r_load_aggc (c := c_api_Prefix) (z := x1.f_P) Try.isAgg46 Try.sizeOf46 rfl (lens_cell (.s (.s .z)) (Lens.comp (Lens.whole _ _) (fun z => { x1 with f_P := z }) (c_crawlwaylaw25_Deed_f_P x1)))) ?_
      refine at_val rfl rfl rfl (r_fieldAddr (fo := 19) Try.underlying48 rfl rfl (fun w => ⟨_, Try.sizeOf3 w⟩) rfl) ?_
      refine at_val rfl rfl rfl (r_load_cell Try.isAgg3 rfl (lens_cell0 (c := (cInt .i64)) (y := x1.f_Own) (.s (.s .z)) (Lens.comp (Lens.whole _ _) (fun z => { x1 with f_Own := z }) (c_crawlwaylaw25_Deed_f_Own x1)) rfl)) ?_
      obtain ⟨t34, ht34, hF⟩ := of_bindM hF
      refine at_front (.s .z) ?_
      refine at_callH (γ := Unit) (h' := t34.2) (V := fun z gh => .int .i64 t34.1) (T := fun z => [cellsE b33 (Cd.cs c_api_Entry t32.1) 52, cellsE b1 (Cd.cs c_crawlwaylaw25_Deed x1) 48]) Try.func33 rfl (by kernel_rfl) rfl rfl (fun w hw => (trie_Trie_Put_ok ht34 hw).mono (by rintro e w' ⟨gh, he, hw'⟩; exact ⟨gh, (), he, hw'⟩)) ?_
      rintro gh ⟨⟩ hg35
      refine at_val rfl rfl rfl (r_ieql rfl rfl) ?_
      refine at_val rfl rfl rfl (r_move rfl) ?_
      rcases of_ite hF with ⟨h38, hF⟩ | ⟨h38, hF⟩
      · refine at_fix (g := 42) rfl h38 ?_
        refine at_guard_yes rfl rfl rfl ?_
        refine at_val rfl rfl rfl (r_move rfl) ?_
        refine at_guard_yes rfl rfl rfl ?_
        refine at_val rfl rfl rfl (r_fieldAddr (fo := 1) Try.underlying48 rfl rfl (fun w => ⟨_, Try.sizeOf46 w⟩) rfl) ?_
        refine at_guard_yes rfl rfl rfl ?_
        refine at_val rfl rfl rfl (r_load_aggc (c := c_api_Prefix) (z := x1.f_P) Try.isAgg46 Try.sizeOf46 rfl (lens_cell (.s (.s .z)) (Lens.comp (Lens.whole _ _) (fun z => { x1 with f_P := z }) (c_crawlwaylaw25_Deed_f_P x1)))) ?_
        refine at_guard_yes rfl rfl rfl ?_
        obtain ⟨t39, ht39, hF⟩ := of_bindM hF
        refine at_callN (v := .int .i64 t39.1) (T := [heapE hK gz 0 gh t39.2, cellsE b33 (Cd.cs c_api_Entry t32.1) 52, cellsE b1 (Cd.cs c_crawlwaylaw25_Deed x1) 48]) Try.func34 rfl (by kernel_rfl) rfl rfl (fun w hw => trie_Trie_Drop_ok ht39 hw) ?_
        refine at_guard_yes rfl rfl rfl ?_
        refine at_val rfl rfl rfl (r_ieql rfl rfl) ?_
        refine at_val rfl rfl rfl (r_pick rfl rfl rfl) ?_
        refine at_val rfl rfl rfl (r_move rfl) ?_
        rcases of_ite hF with ⟨h40, hF⟩ | ⟨h40, hF⟩
        · refine at_fix (g := 49) rfl h40 ?_
          refine at_guard_yes rfl rfl rfl ?_
          refine at_val rfl rfl rfl (r_move rfl) ?_
          refine at_guard_yes rfl rfl rfl ?_
          refine at_val rfl rfl rfl (r_ieql rfl rfl) ?_
          refine at_val rfl rfl rfl (r_pick rfl rfl rfl) ?_
          refine at_val rfl rfl rfl (r_move rfl) ?_
          rcases of_ite hF with ⟨h41, hF⟩ | ⟨h41, hF⟩
          · refine at_fix (g := 53) rfl h41 ?_
            refine at_guard_yes rfl rfl rfl ?_
            refine at_val rfl rfl rfl (r_move rfl) ?_
            refine at_guard_yes rfl rfl rfl ?_
            refine at_val rfl rfl rfl (r_not rfl) ?_
            refine at_val rfl rfl rfl (r_pick rfl rfl rfl) ?_
            refine at_val rfl rfl rfl (r_move rfl) ?_
            rcases of_ite hF with ⟨h42, hF⟩ | ⟨h42, hF⟩
            · refine at_fix (g := 57) rfl h42 ?_
              refine at_guard_yes rfl rfl rfl ?_
              refine at_val rfl rfl rfl (r_load_aggc (c := c_api_Entry) (z := t32.1) Try.isAgg52 Try.sizeOf52 rfl (lens_cell (.s .z) (Lens.whole _ _))) ?_
              refine at_guard_yes rfl rfl rfl ?_
              refine at_val rfl rfl rfl (r_build_struct (zs := Cd.cs c_api_Entry ({ f_P := ({ f_A := ({ f_V := (0 : Int), f_B := (Vector.replicate 16 (0 : Int) : (Vector Int 16)) } : S_api_Addr), f_Bits := (0 : Int) } : S_api_Prefix), f_Owner := (0 : Int) } : S_api_Entry)) (cs := Cd.cs c_api_Entry ({ f_P := ({ f_A := ({ f_V := (0 : Int), f_B := (Vector.replicate 16 (0 : Int) : (Vector Int 16)) } : S_api_Addr), f_Bits := (0 : Int) } : S_api_Prefix), f_Owner := (0 : Int) } : S_api_Entry)) Try.underlying52 Try.zeroValue52 rfl (places_api_Entry_52) rfl rfl) ?_
              refine at_guard_yes rfl rfl rfl ?_
              refine at_val rfl rfl rfl (r_eqagg (c := c_api_Entry) (a := t32.1) (b := ({ f_P := ({ f_A := ({ f_V := (0 : Int), f_B := (Vector.replicate 16 (0 : Int) : (Vector Int 16)) } : S_api_Addr), f_Bits := (0 : Int) } : S_api_Prefix), f_Owner := (0 : Int) } : S_api_Entry)) (eq_api_Entry_52) rfl Try.eqGuardType52 rfl rfl (.inl rfl) rfl) ?_
              refine at_val rfl rfl rfl (r_pick rfl rfl rfl) ?_
              refine at_val rfl rfl rfl (r_move rfl) ?_
              rcases of_ite hF with ⟨h43, hF⟩ | ⟨h43, hF⟩
              · refine at_fix (g := 62) rfl h43 ?_
                refine at_guard_yes rfl rfl rfl ?_
                refine at_val rfl rfl rfl (r_move rfl) ?_
                refine at_guard_yes rfl rfl rfl ?_
                refine at_val rfl rfl rfl (r_not rfl) ?_
                refine at_val rfl rfl rfl (r_pick rfl rfl rfl) ?_
                refine at_val rfl rfl rfl (r_move rfl) ?_
                rcases of_ite hF with ⟨h44, hF⟩ | ⟨h44, hF⟩
                · refine at_fix (g := 66) rfl h44 ?_
                  refine at_guard_yes rfl rfl rfl ?_
                  refine at_val rfl rfl rfl (r_move rfl) ?_
                  refine at_guard_yes rfl rfl rfl ?_
                  obtain ⟨t45, ht45, hF⟩ := of_bindM hF
                  refine at_callG (V := fun p cap => .slice p t45.length cap) (T := fun p cap => [heapE hK gz 0 gh t39.2, rowE c_api_Entry 52 p cap t45, cellsE b33 (Cd.cs c_api_Entry t32.1) 52, cellsE b1 (Cd.cs c_crawlwaylaw25_Deed x1) 48]) Try.func30 rfl (by kernel_rfl) rfl rfl (fun w hw => trie_Trie_All_ok ht45 hw) ?_
                  intro p46 c47
                  refine at_guard_yes rfl rfl rfl ?_
                  refine at_val rfl rfl rfl (r_len_sl Try.underlying44 rfl) ?_
                  refine at_guard_yes rfl rfl rfl ?_
                  refine at_val rfl rfl rfl (r_ieql rfl rfl) ?_
                  refine at_val rfl rfl rfl (r_pick rfl rfl rfl) ?_
                  refine at_val rfl rfl rfl (r_move rfl) ?_
                  rcases of_ite hF with ⟨h48, hF⟩ | ⟨h48, hF⟩
                  · refine at_fix (g := 72) rfl h48 ?_
                    refine at_guard_yes rfl rfl rfl ?_
                    refine at_val rfl rfl rfl (r_move rfl) ?_
                    refine at_guard_yes rfl rfl rfl ?_
                    obtain ⟨t49, ht49, hF⟩ := of_bindM hF
                    refine at_callR .z Try.func28 rfl (by kernel_rfl) rfl rfl (fun w hw => trie_Trie_Len_ok ht49 hw) ?_
                    refine at_guard_yes rfl rfl rfl ?_
                    refine at_val rfl rfl rfl (r_ieql rfl rfl) ?_
                    refine at_val rfl rfl rfl (r_pick rfl rfl rfl) ?_
                    refine at_val rfl rfl rfl (r_move rfl) ?_
                    rcases of_ite hF with ⟨h50, hF⟩ | ⟨h50, hF⟩
                    · refine at_fix (g := 77) rfl h50 ?_
                      refine at_guard_yes rfl rfl rfl ?_
                      obtain ⟨t51, ht51, hF⟩ := of_bindM hF
                      refine at_callB Try.func23 rfl (by kernel_rfl) rfl rfl (fun w hw => crawlwaylaw25_alive_ok  _ ht51 w) ?_
                      refine at_val rfl rfl rfl (r_pick rfl rfl rfl) ?_
                      refine at_val rfl rfl rfl (r_assign rfl) ?_
                      refine at_nil ?_
                      refine at_drop (H := _) (.s .z) ?_
                      refine at_drop (H := _) (.s .z) ?_
                      refine at_drop (H := _) (.s .z) ?_
                      refine at_weak [(6, _)] ⟨rfl, trivial⟩ ?_
                      refine at_then_normal ?_
                      refine at_ret ?_
                      have K := of_some hF
                      subst K
                      exact at_return1 rfl rfl (fun w1 hw => ⟨rfl, hw.below⟩)
                    · refine at_fix (g := 77) rfl h50 ?_
                      refine at_guard_no rfl rfl rfl rfl rfl ?_
                      refine at_val rfl rfl rfl (r_pick rfl rfl rfl) ?_
                      refine at_val rfl rfl rfl (r_assign rfl) ?_
                      refine at_nil ?_
                      refine at_drop (H := _) (.s .z) ?_
                      refine at_drop (H := _) (.s .z) ?_
                      refine at_drop (H := _) (.s .z) ?_
                      refine at_weak [(6, _)] ⟨rfl, trivial⟩ ?_
                      refine at_then_normal ?_
                      refine at_ret ?_
                      have K := of_some hF
                      subst K
                      exact at_return1 rfl rfl (fun w1 hw => ⟨rfl, hw.below⟩)
                  · refine at_fix (g := 72) rfl h48 ?_
                    refine at_guard_no rfl rfl rfl rfl rfl ?_
                    refine at_guard_no rfl rfl rfl rfl rfl ?_
                    refine at_guard_no rfl rfl rfl rfl rfl ?_
                    refine at_val rfl rfl rfl (r_pick rfl rfl rfl) ?_
                    refine at_val rfl rfl rfl (r_move rfl) ?_
                    refine at_guard_no rfl rfl rfl rfl rfl ?_
                    refine at_val rfl rfl rfl (r_pick rfl rfl rfl) ?_
                    refine at_val rfl rfl rfl (r_assign rfl) ?_
                    refine at_nil ?_
                    refine at_drop (H := _) (.s .z) ?_
                    refine at_drop (H := _) (.s .z) ?_
                    refine at_drop (H := _) (.s .z) ?_
                    refine at_weak [(6, _)] ⟨rfl, trivial⟩ ?_
                    refine at_then_normal ?_
                    refine at_ret ?_
                    have K := of_some hF
                    subst K
                    exact at_return1 rfl rfl (fun w1 hw => ⟨rfl, hw.below⟩)
                · refine at_fix (g := 66) rfl h44 ?_
                  refine at_guard_no rfl rfl rfl rfl rfl ?_
                  refine at_guard_no rfl rfl rfl rfl rfl ?_
                  refine at_guard_no rfl rfl rfl rfl rfl ?_
                  refine at_guard_no rfl rfl rfl rfl rfl ?_
                  refine at_val rfl rfl rfl (r_pick rfl rfl rfl) ?_
                  refine at_val rfl rfl rfl (r_move rfl) ?_
                  refine at_guard_no rfl rfl rfl rfl rfl ?_
                  refine at_guard_no rfl rfl rfl rfl rfl ?_
                  refine at_guard_no rfl rfl rfl rfl rfl ?_
                  refine at_val rfl rfl rfl (r_pick rfl rfl rfl) ?_
                  refine at_val rfl rfl rfl (r_move rfl) ?_
                  refine at_guard_no rfl rfl rfl rfl rfl ?_
                  refine at_val rfl rfl rfl (r_pick rfl rfl rfl) ?_
                  refine at_val rfl rfl rfl (r_assign rfl) ?_
                  refine at_nil ?_
                  refine at_drop (H := _) (.s .z) ?_
                  refine at_drop (H := _) (.s .z) ?_
                  refine at_weak [(6, _)] ⟨rfl, trivial⟩ ?_
                  refine at_then_normal ?_
                  refine at_ret ?_
                  have K := of_some hF
                  subst K
                  exact at_return1 rfl rfl (fun w1 hw => ⟨rfl, hw.below⟩)
              · refine at_fix (g := 62) rfl h43 ?_
                refine at_guard_no rfl rfl rfl rfl rfl ?_
                refine at_guard_no rfl rfl rfl rfl rfl ?_
                refine at_val rfl rfl rfl (r_pick rfl rfl rfl) ?_
                refine at_val rfl rfl rfl (r_move rfl) ?_
                refine at_guard_no rfl rfl rfl rfl rfl ?_
                refine at_guard_no rfl rfl rfl rfl rfl ?_
                refine at_guard_no rfl rfl rfl rfl rfl ?_
                refine at_guard_no rfl rfl rfl rfl rfl ?_
                refine at_val rfl rfl rfl (r_pick rfl rfl rfl) ?_
                refine at_val rfl rfl rfl (r_move rfl) ?_
                refine at_guard_no rfl rfl rfl rfl rfl ?_
                refine at_guard_no rfl rfl rfl rfl rfl ?_
                refine at_guard_no rfl rfl rfl rfl rfl ?_
                refine at_val rfl rfl rfl (r_pick rfl rfl rfl) ?_
                refine at_val rfl rfl rfl (r_move rfl) ?_
                refine at_guard_no rfl rfl rfl rfl rfl ?_
                refine at_val rfl rfl rfl (r_pick rfl rfl rfl) ?_
                refine at_val rfl rfl rfl (r_assign rfl) ?_
                refine at_nil ?_
                refine at_drop (H := _) (.s .z) ?_
                refine at_drop (H := _) (.s .z) ?_
                refine at_weak [(6, _)] ⟨rfl, trivial⟩ ?_
                refine at_then_normal ?_
                refine at_ret ?_
                have K := of_some hF
                subst K
                exact at_return1 rfl rfl (fun w1 hw => ⟨rfl, hw.below⟩)
            · refine at_fix (g := 57) rfl h42 ?_
              refine at_guard_no rfl rfl rfl rfl rfl ?_
              refine at_guard_no rfl rfl rfl rfl rfl ?_
              refine at_guard_no rfl rfl rfl rfl rfl ?_
              refine at_val rfl rfl rfl (r_pick rfl rfl rfl) ?_
              refine at_val rfl rfl rfl (r_move rfl) ?_
              refine at_guard_no rfl rfl rfl rfl rfl ?_
              refine at_guard_no rfl rfl rfl rfl rfl ?_
              refine at_val rfl rfl rfl (r_pick rfl rfl rfl) ?_
              refine at_val rfl rfl rfl (r_move rfl) ?_
              refine at_guard_no rfl rfl rfl rfl rfl ?_
              refine at_guard_no rfl rfl rfl rfl rfl ?_
              refine at_guard_no rfl rfl rfl rfl rfl ?_
              refine at_guard_no rfl rfl rfl rfl rfl ?_
              refine at_val rfl rfl rfl (r_pick rfl rfl rfl) ?_
              refine at_val rfl rfl rfl (r_move rfl) ?_
              refine at_guard_no rfl rfl rfl rfl rfl ?_
              refine at_guard_no rfl rfl rfl rfl rfl ?_
              refine at_guard_no rfl rfl rfl rfl rfl ?_
              refine at_val rfl rfl rfl (r_pick rfl rfl rfl) ?_
              refine at_val rfl rfl rfl (r_move rfl) ?_
              refine at_guard_no rfl rfl rfl rfl rfl ?_
              refine at_val rfl rfl rfl (r_pick rfl rfl rfl) ?_
              refine at_val rfl rfl rfl (r_assign rfl) ?_
              refine at_nil ?_
              refine at_drop (H := _) (.s .z) ?_
              refine at_drop (H := _) (.s .z) ?_
              refine at_weak [(6, _)] ⟨rfl, trivial⟩ ?_
              refine at_then_normal ?_
              refine at_ret ?_
              have K := of_some hF
              subst K
              exact at_return1 rfl rfl (fun w1 hw => ⟨rfl, hw.below⟩)
          · refine at_fix (g := 53) rfl h41 ?_
            refine at_guard_no rfl rfl rfl rfl rfl ?_
            refine at_guard_no rfl rfl rfl rfl rfl ?_
            refine at_val rfl rfl rfl (r_pick rfl rfl rfl) ?_
            refine at_val rfl rfl rfl (r_move rfl) ?_
            refine at_guard_no rfl rfl rfl rfl rfl ?_
            refine at_guard_no rfl rfl rfl rfl rfl ?_
            refine at_guard_no rfl rfl rfl rfl rfl ?_
            refine at_val rfl rfl rfl (r_pick rfl rfl rfl) ?_
            refine at_val rfl rfl rfl (r_move rfl) ?_
            refine at_guard_no rfl rfl rfl rfl rfl ?_
            refine at_guard_no rfl rfl rfl rfl rfl ?_
            refine at_val rfl rfl rfl (r_pick rfl rfl rfl) ?_
            refine at_val rfl rfl rfl (r_move rfl) ?_
            refine at_guard_no rfl rfl rfl rfl rfl ?_
            refine at_guard_no rfl rfl rfl rfl rfl ?_
            refine at_guard_no rfl rfl rfl rfl rfl ?_
            refine at_guard_no rfl rfl rfl rfl rfl ?_
            refine at_val rfl rfl rfl (r_pick rfl rfl rfl) ?_
            refine at_val rfl rfl rfl (r_move rfl) ?_
            refine at_guard_no rfl rfl rfl rfl rfl ?_
            refine at_guard_no rfl rfl rfl rfl rfl ?_
            refine at_guard_no rfl rfl rfl rfl rfl ?_
            refine at_val rfl rfl rfl (r_pick rfl rfl rfl) ?_
            refine at_val rfl rfl rfl (r_move rfl) ?_
            refine at_guard_no rfl rfl rfl rfl rfl ?_
            refine at_val rfl rfl rfl (r_pick rfl rfl rfl) ?_
            refine at_val rfl rfl rfl (r_assign rfl) ?_
            refine at_nil ?_
            refine at_drop (H := _) (.s .z) ?_
            refine at_drop (H := _) (.s .z) ?_
            refine at_weak [(6, _)] ⟨rfl, trivial⟩ ?_
            refine at_then_normal ?_
            refine at_ret ?_
            have K := of_some hF
            subst K
            exact at_return1 rfl rfl (fun w1 hw => ⟨rfl, hw.below⟩)
        · refine at_fix (g := 49) rfl h40 ?_
          refine at_guard_no rfl rfl rfl rfl rfl ?_
          refine at_guard_no rfl rfl rfl rfl rfl ?_
          refine at_val rfl rfl rfl (r_pick rfl rfl rfl) ?_
          refine at_val rfl rfl rfl (r_move rfl) ?_
          refine at_guard_no rfl rfl rfl rfl rfl ?_
          refine at_guard_no rfl rfl rfl rfl rfl ?_
          refine at_val rfl rfl rfl (r_pick rfl rfl rfl) ?_
          refine at_val rfl rfl rfl (r_move rfl) ?_
          refine at_guard_no rfl rfl rfl rfl rfl ?_
          refine at_guard_no rfl rfl rfl rfl rfl ?_
          refine at_guard_no rfl rfl rfl rfl rfl ?_
          refine at_val rfl rfl rfl (r_pick rfl rfl rfl) ?_
          refine at_val rfl rfl rfl (r_move rfl) ?_
          refine at_guard_no rfl rfl rfl rfl rfl ?_
          refine at_guard_no rfl rfl rfl rfl rfl ?_
          refine at_val rfl rfl rfl (r_pick rfl rfl rfl) ?_
          refine at_val rfl rfl rfl (r_move rfl) ?_
          refine at_guard_no rfl rfl rfl rfl rfl ?_
          refine at_guard_no rfl rfl rfl rfl rfl ?_
          refine at_guard_no rfl rfl rfl rfl rfl ?_
          refine at_guard_no rfl rfl rfl rfl rfl ?_
          refine at_val rfl rfl rfl (r_pick rfl rfl rfl) ?_
          refine at_val rfl rfl rfl (r_move rfl) ?_
          refine at_guard_no rfl rfl rfl rfl rfl ?_
          refine at_guard_no rfl rfl rfl rfl rfl ?_
          refine at_guard_no rfl rfl rfl rfl rfl ?_
          refine at_val rfl rfl rfl (r_pick rfl rfl rfl) ?_
          refine at_val rfl rfl rfl (r_move rfl) ?_
          refine at_guard_no rfl rfl rfl rfl rfl ?_
          refine at_val rfl rfl rfl (r_pick rfl rfl rfl) ?_
          refine at_val rfl rfl rfl (r_assign rfl) ?_
          refine at_nil ?_
          refine at_drop (H := _) (.s .z) ?_
          refine at_drop (H := _) (.s .z) ?_
          refine at_weak [(6, _)] ⟨rfl, trivial⟩ ?_
          refine at_then_normal ?_
          refine at_ret ?_
          have K := of_some hF
          subst K
          exact at_return1 rfl rfl (fun w1 hw => ⟨rfl, hw.below⟩)
      · refine at_fix (g := 42) rfl h38 ?_
        refine at_guard_no rfl rfl rfl rfl rfl ?_
        refine at_guard_no rfl rfl rfl rfl rfl ?_
        refine at_guard_no rfl rfl rfl rfl rfl ?_
        refine at_guard_no rfl rfl rfl rfl rfl ?_
        refine at_guard_no rfl rfl rfl rfl rfl ?_
        refine at_val rfl rfl rfl (r_pick rfl rfl rfl) ?_
        refine at_val rfl rfl rfl (r_move rfl) ?_
        refine at_guard_no rfl rfl rfl rfl rfl ?_
        refine at_guard_no rfl rfl rfl rfl rfl ?_
        refine at_val rfl rfl rfl (r_pick rfl rfl rfl) ?_
        refine at_val rfl rfl rfl (r_move rfl) ?_
        refine at_guard_no rfl rfl rfl rfl rfl ?_
        refine at_guard_no rfl rfl rfl rfl rfl ?_
        refine at_val rfl rfl rfl (r_pick rfl rfl rfl) ?_
        refine at_val rfl rfl rfl (r_move rfl) ?_
        refine at_guard_no rfl rfl rfl rfl rfl ?_
        refine at_guard_no rfl rfl rfl rfl rfl ?_
        refine at_guard_no rfl rfl rfl rfl rfl ?_
        refine at_val rfl rfl rfl (r_pick rfl rfl rfl) ?_
        refine at_val rfl rfl rfl (r_move rfl) ?_
        refine at_guard_no rfl rfl rfl rfl rfl ?_
        refine at_guard_no rfl rfl rfl rfl rfl ?_
        refine at_val rfl rfl rfl (r_pick rfl rfl rfl) ?_
        refine at_val rfl rfl rfl (r_move rfl) ?_
        refine at_guard_no rfl rfl rfl rfl rfl ?_
        refine at_guard_no rfl rfl rfl rfl rfl ?_
        refine at_guard_no rfl rfl rfl rfl rfl ?_
        refine at_guard_no rfl rfl rfl rfl rfl ?_
        refine at_val rfl rfl rfl (r_pick rfl rfl rfl) ?_
        refine at_val rfl rfl rfl (r_move rfl) ?_
        refine at_guard_no rfl rfl rfl rfl rfl ?_
        refine at_guard_no rfl rfl rfl rfl rfl ?_
        refine at_guard_no rfl rfl rfl rfl rfl ?_
        refine at_val rfl rfl rfl (r_pick rfl rfl rfl) ?_
        refine at_val rfl rfl rfl (r_move rfl) ?_
        refine at_guard_no rfl rfl rfl rfl rfl ?_
        refine at_val rfl rfl rfl (r_pick rfl rfl rfl) ?_
        refine at_val rfl rfl rfl (r_assign rfl) ?_
        refine at_nil ?_
        refine at_drop (H := _) (.s .z) ?_
        refine at_drop (H := _) (.s .z) ?_
        refine at_weak [(6, _)] ⟨rfl, trivial⟩ ?_
        refine at_then_normal ?_
        refine at_ret ?_
        have K := of_some hF
        subst K
        exact at_return1 rfl rfl (fun w1 hw => ⟨rfl, hw.below⟩)
end Go.Proofs.Ythccncpephpdjaa
