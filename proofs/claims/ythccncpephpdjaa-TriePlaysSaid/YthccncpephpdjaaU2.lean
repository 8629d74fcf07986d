/- Functions with the same answers as the Go functions that they are named for, and the proofs of it, by a program of this project (gen.py). -/
import Derived.Test.YthccncpephpdjaaT
import Derived.Test.YthccncpephpdjaaShelf
import Derived.Test.YthccncpephpdjaaW
import Derived.Test.YthccncpephpdjaaL
import Derived.Test.YthccncpephpdjaaR
import Derived.Test.YthccncpephpdjaaN
import Derived.Test.YthccncpephpdjaaLit
import Derived.Test.YthccncpephpdjaaInl
import Derived.Test.YthccncpephpdjaaHp
import Derived.Test.YthccncpephpdjaaProg
import Derived.Test.YthccncpephpdjaaU1
set_option linter.unusedVariables false
set_option linter.unusedSimpArgs false
namespace Go.Proofs.Ythccncpephpdjaa
open E Go.RowKit


def trie_New (h_ : List HV) (x0 : Int) : Option (Option Nat × List HV) :=
  if (x0 != 4) = true then (if (x0 != 6) = true then (some ((none : Option Nat), h_)) else (if hvp hK h_ (HV.trie_node ({ f_next := (Vector.replicate 2 (none : Option Nat) : (Vector (Option Nat) 2)), f_is := false, f_owner := (0 : Int) } : S_trie_node)) = true then if hvp hK (h_ ++ [HV.trie_node ({ f_next := (Vector.replicate 2 (none : Option Nat) : (Vector (Option Nat) 2)), f_is := false, f_owner := (0 : Int) } : S_trie_node)]) (HV.trie_Trie ({ { ({ f_root := (none : Option Nat), f_family := (0 : Int), f_many := (0 : Int) } : S_trie_Trie) with f_root := some (List.length h_) } with f_family := x0 })) = true then some (some (List.length (h_ ++ [HV.trie_node ({ f_next := (Vector.replicate 2 (none : Option Nat) : (Vector (Option Nat) 2)), f_is := false, f_owner := (0 : Int) } : S_trie_node)])), (h_ ++ [HV.trie_node ({ f_next := (Vector.replicate 2 (none : Option Nat) : (Vector (Option Nat) 2)), f_is := false, f_owner := (0 : Int) } : S_trie_node)]) ++ [HV.trie_Trie ({ { ({ f_root := (none : Option Nat), f_family := (0 : Int), f_many := (0 : Int) } : S_trie_Trie) with f_root := some (List.length h_) } with f_family := x0 })]) else none else none)) else (if hvp hK h_ (HV.trie_node ({ f_next := (Vector.replicate 2 (none : Option Nat) : (Vector (Option Nat) 2)), f_is := false, f_owner := (0 : Int) } : S_trie_node)) = true then if hvp hK (h_ ++ [HV.trie_node ({ f_next := (Vector.replicate 2 (none : Option Nat) : (Vector (Option Nat) 2)), f_is := false, f_owner := (0 : Int) } : S_trie_node)]) (HV.trie_Trie ({ { ({ f_root := (none : Option Nat), f_family := (0 : Int), f_many := (0 : Int) } : S_trie_Trie) with f_root := some (List.length h_) } with f_family := x0 })) = true then some (some (List.length (h_ ++ [HV.trie_node ({ f_next := (Vector.replicate 2 (none : Option Nat) : (Vector (Option Nat) 2)), f_is := false, f_owner := (0 : Int) } : S_trie_node)])), (h_ ++ [HV.trie_node ({ f_next := (Vector.replicate 2 (none : Option Nat) : (Vector (Option Nat) 2)), f_is := false, f_owner := (0 : Int) } : S_trie_node)]) ++ [HV.trie_Trie ({ { ({ f_root := (none : Option Nat), f_family := (0 : Int), f_many := (0 : Int) } : S_trie_Trie) with f_root := some (List.length h_) } with f_family := x0 })]) else none else none)
theorem trie_New_ok {h_ : List HV} {x0 : Int} {r : Option Nat × List HV} (hF : trie_New h_ x0 = some r) : ∀ {w0 w : World} {G_ : List Ent} {g0_ : Nat → Nat} {n0_ : Nat} {gh : Nat → Nat} (hw_ : Wd w0 (heapE hK g0_ n0_ gh h_ :: G_) w),
    Calls Try.prog 24 #[.int .i64 x0] w (fun e w' => ∃ (gh : Nat → Nat), e = .returned (pv gh r.1) ∧ Wd w0 (heapE hK g0_ n0_ gh r.2 :: G_) w') := by
  intro w0 w G_ g0_ n0_ gh hw_
  unfold trie_New at hF
  refine calls_enter (l := [.int .i64 x0]) Try.func24 rfl rfl rfl ?_
  refine at_enterF hw_ ?_
  refine at_weak [(0, _)] ⟨rfl, trivial⟩ ?_
  refine at_seq ?_
  refine at_region ?_
  refine at_val rfl rfl rfl (r_assign rfl) ?_
  refine at_nil ?_
  refine at_weak [(0, _)] ⟨rfl, trivial⟩ ?_
  refine at_then_normal ?_
  refine at_seq ?_
  refine at_seq ?_
  refine at_region ?_
  refine at_val rfl rfl rfl (r_move rfl) ?_
  refine at_val rfl rfl rfl (r_ineq rfl rfl) ?_
  refine at_val rfl rfl rfl (r_move rfl) ?_
  rcases of_ite hF with ⟨h1, hF⟩ | ⟨h1, hF⟩
  · refine at_fix (g := 5) rfl h1 ?_
    refine at_guard_yes rfl rfl rfl ?_
    refine at_val rfl rfl rfl (r_move rfl) ?_
    refine at_guard_yes rfl rfl rfl ?_
    refine at_val rfl rfl rfl (r_ineq rfl rfl) ?_
    refine at_val rfl rfl rfl (r_pick rfl rfl rfl) ?_
    refine at_nil ?_
    refine at_weak [(0, _), (8, _)] ⟨rfl, rfl, trivial⟩ ?_
    refine at_then_normal ?_
    rcases of_ite hF with ⟨h2, hF⟩ | ⟨h2, hF⟩
    · refine at_cond_true rfl h2 ?_
      refine at_seq ?_
      refine at_region ?_
      refine at_val rfl rfl rfl (r_assign rfl) ?_
      refine at_nil ?_
      refine at_weak [(2, _)] ⟨rfl, trivial⟩ ?_
      refine at_then_normal ?_
      refine at_ret ?_
      refine at_then_ret ?_
      have K := of_some hF
      subst K
      exact at_return1 rfl rfl (fun w1 hw => ⟨gh, rfl, hw⟩)
    · refine at_cond_false rfl h2 ?_
      refine at_skip ?_
      refine at_then_normal ?_
      refine at_seq ?_
      refine at_region ?_
      refine at_val rfl rfl rfl (r_build_struct (zs := Cd.cs (c_trie_node gh) ({ f_next := (Vector.replicate 2 (none : Option Nat) : (Vector (Option Nat) 2)), f_is := false, f_owner := (0 : Int) } : S_trie_node)) (cs := Cd.cs (c_trie_node gh) ({ f_next := (Vector.replicate 2 (none : Option Nat) : (Vector (Option Nat) 2)), f_is := false, f_owner := (0 : Int) } : S_trie_node)) Try.underlying103 Try.zeroValue103 rfl (places_trie_node_103) rfl rfl) ?_
      obtain ⟨h5, hF⟩ := of_guard hF
      refine at_box (cs := Cd.cs (c_trie_node gh) ({ f_next := (Vector.replicate 2 (none : Option Nat) : (Vector (Option Nat) 2)), f_is := false, f_owner := (0 : Int) } : S_trie_node)) rfl rfl rfl ?_
      intro b_
      refine at_hpush (v := HV.trie_node ({ f_next := (Vector.replicate 2 (none : Option Nat) : (Vector (Option Nat) 2)), f_is := false, f_owner := (0 : Int) } : S_trie_node)) .z h5 (fun g' hg' => hK.ext gh g' (HV.trie_node ({ f_next := (Vector.replicate 2 (none : Option Nat) : (Vector (Option Nat) 2)), f_is := false, f_owner := (0 : Int) } : S_trie_node)) _ hg' rfl) ?_
      intro gh hg4
      refine at_val rfl rfl rfl (r_move rfl) ?_
      refine at_val rfl rfl rfl (r_build_struct (zs := Cd.cs (c_trie_Trie gh) ({ f_root := (none : Option Nat), f_family := (0 : Int), f_many := (0 : Int) } : S_trie_Trie)) (cs := Cd.cs (c_trie_Trie gh) ({ { ({ f_root := (none : Option Nat), f_family := (0 : Int), f_many := (0 : Int) } : S_trie_Trie) with f_root := some (List.length h_) } with f_family := x0 })) Try.underlying105 Try.zeroValue105 rfl (places_trie_Trie_105) rfl (fill_step (c := (cPtr gh)) (z := some (List.length h_)) rfl (c_trie_Trie_f_root gh ({ f_root := (none : Option Nat), f_family := (0 : Int), f_many := (0 : Int) } : S_trie_Trie)) rfl (fill_step (c := (cInt .i64)) (z := x0) rfl (c_trie_Trie_f_family gh ({ ({ f_root := (none : Option Nat), f_family := (0 : Int), f_many := (0 : Int) } : S_trie_Trie) with f_root := some (List.length h_) })) rfl rfl))) ?_
      obtain ⟨h8, hF⟩ := of_guard hF
      refine at_box (cs := Cd.cs (c_trie_Trie gh) ({ { ({ f_root := (none : Option Nat), f_family := (0 : Int), f_many := (0 : Int) } : S_trie_Trie) with f_root := some (List.length h_) } with f_family := x0 })) rfl rfl rfl ?_
      intro b_
      refine at_hpush (v := HV.trie_Trie ({ { ({ f_root := (none : Option Nat), f_family := (0 : Int), f_many := (0 : Int) } : S_trie_Trie) with f_root := some (List.length h_) } with f_family := x0 })) .z h8 (fun g' hg' => hK.ext gh g' (HV.trie_Trie ({ { ({ f_root := (none : Option Nat), f_family := (0 : Int), f_many := (0 : Int) } : S_trie_Trie) with f_root := some (List.length h_) } with f_family := x0 })) _ hg' rfl) ?_
      intro gh hg7
      refine at_val rfl rfl rfl (r_assign rfl) ?_
      refine at_nil ?_
      refine at_weak [(2, _)] ⟨rfl, trivial⟩ ?_
      refine at_then_normal ?_
      refine at_ret ?_
      have K := of_some hF
      subst K
      exact at_return1 rfl rfl (fun w1 hw => ⟨gh, rfl, hw⟩)
  · refine at_fix (g := 5) rfl h1 ?_
    refine at_guard_no rfl rfl rfl rfl rfl ?_
    refine at_guard_no rfl rfl rfl rfl rfl ?_
    refine at_val rfl rfl rfl (r_pick rfl rfl rfl) ?_
    refine at_nil ?_
    refine at_weak [(0, _), (8, _)] ⟨rfl, rfl, trivial⟩ ?_
    refine at_then_normal ?_
    refine at_cond_false rfl rfl ?_
    refine at_skip ?_
    refine at_then_normal ?_
    refine at_seq ?_
    refine at_region ?_
    refine at_val rfl rfl rfl (r_build_struct (zs := Cd.cs (c_trie_node gh) ({ f_next := (Vector.replicate 2 (none : Option Nat) : (Vector (Option Nat) 2)), f_is := false, f_owner := (0 : Int) } : S_trie_node)) (cs := Cd.cs (c_trie_node gh) ({ f_next := (Vector.replicate 2 (none : Option Nat) : (Vector (Option Nat) 2)), f_is := false, f_owner := (0 : Int) } : S_trie_node)) Try.underlying103 Try.zeroValue103 rfl (places_trie_node_103) rfl rfl) ?_
    obtain ⟨h11, hF⟩ := of_guard hF
    refine at_box (cs := Cd.cs (c_trie_node gh) ({ f_next := (Vector.replicate 2 (none : Option Nat) : (Vector (Option Nat) 2)), f_is := false, f_owner := (0 : Int) } : S_trie_node)) rfl rfl rfl ?_
    intro b_
    refine at_hpush (v := HV.trie_node ({ f_next := (Vector.replicate 2 (none : Option Nat) : (Vector (Option Nat) 2)), f_is := false, f_owner := (0 : Int) } : S_trie_node)) .z h11 (fun g' hg' => hK.ext gh g' (HV.trie_node ({ f_next := (Vector.replicate 2 (none : Option Nat) : (Vector (Option Nat) 2)), f_is := false, f_owner := (0 : Int) } : S_trie_node)) _ hg' rfl) ?_
    intro gh hg10
    refine at_val rfl rfl rfl (r_move rfl) ?_
    refine at_val rfl rfl rfl (r_build_struct (zs := Cd.cs (c_trie_Trie gh) ({ f_root := (none : Option Nat), f_family := (0 : Int), f_many := (0 : Int) } : S_trie_Trie)) (cs := Cd.cs (c_trie_Trie gh) ({ { ({ f_root := (none : Option Nat), f_family := (0 : Int), f_many := (0 : Int) } : S_trie_Trie) with f_root := some (List.length h_) } with f_family := x0 })) Try.underlying105 Try.zeroValue105 rfl (places_trie_Trie_105) rfl (fill_step (c := (cPtr gh)) (z := some (List.length h_)) rfl (c_trie_Trie_f_root gh ({ f_root := (none : Option Nat), f_family := (0 : Int), f_many := (0 : Int) } : S_trie_Trie)) rfl (fill_step (c := (cInt .i64)) (z := x0) rfl (c_trie_Trie_f_family gh ({ ({ f_root := (none : Option Nat), f_family := (0 : Int), f_many := (0 : Int) } : S_trie_Trie) with f_root := some (List.length h_) })) rfl rfl))) ?_
    obtain ⟨h14, hF⟩ := of_guard hF
    refine at_box (cs := Cd.cs (c_trie_Trie gh) ({ { ({ f_root := (none : Option Nat), f_family := (0 : Int), f_many := (0 : Int) } : S_trie_Trie) with f_root := some (List.length h_) } with f_family := x0 })) rfl rfl rfl ?_
    intro b_
    refine at_hpush (v := HV.trie_Trie ({ { ({ f_root := (none : Option Nat), f_family := (0 : Int), f_many := (0 : Int) } : S_trie_Trie) with f_root := some (List.length h_) } with f_family := x0 })) .z h14 (fun g' hg' => hK.ext gh g' (HV.trie_Trie ({ { ({ f_root := (none : Option Nat), f_family := (0 : Int), f_many := (0 : Int) } : S_trie_Trie) with f_root := some (List.length h_) } with f_family := x0 })) _ hg' rfl) ?_
    intro gh hg13
    refine at_val rfl rfl rfl (r_assign rfl) ?_
    refine at_nil ?_
    refine at_weak [(2, _)] ⟨rfl, trivial⟩ ?_
    refine at_then_normal ?_
    refine at_ret ?_
    have K := of_some hF
    subst K
    exact at_return1 rfl rfl (fun w1 hw => ⟨gh, rfl, hw⟩)

def trie_Trie_check (h_ : List HV) (x0 : Option Nat) (x1 : S_api_Prefix) : Option (Int) :=
  if (Option.isNone x0) = true then (some 2) else (cidr_Right x1 >>= fun t3 => if (!t3) = true then (some 1) else (hn_trie_Trie h_ x0 >>= fun t5 => if (x1.f_A.f_V != t5.2.f_family) = true then (some 1) else (some 0)))
theorem trie_Trie_check_ok {h_ : List HV} {x0 : Option Nat} {x1 : S_api_Prefix} {r : Int} (hF : trie_Trie_check h_ x0 x1 = some r) : ∀ {w0 w : World} {G_ : List Ent} {g0_ : Nat → Nat} {n0_ : Nat} {gh : Nat → Nat} (hw_ : Wd w0 (heapE hK g0_ n0_ gh h_ :: G_) w),
    Calls Try.prog 76 #[pv gh x0, .agg (Cd.cs c_api_Prefix x1).toArray] w (fun e w' => e = .returned (.int .i64 r) ∧ Wd w0 (heapE hK g0_ n0_ gh h_ :: G_) w') := by
  intro w0 w G_ g0_ n0_ gh hw_
  unfold trie_Trie_check at hF
  refine calls_enter (l := [pv gh x0, .agg (Cd.cs c_api_Prefix x1).toArray]) Try.func76 rfl rfl rfl ?_
  refine at_enterF hw_ ?_
  refine at_weak [(0, _), (1, _)] ⟨rfl, rfl, trivial⟩ ?_
  refine at_seq ?_
  refine at_region ?_
  refine at_box (cs := Cd.cs c_api_Prefix x1) rfl rfl rfl ?_
  intro b1
  refine at_val rfl rfl rfl (r_assign rfl) ?_
  refine at_nil ?_
  refine at_weak [(0, _), (3, _)] ⟨rfl, rfl, trivial⟩ ?_
  refine at_then_normal ?_
  refine at_seq ?_
  refine at_block ?_
  refine at_seq ?_
  refine at_region ?_
  refine at_val rfl rfl rfl (r_move rfl) ?_
  refine at_val rfl rfl rfl (r_pnil (p := x0) Try.underlying42 rfl rfl (.inl rfl) rfl) ?_
  refine at_val rfl rfl rfl (r_assign rfl) ?_
  refine at_nil ?_
  refine at_weak [(0, _), (3, _), (5, _)] ⟨rfl, rfl, rfl, trivial⟩ ?_
  refine at_then_normal ?_
  rcases of_ite hF with ⟨h2, hF⟩ | ⟨h2, hF⟩
  · refine at_cond_true rfl h2 ?_
    refine at_seq ?_
    refine at_region ?_
    refine at_val rfl rfl rfl (r_assign rfl) ?_
    refine at_nil ?_
    refine at_drop (H := _) .z ?_
    refine at_weak [(4, _)] ⟨rfl, trivial⟩ ?_
    refine at_then_normal ?_
    refine at_ret ?_
    refine at_blk_ret (at_then_ret ?_)
    have K := of_some hF
    subst K
    exact at_return1 rfl rfl (fun w1 hw => ⟨rfl, hw⟩)
  · refine at_cond_false rfl h2 ?_
    refine at_seq ?_
    refine at_draw (by kernel_rfl) (by kernel_rfl) (fun _ h => h.drew) ?_
    refine atq_val rfl rfl rfl (r_load_aggc (c := c_api_Prefix) (z := x1) Try.isAgg46 Try.sizeOf46 rfl (lens_cell .z (Lens.whole _ _))) ?_
    obtain ⟨t3, ht3, hF⟩ := of_bindM hF
    refine atq_call Try.func55 rfl (by kernel_rfl) rfl rfl (fun w hw => (cidr_Right_ok _ _ ht3 w).mono fun _ _ h => ⟨h.1, hw.call h.2⟩) ?_
    refine atq_val rfl rfl rfl (r_not rfl) ?_
    refine atq_val rfl rfl rfl (r_move rfl) ?_
    rcases of_ite hF with ⟨h4, hF⟩ | ⟨h4, hF⟩
    · refine atq_fix (g := 12) rfl h4 ?_
      refine atq_guard_no rfl rfl rfl rfl rfl ?_
      refine atq_guard_no rfl rfl rfl rfl rfl ?_
      refine atq_guard_no rfl rfl rfl rfl rfl ?_
      refine atq_guard_no rfl rfl rfl rfl rfl ?_
      refine atq_guard_no rfl rfl rfl rfl rfl ?_
      refine atq_guard_no rfl rfl rfl rfl rfl ?_
      refine atq_guard_no rfl rfl rfl rfl rfl ?_
      refine atq_guard_no rfl rfl rfl rfl rfl ?_
      refine atq_val rfl rfl rfl (r_pick rfl rfl rfl) ?_
      refine atq_val rfl rfl rfl (r_assign rfl) ?_
      refine atq_nil ?_
      refine at_drop (H := _) .z ?_
      refine at_weak [(8, _)] ⟨rfl, trivial⟩ ?_
      refine at_then_normal ?_
      refine at_cond_true rfl rfl ?_
      refine at_seq ?_
      refine at_region ?_
      refine at_val rfl rfl rfl (r_assign rfl) ?_
      refine at_nil ?_
      refine at_weak [(4, _)] ⟨rfl, trivial⟩ ?_
      refine at_then_normal ?_
      refine at_ret ?_
      refine at_blk_ret (at_then_ret ?_)
      have K := of_some hF
      subst K
      exact at_return1 rfl rfl (fun w1 hw => ⟨rfl, hw⟩)
    · refine atq_fix (g := 12) rfl h4 ?_
      refine atq_guard_yes rfl rfl rfl ?_
      refine atq_val rfl rfl rfl (r_fieldAddr (fo := 0) Try.underlying46 rfl rfl (fun w => ⟨_, Try.sizeOf32 w⟩) rfl) ?_
      refine atq_guard_yes rfl rfl rfl ?_
      refine atq_val rfl rfl rfl (r_fieldAddr (fo := 0) Try.underlying32 rfl rfl (fun w => ⟨_, Try.sizeOf3 w⟩) rfl) ?_
      refine atq_guard_yes rfl rfl rfl ?_
      refine atq_val rfl rfl rfl (r_load_cell Try.isAgg3 rfl (lens_cell0 (c := (cInt .i64)) (y := x1.f_A.f_V) .z (Lens.comp (Lens.comp (Lens.whole _ _) (fun z => { x1 with f_A := z }) (c_api_Prefix_f_A x1)) (fun z => { x1.f_A with f_V := z }) (c_api_Addr_f_V x1.f_A)) rfl)) ?_
      refine atq_guard_yes rfl rfl rfl ?_
      refine atq_val rfl rfl rfl (r_move rfl) ?_
      refine atq_guard_yes rfl rfl rfl ?_
      obtain ⟨t5, ht5, hF⟩ := of_bindM hF
      obtain ⟨ha6, hb7⟩ := hn_trie_Trie_at ht5
      refine atq_val rfl rfl rfl (r_npc rfl ha6) ?_
      refine atq_guard_yes rfl rfl rfl ?_
      refine atq_val rfl rfl rfl (r_fieldAddr (fo := 1) Try.underlying105 rfl rfl (fun w => ⟨_, Try.sizeOf3 w⟩) rfl) ?_
      refine atq_guard_yes rfl rfl rfl ?_
      refine atq_val rfl rfl rfl (r_load_cell Try.isAgg3 rfl (hcell0 (c := (cInt .i64)) (y := t5.2.f_family) (.s .z) hb7 (fun _ h => h) (Lens.comp (Lens.whole _ _) (fun z => { t5.2 with f_family := z }) (c_trie_Trie_f_family gh t5.2)) rfl)) ?_
      refine atq_guard_yes rfl rfl rfl ?_
      refine atq_val rfl rfl rfl (r_ineq rfl rfl) ?_
      refine atq_val rfl rfl rfl (r_pick rfl rfl rfl) ?_
      refine atq_val rfl rfl rfl (r_assign rfl) ?_
      refine atq_nil ?_
      refine at_drop (H := _) .z ?_
      refine at_weak [(8, _)] ⟨rfl, trivial⟩ ?_
      refine at_then_normal ?_
      rcases of_ite hF with ⟨h8, hF⟩ | ⟨h8, hF⟩
      · refine at_cond_true rfl h8 ?_
        refine at_seq ?_
        refine at_region ?_
        refine at_val rfl rfl rfl (r_assign rfl) ?_
        refine at_nil ?_
        refine at_weak [(4, _)] ⟨rfl, trivial⟩ ?_
        refine at_then_normal ?_
        refine at_ret ?_
        refine at_blk_ret (at_then_ret ?_)
        have K := of_some hF
        subst K
        exact at_return1 rfl rfl (fun w1 hw => ⟨rfl, hw⟩)
      · refine at_cond_false rfl h8 ?_
        refine at_skip ?_
        refine at_blk_normal (at_then_normal ?_)
        refine at_seq ?_
        refine at_region ?_
        refine at_val rfl rfl rfl (r_assign rfl) ?_
        refine at_nil ?_
        refine at_weak [(4, _)] ⟨rfl, trivial⟩ ?_
        refine at_then_normal ?_
        refine at_ret ?_
        have K := of_some hF
        subst K
        exact at_return1 rfl rfl (fun w1 hw => ⟨rfl, hw⟩)

def trie_Trie_Put.l0 (x0 : Option Nat) (x1 : S_api_Prefix) (i8 : Option Nat) (i9 : Int) (i10 : List HV) : Option (Option Nat × List HV) :=
  if (decide (i9 < x1.f_Bits)) = true then (addr_Bit x1.f_A i9 >>= fun t12 => hn_trie_node i10 i8 >>= fun t13 => if (0 : Int) ≤ t12 ∧ t12 < 2 then if (Option.isNone (vget t13.2.f_next t12)) = true then (if vp (List.length i10) x0 = true then if vp (List.length i10) i8 = true then if vp (List.length i10) i8 = true then if hvp hK i10 (HV.trie_node ({ f_next := (Vector.replicate 2 (none : Option Nat) : (Vector (Option Nat) 2)), f_is := false, f_owner := (0 : Int) } : S_trie_node)) = true then hn_trie_node (i10 ++ [HV.trie_node ({ f_next := (Vector.replicate 2 (none : Option Nat) : (Vector (Option Nat) 2)), f_is := false, f_owner := (0 : Int) } : S_trie_node)]) i8 >>= fun t24 => if (0 : Int) ≤ t12 ∧ t12 < 2 then if vp (List.length (i10 ++ [HV.trie_node ({ f_next := (Vector.replicate 2 (none : Option Nat) : (Vector (Option Nat) 2)), f_is := false, f_owner := (0 : Int) } : S_trie_node)])) (some (List.length i10)) = true then hn_trie_node (List.set (i10 ++ [HV.trie_node ({ f_next := (Vector.replicate 2 (none : Option Nat) : (Vector (Option Nat) 2)), f_is := false, f_owner := (0 : Int) } : S_trie_node)]) t24.1 (HV.trie_node ({ t24.2 with f_next := vset t24.2.f_next t12 (some (List.length i10)) }))) i8 >>= fun t29 => if (0 : Int) ≤ t12 ∧ t12 < 2 then trie_Trie_Put.l0 x0 x1 (vget t29.2.f_next t12) (wr .i64 (i9 + 1)) (List.set (i10 ++ [HV.trie_node ({ f_next := (Vector.replicate 2 (none : Option Nat) : (Vector (Option Nat) 2)), f_is := false, f_owner := (0 : Int) } : S_trie_node)]) t24.1 (HV.trie_node ({ t24.2 with f_next := vset t24.2.f_next t12 (some (List.length i10)) }))) else none else none else none else none else none else none else none) else (hn_trie_node i10 i8 >>= fun t33 => if (0 : Int) ≤ t12 ∧ t12 < 2 then trie_Trie_Put.l0 x0 x1 (vget t33.2.f_next t12) (wr .i64 (i9 + 1)) i10 else none) else none) else (some (i8, i10))
  partial_fixpoint
def trie_Trie_Put (h_ : List HV) (x0 : Option Nat) (x1 : S_api_Prefix) (x2 : Int) : Option (Int × List HV) :=
  trie_Trie_check h_ x0 x1 >>= fun t2 => if (t2 != 0) = true then (some (t2, h_)) else (hn_trie_Trie h_ x0 >>= fun t4 => trie_Trie_Put.l0 x0 x1 t4.2.f_root 0 h_ >>= fun q7 => hn_trie_node q7.2 q7.1 >>= fun t37 => if (!t37.2.f_is) = true then (hn_trie_Trie q7.2 x0 >>= fun t41 => hn_trie_Trie q7.2 x0 >>= fun t44 => hn_trie_node (List.set q7.2 t44.1 (HV.trie_Trie ({ t44.2 with f_many := wr .i64 (t41.2.f_many + 1) }))) q7.1 >>= fun t47 => hn_trie_node (List.set (List.set q7.2 t44.1 (HV.trie_Trie ({ t44.2 with f_many := wr .i64 (t41.2.f_many + 1) }))) t47.1 (HV.trie_node ({ t47.2 with f_is := true }))) q7.1 >>= fun t50 => some (0, List.set (List.set (List.set q7.2 t44.1 (HV.trie_Trie ({ t44.2 with f_many := wr .i64 (t41.2.f_many + 1) }))) t47.1 (HV.trie_node ({ t47.2 with f_is := true }))) t50.1 (HV.trie_node ({ t50.2 with f_owner := x2 })))) else (hn_trie_node q7.2 q7.1 >>= fun t53 => hn_trie_node (List.set q7.2 t53.1 (HV.trie_node ({ t53.2 with f_is := true }))) q7.1 >>= fun t56 => some (0, List.set (List.set q7.2 t53.1 (HV.trie_node ({ t53.2 with f_is := true }))) t56.1 (HV.trie_node ({ t56.2 with f_owner := x2 })))))
theorem trie_Trie_Put_ok {h_ : List HV} {x0 : Option Nat} {x1 : S_api_Prefix} {x2 : Int} {r : Int × List HV} (hF : trie_Trie_Put h_ x0 x1 x2 = some r) : ∀ {w0 w : World} {G_ : List Ent} {g0_ : Nat → Nat} {n0_ : Nat} {gh : Nat → Nat} (hw_ : Wd w0 (heapE hK g0_ n0_ gh h_ :: G_) w),
    Calls Try.prog 33 #[pv gh x0, .agg (Cd.cs c_api_Prefix x1).toArray, .int .i64 x2] w (fun e w' => ∃ (gh : Nat → Nat), e = .returned (.int .i64 r.1) ∧ Wd w0 (heapE hK g0_ n0_ gh r.2 :: G_) w') := by
  intro w0 w G_ g0_ n0_ gh hw_
  unfold trie_Trie_Put at hF
  refine calls_enter (l := [pv gh x0, .agg (Cd.cs c_api_Prefix x1).toArray, .int .i64 x2]) Try.func33 rfl rfl rfl ?_
  refine at_enterF hw_ ?_
  refine at_weak [(0, _), (1, _), (2, _)] ⟨rfl, rfl, rfl, trivial⟩ ?_
  refine at_seq ?_
  refine at_region ?_
  refine at_box (cs := Cd.cs c_api_Prefix x1) rfl rfl rfl ?_
  intro b1
  refine at_val rfl rfl rfl (r_assign rfl) ?_
  refine at_nil ?_
  refine at_weak [(0, _), (2, _), (4, _)] ⟨rfl, rfl, rfl, trivial⟩ ?_
  refine at_then_normal ?_
  refine at_seq ?_
  refine at_seq ?_
  refine at_region ?_
  refine at_val rfl rfl rfl (r_move rfl) ?_
  refine at_val rfl rfl rfl (r_load_aggc (c := c_api_Prefix) (z := x1) Try.isAgg46 Try.sizeOf46 rfl (lens_cell .z (Lens.whole _ _))) ?_
  obtain ⟨t2, ht2, hF⟩ := of_bindM hF
  refine at_callR (.s .z) Try.func76 rfl (by kernel_rfl) rfl rfl (fun w hw => trie_Trie_check_ok ht2 hw) ?_
  refine at_val rfl rfl rfl (r_assign rfl) ?_
  refine at_nil ?_
  refine at_weak [(0, _), (2, _), (4, _), (7, _)] ⟨rfl, rfl, rfl, rfl, trivial⟩ ?_
  refine at_then_normal ?_
  refine at_seq ?_
  refine at_region ?_
  refine at_val rfl rfl rfl (r_move rfl) ?_
  refine at_val rfl rfl rfl (r_ineq rfl rfl) ?_
  refine at_nil ?_
  refine at_weak [(0, _), (2, _), (4, _), (7, _), (15, _)] ⟨rfl, rfl, rfl, rfl, rfl, trivial⟩ ?_
  refine at_then_normal ?_
  rcases of_ite hF with ⟨h3, hF⟩ | ⟨h3, hF⟩
  · refine at_cond_true rfl h3 ?_
    refine at_seq ?_
    refine at_region ?_
    refine at_val rfl rfl rfl (r_move rfl) ?_
    refine at_val rfl rfl rfl (r_assign rfl) ?_
    refine at_nil ?_
    refine at_drop (H := _) .z ?_
    refine at_weak [(6, _)] ⟨rfl, trivial⟩ ?_
    refine at_then_normal ?_
    refine at_ret ?_
    refine at_then_ret ?_
    have K := of_some hF
    subst K
    exact at_return1 rfl rfl (fun w1 hw => ⟨gh, rfl, hw⟩)
  · refine at_cond_false rfl h3 ?_
    refine at_skip ?_
    refine at_then_normal ?_
    refine at_seq ?_
    refine at_region ?_
    refine at_val rfl rfl rfl (r_move rfl) ?_
    obtain ⟨t4, ht4, hF⟩ := of_bindM hF
    obtain ⟨ha5, hb6⟩ := hn_trie_Trie_at ht4
    refine at_val rfl rfl rfl (r_npc rfl ha5) ?_
    refine at_val rfl rfl rfl (r_fieldAddr (fo := 0) Try.underlying105 rfl rfl (fun w => ⟨_, Try.sizeOf100 w⟩) rfl) ?_
    refine at_val rfl rfl rfl (r_load_cell Try.isAgg100 rfl (hcell0 (c := (cPtr gh)) (y := t4.2.f_root) (.s .z) hb6 (fun _ h => h) (Lens.comp (Lens.whole _ _) (fun z => { t4.2 with f_root := z }) (c_trie_Trie_f_root gh t4.2)) rfl)) ?_
    refine at_val rfl rfl rfl (r_assign rfl) ?_
    refine at_nil ?_
    refine at_weak [(0, _), (2, _), (4, _), (8, _)] ⟨rfl, rfl, rfl, rfl, trivial⟩ ?_
    refine at_then_normal ?_
    refine at_seq ?_
    refine at_seq ?_
    refine at_region ?_
    refine at_val rfl rfl rfl (r_fieldAddr (fo := 17) Try.underlying46 rfl rfl (fun w => ⟨_, Try.sizeOf3 w⟩) rfl) ?_
    refine at_val rfl rfl rfl (r_load_cell Try.isAgg3 rfl (lens_cell0 (c := (cInt .i64)) (y := x1.f_Bits) .z (Lens.comp (Lens.whole _ _) (fun z => { x1 with f_Bits := z }) (c_api_Prefix_f_Bits x1)) rfl)) ?_
    refine at_val rfl rfl rfl (r_move rfl) ?_
    refine at_nil ?_
    refine at_weak [(0, _), (2, _), (4, _), (8, _), (22, _), (23, _)] ⟨rfl, rfl, rfl, rfl, rfl, rfl, trivial⟩ ?_
    refine at_then_normal ?_
    refine at_block ?_
    obtain ⟨q7, hq7, hF⟩ := of_bindM hF
    refine at_weak [(0, _), (2, _), (4, _), (8, _), (22, _), (23, _)] ⟨rfl, rfl, rfl, rfl, rfl, rfl, trivial⟩ ?_
    refine at_loop_n (B := 0) (A := fun Y => ∀ (gh : Nat → Nat), At 70 [(0, pv gh x0), (2, .int .i64 x2), (8, pv gh q7.1)] (Wd w0 (heapE hK g0_ n0_ gh q7.2 :: G_)) Y) ?_ ?_
    · intro K
      refine trie_Trie_Put.l0.partial_correctness x0 x1 (motive := fun i8 i9 i10 x => KN (fun Y => ∀ (gh : Nat → Nat), At 70 [(0, pv gh x0), (2, .int .i64 x2), (8, pv gh x.1)] (Wd w0 (heapE hK g0_ n0_ gh x.2 :: G_)) Y) _ 0 → Round (fun Y => ∀ (gh : Nat → Nat), At 70 [(0, pv gh x0), (2, .int .i64 x2), (4, .pointer (some ⟨b1, 0, none⟩)), (8, pv gh i8), (22, .int .i64 x1.f_Bits), (23, .int .i64 i9)] (Wd w0 (cellsE b1 (Cd.cs c_api_Prefix x1) 46 :: heapE hK g0_ n0_ gh i10 :: G_)) Y) _ _ _) ?_ _ _ _ _ hq7 K gh
      · clear K hF
        intro g ih i8 i9 i10 x hF K gh
        refine at_round ?_
        refine at_seq ?_
        refine at_region ?_
        refine at_val rfl rfl rfl (r_ilss rfl rfl) ?_
        refine at_nil ?_
        refine at_weak [(0, _), (2, _), (4, _), (8, _), (22, _), (23, _), (24, _)] ⟨rfl, rfl, rfl, rfl, rfl, rfl, rfl, trivial⟩ ?_
        refine at_then_normal ?_
        refine at_seq ?_
        rcases of_ite hF with ⟨h11, hF⟩ | ⟨h11, hF⟩
        · refine at_cond_true rfl h11 ?_
          refine at_skip ?_
          refine at_then_normal ?_
          refine at_seq ?_
          refine at_block ?_
          refine at_seq ?_
          refine at_region ?_
          refine at_val rfl rfl rfl (r_move rfl) ?_
          refine at_val rfl rfl rfl (r_assign rfl) ?_
          refine at_nil ?_
          refine at_weak [(0, _), (2, _), (4, _), (8, _), (9, _), (22, _), (23, _)] ⟨rfl, rfl, rfl, rfl, rfl, rfl, rfl, trivial⟩ ?_
          refine at_then_normal ?_
          refine at_seq ?_
          refine at_region ?_
          refine at_val rfl rfl rfl (r_fieldAddr (fo := 0) Try.underlying46 rfl rfl (fun w => ⟨_, Try.sizeOf32 w⟩) rfl) ?_
          refine at_val rfl rfl rfl (r_load_aggc (c := c_api_Addr) (z := x1.f_A) Try.isAgg32 Try.sizeOf32 rfl (lens_cell .z (Lens.comp (Lens.whole _ _) (fun z => { x1 with f_A := z }) (c_api_Prefix_f_A x1)))) ?_
          refine at_val rfl rfl rfl (r_move rfl) ?_
          obtain ⟨t12, ht12, hF⟩ := of_bindM hF
          refine at_callB Try.func72 rfl (by kernel_rfl) rfl rfl (fun w hw => addr_Bit_ok _ _ _ ht12 w) ?_
          refine at_val rfl rfl rfl (r_assign rfl) ?_
          refine at_nil ?_
          refine at_weak [(0, _), (2, _), (4, _), (8, _), (10, _), (22, _), (23, _)] ⟨rfl, rfl, rfl, rfl, rfl, rfl, rfl, trivial⟩ ?_
          refine at_then_normal ?_
          refine at_seq ?_
          refine at_seq ?_
          refine at_region ?_
          refine at_val rfl rfl rfl (r_move rfl) ?_
          refine at_val rfl rfl rfl (r_move rfl) ?_
          obtain ⟨t13, ht13, hF⟩ := of_bindM hF
          obtain ⟨ha14, hb15⟩ := hn_trie_node_at ht13
          refine at_val rfl rfl rfl (r_npc rfl ha14) ?_
          refine at_val rfl rfl rfl (r_fieldAddr (fo := 0) Try.underlying103 rfl rfl (fun w => ⟨_, Try.sizeOf101 w⟩) rfl) ?_
          obtain ⟨h16, hF⟩ := of_guard hF
          refine at_val rfl rfl rfl (r_idxArr Try.underlying101 Try.sizeOf100 rfl rfl h16) ?_
          refine at_val rfl rfl rfl (r_load_cell Try.isAgg100 rfl (hcell0 (c := (cPtr gh)) (y := vget t13.2.f_next t12) (.s .z) hb15 (fun _ h => h) (Lens.comp (Lens.comp (Lens.whole _ _) (fun z => { t13.2 with f_next := z }) (c_trie_node_f_next gh t13.2)) (fun z => vset t13.2.f_next t12 z) (Lens.vec (cPtr gh) (by decide) t13.2.f_next t12 h16)) rfl)) ?_
          refine at_val rfl rfl rfl (r_pnil (p := vget t13.2.f_next t12) Try.underlying100 rfl rfl (.inl rfl) rfl) ?_
          refine at_nil ?_
          refine at_weak [(0, _), (2, _), (4, _), (8, _), (10, _), (22, _), (23, _), (36, _)] ⟨rfl, rfl, rfl, rfl, rfl, rfl, rfl, rfl, trivial⟩ ?_
          refine at_then_normal ?_
          rcases of_ite hF with ⟨h17, hF⟩ | ⟨h17, hF⟩
          · refine at_cond_true rfl h17 ?_
            refine at_region ?_
            refine at_val rfl rfl rfl (r_move rfl) ?_
            refine at_val rfl rfl rfl (r_move rfl) ?_
            refine at_val rfl rfl rfl (r_build_struct (zs := Cd.cs (c_trie_node gh) ({ f_next := (Vector.replicate 2 (none : Option Nat) : (Vector (Option Nat) 2)), f_is := false, f_owner := (0 : Int) } : S_trie_node)) (cs := Cd.cs (c_trie_node gh) ({ f_next := (Vector.replicate 2 (none : Option Nat) : (Vector (Option Nat) 2)), f_is := false, f_owner := (0 : Int) } : S_trie_node)) Try.underlying103 Try.zeroValue103 rfl (places_trie_node_103) rfl rfl) ?_
            obtain ⟨h20, hF⟩ := of_guard hF
            obtain ⟨h21, hF⟩ := of_guard hF
            obtain ⟨h22, hF⟩ := of_guard hF
            obtain ⟨h23, hF⟩ := of_guard hF
            refine at_box (cs := Cd.cs (c_trie_node gh) ({ f_next := (Vector.replicate 2 (none : Option Nat) : (Vector (Option Nat) 2)), f_is := false, f_owner := (0 : Int) } : S_trie_node)) rfl rfl rfl ?_
            intro b_
            refine at_hpush (v := HV.trie_node ({ f_next := (Vector.replicate 2 (none : Option Nat) : (Vector (Option Nat) 2)), f_is := false, f_owner := (0 : Int) } : S_trie_node)) (.s .z) h23 (fun g' hg' => hK.ext gh g' (HV.trie_node ({ f_next := (Vector.replicate 2 (none : Option Nat) : (Vector (Option Nat) 2)), f_is := false, f_owner := (0 : Int) } : S_trie_node)) _ hg' rfl) ?_
            intro gh hg19
            refine at_ov (t := 0) rfl (pv_ext hg19 h20) ?_
            refine at_ov (t := 8) rfl (pv_ext hg19 h21) ?_
            refine at_ov (t := 37) rfl (pv_ext hg19 h22) ?_
            obtain ⟨t24, ht24, hF⟩ := of_bindM hF
            obtain ⟨ha25, hb26⟩ := hn_trie_node_at ht24
            refine at_val rfl rfl rfl (r_npc rfl ha25) ?_
            refine at_val rfl rfl rfl (r_fieldAddr (fo := 0) Try.underlying103 rfl rfl (fun w => ⟨_, Try.sizeOf101 w⟩) rfl) ?_
            obtain ⟨h27, hF⟩ := of_guard hF
            refine at_val rfl rfl rfl (r_idxArr Try.underlying101 Try.sizeOf100 rfl rfl h27) ?_
            obtain ⟨h28, hF⟩ := of_guard hF
            refine at_hstore (v' := HV.trie_node ({ t24.2 with f_next := vset t24.2.f_next t12 (some (List.length i10)) })) (c := (cPtr gh)) (z := some (List.length i10)) (.s .z) hb26 (fun _ h => h) (Lens.comp (Lens.comp (Lens.whole _ _) (fun z => { t24.2 with f_next := z }) (c_trie_node_f_next gh t24.2)) (fun z => vset t24.2.f_next t12 z) (Lens.vec (cPtr gh) (by decide) t24.2.f_next t12 h27)) (by rfl) (fun j hj => (mem_vset hj).imp id (fun e => vp_lt h28 j e)) Try.sizeOf100 rfl rfl rfl ?_
            refine at_nil ?_
            refine at_weak [(0, _), (2, _), (4, _), (8, _), (10, _), (22, _), (23, _)] ⟨rfl, rfl, rfl, rfl, rfl, rfl, rfl, trivial⟩ ?_
            refine at_then_normal ?_
            refine at_region ?_
            refine at_val rfl rfl rfl (r_move rfl) ?_
            refine at_val rfl rfl rfl (r_move rfl) ?_
            obtain ⟨t29, ht29, hF⟩ := of_bindM hF
            obtain ⟨ha30, hb31⟩ := hn_trie_node_at ht29
            refine at_val rfl rfl rfl (r_npc rfl ha30) ?_
            refine at_val rfl rfl rfl (r_fieldAddr (fo := 0) Try.underlying103 rfl rfl (fun w => ⟨_, Try.sizeOf101 w⟩) rfl) ?_
            obtain ⟨h32, hF⟩ := of_guard hF
            refine at_val rfl rfl rfl (r_idxArr Try.underlying101 Try.sizeOf100 rfl rfl h32) ?_
            refine at_val rfl rfl rfl (r_load_cell Try.isAgg100 rfl (hcell0 (c := (cPtr gh)) (y := vget t29.2.f_next t12) (.s .z) hb31 (fun _ h => h) (Lens.comp (Lens.comp (Lens.whole _ _) (fun z => { t29.2 with f_next := z }) (c_trie_node_f_next gh t29.2)) (fun z => vset t29.2.f_next t12 z) (Lens.vec (cPtr gh) (by decide) t29.2.f_next t12 h32)) rfl)) ?_
            refine at_val rfl rfl rfl (r_assign rfl) ?_
            refine at_nil ?_
            refine at_weak [(0, _), (2, _), (4, _), (8, _), (22, _), (23, _)] ⟨rfl, rfl, rfl, rfl, rfl, rfl, trivial⟩ ?_
            refine at_blk_normal (at_then_normal ?_)
            refine at_region ?_
            refine at_val rfl rfl rfl (r_iadd rfl rfl) ?_
            refine at_val rfl rfl rfl (r_move rfl) ?_
            refine at_nil ?_
            refine at_weak [(0, _), (2, _), (4, _), (8, _), (22, _), (23, _)] ⟨rfl, rfl, rfl, rfl, rfl, rfl, trivial⟩ ?_
            refine at_then_normal ?_
            exact at_weak_k (ih _ _ _ _ hF K gh) ⟨rfl, rfl, rfl, rfl, rfl, rfl, trivial⟩
          · refine at_cond_false rfl h17 ?_
            refine at_skip ?_
            refine at_then_normal ?_
            refine at_region ?_
            refine at_val rfl rfl rfl (r_move rfl) ?_
            refine at_val rfl rfl rfl (r_move rfl) ?_
            obtain ⟨t33, ht33, hF⟩ := of_bindM hF
            obtain ⟨ha34, hb35⟩ := hn_trie_node_at ht33
            refine at_val rfl rfl rfl (r_npc rfl ha34) ?_
            refine at_val rfl rfl rfl (r_fieldAddr (fo := 0) Try.underlying103 rfl rfl (fun w => ⟨_, Try.sizeOf101 w⟩) rfl) ?_
            obtain ⟨h36, hF⟩ := of_guard hF
            refine at_val rfl rfl rfl (r_idxArr Try.underlying101 Try.sizeOf100 rfl rfl h36) ?_
            refine at_val rfl rfl rfl (r_load_cell Try.isAgg100 rfl (hcell0 (c := (cPtr gh)) (y := vget t33.2.f_next t12) (.s .z) hb35 (fun _ h => h) (Lens.comp (Lens.comp (Lens.whole _ _) (fun z => { t33.2 with f_next := z }) (c_trie_node_f_next gh t33.2)) (fun z => vset t33.2.f_next t12 z) (Lens.vec (cPtr gh) (by decide) t33.2.f_next t12 h36)) rfl)) ?_
            refine at_val rfl rfl rfl (r_assign rfl) ?_
            refine at_nil ?_
            refine at_weak [(0, _), (2, _), (4, _), (8, _), (22, _), (23, _)] ⟨rfl, rfl, rfl, rfl, rfl, rfl, trivial⟩ ?_
            refine at_blk_normal (at_then_normal ?_)
            refine at_region ?_
            refine at_val rfl rfl rfl (r_iadd rfl rfl) ?_
            refine at_val rfl rfl rfl (r_move rfl) ?_
            refine at_nil ?_
            refine at_weak [(0, _), (2, _), (4, _), (8, _), (22, _), (23, _)] ⟨rfl, rfl, rfl, rfl, rfl, rfl, trivial⟩ ?_
            refine at_then_normal ?_
            exact at_weak_k (ih _ _ _ _ hF K gh) ⟨rfl, rfl, rfl, rfl, rfl, rfl, trivial⟩
        · refine at_cond_false rfl h11 ?_
          refine at_exit ?_
          refine at_then_exit (at_then_exit ?_)
          refine at_drop (H := _) .z ?_
          obtain rfl := of_some hF
          exact at_weak_k (K gh) ⟨rfl, rfl, rfl, trivial⟩
    · skip
      intro gh
      refine at_blk_same ?_
      refine at_then_normal ?_
      refine at_seq ?_
      refine at_seq ?_
      refine at_region ?_
      refine at_val rfl rfl rfl (r_move rfl) ?_
      obtain ⟨t37, ht37, hF⟩ := of_bindM hF
      obtain ⟨ha38, hb39⟩ := hn_trie_node_at ht37
      refine at_val rfl rfl rfl (r_npc rfl ha38) ?_
      refine at_val rfl rfl rfl (r_fieldAddr (fo := 2) Try.underlying103 rfl rfl (fun w => ⟨_, Try.sizeOf4 w⟩) rfl) ?_
      refine at_val rfl rfl rfl (r_load_cell Try.isAgg4 rfl (hcell0 (c := cBool) (y := t37.2.f_is) .z hb39 (fun _ h => h) (Lens.comp (Lens.whole _ _) (fun z => { t37.2 with f_is := z }) (c_trie_node_f_is gh t37.2)) rfl)) ?_
      refine at_val rfl rfl rfl (r_not rfl) ?_
      refine at_nil ?_
      refine at_weak [(0, _), (2, _), (8, _), (55, _)] ⟨rfl, rfl, rfl, rfl, trivial⟩ ?_
      refine at_then_normal ?_
      rcases of_ite hF with ⟨h40, hF⟩ | ⟨h40, hF⟩
      · refine at_cond_true rfl h40 ?_
        refine at_region ?_
        refine at_val rfl rfl rfl (r_move rfl) ?_
        obtain ⟨t41, ht41, hF⟩ := of_bindM hF
        obtain ⟨ha42, hb43⟩ := hn_trie_Trie_at ht41
        refine at_val rfl rfl rfl (r_npc rfl ha42) ?_
        refine at_val rfl rfl rfl (r_fieldAddr (fo := 2) Try.underlying105 rfl rfl (fun w => ⟨_, Try.sizeOf3 w⟩) rfl) ?_
        refine at_val rfl rfl rfl (r_load_cell Try.isAgg3 rfl (hcell0 (c := (cInt .i64)) (y := t41.2.f_many) .z hb43 (fun _ h => h) (Lens.comp (Lens.whole _ _) (fun z => { t41.2 with f_many := z }) (c_trie_Trie_f_many gh t41.2)) rfl)) ?_
        refine at_val rfl rfl rfl (r_iadd rfl rfl) ?_
        obtain ⟨t44, ht44, hF⟩ := of_bindM hF
        obtain ⟨ha45, hb46⟩ := hn_trie_Trie_at ht44
        refine at_val rfl rfl rfl (r_npc rfl ha45) ?_
        refine at_val rfl rfl rfl (r_fieldAddr (fo := 2) Try.underlying105 rfl rfl (fun w => ⟨_, Try.sizeOf3 w⟩) rfl) ?_
        refine at_hstore (v' := HV.trie_Trie ({ t44.2 with f_many := wr .i64 (t41.2.f_many + 1) })) (c := (cInt .i64)) (z := wr .i64 (t41.2.f_many + 1)) .z hb46 (fun _ h => h) (Lens.comp (Lens.whole _ _) (fun z => { t44.2 with f_many := z }) (c_trie_Trie_f_many gh t44.2)) (by rfl) (fun j hj => .inl hj) Try.sizeOf3 rfl rfl rfl ?_
        refine at_nil ?_
        refine at_weak [(2, _), (8, _)] ⟨rfl, rfl, trivial⟩ ?_
        refine at_then_normal ?_
        refine at_seq ?_
        refine at_region ?_
        refine at_val rfl rfl rfl (r_move rfl) ?_
        refine at_val rfl rfl rfl (r_move rfl) ?_
        refine at_val rfl rfl rfl (r_move rfl) ?_
        obtain ⟨t47, ht47, hF⟩ := of_bindM hF
        obtain ⟨ha48, hb49⟩ := hn_trie_node_at ht47
        refine at_val rfl rfl rfl (r_npc rfl ha48) ?_
        refine at_val rfl rfl rfl (r_fieldAddr (fo := 2) Try.underlying103 rfl rfl (fun w => ⟨_, Try.sizeOf4 w⟩) rfl) ?_
        refine at_hstore (v' := HV.trie_node ({ t47.2 with f_is := true })) (c := cBool) (z := true) .z hb49 (fun _ h => h) (Lens.comp (Lens.whole _ _) (fun z => { t47.2 with f_is := z }) (c_trie_node_f_is gh t47.2)) (by rfl) (fun j hj => .inl hj) Try.sizeOf4 rfl rfl rfl ?_
        obtain ⟨t50, ht50, hF⟩ := of_bindM hF
        obtain ⟨ha51, hb52⟩ := hn_trie_node_at ht50
        refine at_val rfl rfl rfl (r_npc rfl ha51) ?_
        refine at_val rfl rfl rfl (r_fieldAddr (fo := 3) Try.underlying103 rfl rfl (fun w => ⟨_, Try.sizeOf3 w⟩) rfl) ?_
        refine at_hstore (v' := HV.trie_node ({ t50.2 with f_owner := x2 })) (c := (cInt .i64)) (z := x2) .z hb52 (fun _ h => h) (Lens.comp (Lens.whole _ _) (fun z => { t50.2 with f_owner := z }) (c_trie_node_f_owner gh t50.2)) (by rfl) (fun j hj => .inl hj) Try.sizeOf3 rfl rfl rfl ?_
        refine at_nil ?_
        refine at_weak [] trivial ?_
        refine at_then_normal ?_
        refine at_seq ?_
        refine at_region ?_
        refine at_val rfl rfl rfl (r_assign rfl) ?_
        refine at_nil ?_
        refine at_weak [(6, _)] ⟨rfl, trivial⟩ ?_
        refine at_then_normal ?_
        refine at_ret ?_
        have K := of_some hF
        subst K
        exact at_return1 rfl rfl (fun w1 hw => ⟨gh, rfl, hw⟩)
      · refine at_cond_false rfl h40 ?_
        refine at_skip ?_
        refine at_then_normal ?_
        refine at_seq ?_
        refine at_region ?_
        refine at_val rfl rfl rfl (r_move rfl) ?_
        refine at_val rfl rfl rfl (r_move rfl) ?_
        refine at_val rfl rfl rfl (r_move rfl) ?_
        obtain ⟨t53, ht53, hF⟩ := of_bindM hF
        obtain ⟨ha54, hb55⟩ := hn_trie_node_at ht53
        refine at_val rfl rfl rfl (r_npc rfl ha54) ?_
        refine at_val rfl rfl rfl (r_fieldAddr (fo := 2) Try.underlying103 rfl rfl (fun w => ⟨_, Try.sizeOf4 w⟩) rfl) ?_
        refine at_hstore (v' := HV.trie_node ({ t53.2 with f_is := true })) (c := cBool) (z := true) .z hb55 (fun _ h => h) (Lens.comp (Lens.whole _ _) (fun z => { t53.2 with f_is := z }) (c_trie_node_f_is gh t53.2)) (by rfl) (fun j hj => .inl hj) Try.sizeOf4 rfl rfl rfl ?_
        obtain ⟨t56, ht56, hF⟩ := of_bindM hF
        obtain ⟨ha57, hb58⟩ := hn_trie_node_at ht56
        refine at_val rfl rfl rfl (r_npc rfl ha57) ?_
        refine at_val rfl rfl rfl (r_fieldAddr (fo := 3) Try.underlying103 rfl rfl (fun w => ⟨_, Try.sizeOf3 w⟩) rfl) ?_
        refine at_hstore (v' := HV.trie_node ({ t56.2 with f_owner := x2 })) (c := (cInt .i64)) (z := x2) .z hb58 (fun _ h => h) (Lens.comp (Lens.whole _ _) (fun z => { t56.2 with f_owner := z }) (c_trie_node_f_owner gh t56.2)) (by rfl) (fun j hj => .inl hj) Try.sizeOf3 rfl rfl rfl ?_
        refine at_nil ?_
        refine at_weak [] trivial ?_
        refine at_then_normal ?_
        refine at_seq ?_
        refine at_region ?_
        refine at_val rfl rfl rfl (r_assign rfl) ?_
        refine at_nil ?_
        refine at_weak [(6, _)] ⟨rfl, trivial⟩ ?_
        refine at_then_normal ?_
        refine at_ret ?_
        have K := of_some hF
        subst K
        exact at_return1 rfl rfl (fun w1 hw => ⟨gh, rfl, hw⟩)

def trie_Trie_Find.l0 (h_ : List HV) (x1 : S_api_Addr) (i15 : Bool) (i16 : Option Nat) (i17 : Int) (i18 : S_api_Entry) : Option (Bool × S_api_Entry) :=
  if (!(Option.isNone i16)) = true then (hn_trie_node h_ i16 >>= fun t20 => if t20.2.f_is = true then (cidr_Of x1 i17 >>= fun t24 => hn_trie_node h_ i16 >>= fun t26 => addr_Width x1 >>= fun t29 => if (i17 == t29) = true then (some (true, { { ({ f_P := ({ f_A := ({ f_V := (0 : Int), f_B := (Vector.replicate 16 (0 : Int) : (Vector Int 16)) } : S_api_Addr), f_Bits := (0 : Int) } : S_api_Prefix), f_Owner := (0 : Int) } : S_api_Entry) with f_P := t24.1 } with f_Owner := t26.2.f_owner })) else (addr_Bit x1 i17 >>= fun t31 => hn_trie_node h_ i16 >>= fun t32 => if (0 : Int) ≤ t31 ∧ t31 < 2 then trie_Trie_Find.l0 h_ x1 true (vget t32.2.f_next t31) (wr .i64 (i17 + 1)) ({ { ({ f_P := ({ f_A := ({ f_V := (0 : Int), f_B := (Vector.replicate 16 (0 : Int) : (Vector Int 16)) } : S_api_Addr), f_Bits := (0 : Int) } : S_api_Prefix), f_Owner := (0 : Int) } : S_api_Entry) with f_P := t24.1 } with f_Owner := t26.2.f_owner }) else none)) else (addr_Width x1 >>= fun t36 => if (i17 == t36) = true then (some (i15, i18)) else (addr_Bit x1 i17 >>= fun t38 => hn_trie_node h_ i16 >>= fun t39 => if (0 : Int) ≤ t38 ∧ t38 < 2 then trie_Trie_Find.l0 h_ x1 i15 (vget t39.2.f_next t38) (wr .i64 (i17 + 1)) i18 else none))) else (some (i15, i18))
  partial_fixpoint
def trie_Trie_Find (h_ : List HV) (x0 : Option Nat) (x1 : S_api_Addr) : Option (S_api_Entry × Bool) :=
  if (Option.isNone x0) = true then (some (({ f_P := ({ f_A := ({ f_V := (0 : Int), f_B := (Vector.replicate 16 (0 : Int) : (Vector Int 16)) } : S_api_Addr), f_Bits := (0 : Int) } : S_api_Prefix), f_Owner := (0 : Int) } : S_api_Entry), false)) else (addr_Right x1 >>= fun t4 => if (!t4) = true then (some (({ f_P := ({ f_A := ({ f_V := (0 : Int), f_B := (Vector.replicate 16 (0 : Int) : (Vector Int 16)) } : S_api_Addr), f_Bits := (0 : Int) } : S_api_Prefix), f_Owner := (0 : Int) } : S_api_Entry), false)) else (hn_trie_Trie h_ x0 >>= fun t6 => if (x1.f_V != t6.2.f_family) = true then (some (({ f_P := ({ f_A := ({ f_V := (0 : Int), f_B := (Vector.replicate 16 (0 : Int) : (Vector Int 16)) } : S_api_Addr), f_Bits := (0 : Int) } : S_api_Prefix), f_Owner := (0 : Int) } : S_api_Entry), false)) else (hn_trie_Trie h_ x0 >>= fun t11 => trie_Trie_Find.l0 h_ x1 false t11.2.f_root 0 ({ f_P := ({ f_A := ({ f_V := (0 : Int), f_B := (Vector.replicate 16 (0 : Int) : (Vector Int 16)) } : S_api_Addr), f_Bits := (0 : Int) } : S_api_Prefix), f_Owner := (0 : Int) } : S_api_Entry) >>= fun q14 => some (q14.2, q14.1))))
set_option maxRecDepth 10000 in
theorem trie_Trie_Find_ok {h_ : List HV} {x0 : Option Nat} {x1 : S_api_Addr} {r : S_api_Entry × Bool} (hF : trie_Trie_Find h_ x0 x1 = some r) : ∀ {w0 w : World} {G_ : List Ent} {g0_ : Nat → Nat} {n0_ : Nat} {gh : Nat → Nat} (hw_ : Wd w0 (heapE hK g0_ n0_ gh h_ :: G_) w),
    Calls Try.prog 26 #[pv gh x0, .agg (Cd.cs c_api_Addr x1).toArray] w (fun e w' => e = .returned (.tuple #[.agg (Cd.cs c_api_Entry r.1).toArray, .bool r.2]) ∧ Wd w0 (heapE hK g0_ n0_ gh h_ :: G_) w') := by
  intro w0 w G_ g0_ n0_ gh hw_
  unfold trie_Trie_Find at hF
  refine calls_enter (l := [pv gh x0, .agg (Cd.cs c_api_Addr x1).toArray]) Try.func26 rfl rfl rfl ?_
  refine at_enterF hw_ ?_
  refine at_weak [(0, _), (1, _)] ⟨rfl, rfl, trivial⟩ ?_
  refine at_seq ?_
  refine at_region ?_
  refine at_box (cs := Cd.cs c_api_Addr x1) rfl rfl rfl ?_
  intro b1
  refine at_alloc (cs := Cd.cs c_api_Entry ({ f_P := ({ f_A := ({ f_V := (0 : Int), f_B := (Vector.replicate 16 (0 : Int) : (Vector Int 16)) } : S_api_Addr), f_Bits := (0 : Int) } : S_api_Prefix), f_Owner := (0 : Int) } : S_api_Entry)) Try.zeroValue52 rfl rfl ?_
  intro b2
  refine at_val rfl rfl rfl (r_assign rfl) ?_
  refine at_nil ?_
  refine at_weak [(0, _), (3, _), (4, _)] ⟨rfl, rfl, rfl, trivial⟩ ?_
  refine at_then_normal ?_
  refine at_seq ?_
  refine at_seq ?_
  refine at_draw (by kernel_rfl) (by kernel_rfl) (fun _ h => h.drew) ?_
  refine atq_val rfl rfl rfl (r_move rfl) ?_
  refine atq_val rfl rfl rfl (r_pnil (p := x0) Try.underlying42 rfl rfl (.inl rfl) rfl) ?_
  refine atq_val rfl rfl rfl (r_move rfl) ?_
  rcases of_ite hF with ⟨h3, hF⟩ | ⟨h3, hF⟩
  · refine atq_fix (g := 14) rfl h3 ?_
    refine atq_guard_no rfl rfl rfl rfl rfl ?_
    refine atq_guard_no rfl rfl rfl rfl rfl ?_
    refine atq_guard_no rfl rfl rfl rfl rfl ?_
    refine atq_val rfl rfl rfl (r_pick rfl rfl rfl) ?_
    refine atq_val rfl rfl rfl (r_move rfl) ?_
    refine atq_guard_no rfl rfl rfl rfl rfl ?_
    refine atq_guard_no rfl rfl rfl rfl rfl ?_
    refine atq_guard_no rfl rfl rfl rfl rfl ?_
    refine atq_guard_no rfl rfl rfl rfl rfl ?_
    refine atq_guard_no rfl rfl rfl rfl rfl ?_
    refine atq_guard_no rfl rfl rfl rfl rfl ?_
    refine atq_guard_no rfl rfl rfl rfl rfl ?_
    refine atq_val rfl rfl rfl (r_pick rfl rfl rfl) ?_
    refine atq_nil ?_
    refine at_weak [(0, _), (3, _), (4, _), (27, _)] ⟨rfl, rfl, rfl, rfl, trivial⟩ ?_
    refine at_then_normal ?_
    refine at_cond_true rfl rfl ?_
    refine at_seq ?_
    refine at_region ?_
    refine at_val rfl rfl rfl (r_build_struct (zs := Cd.cs c_api_Entry ({ f_P := ({ f_A := ({ f_V := (0 : Int), f_B := (Vector.replicate 16 (0 : Int) : (Vector Int 16)) } : S_api_Addr), f_Bits := (0 : Int) } : S_api_Prefix), f_Owner := (0 : Int) } : S_api_Entry)) (cs := Cd.cs c_api_Entry ({ f_P := ({ f_A := ({ f_V := (0 : Int), f_B := (Vector.replicate 16 (0 : Int) : (Vector Int 16)) } : S_api_Addr), f_Bits := (0 : Int) } : S_api_Prefix), f_Owner := (0 : Int) } : S_api_Entry)) Try.underlying52 Try.zeroValue52 rfl (places_api_Entry_52) rfl rfl) ?_
    refine at_store (c := c_api_Entry) (z := ({ f_P := ({ f_A := ({ f_V := (0 : Int), f_B := (Vector.replicate 16 (0 : Int) : (Vector Int 16)) } : S_api_Addr), f_Bits := (0 : Int) } : S_api_Prefix), f_Owner := (0 : Int) } : S_api_Entry)) .z (Lens.whole _ _) Try.sizeOf52 rfl rfl rfl ?_
    refine at_val rfl rfl rfl (r_assign rfl) ?_
    refine at_nil ?_
    refine at_drop (H := _) (.s .z) ?_
    refine at_weak [(4, _), (5, _)] ⟨rfl, rfl, trivial⟩ ?_
    refine at_then_normal ?_
    refine at_ret ?_
    refine at_then_ret ?_
    have K := of_some hF
    subst K
    exact at_res2 rfl (res_cell (c := c_api_Entry) (y := ({ f_P := ({ f_A := ({ f_V := (0 : Int), f_B := (Vector.replicate 16 (0 : Int) : (Vector Int 16)) } : S_api_Addr), f_Bits := (0 : Int) } : S_api_Prefix), f_Owner := (0 : Int) } : S_api_Entry)) rfl .z (Lens.whole _ _) Try.isAgg52 Try.sizeOf52 (.inl rfl)) (res_tmp rfl) (fun w1 hw => ⟨rfl, hw.pop⟩)
  · refine atq_fix (g := 14) rfl h3 ?_
    refine atq_guard_yes rfl rfl rfl ?_
    refine atq_val rfl rfl rfl (r_load_aggc (c := c_api_Addr) (z := x1) Try.isAgg32 Try.sizeOf32 rfl (lens_cell (.s .z) (Lens.whole _ _))) ?_
    refine atq_guard_yes rfl rfl rfl ?_
    obtain ⟨t4, ht4, hF⟩ := of_bindM hF
    refine atq_call Try.func69 rfl (by kernel_rfl) rfl rfl (fun w hw => (addr_Right_ok _ _ ht4 w).mono fun _ _ h => ⟨h.1, hw.call h.2⟩) ?_
    refine atq_guard_yes rfl rfl rfl ?_
    refine atq_val rfl rfl rfl (r_not rfl) ?_
    refine atq_val rfl rfl rfl (r_pick rfl rfl rfl) ?_
    refine atq_val rfl rfl rfl (r_move rfl) ?_
    rcases of_ite hF with ⟨h5, hF⟩ | ⟨h5, hF⟩
    · refine atq_fix (g := 19) rfl h5 ?_
      refine atq_guard_no rfl rfl rfl rfl rfl ?_
      refine atq_guard_no rfl rfl rfl rfl rfl ?_
      refine atq_guard_no rfl rfl rfl rfl rfl ?_
      refine atq_guard_no rfl rfl rfl rfl rfl ?_
      refine atq_guard_no rfl rfl rfl rfl rfl ?_
      refine atq_guard_no rfl rfl rfl rfl rfl ?_
      refine atq_guard_no rfl rfl rfl rfl rfl ?_
      refine atq_val rfl rfl rfl (r_pick rfl rfl rfl) ?_
      refine atq_nil ?_
      refine at_weak [(0, _), (3, _), (4, _), (27, _)] ⟨rfl, rfl, rfl, rfl, trivial⟩ ?_
      refine at_then_normal ?_
      refine at_cond_true rfl rfl ?_
      refine at_seq ?_
      refine at_region ?_
      refine at_val rfl rfl rfl (r_build_struct (zs := Cd.cs c_api_Entry ({ f_P := ({ f_A := ({ f_V := (0 : Int), f_B := (Vector.replicate 16 (0 : Int) : (Vector Int 16)) } : S_api_Addr), f_Bits := (0 : Int) } : S_api_Prefix), f_Owner := (0 : Int) } : S_api_Entry)) (cs := Cd.cs c_api_Entry ({ f_P := ({ f_A := ({ f_V := (0 : Int), f_B := (Vector.replicate 16 (0 : Int) : (Vector Int 16)) } : S_api_Addr), f_Bits := (0 : Int) } : S_api_Prefix), f_Owner := (0 : Int) } : S_api_Entry)) Try.underlying52 Try.zeroValue52 rfl (places_api_Entry_52) rfl rfl) ?_
      refine at_store (c := c_api_Entry) (z := ({ f_P := ({ f_A := ({ f_V := (0 : Int), f_B := (Vector.replicate 16 (0 : Int) : (Vector Int 16)) } : S_api_Addr), f_Bits := (0 : Int) } : S_api_Prefix), f_Owner := (0 : Int) } : S_api_Entry)) .z (Lens.whole _ _) Try.sizeOf52 rfl rfl rfl ?_
      refine at_val rfl rfl rfl (r_assign rfl) ?_
      refine at_nil ?_
      refine at_drop (H := _) (.s .z) ?_
      refine at_weak [(4, _), (5, _)] ⟨rfl, rfl, trivial⟩ ?_
      refine at_then_normal ?_
      refine at_ret ?_
      refine at_then_ret ?_
      have K := of_some hF
      subst K
      exact at_res2 rfl (res_cell (c := c_api_Entry) (y := ({ f_P := ({ f_A := ({ f_V := (0 : Int), f_B := (Vector.replicate 16 (0 : Int) : (Vector Int 16)) } : S_api_Addr), f_Bits := (0 : Int) } : S_api_Prefix), f_Owner := (0 : Int) } : S_api_Entry)) rfl .z (Lens.whole _ _) Try.isAgg52 Try.sizeOf52 (.inl rfl)) (res_tmp rfl) (fun w1 hw => ⟨rfl, hw.pop⟩)
    · refine atq_fix (g := 19) rfl h5 ?_
      refine atq_guard_yes rfl rfl rfl ?_
      refine atq_val rfl rfl rfl (r_fieldAddr (fo := 0) Try.underlying32 rfl rfl (fun w => ⟨_, Try.sizeOf3 w⟩) rfl) ?_
      refine atq_guard_yes rfl rfl rfl ?_
      refine atq_val rfl rfl rfl (r_load_cell Try.isAgg3 rfl (lens_cell0 (c := (cInt .i64)) (y := x1.f_V) (.s .z) (Lens.comp (Lens.whole _ _) (fun z => { x1 with f_V := z }) (c_api_Addr_f_V x1)) rfl)) ?_
      refine atq_guard_yes rfl rfl rfl ?_
      refine atq_val rfl rfl rfl (r_move rfl) ?_
      refine atq_guard_yes rfl rfl rfl ?_
      obtain ⟨t6, ht6, hF⟩ := of_bindM hF
      obtain ⟨ha7, hb8⟩ := hn_trie_Trie_at ht6
      refine atq_val rfl rfl rfl (r_npc rfl ha7) ?_
      refine atq_guard_yes rfl rfl rfl ?_
      refine atq_val rfl rfl rfl (r_fieldAddr (fo := 1) Try.underlying105 rfl rfl (fun w => ⟨_, Try.sizeOf3 w⟩) rfl) ?_
      refine atq_guard_yes rfl rfl rfl ?_
      refine atq_val rfl rfl rfl (r_load_cell Try.isAgg3 rfl (hcell0 (c := (cInt .i64)) (y := t6.2.f_family) (.s (.s .z)) hb8 (fun _ h => h) (Lens.comp (Lens.whole _ _) (fun z => { t6.2 with f_family := z }) (c_trie_Trie_f_family gh t6.2)) rfl)) ?_
      refine atq_guard_yes rfl rfl rfl ?_
      refine atq_val rfl rfl rfl (r_ineq rfl rfl) ?_
      refine atq_val rfl rfl rfl (r_pick rfl rfl rfl) ?_
      refine atq_nil ?_
      refine at_weak [(0, _), (3, _), (4, _), (27, _)] ⟨rfl, rfl, rfl, rfl, trivial⟩ ?_
      refine at_then_normal ?_
      rcases of_ite hF with ⟨h9, hF⟩ | ⟨h9, hF⟩
      · refine at_cond_true rfl h9 ?_
        refine at_seq ?_
        refine at_region ?_
        refine at_val rfl rfl rfl (r_build_struct (zs := Cd.cs c_api_Entry ({ f_P := ({ f_A := ({ f_V := (0 : Int), f_B := (Vector.replicate 16 (0 : Int) : (Vector Int 16)) } : S_api_Addr), f_Bits := (0 : Int) } : S_api_Prefix), f_Owner := (0 : Int) } : S_api_Entry)) (cs := Cd.cs c_api_Entry ({ f_P := ({ f_A := ({ f_V := (0 : Int), f_B := (Vector.replicate 16 (0 : Int) : (Vector Int 16)) } : S_api_Addr), f_Bits := (0 : Int) } : S_api_Prefix), f_Owner := (0 : Int) } : S_api_Entry)) Try.underlying52 Try.zeroValue52 rfl (places_api_Entry_52) rfl rfl) ?_
        refine at_store (c := c_api_Entry) (z := ({ f_P := ({ f_A := ({ f_V := (0 : Int), f_B := (Vector.replicate 16 (0 : Int) : (Vector Int 16)) } : S_api_Addr), f_Bits := (0 : Int) } : S_api_Prefix), f_Owner := (0 : Int) } : S_api_Entry)) .z (Lens.whole _ _) Try.sizeOf52 rfl rfl rfl ?_
        refine at_val rfl rfl rfl (r_assign rfl) ?_
        refine at_nil ?_
        refine at_drop (H := _) (.s .z) ?_
        refine at_weak [(4, _), (5, _)] ⟨rfl, rfl, trivial⟩ ?_
        refine at_then_normal ?_
        refine at_ret ?_
        refine at_then_ret ?_
        have K := of_some hF
        subst K
        exact at_res2 rfl (res_cell (c := c_api_Entry) (y := ({ f_P := ({ f_A := ({ f_V := (0 : Int), f_B := (Vector.replicate 16 (0 : Int) : (Vector Int 16)) } : S_api_Addr), f_Bits := (0 : Int) } : S_api_Prefix), f_Owner := (0 : Int) } : S_api_Entry)) rfl .z (Lens.whole _ _) Try.isAgg52 Try.sizeOf52 (.inl rfl)) (res_tmp rfl) (fun w1 hw => ⟨rfl, hw.pop⟩)
      · refine at_cond_false rfl h9 ?_
        refine at_skip ?_
        refine at_then_normal ?_
        refine at_seq ?_
        refine at_region ?_
        refine at_alloc (cs := Cd.cs c_api_Entry ({ f_P := ({ f_A := ({ f_V := (0 : Int), f_B := (Vector.replicate 16 (0 : Int) : (Vector Int 16)) } : S_api_Addr), f_Bits := (0 : Int) } : S_api_Prefix), f_Owner := (0 : Int) } : S_api_Entry)) Try.zeroValue52 rfl rfl ?_
        intro b10
        refine at_nil ?_
        refine at_weak [(0, _), (3, _), (4, _), (6, _)] ⟨rfl, rfl, rfl, rfl, trivial⟩ ?_
        refine at_then_normal ?_
        refine at_seq ?_
        refine at_region ?_
        refine at_val rfl rfl rfl (r_assign rfl) ?_
        refine at_nil ?_
        refine at_weak [(0, _), (3, _), (4, _), (6, _), (7, _)] ⟨rfl, rfl, rfl, rfl, rfl, trivial⟩ ?_
        refine at_then_normal ?_
        refine at_seq ?_
        refine at_region ?_
        refine at_val rfl rfl rfl (r_move rfl) ?_
        obtain ⟨t11, ht11, hF⟩ := of_bindM hF
        obtain ⟨ha12, hb13⟩ := hn_trie_Trie_at ht11
        refine at_val rfl rfl rfl (r_npc rfl ha12) ?_
        refine at_val rfl rfl rfl (r_fieldAddr (fo := 0) Try.underlying105 rfl rfl (fun w => ⟨_, Try.sizeOf100 w⟩) rfl) ?_
        refine at_val rfl rfl rfl (r_load_cell Try.isAgg100 rfl (hcell0 (c := (cPtr gh)) (y := t11.2.f_root) (.s (.s (.s .z))) hb13 (fun _ h => h) (Lens.comp (Lens.whole _ _) (fun z => { t11.2 with f_root := z }) (c_trie_Trie_f_root gh t11.2)) rfl)) ?_
        refine at_val rfl rfl rfl (r_assign rfl) ?_
        refine at_nil ?_
        refine at_weak [(3, _), (4, _), (6, _), (7, _), (8, _)] ⟨rfl, rfl, rfl, rfl, rfl, trivial⟩ ?_
        refine at_then_normal ?_
        refine at_seq ?_
        refine at_seq ?_
        refine at_region ?_
        refine at_val rfl rfl rfl (r_assign rfl) ?_
        refine at_nil ?_
        refine at_weak [(3, _), (4, _), (6, _), (7, _), (8, _), (9, _)] ⟨rfl, rfl, rfl, rfl, rfl, rfl, trivial⟩ ?_
        refine at_then_normal ?_
        refine at_block ?_
        obtain ⟨q14, hq14, hF⟩ := of_bindM hF
        refine at_weak [(3, _), (4, _), (6, _), (7, _), (8, _), (9, _)] ⟨rfl, rfl, rfl, rfl, rfl, rfl, trivial⟩ ?_
        refine at_loop_n (B := 0) (A := fun Y => At 67 [(4, .pointer (some ⟨b2, 0, none⟩)), (6, .pointer (some ⟨b10, 0, none⟩)), (7, .bool q14.1)] (Wd w0 (cellsE b10 (Cd.cs c_api_Entry q14.2) 52 :: cellsE b2 (Cd.cs c_api_Entry ({ f_P := ({ f_A := ({ f_V := (0 : Int), f_B := (Vector.replicate 16 (0 : Int) : (Vector Int 16)) } : S_api_Addr), f_Bits := (0 : Int) } : S_api_Prefix), f_Owner := (0 : Int) } : S_api_Entry)) 52 :: heapE hK g0_ n0_ gh h_ :: G_)) Y) ?_ ?_
        · intro K
          refine trie_Trie_Find.l0.partial_correctness h_ x1 (motive := fun i15 i16 i17 i18 x => KN (fun Y => At 67 [(4, .pointer (some ⟨b2, 0, none⟩)), (6, .pointer (some ⟨b10, 0, none⟩)), (7, .bool x.1)] (Wd w0 (cellsE b10 (Cd.cs c_api_Entry x.2) 52 :: cellsE b2 (Cd.cs c_api_Entry ({ f_P := ({ f_A := ({ f_V := (0 : Int), f_B := (Vector.replicate 16 (0 : Int) : (Vector Int 16)) } : S_api_Addr), f_Bits := (0 : Int) } : S_api_Prefix), f_Owner := (0 : Int) } : S_api_Entry)) 52 :: heapE hK g0_ n0_ gh h_ :: G_)) Y) _ 0 → Round (fun Y => At 67 [(3, .pointer (some ⟨b1, 0, none⟩)), (4, .pointer (some ⟨b2, 0, none⟩)), (6, .pointer (some ⟨b10, 0, none⟩)), (7, .bool i15), (8, pv gh i16), (9, .int .i64 i17)] (Wd w0 (cellsE b10 (Cd.cs c_api_Entry i18) 52 :: cellsE b2 (Cd.cs c_api_Entry ({ f_P := ({ f_A := ({ f_V := (0 : Int), f_B := (Vector.replicate 16 (0 : Int) : (Vector Int 16)) } : S_api_Addr), f_Bits := (0 : Int) } : S_api_Prefix), f_Owner := (0 : Int) } : S_api_Entry)) 52 :: cellsE b1 (Cd.cs c_api_Addr x1) 32 :: heapE hK g0_ n0_ gh h_ :: G_)) Y) _ _ _) ?_ _ _ _ _ _ hq14 K
          · clear K hF
            intro g ih i15 i16 i17 i18 x hF K
            refine at_round ?_
            refine at_seq ?_
            refine at_seq ?_
            refine at_region ?_
            refine at_val rfl rfl rfl (r_move rfl) ?_
            refine at_val rfl rfl rfl (r_pnil (p := i16) Try.underlying100 rfl rfl (.inr rfl) rfl) ?_
            refine at_nil ?_
            refine at_weak [(3, _), (4, _), (6, _), (7, _), (8, _), (9, _), (34, _)] ⟨rfl, rfl, rfl, rfl, rfl, rfl, rfl, trivial⟩ ?_
            refine at_then_normal ?_
            rcases of_ite hF with ⟨h19, hF⟩ | ⟨h19, hF⟩
            · refine at_cond_true rfl h19 ?_
              refine at_skip ?_
              refine at_then_normal ?_
              refine at_seq ?_
              refine at_block ?_
              refine at_seq ?_
              refine at_seq ?_
              refine at_region ?_
              refine at_val rfl rfl rfl (r_move rfl) ?_
              obtain ⟨t20, ht20, hF⟩ := of_bindM hF
              obtain ⟨ha21, hb22⟩ := hn_trie_node_at ht20
              refine at_val rfl rfl rfl (r_npc rfl ha21) ?_
              refine at_val rfl rfl rfl (r_fieldAddr (fo := 2) Try.underlying103 rfl rfl (fun w => ⟨_, Try.sizeOf4 w⟩) rfl) ?_
              refine at_val rfl rfl rfl (r_load_cell Try.isAgg4 rfl (hcell0 (c := cBool) (y := t20.2.f_is) (.s (.s (.s .z))) hb22 (fun _ h => h) (Lens.comp (Lens.whole _ _) (fun z => { t20.2 with f_is := z }) (c_trie_node_f_is gh t20.2)) rfl)) ?_
              refine at_nil ?_
              refine at_weak [(3, _), (4, _), (6, _), (7, _), (8, _), (9, _), (40, _)] ⟨rfl, rfl, rfl, rfl, rfl, rfl, rfl, trivial⟩ ?_
              refine at_then_normal ?_
              rcases of_ite hF with ⟨h23, hF⟩ | ⟨h23, hF⟩
              · refine at_cond_true rfl h23 ?_
                refine at_seq ?_
                refine at_region ?_
                refine at_val rfl rfl rfl (r_load_aggc (c := c_api_Addr) (z := x1) Try.isAgg32 Try.sizeOf32 rfl (lens_cell (.s (.s .z)) (Lens.whole _ _))) ?_
                refine at_val rfl rfl rfl (r_move rfl) ?_
                obtain ⟨t24, ht24, hF⟩ := of_bindM hF
                refine at_callB Try.func70 rfl (by kernel_rfl) rfl rfl (fun w hw => cidr_Of_ok _ _ _ ht24 w) ?_
                refine at_val rfl rfl rfl (r_move rfl) ?_
                refine at_val rfl rfl rfl (r_extract rfl rfl) ?_
                refine at_val rfl rfl rfl (r_extract rfl rfl) ?_
                refine at_alloc (cs := Cd.cs c_api_Prefix ({ f_A := ({ f_V := (0 : Int), f_B := (Vector.replicate 16 (0 : Int) : (Vector Int 16)) } : S_api_Addr), f_Bits := (0 : Int) } : S_api_Prefix)) Try.zeroValue46 rfl rfl ?_
                intro b25
                refine at_store (c := c_api_Prefix) (z := t24.1) .z (Lens.whole _ _) Try.sizeOf46 rfl rfl rfl ?_
                refine at_val rfl rfl rfl (r_assign rfl) ?_
                refine at_nil ?_
                refine at_weak [(3, _), (4, _), (6, _), (8, _), (9, _), (10, _)] ⟨rfl, rfl, rfl, rfl, rfl, rfl, trivial⟩ ?_
                refine at_then_normal ?_
                refine at_draw_tail 6 (by kernel_rfl) (by kernel_rfl) (fun _ h => h.drew) ?_
                simp only [List.take_succ_cons, List.take_zero, List.drop_succ_cons, List.drop_zero]
                refine ats_val rfl rfl rfl (r_load_aggc (c := c_api_Prefix) (z := t24.1) Try.isAgg46 Try.sizeOf46 rfl (lens_cell .z (Lens.whole _ _))) ?_
                refine ats_val rfl rfl rfl (r_move rfl) ?_
                obtain ⟨t26, ht26, hF⟩ := of_bindM hF
                obtain ⟨ha27, hb28⟩ := hn_trie_node_at ht26
                refine ats_val rfl rfl rfl (r_npc rfl ha27) ?_
                refine ats_val rfl rfl rfl (r_fieldAddr (fo := 3) Try.underlying103 rfl rfl (fun w => ⟨_, Try.sizeOf3 w⟩) rfl) ?_
                refine ats_val rfl rfl rfl (r_load_cell Try.isAgg3 rfl (hcell0 (c := (cInt .i64)) (y := t26.2.f_owner) (.s (.s (.s (.s .z)))) hb28 (fun _ h => h) (Lens.comp (Lens.whole _ _) (fun z => { t26.2 with f_owner := z }) (c_trie_node_f_owner gh t26.2)) rfl)) ?_
                refine ats_val rfl rfl rfl (r_build_struct (zs := Cd.cs c_api_Entry ({ f_P := ({ f_A := ({ f_V := (0 : Int), f_B := (Vector.replicate 16 (0 : Int) : (Vector Int 16)) } : S_api_Addr), f_Bits := (0 : Int) } : S_api_Prefix), f_Owner := (0 : Int) } : S_api_Entry)) (cs := Cd.cs c_api_Entry ({ { ({ f_P := ({ f_A := ({ f_V := (0 : Int), f_B := (Vector.replicate 16 (0 : Int) : (Vector Int 16)) } : S_api_Addr), f_Bits := (0 : Int) } : S_api_Prefix), f_Owner := (0 : Int) } : S_api_Entry) with f_P := t24.1 } with f_Owner := t26.2.f_owner })) Try.underlying52 Try.zeroValue52 rfl (places_api_Entry_52) rfl (fill_step (c := c_api_Prefix) (z := t24.1) rfl (c_api_Entry_f_P ({ f_P := ({ f_A := ({ f_V := (0 : Int), f_B := (Vector.replicate 16 (0 : Int) : (Vector Int 16)) } : S_api_Addr), f_Bits := (0 : Int) } : S_api_Prefix), f_Owner := (0 : Int) } : S_api_Entry)) rfl (fill_step (c := (cInt .i64)) (z := t26.2.f_owner) rfl (c_api_Entry_f_Owner ({ ({ f_P := ({ f_A := ({ f_V := (0 : Int), f_B := (Vector.replicate 16 (0 : Int) : (Vector Int 16)) } : S_api_Addr), f_Bits := (0 : Int) } : S_api_Prefix), f_Owner := (0 : Int) } : S_api_Entry) with f_P := t24.1 })) rfl rfl))) ?_
                refine ats_nil ?_
                refine at_store (c := c_api_Entry) (z := { { ({ f_P := ({ f_A := ({ f_V := (0 : Int), f_B := (Vector.replicate 16 (0 : Int) : (Vector Int 16)) } : S_api_Addr), f_Bits := (0 : Int) } : S_api_Prefix), f_Owner := (0 : Int) } : S_api_Entry) with f_P := t24.1 } with f_Owner := t26.2.f_owner }) (.s .z) (Lens.whole _ _) Try.sizeOf52 rfl rfl rfl ?_
                refine at_val rfl rfl rfl (r_assign rfl) ?_
                refine at_nil ?_
                refine at_drop (H := _) .z ?_
                refine at_weak [(3, _), (4, _), (6, _), (7, _), (8, _), (9, _)] ⟨rfl, rfl, rfl, rfl, rfl, rfl, trivial⟩ ?_
                refine at_then_normal ?_
                refine at_seq ?_
                refine at_seq ?_
                refine at_region ?_
                refine at_val rfl rfl rfl (r_move rfl) ?_
                refine at_val rfl rfl rfl (r_load_aggc (c := c_api_Addr) (z := x1) Try.isAgg32 Try.sizeOf32 rfl (lens_cell (.s (.s .z)) (Lens.whole _ _))) ?_
                obtain ⟨t29, ht29, hF⟩ := of_bindM hF
                refine at_callB Try.func71 rfl (by kernel_rfl) rfl rfl (fun w hw => addr_Width_ok _ _ ht29 w) ?_
                refine at_val rfl rfl rfl (r_ieql rfl rfl) ?_
                refine at_nil ?_
                refine at_weak [(3, _), (4, _), (6, _), (7, _), (8, _), (9, _), (56, _)] ⟨rfl, rfl, rfl, rfl, rfl, rfl, rfl, trivial⟩ ?_
                refine at_then_normal ?_
                rcases of_ite hF with ⟨h30, hF⟩ | ⟨h30, hF⟩
                · refine at_cond_true rfl h30 ?_
                  refine at_exit ?_
                  refine at_then_exit (at_blk_other rfl (at_then_exit (at_then_exit ?_)))
                  refine at_drop (H := _) (.s (.s .z)) ?_
                  obtain rfl := of_some hF
                  exact at_weak_k K ⟨rfl, rfl, rfl, trivial⟩
                · refine at_cond_false rfl h30 ?_
                  refine at_skip ?_
                  refine at_then_normal ?_
                  refine at_draw (by kernel_rfl) (by kernel_rfl) (fun _ h => h.drew) ?_
                  refine atq_val rfl rfl rfl (r_move rfl) ?_
                  refine atq_val rfl rfl rfl (r_load_aggc (c := c_api_Addr) (z := x1) Try.isAgg32 Try.sizeOf32 rfl (lens_cell (.s (.s .z)) (Lens.whole _ _))) ?_
                  refine atq_val rfl rfl rfl (r_move rfl) ?_
                  obtain ⟨t31, ht31, hF⟩ := of_bindM hF
                  refine atq_call Try.func72 rfl (by kernel_rfl) rfl rfl (fun w hw => (addr_Bit_ok _ _ _ ht31 w).mono fun _ _ h => ⟨h.1, hw.call h.2⟩) ?_
                  obtain ⟨t32, ht32, hF⟩ := of_bindM hF
                  obtain ⟨ha33, hb34⟩ := hn_trie_node_at ht32
                  refine atq_val rfl rfl rfl (r_npc rfl ha33) ?_
                  refine atq_val rfl rfl rfl (r_fieldAddr (fo := 0) Try.underlying103 rfl rfl (fun w => ⟨_, Try.sizeOf101 w⟩) rfl) ?_
                  obtain ⟨h35, hF⟩ := of_guard hF
                  refine atq_val rfl rfl rfl (r_idxArr Try.underlying101 Try.sizeOf100 rfl rfl h35) ?_
                  refine atq_val rfl rfl rfl (r_load_cell Try.isAgg100 rfl (hcell0 (c := (cPtr gh)) (y := vget t32.2.f_next t31) (.s (.s (.s .z))) hb34 (fun _ h => h) (Lens.comp (Lens.comp (Lens.whole _ _) (fun z => { t32.2 with f_next := z }) (c_trie_node_f_next gh t32.2)) (fun z => vset t32.2.f_next t31 z) (Lens.vec (cPtr gh) (by decide) t32.2.f_next t31 h35)) rfl)) ?_
                  refine atq_val rfl rfl rfl (r_assign rfl) ?_
                  refine atq_nil ?_
                  refine at_weak [(3, _), (4, _), (6, _), (7, _), (8, _), (9, _)] ⟨rfl, rfl, rfl, rfl, rfl, rfl, trivial⟩ ?_
                  refine at_blk_normal (at_then_normal ?_)
                  refine at_region ?_
                  refine at_val rfl rfl rfl (r_move rfl) ?_
                  refine at_val rfl rfl rfl (r_iadd rfl rfl) ?_
                  refine at_val rfl rfl rfl (r_assign rfl) ?_
                  refine at_nil ?_
                  refine at_weak [(3, _), (4, _), (6, _), (7, _), (8, _), (9, _)] ⟨rfl, rfl, rfl, rfl, rfl, rfl, trivial⟩ ?_
                  refine at_then_normal ?_
                  exact at_weak_k (ih _ _ _ _ _ hF K) ⟨rfl, rfl, rfl, rfl, rfl, rfl, trivial⟩
              · refine at_cond_false rfl h23 ?_
                refine at_skip ?_
                refine at_then_normal ?_
                refine at_seq ?_
                refine at_seq ?_
                refine at_region ?_
                refine at_val rfl rfl rfl (r_move rfl) ?_
                refine at_val rfl rfl rfl (r_load_aggc (c := c_api_Addr) (z := x1) Try.isAgg32 Try.sizeOf32 rfl (lens_cell (.s (.s .z)) (Lens.whole _ _))) ?_
                obtain ⟨t36, ht36, hF⟩ := of_bindM hF
                refine at_callB Try.func71 rfl (by kernel_rfl) rfl rfl (fun w hw => addr_Width_ok _ _ ht36 w) ?_
                refine at_val rfl rfl rfl (r_ieql rfl rfl) ?_
                refine at_nil ?_
                refine at_weak [(3, _), (4, _), (6, _), (7, _), (8, _), (9, _), (56, _)] ⟨rfl, rfl, rfl, rfl, rfl, rfl, rfl, trivial⟩ ?_
                refine at_then_normal ?_
                rcases of_ite hF with ⟨h37, hF⟩ | ⟨h37, hF⟩
                · refine at_cond_true rfl h37 ?_
                  refine at_exit ?_
                  refine at_then_exit (at_blk_other rfl (at_then_exit (at_then_exit ?_)))
                  refine at_drop (H := _) (.s (.s .z)) ?_
                  obtain rfl := of_some hF
                  exact at_weak_k K ⟨rfl, rfl, rfl, trivial⟩
                · refine at_cond_false rfl h37 ?_
                  refine at_skip ?_
                  refine at_then_normal ?_
                  refine at_draw (by kernel_rfl) (by kernel_rfl) (fun _ h => h.drew) ?_
                  refine atq_val rfl rfl rfl (r_move rfl) ?_
                  refine atq_val rfl rfl rfl (r_load_aggc (c := c_api_Addr) (z := x1) Try.isAgg32 Try.sizeOf32 rfl (lens_cell (.s (.s .z)) (Lens.whole _ _))) ?_
                  refine atq_val rfl rfl rfl (r_move rfl) ?_
                  obtain ⟨t38, ht38, hF⟩ := of_bindM hF
                  refine atq_call Try.func72 rfl (by kernel_rfl) rfl rfl (fun w hw => (addr_Bit_ok _ _ _ ht38 w).mono fun _ _ h => ⟨h.1, hw.call h.2⟩) ?_
                  obtain ⟨t39, ht39, hF⟩ := of_bindM hF
                  obtain ⟨ha40, hb41⟩ := hn_trie_node_at ht39
                  refine atq_val rfl rfl rfl (r_npc rfl ha40) ?_
                  refine atq_val rfl rfl rfl (r_fieldAddr (fo := 0) Try.underlying103 rfl rfl (fun w => ⟨_, Try.sizeOf101 w⟩) rfl) ?_
                  obtain ⟨h42, hF⟩ := of_guard hF
                  refine atq_val rfl rfl rfl (r_idxArr Try.underlying101 Try.sizeOf100 rfl rfl h42) ?_
                  refine atq_val rfl rfl rfl (r_load_cell Try.isAgg100 rfl (hcell0 (c := (cPtr gh)) (y := vget t39.2.f_next t38) (.s (.s (.s .z))) hb41 (fun _ h => h) (Lens.comp (Lens.comp (Lens.whole _ _) (fun z => { t39.2 with f_next := z }) (c_trie_node_f_next gh t39.2)) (fun z => vset t39.2.f_next t38 z) (Lens.vec (cPtr gh) (by decide) t39.2.f_next t38 h42)) rfl)) ?_
                  refine atq_val rfl rfl rfl (r_assign rfl) ?_
                  refine atq_nil ?_
                  refine at_weak [(3, _), (4, _), (6, _), (7, _), (8, _), (9, _)] ⟨rfl, rfl, rfl, rfl, rfl, rfl, trivial⟩ ?_
                  refine at_blk_normal (at_then_normal ?_)
                  refine at_region ?_
                  refine at_val rfl rfl rfl (r_move rfl) ?_
                  refine at_val rfl rfl rfl (r_iadd rfl rfl) ?_
                  refine at_val rfl rfl rfl (r_assign rfl) ?_
                  refine at_nil ?_
                  refine at_weak [(3, _), (4, _), (6, _), (7, _), (8, _), (9, _)] ⟨rfl, rfl, rfl, rfl, rfl, rfl, trivial⟩ ?_
                  refine at_then_normal ?_
                  exact at_weak_k (ih _ _ _ _ _ hF K) ⟨rfl, rfl, rfl, rfl, rfl, rfl, trivial⟩
            · refine at_cond_false rfl h19 ?_
              refine at_exit ?_
              refine at_then_exit (at_then_exit ?_)
              refine at_drop (H := _) (.s (.s .z)) ?_
              obtain rfl := of_some hF
              exact at_weak_k K ⟨rfl, rfl, rfl, trivial⟩
        · skip
          skip
          refine at_blk_same ?_
          refine at_then_normal ?_
          refine at_seq ?_
          refine at_region ?_
          refine at_val rfl rfl rfl (r_load_aggc (c := c_api_Entry) (z := q14.2) Try.isAgg52 Try.sizeOf52 rfl (lens_cell .z (Lens.whole _ _))) ?_
          refine at_val rfl rfl rfl (r_move rfl) ?_
          refine at_store (c := c_api_Entry) (z := q14.2) (.s .z) (Lens.whole _ _) Try.sizeOf52 rfl rfl rfl ?_
          refine at_val rfl rfl rfl (r_assign rfl) ?_
          refine at_nil ?_
          refine at_drop (H := _) .z ?_
          refine at_weak [(4, _), (5, _)] ⟨rfl, rfl, trivial⟩ ?_
          refine at_then_normal ?_
          refine at_ret ?_
          have K := of_some hF
          subst K
          exact at_res2 rfl (res_cell (c := c_api_Entry) (y := q14.2) rfl .z (Lens.whole _ _) Try.isAgg52 Try.sizeOf52 (.inl rfl)) (res_tmp rfl) (fun w1 hw => ⟨rfl, hw.pop⟩)

def trie_Trie_Len (h_ : List HV) (x0 : Option Nat) : Option (Int) :=
  if (Option.isNone x0) = true then (some 0) else (hn_trie_Trie h_ x0 >>= fun t2 => some t2.2.f_many)
theorem trie_Trie_Len_ok {h_ : List HV} {x0 : Option Nat} {r : Int} (hF : trie_Trie_Len h_ x0 = some r) : ∀ {w0 w : World} {G_ : List Ent} {g0_ : Nat → Nat} {n0_ : Nat} {gh : Nat → Nat} (hw_ : Wd w0 (heapE hK g0_ n0_ gh h_ :: G_) w),
    Calls Try.prog 28 #[pv gh x0] w (fun e w' => e = .returned (.int .i64 r) ∧ Wd w0 (heapE hK g0_ n0_ gh h_ :: G_) w') := by
  intro w0 w G_ g0_ n0_ gh hw_
  unfold trie_Trie_Len at hF
  refine calls_enter (l := [pv gh x0]) Try.func28 rfl rfl rfl ?_
  refine at_enterF hw_ ?_
  refine at_weak [(0, _)] ⟨rfl, trivial⟩ ?_
  refine at_seq ?_
  refine at_region ?_
  refine at_val rfl rfl rfl (r_assign rfl) ?_
  refine at_nil ?_
  refine at_weak [(0, _)] ⟨rfl, trivial⟩ ?_
  refine at_then_normal ?_
  refine at_seq ?_
  refine at_seq ?_
  refine at_region ?_
  refine at_val rfl rfl rfl (r_move rfl) ?_
  refine at_val rfl rfl rfl (r_pnil (p := x0) Try.underlying42 rfl rfl (.inl rfl) rfl) ?_
  refine at_nil ?_
  refine at_weak [(0, _), (4, _)] ⟨rfl, rfl, trivial⟩ ?_
  refine at_then_normal ?_
  rcases of_ite hF with ⟨h1, hF⟩ | ⟨h1, hF⟩
  · refine at_cond_true rfl h1 ?_
    refine at_seq ?_
    refine at_region ?_
    refine at_val rfl rfl rfl (r_assign rfl) ?_
    refine at_nil ?_
    refine at_weak [(2, _)] ⟨rfl, trivial⟩ ?_
    refine at_then_normal ?_
    refine at_ret ?_
    refine at_then_ret ?_
    have K := of_some hF
    subst K
    exact at_return1 rfl rfl (fun w1 hw => ⟨rfl, hw⟩)
  · refine at_cond_false rfl h1 ?_
    refine at_skip ?_
    refine at_then_normal ?_
    refine at_seq ?_
    refine at_region ?_
    refine at_val rfl rfl rfl (r_move rfl) ?_
    obtain ⟨t2, ht2, hF⟩ := of_bindM hF
    obtain ⟨ha3, hb4⟩ := hn_trie_Trie_at ht2
    refine at_val rfl rfl rfl (r_npc rfl ha3) ?_
    refine at_val rfl rfl rfl (r_fieldAddr (fo := 2) Try.underlying105 rfl rfl (fun w => ⟨_, Try.sizeOf3 w⟩) rfl) ?_
    refine at_val rfl rfl rfl (r_load_cell Try.isAgg3 rfl (hcell0 (c := (cInt .i64)) (y := t2.2.f_many) .z hb4 (fun _ h => h) (Lens.comp (Lens.whole _ _) (fun z => { t2.2 with f_many := z }) (c_trie_Trie_f_many gh t2.2)) rfl)) ?_
    refine at_val rfl rfl rfl (r_assign rfl) ?_
    refine at_nil ?_
    refine at_weak [(2, _)] ⟨rfl, trivial⟩ ?_
    refine at_then_normal ?_
    refine at_ret ?_
    have K := of_some hF
    subst K
    exact at_return1 rfl rfl (fun w1 hw => ⟨rfl, hw⟩)

def crawlwaylaw25_alive : Option (Bool) :=
  trie_New ([] : List HV) 4 >>= fun t1 => if (Option.isNone t1.1) = true then (some false) else (trie_Trie_Put t1.2 t1.1 ({ { ({ f_A := ({ f_V := (0 : Int), f_B := (Vector.replicate 16 (0 : Int) : (Vector Int 16)) } : S_api_Addr), f_Bits := (0 : Int) } : S_api_Prefix) with f_A := { { ({ f_V := (0 : Int), f_B := (Vector.replicate 16 (0 : Int) : (Vector Int 16)) } : S_api_Addr) with f_V := 4 } with f_B := vset (Vector.replicate 16 (0 : Int) : (Vector Int 16)) 0 10 } } with f_Bits := 8 }) 1 >>= fun t6 => if vp (List.length t1.2) t1.1 = true then trie_Trie_Put t6.2 t1.1 ({ { ({ f_A := ({ f_V := (0 : Int), f_B := (Vector.replicate 16 (0 : Int) : (Vector Int 16)) } : S_api_Addr), f_Bits := (0 : Int) } : S_api_Prefix) with f_A := { { ({ f_V := (0 : Int), f_B := (Vector.replicate 16 (0 : Int) : (Vector Int 16)) } : S_api_Addr) with f_V := 4 } with f_B := vset (vset (Vector.replicate 16 (0 : Int) : (Vector Int 16)) 0 10) 1 1 } } with f_Bits := 16 }) 2 >>= fun t11 => if vp (List.length t6.2) t1.1 = true then trie_Trie_Find t11.2 t1.1 ({ { ({ f_V := (0 : Int), f_B := (Vector.replicate 16 (0 : Int) : (Vector Int 16)) } : S_api_Addr) with f_V := 4 } with f_B := vset (vset (vset (vset (Vector.replicate 16 (0 : Int) : (Vector Int 16)) 0 10) 1 1) 2 2) 3 3 }) >>= fun t16 => if t16.2 = true then (if (t16.1.f_Owner == 2) = true then (if (t16.1.f_P.f_Bits == 16) = true then (trie_Trie_Len t11.2 t1.1 >>= fun t21 => some (t21 == 2)) else (some false)) else (some false)) else (some false) else none else none)
theorem crawlwaylaw25_alive_ok (r : Bool) (hF : crawlwaylaw25_alive  = some r) (w : World) :
    Calls Try.prog 23 #[] w (fun e w' => e = .returned (.bool r) ∧ Below w.heap.size w w') := by
  unfold crawlwaylaw25_alive at hF
  refine calls_enter (l := []) Try.func23 rfl rfl rfl ?_
  refine at_start ?_
  refine at_heap0 hK ?_
  intro gh
  refine at_weak [] trivial ?_
  refine at_seq ?_
  refine at_region ?_
  refine at_val rfl rfl rfl (r_assign rfl) ?_
  refine at_nil ?_
  refine at_weak [] trivial ?_
  refine at_then_normal ?_
  refine at_seq ?_
  refine at_region ?_
  obtain ⟨t1, ht1, hF⟩ := of_bindM hF
  refine at_callH (γ := Unit) (h' := t1.2) (V := fun z gh => pv gh t1.1) (T := fun z => []) Try.func24 rfl (by kernel_rfl) rfl rfl (fun w hw => (trie_New_ok ht1 hw).mono (by rintro e w' ⟨gh, he, hw'⟩; exact ⟨gh, (), he, hw'⟩)) ?_
  rintro gh ⟨⟩ hg2
  refine at_val rfl rfl rfl (r_assign rfl) ?_
  refine at_nil ?_
  refine at_weak [(1, _)] ⟨rfl, trivial⟩ ?_
  refine at_then_normal ?_
  refine at_seq ?_
  refine at_seq ?_
  refine at_region ?_
  refine at_val rfl rfl rfl (r_move rfl) ?_
  refine at_val rfl rfl rfl (r_pnil (p := t1.1) Try.underlying42 rfl rfl (.inl rfl) rfl) ?_
  refine at_nil ?_
  refine at_weak [(1, _), (6, _)] ⟨rfl, rfl, trivial⟩ ?_
  refine at_then_normal ?_
  rcases of_ite hF with ⟨h5, hF⟩ | ⟨h5, hF⟩
  · refine at_cond_true rfl h5 ?_
    refine at_seq ?_
    refine at_region ?_
    refine at_val rfl rfl rfl (r_assign rfl) ?_
    refine at_nil ?_
    refine at_weak [(0, _)] ⟨rfl, trivial⟩ ?_
    refine at_then_normal ?_
    refine at_ret ?_
    refine at_then_ret ?_
    have K := of_some hF
    subst K
    exact at_return1 rfl rfl (fun w1 hw => ⟨rfl, hw.below⟩)
  · refine at_cond_false rfl h5 ?_
    refine at_skip ?_
    refine at_then_normal ?_
    refine at_seq ?_
    refine at_region ?_
    refine at_val rfl rfl rfl (r_move rfl) ?_
    refine at_val rfl rfl rfl (r_build_array (zs := Cd.cs (cVec (cInt .u8) 16 (by decide)) (Vector.replicate 16 (0 : Int) : (Vector Int 16))) (cs := Cd.cs (cVec (cInt .u8) 16 (by decide)) (vset (Vector.replicate 16 (0 : Int) : (Vector Int 16)) 0 10)) Try.underlying30 Try.zeroValue30 rfl Try.sizeOf5 rfl (fill_step (c := (cInt .u8)) (z := 10) rfl (Lens.vec (cInt .u8) (by decide) (Vector.replicate 16 (0 : Int) : (Vector Int 16)) 0 (by decide)) rfl rfl)) ?_
    refine at_val rfl rfl rfl (r_build_struct (zs := Cd.cs c_api_Addr ({ f_V := (0 : Int), f_B := (Vector.replicate 16 (0 : Int) : (Vector Int 16)) } : S_api_Addr)) (cs := Cd.cs c_api_Addr ({ { ({ f_V := (0 : Int), f_B := (Vector.replicate 16 (0 : Int) : (Vector Int 16)) } : S_api_Addr) with f_V := 4 } with f_B := vset (Vector.replicate 16 (0 : Int) : (Vector Int 16)) 0 10 })) Try.underlying32 Try.zeroValue32 rfl (places_api_Addr_32) rfl (fill_step (c := (cInt .i64)) (z := 4) rfl (c_api_Addr_f_V ({ f_V := (0 : Int), f_B := (Vector.replicate 16 (0 : Int) : (Vector Int 16)) } : S_api_Addr)) rfl (fill_step (c := (cVec (cInt .u8) 16 (by decide))) (z := vset (Vector.replicate 16 (0 : Int) : (Vector Int 16)) 0 10) rfl (c_api_Addr_f_B ({ ({ f_V := (0 : Int), f_B := (Vector.replicate 16 (0 : Int) : (Vector Int 16)) } : S_api_Addr) with f_V := 4 })) rfl rfl))) ?_
    refine at_val rfl rfl rfl (r_build_struct (zs := Cd.cs c_api_Prefix ({ f_A := ({ f_V := (0 : Int), f_B := (Vector.replicate 16 (0 : Int) : (Vector Int 16)) } : S_api_Addr), f_Bits := (0 : Int) } : S_api_Prefix)) (cs := Cd.cs c_api_Prefix ({ { ({ f_A := ({ f_V := (0 : Int), f_B := (Vector.replicate 16 (0 : Int) : (Vector Int 16)) } : S_api_Addr), f_Bits := (0 : Int) } : S_api_Prefix) with f_A := { { ({ f_V := (0 : Int), f_B := (Vector.replicate 16 (0 : Int) : (Vector Int 16)) } : S_api_Addr) with f_V := 4 } with f_B := vset (Vector.replicate 16 (0 : Int) : (Vector Int 16)) 0 10 } } with f_Bits := 8 })) Try.underlying46 Try.zeroValue46 rfl (places_api_Prefix_46) rfl (fill_step (c := c_api_Addr) (z := { { ({ f_V := (0 : Int), f_B := (Vector.replicate 16 (0 : Int) : (Vector Int 16)) } : S_api_Addr) with f_V := 4 } with f_B := vset (Vector.replicate 16 (0 : Int) : (Vector Int 16)) 0 10 }) rfl (c_api_Prefix_f_A ({ f_A := ({ f_V := (0 : Int), f_B := (Vector.replicate 16 (0 : Int) : (Vector Int 16)) } : S_api_Addr), f_Bits := (0 : Int) } : S_api_Prefix)) rfl (fill_step (c := (cInt .i64)) (z := 8) rfl (c_api_Prefix_f_Bits ({ ({ f_A := ({ f_V := (0 : Int), f_B := (Vector.replicate 16 (0 : Int) : (Vector Int 16)) } : S_api_Addr), f_Bits := (0 : Int) } : S_api_Prefix) with f_A := { { ({ f_V := (0 : Int), f_B := (Vector.replicate 16 (0 : Int) : (Vector Int 16)) } : S_api_Addr) with f_V := 4 } with f_B := vset (Vector.replicate 16 (0 : Int) : (Vector Int 16)) 0 10 } })) rfl rfl))) ?_
    obtain ⟨t6, ht6, hF⟩ := of_bindM hF
    obtain ⟨h7, hF⟩ := of_guard hF
    refine at_callH (γ := Unit) (h' := t6.2) (V := fun z gh => .int .i64 t6.1) (T := fun z => []) Try.func33 rfl (by kernel_rfl) rfl rfl (fun w hw => (trie_Trie_Put_ok ht6 hw).mono (by rintro e w' ⟨gh, he, hw'⟩; exact ⟨gh, (), he, hw'⟩)) ?_
    rintro gh ⟨⟩ hg8
    refine at_ov (t := 1) rfl (pv_ext hg8 h7) ?_
    refine at_nil ?_
    refine at_weak [(1, _)] ⟨rfl, trivial⟩ ?_
    refine at_then_normal ?_
    refine at_seq ?_
    refine at_region ?_
    refine at_val rfl rfl rfl (r_move rfl) ?_
    refine at_val rfl rfl rfl (r_build_array (zs := Cd.cs (cVec (cInt .u8) 16 (by decide)) (Vector.replicate 16 (0 : Int) : (Vector Int 16))) (cs := Cd.cs (cVec (cInt .u8) 16 (by decide)) (vset (vset (Vector.replicate 16 (0 : Int) : (Vector Int 16)) 0 10) 1 1)) Try.underlying30 Try.zeroValue30 rfl Try.sizeOf5 rfl (fill_step (c := (cInt .u8)) (z := 10) rfl (Lens.vec (cInt .u8) (by decide) (Vector.replicate 16 (0 : Int) : (Vector Int 16)) 0 (by decide)) rfl (fill_step (c := (cInt .u8)) (z := 1) rfl (Lens.vec (cInt .u8) (by decide) (vset (Vector.replicate 16 (0 : Int) : (Vector Int 16)) 0 10) 1 (by decide)) rfl rfl))) ?_
    refine at_val rfl rfl rfl (r_build_struct (zs := Cd.cs c_api_Addr ({ f_V := (0 : Int), f_B := (Vector.replicate 16 (0 : Int) : (Vector Int 16)) } : S_api_Addr)) (cs := Cd.cs c_api_Addr ({ { ({ f_V := (0 : Int), f_B := (Vector.replicate 16 (0 : Int) : (Vector Int 16)) } : S_api_Addr) with f_V := 4 } with f_B := vset (vset (Vector.replicate 16 (0 : Int) : (Vector Int 16)) 0 10) 1 1 })) Try.underlying32 Try.zeroValue32 rfl (places_api_Addr_32) rfl (fill_step (c := (cInt .i64)) (z := 4) rfl (c_api_Addr_f_V ({ f_V := (0 : Int), f_B := (Vector.replicate 16 (0 : Int) : (Vector Int 16)) } : S_api_Addr)) rfl (fill_step (c := (cVec (cInt .u8) 16 (by decide))) (z := vset (vset (Vector.replicate 16 (0 : Int) : (Vector Int 16)) 0 10) 1 1) rfl (c_api_Addr_f_B ({ ({ f_V := (0 : Int), f_B := (Vector.replicate 16 (0 : Int) : (Vector Int 16)) } : S_api_Addr) with f_V := 4 })) rfl rfl))) ?_
    refine at_val rfl rfl rfl (r_build_struct (zs := Cd.cs c_api_Prefix ({ f_A := ({ f_V := (0 : Int), f_B := (Vector.replicate 16 (0 : Int) : (Vector Int 16)) } : S_api_Addr), f_Bits := (0 : Int) } : S_api_Prefix)) (cs := Cd.cs c_api_Prefix ({ { ({ f_A := ({ f_V := (0 : Int), f_B := (Vector.replicate 16 (0 : Int) : (Vector Int 16)) } : S_api_Addr), f_Bits := (0 : Int) } : S_api_Prefix) with f_A := { { ({ f_V := (0 : Int), f_B := (Vector.replicate 16 (0 : Int) : (Vector Int 16)) } : S_api_Addr) with f_V := 4 } with f_B := vset (vset (Vector.replicate 16 (0 : Int) : (Vector Int 16)) 0 10) 1 1 } } with f_Bits := 16 })) Try.underlying46 Try.zeroValue46 rfl (places_api_Prefix_46) rfl (fill_step (c := c_api_Addr) (z := { { ({ f_V := (0 : Int), f_B := (Vector.replicate 16 (0 : Int) : (Vector Int 16)) } : S_api_Addr) with f_V := 4 } with f_B := vset (vset (Vector.replicate 16 (0 : Int) : (Vector Int 16)) 0 10) 1 1 }) rfl (c_api_Prefix_f_A ({ f_A := ({ f_V := (0 : Int), f_B := (Vector.replicate 16 (0 : Int) : (Vector Int 16)) } : S_api_Addr), f_Bits := (0 : Int) } : S_api_Prefix)) rfl (fill_step (c := (cInt .i64)) (z := 16) rfl (c_api_Prefix_f_Bits ({ ({ f_A := ({ f_V := (0 : Int), f_B := (Vector.replicate 16 (0 : Int) : (Vector Int 16)) } : S_api_Addr), f_Bits := (0 : Int) } : S_api_Prefix) with f_A := { { ({ f_V := (0 : Int), f_B := (Vector.replicate 16 (0 : Int) : (Vector Int 16)) } : S_api_Addr) with f_V := 4 } with f_B := vset (vset (Vector.replicate 16 (0 : Int) : (Vector Int 16)) 0 10) 1 1 } })) rfl rfl))) ?_
    obtain ⟨t11, ht11, hF⟩ := of_bindM hF
    obtain ⟨h12, hF⟩ := of_guard hF
    refine at_callH (γ := Unit) (h' := t11.2) (V := fun z gh => .int .i64 t11.1) (T := fun z => []) Try.func33 rfl (by kernel_rfl) rfl rfl (fun w hw => (trie_Trie_Put_ok ht11 hw).mono (by rintro e w' ⟨gh, he, hw'⟩; exact ⟨gh, (), he, hw'⟩)) ?_
    rintro gh ⟨⟩ hg13
    refine at_ov (t := 1) rfl (pv_ext hg13 h12) ?_
    refine at_nil ?_
    refine at_weak [(1, _)] ⟨rfl, trivial⟩ ?_
    refine at_then_normal ?_
    refine at_seq ?_
    refine at_region ?_
    refine at_val rfl rfl rfl (r_move rfl) ?_
    refine at_val rfl rfl rfl (r_build_array (zs := Cd.cs (cVec (cInt .u8) 16 (by decide)) (Vector.replicate 16 (0 : Int) : (Vector Int 16))) (cs := Cd.cs (cVec (cInt .u8) 16 (by decide)) (vset (vset (vset (vset (Vector.replicate 16 (0 : Int) : (Vector Int 16)) 0 10) 1 1) 2 2) 3 3)) Try.underlying30 Try.zeroValue30 rfl Try.sizeOf5 rfl (fill_step (c := (cInt .u8)) (z := 10) rfl (Lens.vec (cInt .u8) (by decide) (Vector.replicate 16 (0 : Int) : (Vector Int 16)) 0 (by decide)) rfl (fill_step (c := (cInt .u8)) (z := 1) rfl (Lens.vec (cInt .u8) (by decide) (vset (Vector.replicate 16 (0 : Int) : (Vector Int 16)) 0 10) 1 (by decide)) rfl (fill_step (c := (cInt .u8)) (z := 2) rfl (Lens.vec (cInt .u8) (by decide) (vset (vset (Vector.replicate 16 (0 : Int) : (Vector Int 16)) 0 10) 1 1) 2 (by decide)) rfl (fill_step (c := (cInt .u8)) (z := 3) rfl (Lens.vec (cInt .u8) (by decide) (vset (vset (vset (Vector.replicate 16 (0 : Int) : (Vector Int 16)) 0 10) 1 1) 2 2) 3 (by decide)) rfl rfl))))) ?_
    refine at_val rfl rfl rfl (r_build_struct (zs := Cd.cs c_api_Addr ({ f_V := (0 : Int), f_B := (Vector.replicate 16 (0 : Int) : (Vector Int 16)) } : S_api_Addr)) (cs := Cd.cs c_api_Addr ({ { ({ f_V := (0 : Int), f_B := (Vector.replicate 16 (0 : Int) : (Vector Int 16)) } : S_api_Addr) with f_V := 4 } with f_B := vset (vset (vset (vset (Vector.replicate 16 (0 : Int) : (Vector Int 16)) 0 10) 1 1) 2 2) 3 3 })) Try.underlying32 Try.zeroValue32 rfl (places_api_Addr_32) rfl (fill_step (c := (cInt .i64)) (z := 4) rfl (c_api_Addr_f_V ({ f_V := (0 : Int), f_B := (Vector.replicate 16 (0 : Int) : (Vector Int 16)) } : S_api_Addr)) rfl (fill_step (c := (cVec (cInt .u8) 16 (by decide))) (z := vset (vset (vset (vset (Vector.replicate 16 (0 : Int) : (Vector Int 16)) 0 10) 1 1) 2 2) 3 3) rfl (c_api_Addr_f_B ({ ({ f_V := (0 : Int), f_B := (Vector.replicate 16 (0 : Int) : (Vector Int 16)) } : S_api_Addr) with f_V := 4 })) rfl rfl))) ?_
    obtain ⟨t16, ht16, hF⟩ := of_bindM hF
    refine at_callR .z Try.func26 rfl (by kernel_rfl) rfl rfl (fun w hw => trie_Trie_Find_ok ht16 hw) ?_
    refine at_val rfl rfl rfl (r_move rfl) ?_
    refine at_val rfl rfl rfl (r_extract rfl rfl) ?_
    refine at_val rfl rfl rfl (r_extract rfl rfl) ?_
    refine at_alloc (cs := Cd.cs c_api_Entry ({ f_P := ({ f_A := ({ f_V := (0 : Int), f_B := (Vector.replicate 16 (0 : Int) : (Vector Int 16)) } : S_api_Addr), f_Bits := (0 : Int) } : S_api_Prefix), f_Owner := (0 : Int) } : S_api_Entry)) Try.zeroValue52 rfl rfl ?_
    intro b17
    refine at_store (c := c_api_Entry) (z := t16.1) .z (Lens.whole _ _) Try.sizeOf52 rfl rfl rfl ?_
    refine at_val rfl rfl rfl (r_assign rfl) ?_
    refine at_nil ?_
    refine at_weak [(1, _), (2, _), (3, _)] ⟨rfl, rfl, rfl, trivial⟩ ?_
    refine at_then_normal ?_
    refine at_seq ?_
    refine at_region ?_
    refine at_val rfl rfl rfl (r_move rfl) ?_
    refine at_val rfl rfl rfl (r_move rfl) ?_
    rcases of_ite hF with ⟨h18, hF⟩ | ⟨h18, hF⟩
    · refine at_fix (g := 25) rfl h18 ?_
      refine at_guard_yes rfl rfl rfl ?_
      refine at_val rfl rfl rfl (r_fieldAddr (fo := 18) Try.underlying52 rfl rfl (fun w => ⟨_, Try.sizeOf3 w⟩) rfl) ?_
      refine at_guard_yes rfl rfl rfl ?_
      refine at_val rfl rfl rfl (r_load_cell Try.isAgg3 rfl (lens_cell0 (c := (cInt .i64)) (y := t16.1.f_Owner) .z (Lens.comp (Lens.whole _ _) (fun z => { t16.1 with f_Owner := z }) (c_api_Entry_f_Owner t16.1)) rfl)) ?_
      refine at_guard_yes rfl rfl rfl ?_
      refine at_val rfl rfl rfl (r_ieql rfl rfl) ?_
      refine at_val rfl rfl rfl (r_pick rfl rfl rfl) ?_
      refine at_val rfl rfl rfl (r_move rfl) ?_
      rcases of_ite hF with ⟨h19, hF⟩ | ⟨h19, hF⟩
      · refine at_fix (g := 30) rfl h19 ?_
        refine at_guard_yes rfl rfl rfl ?_
        refine at_val rfl rfl rfl (r_fieldAddr (fo := 0) Try.underlying52 rfl rfl (fun w => ⟨_, Try.sizeOf46 w⟩) rfl) ?_
        refine at_guard_yes rfl rfl rfl ?_
        refine at_val rfl rfl rfl (r_fieldAddr (fo := 17) Try.underlying46 rfl rfl (fun w => ⟨_, Try.sizeOf3 w⟩) rfl) ?_
        refine at_guard_yes rfl rfl rfl ?_
        refine at_val rfl rfl rfl (r_load_cell Try.isAgg3 rfl (lens_cell0 (c := (cInt .i64)) (y := t16.1.f_P.f_Bits) .z (Lens.comp (Lens.comp (Lens.whole _ _) (fun z => { t16.1 with f_P := z }) (c_api_Entry_f_P t16.1)) (fun z => { t16.1.f_P with f_Bits := z }) (c_api_Prefix_f_Bits t16.1.f_P)) rfl)) ?_
        refine at_guard_yes rfl rfl rfl ?_
        refine at_val rfl rfl rfl (r_ieql rfl rfl) ?_
        refine at_val rfl rfl rfl (r_pick rfl rfl rfl) ?_
        refine at_val rfl rfl rfl (r_move rfl) ?_
        rcases of_ite hF with ⟨h20, hF⟩ | ⟨h20, hF⟩
        · refine at_fix (g := 36) rfl h20 ?_
          refine at_guard_yes rfl rfl rfl ?_
          refine at_val rfl rfl rfl (r_move rfl) ?_
          refine at_guard_yes rfl rfl rfl ?_
          obtain ⟨t21, ht21, hF⟩ := of_bindM hF
          refine at_callR (.s .z) Try.func28 rfl (by kernel_rfl) rfl rfl (fun w hw => trie_Trie_Len_ok ht21 hw) ?_
          refine at_guard_yes rfl rfl rfl ?_
          refine at_val rfl rfl rfl (r_ieql rfl rfl) ?_
          refine at_val rfl rfl rfl (r_pick rfl rfl rfl) ?_
          refine at_val rfl rfl rfl (r_assign rfl) ?_
          refine at_nil ?_
          refine at_drop (H := _) .z ?_
          refine at_weak [(0, _)] ⟨rfl, trivial⟩ ?_
          refine at_then_normal ?_
          refine at_ret ?_
          have K := of_some hF
          subst K
          exact at_return1 rfl rfl (fun w1 hw => ⟨rfl, hw.below⟩)
        · refine at_fix (g := 36) rfl h20 ?_
          refine at_guard_no rfl rfl rfl rfl rfl ?_
          refine at_guard_no rfl rfl rfl rfl rfl ?_
          refine at_guard_no rfl rfl rfl rfl rfl ?_
          refine at_val rfl rfl rfl (r_pick rfl rfl rfl) ?_
          refine at_val rfl rfl rfl (r_assign rfl) ?_
          refine at_nil ?_
          refine at_drop (H := _) .z ?_
          refine at_weak [(0, _)] ⟨rfl, trivial⟩ ?_
          refine at_then_normal ?_
          refine at_ret ?_
          have K := of_some hF
          subst K
          exact at_return1 rfl rfl (fun w1 hw => ⟨rfl, hw.below⟩)
      · refine at_fix (g := 30) rfl h19 ?_
        refine at_guard_no rfl rfl rfl rfl rfl ?_
        refine at_guard_no rfl rfl rfl rfl rfl ?_
        refine at_guard_no rfl rfl rfl rfl rfl ?_
        refine at_guard_no rfl rfl rfl rfl rfl ?_
        refine at_val rfl rfl rfl (r_pick rfl rfl rfl) ?_
        refine at_val rfl rfl rfl (r_move rfl) ?_
        refine at_guard_no rfl rfl rfl rfl rfl ?_
        refine at_guard_no rfl rfl rfl rfl rfl ?_
        refine at_guard_no rfl rfl rfl rfl rfl ?_
        refine at_val rfl rfl rfl (r_pick rfl rfl rfl) ?_
        refine at_val rfl rfl rfl (r_assign rfl) ?_
        refine at_nil ?_
        refine at_drop (H := _) .z ?_
        refine at_weak [(0, _)] ⟨rfl, trivial⟩ ?_
        refine at_then_normal ?_
        refine at_ret ?_
        have K := of_some hF
        subst K
        exact at_return1 rfl rfl (fun w1 hw => ⟨rfl, hw.below⟩)
    · refine at_fix (g := 25) rfl h18 ?_
      refine at_guard_no rfl rfl rfl rfl rfl ?_
      refine at_guard_no rfl rfl rfl rfl rfl ?_
      refine at_guard_no rfl rfl rfl rfl rfl ?_
      refine at_val rfl rfl rfl (r_pick rfl rfl rfl) ?_
      refine at_val rfl rfl rfl (r_move rfl) ?_
      refine at_guard_no rfl rfl rfl rfl rfl ?_
      refine at_guard_no rfl rfl rfl rfl rfl ?_
      refine at_guard_no rfl rfl rfl rfl rfl ?_
      refine at_guard_no rfl rfl rfl rfl rfl ?_
      refine at_val rfl rfl rfl (r_pick rfl rfl rfl) ?_
      refine at_val rfl rfl rfl (r_move rfl) ?_
      refine at_guard_no rfl rfl rfl rfl rfl ?_
      refine at_guard_no rfl rfl rfl rfl rfl ?_
      refine at_guard_no rfl rfl rfl rfl rfl ?_
      refine at_val rfl rfl rfl (r_pick rfl rfl rfl) ?_
      refine at_val rfl rfl rfl (r_assign rfl) ?_
      refine at_nil ?_
      refine at_drop (H := _) .z ?_
      refine at_weak [(0, _)] ⟨rfl, trivial⟩ ?_
      refine at_then_normal ?_
      refine at_ret ?_
      have K := of_some hF
      subst K
      exact at_return1 rfl rfl (fun w1 hw => ⟨rfl, hw.below⟩)

def trie_Trie_at.l0 (h_ : List HV) (x1 : S_api_Prefix) (i6 : Option Nat) (i7 : Int) : Option (Option Nat) :=
  if (decide (i7 < x1.f_Bits)) = true then (if (!(Option.isNone i6)) = true then (addr_Bit x1.f_A i7 >>= fun t10 => hn_trie_node h_ i6 >>= fun t11 => if (0 : Int) ≤ t10 ∧ t10 < 2 then trie_Trie_at.l0 h_ x1 (vget t11.2.f_next t10) (wr .i64 (i7 + 1)) else none) else (some i6)) else (some i6)
  partial_fixpoint
def trie_Trie_at (h_ : List HV) (x0 : Option Nat) (x1 : S_api_Prefix) : Option (Option Nat) :=
  hn_trie_Trie h_ x0 >>= fun t2 => trie_Trie_at.l0 h_ x1 t2.2.f_root 0 >>= fun q5 => if (Option.isNone q5) = true then (some (none : Option Nat)) else (hn_trie_node h_ q5 >>= fun t16 => if (!t16.2.f_is) = true then (some (none : Option Nat)) else (some q5))
theorem trie_Trie_at_ok {h_ : List HV} {x0 : Option Nat} {x1 : S_api_Prefix} {r : Option Nat} (hF : trie_Trie_at h_ x0 x1 = some r) : ∀ {w0 w : World} {G_ : List Ent} {g0_ : Nat → Nat} {n0_ : Nat} {gh : Nat → Nat} (hw_ : Wd w0 (heapE hK g0_ n0_ gh h_ :: G_) w),
    Calls Try.prog 77 #[pv gh x0, .agg (Cd.cs c_api_Prefix x1).toArray] w (fun e w' => e = .returned (pv gh r) ∧ Wd w0 (heapE hK g0_ n0_ gh h_ :: G_) w') := by
  intro w0 w G_ g0_ n0_ gh hw_
  unfold trie_Trie_at at hF
  refine calls_enter (l := [pv gh x0, .agg (Cd.cs c_api_Prefix x1).toArray]) Try.func77 rfl rfl rfl ?_
  refine at_enterF hw_ ?_
  refine at_weak [(0, _), (1, _)] ⟨rfl, rfl, trivial⟩ ?_
  refine at_seq ?_
  refine at_region ?_
  refine at_box (cs := Cd.cs c_api_Prefix x1) rfl rfl rfl ?_
  intro b1
  refine at_val rfl rfl rfl (r_assign rfl) ?_
  refine at_nil ?_
  refine at_weak [(0, _), (3, _)] ⟨rfl, rfl, trivial⟩ ?_
  refine at_then_normal ?_
  refine at_seq ?_
  refine at_region ?_
  refine at_val rfl rfl rfl (r_move rfl) ?_
  obtain ⟨t2, ht2, hF⟩ := of_bindM hF
  obtain ⟨ha3, hb4⟩ := hn_trie_Trie_at ht2
  refine at_val rfl rfl rfl (r_npc rfl ha3) ?_
  refine at_val rfl rfl rfl (r_fieldAddr (fo := 0) Try.underlying105 rfl rfl (fun w => ⟨_, Try.sizeOf100 w⟩) rfl) ?_
  refine at_val rfl rfl rfl (r_load_cell Try.isAgg100 rfl (hcell0 (c := (cPtr gh)) (y := t2.2.f_root) (.s .z) hb4 (fun _ h => h) (Lens.comp (Lens.whole _ _) (fun z => { t2.2 with f_root := z }) (c_trie_Trie_f_root gh t2.2)) rfl)) ?_
  refine at_val rfl rfl rfl (r_assign rfl) ?_
  refine at_nil ?_
  refine at_weak [(3, _), (5, _)] ⟨rfl, rfl, trivial⟩ ?_
  refine at_then_normal ?_
  refine at_seq ?_
  refine at_seq ?_
  refine at_region ?_
  refine at_val rfl rfl rfl (r_assign rfl) ?_
  refine at_nil ?_
  refine at_weak [(3, _), (5, _), (6, _)] ⟨rfl, rfl, rfl, trivial⟩ ?_
  refine at_then_normal ?_
  refine at_block ?_
  obtain ⟨q5, hq5, hF⟩ := of_bindM hF
  refine at_weak [(3, _), (5, _), (6, _)] ⟨rfl, rfl, rfl, trivial⟩ ?_
  refine at_loop_n (B := 0) (A := fun Y => At 40 [(5, pv gh q5)] (Wd w0 (heapE hK g0_ n0_ gh h_ :: G_)) Y) ?_ ?_
  · intro K
    refine trie_Trie_at.l0.partial_correctness h_ x1 (motive := fun i6 i7 x => KN (fun Y => At 40 [(5, pv gh x)] (Wd w0 (heapE hK g0_ n0_ gh h_ :: G_)) Y) _ 0 → Round (fun Y => At 40 [(3, .pointer (some ⟨b1, 0, none⟩)), (5, pv gh i6), (6, .int .i64 i7)] (Wd w0 (cellsE b1 (Cd.cs c_api_Prefix x1) 46 :: heapE hK g0_ n0_ gh h_ :: G_)) Y) _ _ _) ?_ _ _ _ hq5 K
    · clear K hF
      intro g ih i6 i7 x hF K
      refine at_round ?_
      refine at_seq ?_
      refine at_seq ?_
      refine at_region ?_
      refine at_val rfl rfl rfl (r_move rfl) ?_
      refine at_val rfl rfl rfl (r_fieldAddr (fo := 17) Try.underlying46 rfl rfl (fun w => ⟨_, Try.sizeOf3 w⟩) rfl) ?_
      refine at_val rfl rfl rfl (r_load_cell Try.isAgg3 rfl (lens_cell0 (c := (cInt .i64)) (y := x1.f_Bits) .z (Lens.comp (Lens.whole _ _) (fun z => { x1 with f_Bits := z }) (c_api_Prefix_f_Bits x1)) rfl)) ?_
      refine at_val rfl rfl rfl (r_ilss rfl rfl) ?_
      refine at_val rfl rfl rfl (r_move rfl) ?_
      rcases of_ite hF with ⟨h8, hF⟩ | ⟨h8, hF⟩
      · refine at_fix (g := 15) rfl h8 ?_
        refine at_guard_yes rfl rfl rfl ?_
        refine at_val rfl rfl rfl (r_move rfl) ?_
        refine at_guard_yes rfl rfl rfl ?_
        refine at_val rfl rfl rfl (r_pnil (p := i6) Try.underlying100 rfl rfl (.inr rfl) rfl) ?_
        refine at_val rfl rfl rfl (r_pick rfl rfl rfl) ?_
        refine at_nil ?_
        refine at_weak [(3, _), (5, _), (6, _), (18, _)] ⟨rfl, rfl, rfl, rfl, trivial⟩ ?_
        refine at_then_normal ?_
        rcases of_ite hF with ⟨h9, hF⟩ | ⟨h9, hF⟩
        · refine at_cond_true rfl h9 ?_
          refine at_skip ?_
          refine at_then_normal ?_
          refine at_seq ?_
          refine at_block ?_
          refine at_draw (by kernel_rfl) (by kernel_rfl) (fun _ h => h.drew) ?_
          refine atq_val rfl rfl rfl (r_move rfl) ?_
          refine atq_val rfl rfl rfl (r_fieldAddr (fo := 0) Try.underlying46 rfl rfl (fun w => ⟨_, Try.sizeOf32 w⟩) rfl) ?_
          refine atq_val rfl rfl rfl (r_load_aggc (c := c_api_Addr) (z := x1.f_A) Try.isAgg32 Try.sizeOf32 rfl (lens_cell .z (Lens.comp (Lens.whole _ _) (fun z => { x1 with f_A := z }) (c_api_Prefix_f_A x1)))) ?_
          refine atq_val rfl rfl rfl (r_move rfl) ?_
          obtain ⟨t10, ht10, hF⟩ := of_bindM hF
          refine atq_call Try.func72 rfl (by kernel_rfl) rfl rfl (fun w hw => (addr_Bit_ok _ _ _ ht10 w).mono fun _ _ h => ⟨h.1, hw.call h.2⟩) ?_
          obtain ⟨t11, ht11, hF⟩ := of_bindM hF
          obtain ⟨ha12, hb13⟩ := hn_trie_node_at ht11
          refine atq_val rfl rfl rfl (r_npc rfl ha12) ?_
          refine atq_val rfl rfl rfl (r_fieldAddr (fo := 0) Try.underlying103 rfl rfl (fun w => ⟨_, Try.sizeOf101 w⟩) rfl) ?_
          obtain ⟨h14, hF⟩ := of_guard hF
          refine atq_val rfl rfl rfl (r_idxArr Try.underlying101 Try.sizeOf100 rfl rfl h14) ?_
          refine atq_val rfl rfl rfl (r_load_cell Try.isAgg100 rfl (hcell0 (c := (cPtr gh)) (y := vget t11.2.f_next t10) (.s .z) hb13 (fun _ h => h) (Lens.comp (Lens.comp (Lens.whole _ _) (fun z => { t11.2 with f_next := z }) (c_trie_node_f_next gh t11.2)) (fun z => vset t11.2.f_next t10 z) (Lens.vec (cPtr gh) (by decide) t11.2.f_next t10 h14)) rfl)) ?_
          refine atq_val rfl rfl rfl (r_assign rfl) ?_
          refine atq_nil ?_
          refine at_weak [(3, _), (5, _), (6, _)] ⟨rfl, rfl, rfl, trivial⟩ ?_
          refine at_blk_normal (at_then_normal ?_)
          refine at_region ?_
          refine at_val rfl rfl rfl (r_move rfl) ?_
          refine at_val rfl rfl rfl (r_iadd rfl rfl) ?_
          refine at_val rfl rfl rfl (r_assign rfl) ?_
          refine at_nil ?_
          refine at_weak [(3, _), (5, _), (6, _)] ⟨rfl, rfl, rfl, trivial⟩ ?_
          refine at_then_normal ?_
          exact at_weak_k (ih _ _ _ hF K) ⟨rfl, rfl, rfl, trivial⟩
        · refine at_cond_false rfl h9 ?_
          refine at_exit ?_
          refine at_then_exit (at_then_exit ?_)
          refine at_drop (H := _) .z ?_
          obtain rfl := of_some hF
          exact at_weak_k K ⟨rfl, trivial⟩
      · refine at_fix (g := 15) rfl h8 ?_
        refine at_guard_no rfl rfl rfl rfl rfl ?_
        refine at_guard_no rfl rfl rfl rfl rfl ?_
        refine at_val rfl rfl rfl (r_pick rfl rfl rfl) ?_
        refine at_nil ?_
        refine at_weak [(3, _), (5, _), (6, _), (18, _)] ⟨rfl, rfl, rfl, rfl, trivial⟩ ?_
        refine at_then_normal ?_
        refine at_cond_false rfl rfl ?_
        refine at_exit ?_
        refine at_then_exit (at_then_exit ?_)
        refine at_drop (H := _) .z ?_
        obtain rfl := of_some hF
        exact at_weak_k K ⟨rfl, trivial⟩
  · skip
    skip
    refine at_blk_same ?_
    refine at_then_normal ?_
    refine at_seq ?_
    refine at_seq ?_
    refine at_region ?_
    refine at_val rfl rfl rfl (r_move rfl) ?_
    refine at_val rfl rfl rfl (r_pnil (p := q5) Try.underlying100 rfl rfl (.inl rfl) rfl) ?_
    refine at_val rfl rfl rfl (r_move rfl) ?_
    rcases of_ite hF with ⟨h15, hF⟩ | ⟨h15, hF⟩
    · refine at_fix (g := 32) rfl h15 ?_
      refine at_guard_no rfl rfl rfl rfl rfl ?_
      refine at_guard_no rfl rfl rfl rfl rfl ?_
      refine at_guard_no rfl rfl rfl rfl rfl ?_
      refine at_guard_no rfl rfl rfl rfl rfl ?_
      refine at_guard_no rfl rfl rfl rfl rfl ?_
      refine at_val rfl rfl rfl (r_pick rfl rfl rfl) ?_
      refine at_nil ?_
      refine at_weak [(5, _), (38, _)] ⟨rfl, rfl, trivial⟩ ?_
      refine at_then_normal ?_
      refine at_cond_true rfl rfl ?_
      refine at_seq ?_
      refine at_region ?_
      refine at_val rfl rfl rfl (r_assign rfl) ?_
      refine at_nil ?_
      refine at_weak [(4, _)] ⟨rfl, trivial⟩ ?_
      refine at_then_normal ?_
      refine at_ret ?_
      refine at_then_ret ?_
      have K := of_some hF
      subst K
      exact at_return1 rfl rfl (fun w1 hw => ⟨rfl, hw⟩)
    · refine at_fix (g := 32) rfl h15 ?_
      refine at_guard_yes rfl rfl rfl ?_
      refine at_val rfl rfl rfl (r_move rfl) ?_
      refine at_guard_yes rfl rfl rfl ?_
      obtain ⟨t16, ht16, hF⟩ := of_bindM hF
      obtain ⟨ha17, hb18⟩ := hn_trie_node_at ht16
      refine at_val rfl rfl rfl (r_npc rfl ha17) ?_
      refine at_guard_yes rfl rfl rfl ?_
      refine at_val rfl rfl rfl (r_fieldAddr (fo := 2) Try.underlying103 rfl rfl (fun w => ⟨_, Try.sizeOf4 w⟩) rfl) ?_
      refine at_guard_yes rfl rfl rfl ?_
      refine at_val rfl rfl rfl (r_load_cell Try.isAgg4 rfl (hcell0 (c := cBool) (y := t16.2.f_is) .z hb18 (fun _ h => h) (Lens.comp (Lens.whole _ _) (fun z => { t16.2 with f_is := z }) (c_trie_node_f_is gh t16.2)) rfl)) ?_
      refine at_guard_yes rfl rfl rfl ?_
      refine at_val rfl rfl rfl (r_not rfl) ?_
      refine at_val rfl rfl rfl (r_pick rfl rfl rfl) ?_
      refine at_nil ?_
      refine at_weak [(5, _), (38, _)] ⟨rfl, rfl, trivial⟩ ?_
      refine at_then_normal ?_
      rcases of_ite hF with ⟨h19, hF⟩ | ⟨h19, hF⟩
      · refine at_cond_true rfl h19 ?_
        refine at_seq ?_
        refine at_region ?_
        refine at_val rfl rfl rfl (r_assign rfl) ?_
        refine at_nil ?_
        refine at_weak [(4, _)] ⟨rfl, trivial⟩ ?_
        refine at_then_normal ?_
        refine at_ret ?_
        refine at_then_ret ?_
        have K := of_some hF
        subst K
        exact at_return1 rfl rfl (fun w1 hw => ⟨rfl, hw⟩)
      · refine at_cond_false rfl h19 ?_
        refine at_skip ?_
        refine at_then_normal ?_
        refine at_seq ?_
        refine at_region ?_
        refine at_val rfl rfl rfl (r_move rfl) ?_
        refine at_val rfl rfl rfl (r_assign rfl) ?_
        refine at_nil ?_
        refine at_weak [(4, _)] ⟨rfl, trivial⟩ ?_
        refine at_then_normal ?_
        refine at_ret ?_
        have K := of_some hF
        subst K
        exact at_return1 rfl rfl (fun w1 hw => ⟨rfl, hw⟩)

def trie_node_prune.l0 (rec_ : List HV → Option Nat → Option (Bool × List HV)) (x0 : Option Nat) (t4 : Nat × S_trie_node) (i8 : Bool) (i9 : Int) (i10 : List HV) : Option (Bool × List HV) :=
  if (decide (i9 < 2)) = true then (if (0 : Int) ≤ i9 ∧ i9 < 2 then if (Option.isNone (vget t4.2.f_next i9)) = true then (trie_node_prune.l0 rec_ x0 t4 i8 (wr .i64 (i9 + 1)) i10) else (rec_ i10 (vget t4.2.f_next i9) >>= fun t14 => if t14.1 = true then (hn_trie_node t14.2 x0 >>= fun t16 => if (0 : Int) ≤ i9 ∧ i9 < 2 then trie_node_prune.l0 rec_ x0 t4 i8 (wr .i64 (i9 + 1)) (List.set t14.2 t16.1 (HV.trie_node ({ t16.2 with f_next := vset t16.2.f_next i9 (none : Option Nat) }))) else none) else (trie_node_prune.l0 rec_ x0 t4 false (wr .i64 (i9 + 1)) t14.2)) else none) else (some (i8, i10))
  partial_fixpoint
def trie_node_prune.go : Nat → List HV → Option Nat → Option (Bool × List HV)
  | 0 => fun _ _ => none
  | f_ + 1 => fun h_ x0 => hn_trie_node h_ x0 >>= fun t1 => hn_trie_node h_ x0 >>= fun t4 => trie_node_prune.l0 (trie_node_prune.go f_) x0 t4 (!t1.2.f_is) 0 h_ >>= fun q7 => some (q7.1, q7.2)
def trie_node_prune (h_ : List HV) (x0 : Option Nat) : Option (Bool × List HV) := trie_node_prune.go 400 h_ x0
theorem trie_node_prune.go_ok (f_ : Nat) : ∀ {h_ : List HV} {x0 : Option Nat} {r : Bool × List HV} (hF : trie_node_prune.go f_ h_ x0 = some r) {w0 w : World} {G_ : List Ent} {g0_ : Nat → Nat} {n0_ : Nat} {gh : Nat → Nat} (hw_ : Wd w0 (heapE hK g0_ n0_ gh h_ :: G_) w),
    Calls Try.prog 78 #[pv gh x0] w (fun e w' => e = .returned (.bool r.1) ∧ Wd w0 (heapE hK g0_ n0_ gh r.2 :: G_) w') := by
  induction f_ with
  | zero => intro h_ x0 r hF; exact absurd hF (by simp [trie_node_prune.go])
  | succ f_ ihf =>
  intro h_ x0 r hF w0 w G_ g0_ n0_ gh hw_
  unfold trie_node_prune.go at hF
  refine calls_enter (l := [pv gh x0]) Try.func78 rfl rfl rfl ?_
  refine at_enterF hw_ ?_
  refine at_weak [(0, _)] ⟨rfl, trivial⟩ ?_
  refine at_seq ?_
  refine at_region ?_
  refine at_val rfl rfl rfl (r_assign rfl) ?_
  refine at_nil ?_
  refine at_weak [(0, _)] ⟨rfl, trivial⟩ ?_
  refine at_then_normal ?_
  refine at_seq ?_
  refine at_region ?_
  refine at_val rfl rfl rfl (r_move rfl) ?_
  obtain ⟨t1, ht1, hF⟩ := of_bindM hF
  obtain ⟨ha2, hb3⟩ := hn_trie_node_at ht1
  refine at_val rfl rfl rfl (r_npc rfl ha2) ?_
  refine at_val rfl rfl rfl (r_fieldAddr (fo := 2) Try.underlying103 rfl rfl (fun w => ⟨_, Try.sizeOf4 w⟩) rfl) ?_
  refine at_val rfl rfl rfl (r_load_cell Try.isAgg4 rfl (hcell0 (c := cBool) (y := t1.2.f_is) .z hb3 (fun _ h => h) (Lens.comp (Lens.whole _ _) (fun z => { t1.2 with f_is := z }) (c_trie_node_f_is gh t1.2)) rfl)) ?_
  refine at_val rfl rfl rfl (r_not rfl) ?_
  refine at_val rfl rfl rfl (r_assign rfl) ?_
  refine at_nil ?_
  refine at_weak [(0, _), (3, _)] ⟨rfl, rfl, trivial⟩ ?_
  refine at_then_normal ?_
  refine at_seq ?_
  refine at_seq ?_
  refine at_region ?_
  refine at_val rfl rfl rfl (r_move rfl) ?_
  obtain ⟨t4, ht4, hF⟩ := of_bindM hF
  obtain ⟨ha5, hb6⟩ := hn_trie_node_at ht4
  refine at_val rfl rfl rfl (r_npc rfl ha5) ?_
  refine at_val rfl rfl rfl (r_fieldAddr (fo := 0) Try.underlying103 rfl rfl (fun w => ⟨_, Try.sizeOf101 w⟩) rfl) ?_
  refine at_val rfl rfl rfl (r_load_aggc (c := (cVec (cPtr gh) 2 (by decide))) (z := t4.2.f_next) Try.isAgg101 Try.sizeOf101 rfl (hcell .z hb6 (fun _ h => h) (Lens.comp (Lens.whole _ _) (fun z => { t4.2 with f_next := z }) (c_trie_node_f_next gh t4.2)))) ?_
  refine at_val rfl rfl rfl (r_move rfl) ?_
  refine at_nil ?_
  refine at_weak [(0, _), (3, _), (14, _), (15, _)] ⟨rfl, rfl, rfl, rfl, trivial⟩ ?_
  refine at_then_normal ?_
  refine at_block ?_
  obtain ⟨q7, hq7, hF⟩ := of_bindM hF
  refine at_weak [(0, _), (3, _), (14, _), (15, _)] ⟨rfl, rfl, rfl, rfl, trivial⟩ ?_
  refine at_loop_n (B := 0) (A := fun Y => At 32 [(3, .bool q7.1)] (Wd w0 (heapE hK g0_ n0_ gh q7.2 :: G_)) Y) ?_ ?_
  · intro K
    refine trie_node_prune.l0.partial_correctness (trie_node_prune.go f_) x0 t4 (motive := fun i8 i9 i10 x => KN (fun Y => At 32 [(3, .bool x.1)] (Wd w0 (heapE hK g0_ n0_ gh x.2 :: G_)) Y) _ 0 → Round (fun Y => At 32 [(0, pv gh x0), (3, .bool i8), (14, .agg (Cd.cs (cVec (cPtr gh) 2 (by decide)) t4.2.f_next).toArray), (15, .int .i64 i9)] (Wd w0 (heapE hK g0_ n0_ gh i10 :: G_)) Y) _ _ _) ?_ _ _ _ _ hq7 K
    · clear K hF
      intro g ih i8 i9 i10 x hF K
      refine at_round ?_
      refine at_seq ?_
      refine at_region ?_
      refine at_val rfl rfl rfl (r_ilss rfl rfl) ?_
      refine at_nil ?_
      refine at_weak [(0, _), (3, _), (14, _), (15, _), (16, _)] ⟨rfl, rfl, rfl, rfl, rfl, trivial⟩ ?_
      refine at_then_normal ?_
      refine at_seq ?_
      rcases of_ite hF with ⟨h11, hF⟩ | ⟨h11, hF⟩
      · refine at_cond_true rfl h11 ?_
        refine at_skip ?_
        refine at_then_normal ?_
        refine at_seq ?_
        refine at_block ?_
        refine at_seq ?_
        refine at_region ?_
        refine at_val rfl rfl rfl (r_move rfl) ?_
        obtain ⟨h12, hF⟩ := of_guard hF
        refine at_val rfl rfl rfl (r_idxVal Try.underlying101 Try.sizeOf100 rfl rfl h12 (part_vOf (Lens.vec (cPtr gh) (by decide) t4.2.f_next i9 h12) Try.isAgg100 Try.sizeOf100 (.inr rfl))) ?_
        refine at_val rfl rfl rfl (r_assign rfl) ?_
        refine at_val rfl rfl rfl (r_assign rfl) ?_
        refine at_nil ?_
        refine at_weak [(0, _), (3, _), (4, _), (5, _), (14, _), (15, _)] ⟨rfl, rfl, rfl, rfl, rfl, rfl, trivial⟩ ?_
        refine at_then_normal ?_
        refine at_block ?_
        refine at_seq ?_
        refine at_region ?_
        refine at_val rfl rfl rfl (r_move rfl) ?_
        refine at_val rfl rfl rfl (r_pnil (p := vget t4.2.f_next i9) Try.underlying100 rfl rfl (.inl rfl) rfl) ?_
        refine at_val rfl rfl rfl (r_assign rfl) ?_
        refine at_nil ?_
        refine at_weak [(0, _), (3, _), (4, _), (5, _), (14, _), (15, _), (19, _)] ⟨rfl, rfl, rfl, rfl, rfl, rfl, rfl, trivial⟩ ?_
        refine at_then_normal ?_
        rcases of_ite hF with ⟨h13, hF⟩ | ⟨h13, hF⟩
        · refine at_cond_true rfl h13 ?_
          refine at_skip ?_
          refine at_blk_normal (at_blk_normal (at_then_normal ?_))
          refine at_region ?_
          refine at_val rfl rfl rfl (r_iadd rfl rfl) ?_
          refine at_val rfl rfl rfl (r_move rfl) ?_
          refine at_nil ?_
          refine at_weak [(0, _), (3, _), (14, _), (15, _)] ⟨rfl, rfl, rfl, rfl, trivial⟩ ?_
          refine at_then_normal ?_
          exact at_weak_k (ih _ _ _ _ hF K) ⟨rfl, rfl, rfl, rfl, trivial⟩
        · refine at_cond_false rfl h13 ?_
          refine at_seq ?_
          refine at_region ?_
          refine at_val rfl rfl rfl (r_move rfl) ?_
          obtain ⟨t14, ht14, hF⟩ := of_bindM hF
          refine at_callN (v := .bool t14.1) (T := (heapE hK g0_ n0_ gh t14.2 :: G_)) Try.func78 rfl (by kernel_rfl) rfl rfl (fun w hw => ihf ht14 hw) ?_
          refine at_val rfl rfl rfl (r_assign rfl) ?_
          refine at_nil ?_
          refine at_weak [(0, _), (3, _), (4, _), (14, _), (15, _), (22, _)] ⟨rfl, rfl, rfl, rfl, rfl, rfl, trivial⟩ ?_
          refine at_then_normal ?_
          rcases of_ite hF with ⟨h15, hF⟩ | ⟨h15, hF⟩
          · refine at_cond_true rfl h15 ?_
            refine at_region ?_
            refine at_val rfl rfl rfl (r_move rfl) ?_
            refine at_val rfl rfl rfl (r_move rfl) ?_
            obtain ⟨t16, ht16, hF⟩ := of_bindM hF
            obtain ⟨ha17, hb18⟩ := hn_trie_node_at ht16
            refine at_val rfl rfl rfl (r_npc rfl ha17) ?_
            refine at_val rfl rfl rfl (r_fieldAddr (fo := 0) Try.underlying103 rfl rfl (fun w => ⟨_, Try.sizeOf101 w⟩) rfl) ?_
            obtain ⟨h19, hF⟩ := of_guard hF
            refine at_val rfl rfl rfl (r_idxArr Try.underlying101 Try.sizeOf100 rfl rfl h19) ?_
            refine at_hstore (v' := HV.trie_node ({ t16.2 with f_next := vset t16.2.f_next i9 (none : Option Nat) })) (c := (cPtr gh)) (z := (none : Option Nat)) .z hb18 (fun _ h => h) (Lens.comp (Lens.comp (Lens.whole _ _) (fun z => { t16.2 with f_next := z }) (c_trie_node_f_next gh t16.2)) (fun z => vset t16.2.f_next i9 z) (Lens.vec (cPtr gh) (by decide) t16.2.f_next i9 h19)) (by rfl) (fun j hj => (mem_vset hj).imp id (fun e => vp_lt rfl j e)) Try.sizeOf100 rfl rfl rfl ?_
            refine at_nil ?_
            refine at_weak [(0, _), (3, _), (14, _), (15, _)] ⟨rfl, rfl, rfl, rfl, trivial⟩ ?_
            refine at_blk_normal (at_blk_normal (at_then_normal ?_))
            refine at_region ?_
            refine at_val rfl rfl rfl (r_iadd rfl rfl) ?_
            refine at_val rfl rfl rfl (r_move rfl) ?_
            refine at_nil ?_
            refine at_weak [(0, _), (3, _), (14, _), (15, _)] ⟨rfl, rfl, rfl, rfl, trivial⟩ ?_
            refine at_then_normal ?_
            exact at_weak_k (ih _ _ _ _ hF K) ⟨rfl, rfl, rfl, rfl, trivial⟩
          · refine at_cond_false rfl h15 ?_
            refine at_region ?_
            refine at_val rfl rfl rfl (r_assign rfl) ?_
            refine at_nil ?_
            refine at_weak [(0, _), (3, _), (14, _), (15, _)] ⟨rfl, rfl, rfl, rfl, trivial⟩ ?_
            refine at_blk_normal (at_blk_normal (at_then_normal ?_))
            refine at_region ?_
            refine at_val rfl rfl rfl (r_iadd rfl rfl) ?_
            refine at_val rfl rfl rfl (r_move rfl) ?_
            refine at_nil ?_
            refine at_weak [(0, _), (3, _), (14, _), (15, _)] ⟨rfl, rfl, rfl, rfl, trivial⟩ ?_
            refine at_then_normal ?_
            exact at_weak_k (ih _ _ _ _ hF K) ⟨rfl, rfl, rfl, rfl, trivial⟩
      · refine at_cond_false rfl h11 ?_
        refine at_exit ?_
        refine at_then_exit (at_then_exit ?_)
        obtain rfl := of_some hF
        exact at_weak_k K ⟨rfl, trivial⟩
  · skip
    skip
    refine at_blk_same ?_
    refine at_then_normal ?_
    refine at_seq ?_
    refine at_region ?_
    refine at_val rfl rfl rfl (r_move rfl) ?_
    refine at_val rfl rfl rfl (r_assign rfl) ?_
    refine at_nil ?_
    refine at_weak [(2, _)] ⟨rfl, trivial⟩ ?_
    refine at_then_normal ?_
    refine at_ret ?_
    have K := of_some hF
    subst K
    exact at_return1 rfl rfl (fun w1 hw => ⟨rfl, hw⟩)
theorem trie_node_prune_ok {h_ : List HV} {x0 : Option Nat} {r : Bool × List HV} (hF : trie_node_prune h_ x0 = some r) : ∀ {w0 w : World} {G_ : List Ent} {g0_ : Nat → Nat} {n0_ : Nat} {gh : Nat → Nat} (hw_ : Wd w0 (heapE hK g0_ n0_ gh h_ :: G_) w),
    Calls Try.prog 78 #[pv gh x0] w (fun e w' => e = .returned (.bool r.1) ∧ Wd w0 (heapE hK g0_ n0_ gh r.2 :: G_) w') := trie_node_prune.go_ok 400 hF

def trie_Trie_Drop (h_ : List HV) (x0 : Option Nat) (x1 : S_api_Prefix) : Option (Int × List HV) :=
  trie_Trie_check h_ x0 x1 >>= fun t2 => if (t2 != 0) = true then (some (t2, h_)) else (trie_Trie_at h_ x0 x1 >>= fun t4 => if (Option.isNone t4) = true then (some (8, h_)) else (hn_trie_node h_ t4 >>= fun t6 => hn_trie_node (List.set h_ t6.1 (HV.trie_node ({ t6.2 with f_is := false }))) t4 >>= fun t9 => hn_trie_Trie (List.set (List.set h_ t6.1 (HV.trie_node ({ t6.2 with f_is := false }))) t9.1 (HV.trie_node ({ t9.2 with f_owner := 0 }))) x0 >>= fun t12 => hn_trie_Trie (List.set (List.set h_ t6.1 (HV.trie_node ({ t6.2 with f_is := false }))) t9.1 (HV.trie_node ({ t9.2 with f_owner := 0 }))) x0 >>= fun t15 => hn_trie_Trie (List.set (List.set (List.set h_ t6.1 (HV.trie_node ({ t6.2 with f_is := false }))) t9.1 (HV.trie_node ({ t9.2 with f_owner := 0 }))) t15.1 (HV.trie_Trie ({ t15.2 with f_many := wr .i64 (t12.2.f_many - 1) }))) x0 >>= fun t18 => trie_node_prune (List.set (List.set (List.set h_ t6.1 (HV.trie_node ({ t6.2 with f_is := false }))) t9.1 (HV.trie_node ({ t9.2 with f_owner := 0 }))) t15.1 (HV.trie_Trie ({ t15.2 with f_many := wr .i64 (t12.2.f_many - 1) }))) t18.2.f_root >>= fun t21 => some (0, t21.2)))
theorem trie_Trie_Drop_ok {h_ : List HV} {x0 : Option Nat} {x1 : S_api_Prefix} {r : Int × List HV} (hF : trie_Trie_Drop h_ x0 x1 = some r) : ∀ {w0 w : World} {G_ : List Ent} {g0_ : Nat → Nat} {n0_ : Nat} {gh : Nat → Nat} (hw_ : Wd w0 (heapE hK g0_ n0_ gh h_ :: G_) w),
    Calls Try.prog 34 #[pv gh x0, .agg (Cd.cs c_api_Prefix x1).toArray] w (fun e w' => e = .returned (.int .i64 r.1) ∧ Wd w0 (heapE hK g0_ n0_ gh r.2 :: G_) w') := by
  intro w0 w G_ g0_ n0_ gh hw_
  unfold trie_Trie_Drop at hF
  refine calls_enter (l := [pv gh x0, .agg (Cd.cs c_api_Prefix x1).toArray]) Try.func34 rfl rfl rfl ?_
  refine at_enterF hw_ ?_
  refine at_weak [(0, _), (1, _)] ⟨rfl, rfl, trivial⟩ ?_
  refine at_seq ?_
  refine at_region ?_
  refine at_box (cs := Cd.cs c_api_Prefix x1) rfl rfl rfl ?_
  intro b1
  refine at_val rfl rfl rfl (r_assign rfl) ?_
  refine at_nil ?_
  refine at_weak [(0, _), (3, _)] ⟨rfl, rfl, trivial⟩ ?_
  refine at_then_normal ?_
  refine at_seq ?_
  refine at_seq ?_
  refine at_region ?_
  refine at_val rfl rfl rfl (r_move rfl) ?_
  refine at_val rfl rfl rfl (r_load_aggc (c := c_api_Prefix) (z := x1) Try.isAgg46 Try.sizeOf46 rfl (lens_cell .z (Lens.whole _ _))) ?_
  obtain ⟨t2, ht2, hF⟩ := of_bindM hF
  refine at_callR (.s .z) Try.func76 rfl (by kernel_rfl) rfl rfl (fun w hw => trie_Trie_check_ok ht2 hw) ?_
  refine at_val rfl rfl rfl (r_assign rfl) ?_
  refine at_nil ?_
  refine at_weak [(0, _), (3, _), (5, _)] ⟨rfl, rfl, rfl, trivial⟩ ?_
  refine at_then_normal ?_
  refine at_seq ?_
  refine at_region ?_
  refine at_val rfl rfl rfl (r_move rfl) ?_
  refine at_val rfl rfl rfl (r_ineq rfl rfl) ?_
  refine at_nil ?_
  refine at_weak [(0, _), (3, _), (5, _), (11, _)] ⟨rfl, rfl, rfl, rfl, trivial⟩ ?_
  refine at_then_normal ?_
  rcases of_ite hF with ⟨h3, hF⟩ | ⟨h3, hF⟩
  · refine at_cond_true rfl h3 ?_
    refine at_seq ?_
    refine at_region ?_
    refine at_val rfl rfl rfl (r_move rfl) ?_
    refine at_val rfl rfl rfl (r_assign rfl) ?_
    refine at_nil ?_
    refine at_drop (H := _) .z ?_
    refine at_weak [(4, _)] ⟨rfl, trivial⟩ ?_
    refine at_then_normal ?_
    refine at_ret ?_
    refine at_then_ret ?_
    have K := of_some hF
    subst K
    exact at_return1 rfl rfl (fun w1 hw => ⟨rfl, hw⟩)
  · refine at_cond_false rfl h3 ?_
    refine at_skip ?_
    refine at_then_normal ?_
    refine at_seq ?_
    refine at_region ?_
    refine at_val rfl rfl rfl (r_move rfl) ?_
    refine at_val rfl rfl rfl (r_load_aggc (c := c_api_Prefix) (z := x1) Try.isAgg46 Try.sizeOf46 rfl (lens_cell .z (Lens.whole _ _))) ?_
    obtain ⟨t4, ht4, hF⟩ := of_bindM hF
    refine at_callR (.s .z) Try.func77 rfl (by kernel_rfl) rfl rfl (fun w hw => trie_Trie_at_ok ht4 hw) ?_
    refine at_val rfl rfl rfl (r_assign rfl) ?_
    refine at_nil ?_
    refine at_drop (H := _) .z ?_
    refine at_weak [(0, _), (6, _)] ⟨rfl, rfl, trivial⟩ ?_
    refine at_then_normal ?_
    refine at_seq ?_
    refine at_seq ?_
    refine at_region ?_
    refine at_val rfl rfl rfl (r_move rfl) ?_
    refine at_val rfl rfl rfl (r_pnil (p := t4) Try.underlying100 rfl rfl (.inl rfl) rfl) ?_
    refine at_nil ?_
    refine at_weak [(0, _), (6, _), (17, _)] ⟨rfl, rfl, rfl, trivial⟩ ?_
    refine at_then_normal ?_
    rcases of_ite hF with ⟨h5, hF⟩ | ⟨h5, hF⟩
    · refine at_cond_true rfl h5 ?_
      refine at_seq ?_
      refine at_region ?_
      refine at_val rfl rfl rfl (r_assign rfl) ?_
      refine at_nil ?_
      refine at_weak [(4, _)] ⟨rfl, trivial⟩ ?_
      refine at_then_normal ?_
      refine at_ret ?_
      refine at_then_ret ?_
      have K := of_some hF
      subst K
      exact at_return1 rfl rfl (fun w1 hw => ⟨rfl, hw⟩)
    · refine at_cond_false rfl h5 ?_
      refine at_skip ?_
      refine at_then_normal ?_
      refine at_seq ?_
      refine at_region ?_
      refine at_val rfl rfl rfl (r_move rfl) ?_
      refine at_val rfl rfl rfl (r_move rfl) ?_
      obtain ⟨t6, ht6, hF⟩ := of_bindM hF
      obtain ⟨ha7, hb8⟩ := hn_trie_node_at ht6
      refine at_val rfl rfl rfl (r_npc rfl ha7) ?_
      refine at_val rfl rfl rfl (r_fieldAddr (fo := 2) Try.underlying103 rfl rfl (fun w => ⟨_, Try.sizeOf4 w⟩) rfl) ?_
      refine at_hstore (v' := HV.trie_node ({ t6.2 with f_is := false })) (c := cBool) (z := false) .z hb8 (fun _ h => h) (Lens.comp (Lens.whole _ _) (fun z => { t6.2 with f_is := z }) (c_trie_node_f_is gh t6.2)) (by rfl) (fun j hj => .inl hj) Try.sizeOf4 rfl rfl rfl ?_
      obtain ⟨t9, ht9, hF⟩ := of_bindM hF
      obtain ⟨ha10, hb11⟩ := hn_trie_node_at ht9
      refine at_val rfl rfl rfl (r_npc rfl ha10) ?_
      refine at_val rfl rfl rfl (r_fieldAddr (fo := 3) Try.underlying103 rfl rfl (fun w => ⟨_, Try.sizeOf3 w⟩) rfl) ?_
      refine at_hstore (v' := HV.trie_node ({ t9.2 with f_owner := 0 })) (c := (cInt .i64)) (z := 0) .z hb11 (fun _ h => h) (Lens.comp (Lens.whole _ _) (fun z => { t9.2 with f_owner := z }) (c_trie_node_f_owner gh t9.2)) (by rfl) (fun j hj => .inl hj) Try.sizeOf3 rfl rfl rfl ?_
      refine at_nil ?_
      refine at_weak [(0, _)] ⟨rfl, trivial⟩ ?_
      refine at_then_normal ?_
      refine at_seq ?_
      refine at_region ?_
      refine at_val rfl rfl rfl (r_move rfl) ?_
      obtain ⟨t12, ht12, hF⟩ := of_bindM hF
      obtain ⟨ha13, hb14⟩ := hn_trie_Trie_at ht12
      refine at_val rfl rfl rfl (r_npc rfl ha13) ?_
      refine at_val rfl rfl rfl (r_fieldAddr (fo := 2) Try.underlying105 rfl rfl (fun w => ⟨_, Try.sizeOf3 w⟩) rfl) ?_
      refine at_val rfl rfl rfl (r_load_cell Try.isAgg3 rfl (hcell0 (c := (cInt .i64)) (y := t12.2.f_many) .z hb14 (fun _ h => h) (Lens.comp (Lens.whole _ _) (fun z => { t12.2 with f_many := z }) (c_trie_Trie_f_many gh t12.2)) rfl)) ?_
      refine at_val rfl rfl rfl (r_isub rfl rfl) ?_
      obtain ⟨t15, ht15, hF⟩ := of_bindM hF
      obtain ⟨ha16, hb17⟩ := hn_trie_Trie_at ht15
      refine at_val rfl rfl rfl (r_npc rfl ha16) ?_
      refine at_val rfl rfl rfl (r_fieldAddr (fo := 2) Try.underlying105 rfl rfl (fun w => ⟨_, Try.sizeOf3 w⟩) rfl) ?_
      refine at_hstore (v' := HV.trie_Trie ({ t15.2 with f_many := wr .i64 (t12.2.f_many - 1) })) (c := (cInt .i64)) (z := wr .i64 (t12.2.f_many - 1)) .z hb17 (fun _ h => h) (Lens.comp (Lens.whole _ _) (fun z => { t15.2 with f_many := z }) (c_trie_Trie_f_many gh t15.2)) (by rfl) (fun j hj => .inl hj) Try.sizeOf3 rfl rfl rfl ?_
      refine at_nil ?_
      refine at_weak [(0, _)] ⟨rfl, trivial⟩ ?_
      refine at_then_normal ?_
      refine at_seq ?_
      refine at_region ?_
      refine at_val rfl rfl rfl (r_move rfl) ?_
      obtain ⟨t18, ht18, hF⟩ := of_bindM hF
      obtain ⟨ha19, hb20⟩ := hn_trie_Trie_at ht18
      refine at_val rfl rfl rfl (r_npc rfl ha19) ?_
      refine at_val rfl rfl rfl (r_fieldAddr (fo := 0) Try.underlying105 rfl rfl (fun w => ⟨_, Try.sizeOf100 w⟩) rfl) ?_
      refine at_val rfl rfl rfl (r_load_cell Try.isAgg100 rfl (hcell0 (c := (cPtr gh)) (y := t18.2.f_root) .z hb20 (fun _ h => h) (Lens.comp (Lens.whole _ _) (fun z => { t18.2 with f_root := z }) (c_trie_Trie_f_root gh t18.2)) rfl)) ?_
      obtain ⟨t21, ht21, hF⟩ := of_bindM hF
      refine at_callN (v := .bool t21.1) (T := (heapE hK g0_ n0_ gh t21.2 :: G_)) Try.func78 rfl (by kernel_rfl) rfl rfl (fun w hw => trie_node_prune_ok ht21 hw) ?_
      refine at_nil ?_
      refine at_weak [] trivial ?_
      refine at_then_normal ?_
      refine at_seq ?_
      refine at_region ?_
      refine at_val rfl rfl rfl (r_assign rfl) ?_
      refine at_nil ?_
      refine at_weak [(4, _)] ⟨rfl, trivial⟩ ?_
      refine at_then_normal ?_
      refine at_ret ?_
      have K := of_some hF
      subst K
      exact at_return1 rfl rfl (fun w1 hw => ⟨rfl, hw⟩)

def trie_Trie_Get (h_ : List HV) (x0 : Option Nat) (x1 : S_api_Prefix) : Option (Int × Bool) :=
  trie_Trie_check h_ x0 x1 >>= fun t2 => if (t2 != 0) = true then (some (0, false)) else (trie_Trie_at h_ x0 x1 >>= fun t4 => if (Option.isNone t4) = true then (some (0, false)) else (hn_trie_node h_ t4 >>= fun t6 => some (t6.2.f_owner, true)))
theorem trie_Trie_Get_ok {h_ : List HV} {x0 : Option Nat} {x1 : S_api_Prefix} {r : Int × Bool} (hF : trie_Trie_Get h_ x0 x1 = some r) : ∀ {w0 w : World} {G_ : List Ent} {g0_ : Nat → Nat} {n0_ : Nat} {gh : Nat → Nat} (hw_ : Wd w0 (heapE hK g0_ n0_ gh h_ :: G_) w),
    Calls Try.prog 31 #[pv gh x0, .agg (Cd.cs c_api_Prefix x1).toArray] w (fun e w' => e = .returned (.tuple #[.int .i64 r.1, .bool r.2]) ∧ Wd w0 (heapE hK g0_ n0_ gh h_ :: G_) w') := by
  intro w0 w G_ g0_ n0_ gh hw_
  unfold trie_Trie_Get at hF
  refine calls_enter (l := [pv gh x0, .agg (Cd.cs c_api_Prefix x1).toArray]) Try.func31 rfl rfl rfl ?_
  refine at_enterF hw_ ?_
  refine at_weak [(0, _), (1, _)] ⟨rfl, rfl, trivial⟩ ?_
  refine at_seq ?_
  refine at_region ?_
  refine at_box (cs := Cd.cs c_api_Prefix x1) rfl rfl rfl ?_
  intro b1
  refine at_val rfl rfl rfl (r_assign rfl) ?_
  refine at_val rfl rfl rfl (r_assign rfl) ?_
  refine at_nil ?_
  refine at_weak [(0, _), (3, _)] ⟨rfl, rfl, trivial⟩ ?_
  refine at_then_normal ?_
  refine at_seq ?_
  refine at_seq ?_
  refine at_region ?_
  refine at_val rfl rfl rfl (r_move rfl) ?_
  refine at_val rfl rfl rfl (r_load_aggc (c := c_api_Prefix) (z := x1) Try.isAgg46 Try.sizeOf46 rfl (lens_cell .z (Lens.whole _ _))) ?_
  obtain ⟨t2, ht2, hF⟩ := of_bindM hF
  refine at_callR (.s .z) Try.func76 rfl (by kernel_rfl) rfl rfl (fun w hw => trie_Trie_check_ok ht2 hw) ?_
  refine at_val rfl rfl rfl (r_ineq rfl rfl) ?_
  refine at_nil ?_
  refine at_weak [(0, _), (3, _), (10, _)] ⟨rfl, rfl, rfl, trivial⟩ ?_
  refine at_then_normal ?_
  rcases of_ite hF with ⟨h3, hF⟩ | ⟨h3, hF⟩
  · refine at_cond_true rfl h3 ?_
    refine at_seq ?_
    refine at_region ?_
    refine at_val rfl rfl rfl (r_assign rfl) ?_
    refine at_val rfl rfl rfl (r_assign rfl) ?_
    refine at_nil ?_
    refine at_drop (H := _) .z ?_
    refine at_weak [(4, _), (5, _)] ⟨rfl, rfl, trivial⟩ ?_
    refine at_then_normal ?_
    refine at_ret ?_
    refine at_then_ret ?_
    have K := of_some hF
    subst K
    exact at_return2 rfl rfl rfl (fun w1 hw => ⟨rfl, hw⟩)
  · refine at_cond_false rfl h3 ?_
    refine at_skip ?_
    refine at_then_normal ?_
    refine at_seq ?_
    refine at_region ?_
    refine at_val rfl rfl rfl (r_move rfl) ?_
    refine at_val rfl rfl rfl (r_load_aggc (c := c_api_Prefix) (z := x1) Try.isAgg46 Try.sizeOf46 rfl (lens_cell .z (Lens.whole _ _))) ?_
    obtain ⟨t4, ht4, hF⟩ := of_bindM hF
    refine at_callR (.s .z) Try.func77 rfl (by kernel_rfl) rfl rfl (fun w hw => trie_Trie_at_ok ht4 hw) ?_
    refine at_val rfl rfl rfl (r_assign rfl) ?_
    refine at_nil ?_
    refine at_drop (H := _) .z ?_
    refine at_weak [(6, _)] ⟨rfl, trivial⟩ ?_
    refine at_then_normal ?_
    refine at_seq ?_
    refine at_seq ?_
    refine at_region ?_
    refine at_val rfl rfl rfl (r_move rfl) ?_
    refine at_val rfl rfl rfl (r_pnil (p := t4) Try.underlying100 rfl rfl (.inl rfl) rfl) ?_
    refine at_nil ?_
    refine at_weak [(6, _), (15, _)] ⟨rfl, rfl, trivial⟩ ?_
    refine at_then_normal ?_
    rcases of_ite hF with ⟨h5, hF⟩ | ⟨h5, hF⟩
    · refine at_cond_true rfl h5 ?_
      refine at_seq ?_
      refine at_region ?_
      refine at_val rfl rfl rfl (r_assign rfl) ?_
      refine at_val rfl rfl rfl (r_assign rfl) ?_
      refine at_nil ?_
      refine at_weak [(4, _), (5, _)] ⟨rfl, rfl, trivial⟩ ?_
      refine at_then_normal ?_
      refine at_ret ?_
      refine at_then_ret ?_
      have K := of_some hF
      subst K
      exact at_return2 rfl rfl rfl (fun w1 hw => ⟨rfl, hw⟩)
    · refine at_cond_false rfl h5 ?_
      refine at_skip ?_
      refine at_then_normal ?_
      refine at_seq ?_
      refine at_region ?_
      refine at_val rfl rfl rfl (r_move rfl) ?_
      obtain ⟨t6, ht6, hF⟩ := of_bindM hF
      obtain ⟨ha7, hb8⟩ := hn_trie_node_at ht6
      refine at_val rfl rfl rfl (r_npc rfl ha7) ?_
      refine at_val rfl rfl rfl (r_fieldAddr (fo := 3) Try.underlying103 rfl rfl (fun w => ⟨_, Try.sizeOf3 w⟩) rfl) ?_
      refine at_val rfl rfl rfl (r_load_cell Try.isAgg3 rfl (hcell0 (c := (cInt .i64)) (y := t6.2.f_owner) .z hb8 (fun _ h => h) (Lens.comp (Lens.whole _ _) (fun z => { t6.2 with f_owner := z }) (c_trie_node_f_owner gh t6.2)) rfl)) ?_
      refine at_val rfl rfl rfl (r_assign rfl) ?_
      refine at_val rfl rfl rfl (r_assign rfl) ?_
      refine at_nil ?_
      refine at_weak [(4, _), (5, _)] ⟨rfl, rfl, trivial⟩ ?_
      refine at_then_normal ?_
      refine at_ret ?_
      have K := of_some hF
      subst K
      exact at_return2 rfl rfl rfl (fun w1 hw => ⟨rfl, hw⟩)

def crawlwaylaw25_step (h_ : List HV) (x0 : Option Nat) (x1 : Int) (x2 : List S_api_Entry) (x3 : S_crawlwaylaw25_Deed) : Option (List S_api_Entry × Bool × List HV) :=
  if (x3.f_Kind == 0) = true then (trie_Trie_Put h_ x0 x3.f_P x3.f_Own >>= fun t3 => crawlwayref25_Right x1 x3.f_P >>= fun t7 => if (!t7) = true then (some (x2, (t3.1 == 1), t3.2)) else (crawlwayref25_Put x2 ({ { ({ f_P := ({ f_A := ({ f_V := (0 : Int), f_B := (Vector.replicate 16 (0 : Int) : (Vector Int 16)) } : S_api_Addr), f_Bits := (0 : Int) } : S_api_Prefix), f_Owner := (0 : Int) } : S_api_Entry) with f_P := x3.f_P } with f_Owner := x3.f_Own }) >>= fun t9 => some (t9, (t3.1 == 0), t3.2))) else (trie_Trie_Drop h_ x0 x3.f_P >>= fun t12 => crawlwayref25_Right x1 x3.f_P >>= fun t13 => if (!t13) = true then (some (x2, (t12.1 == 1), t12.2)) else (crawlwayref25_Place x2 x3.f_P >>= fun t15 => if (decide (t15 < 0)) = true then (some (x2, (t12.1 == 8), t12.2)) else (crawlwayref25_Drop x2 x3.f_P >>= fun t17 => some (t17, (t12.1 == 0), t12.2))))
theorem crawlwaylaw25_step_ok {h_ : List HV} {x0 : Option Nat} {x1 : Int} {x2 : List S_api_Entry} {x3 : S_crawlwaylaw25_Deed} {r : List S_api_Entry × Bool × List HV} (hF : crawlwaylaw25_step h_ x0 x1 x2 x3 = some r) : ∀ {w0 w : World} {G_ : List Ent} {g0_ : Nat → Nat} {n0_ : Nat} {gh : Nat → Nat} {p2_ : Option Addr} {c2_ : Nat} (hw_ : Wd w0 (heapE hK g0_ n0_ gh h_ :: rowE c_api_Entry 52 p2_ c2_ x2 :: G_) w),
    Calls Try.prog 25 #[pv gh x0, .int .i64 x1, .slice p2_ x2.length c2_, .agg (Cd.cs c_crawlwaylaw25_Deed x3).toArray] w (fun e w' => ∃ (gh : Nat → Nat) (p : Option Addr) (cap : Nat), e = .returned (.tuple #[.slice p r.1.length cap, .bool r.2.1]) ∧ Wd w0 (heapE hK g0_ n0_ gh r.2.2 :: rowE c_api_Entry 52 p cap r.1 :: G_) w') := by
  intro w0 w G_ g0_ n0_ gh p2_ c2_ hw_
  unfold crawlwaylaw25_step at hF
  refine calls_enter (l := [pv gh x0, .int .i64 x1, .slice p2_ x2.length c2_, .agg (Cd.cs c_crawlwaylaw25_Deed x3).toArray]) Try.func25 rfl rfl rfl ?_
  refine at_enterF hw_ ?_
  refine at_weak [(0, _), (1, _), (2, _), (3, _)] ⟨rfl, rfl, rfl, rfl, trivial⟩ ?_
  refine at_seq ?_
  refine at_region ?_
  refine at_box (cs := Cd.cs c_crawlwaylaw25_Deed x3) rfl rfl rfl ?_
  intro b1
  refine at_val rfl rfl rfl (r_assign rfl) ?_
  refine at_val rfl rfl rfl (r_assign rfl) ?_
  refine at_nil ?_
  refine at_weak [(0, _), (1, _), (2, _), (7, _)] ⟨rfl, rfl, rfl, rfl, trivial⟩ ?_
  refine at_then_normal ?_
  refine at_seq ?_
  refine at_seq ?_
  refine at_region ?_
  refine at_val rfl rfl rfl (r_fieldAddr (fo := 0) Try.underlying48 rfl rfl (fun w => ⟨_, Try.sizeOf3 w⟩) rfl) ?_
  refine at_val rfl rfl rfl (r_load_cell Try.isAgg3 rfl (lens_cell0 (c := (cInt .i64)) (y := x3.f_Kind) .z (Lens.comp (Lens.whole _ _) (fun z => { x3 with f_Kind := z }) (c_crawlwaylaw25_Deed_f_Kind x3)) rfl)) ?_
  refine at_val rfl rfl rfl (r_ieql rfl rfl) ?_
  refine at_nil ?_
  refine at_weak [(0, _), (1, _), (2, _), (7, _), (14, _)] ⟨rfl, rfl, rfl, rfl, rfl, trivial⟩ ?_
  refine at_then_normal ?_
  rcases of_ite hF with ⟨h2, hF⟩ | ⟨h2, hF⟩
  · refine at_cond_true rfl h2 ?_
    refine at_seq ?_
    refine at_region ?_
    refine at_val rfl rfl rfl (r_move rfl) ?_
    refine at_val rfl rfl rfl (r_fieldAddr (fo := 1) Try.underlying48 rfl rfl (fun w => ⟨_, Try.sizeOf46 w⟩) rfl) ?_
    refine at_val rfl rfl rfl (r_load_aggc (c := c_api_Prefix) (z := x3.f_P) Try.isAgg46 Try.sizeOf46 rfl (lens_cell .z (Lens.comp (Lens.whole _ _) (fun z => { x3 with f_P := z }) (c_crawlwaylaw25_Deed_f_P x3)))) ?_
    refine at_val rfl rfl rfl (r_fieldAddr (fo := 19) Try.underlying48 rfl rfl (fun w => ⟨_, Try.sizeOf3 w⟩) rfl) ?_
    refine at_val rfl rfl rfl (r_load_cell Try.isAgg3 rfl (lens_cell0 (c := (cInt .i64)) (y := x3.f_Own) .z (Lens.comp (Lens.whole _ _) (fun z => { x3 with f_Own := z }) (c_crawlwaylaw25_Deed_f_Own x3)) rfl)) ?_
    obtain ⟨t3, ht3, hF⟩ := of_bindM hF
    refine at_front (.s .z) ?_
    refine at_callH (γ := Unit) (h' := t3.2) (V := fun z gh => .int .i64 t3.1) (T := fun z => (cellsE b1 (Cd.cs c_crawlwaylaw25_Deed x3) 48 :: rowE c_api_Entry 52 p2_ c2_ x2 :: G_)) Try.func33 rfl (by kernel_rfl) rfl rfl (fun w hw => (trie_Trie_Put_ok ht3 hw).mono (by rintro e w' ⟨gh, he, hw'⟩; exact ⟨gh, (), he, hw'⟩)) ?_
    rintro gh ⟨⟩ hg4
    refine at_val rfl rfl rfl (r_assign rfl) ?_
    refine at_nil ?_
    refine at_weak [(1, _), (2, _), (7, _), (10, _)] ⟨rfl, rfl, rfl, rfl, trivial⟩ ?_
    refine at_then_normal ?_
    refine at_seq ?_
    refine at_seq ?_
    refine at_region ?_
    refine at_val rfl rfl rfl (r_move rfl) ?_
    refine at_val rfl rfl rfl (r_fieldAddr (fo := 1) Try.underlying48 rfl rfl (fun w => ⟨_, Try.sizeOf46 w⟩) rfl) ?_
    refine at_val rfl rfl rfl (r_load_aggc (c := c_api_Prefix) (z := x3.f_P) Try.isAgg46 Try.sizeOf46 rfl (lens_cell (.s .z) (Lens.comp (Lens.whole _ _) (fun z => { x3 with f_P := z }) (c_crawlwaylaw25_Deed_f_P x3)))) ?_
    obtain ⟨t7, ht7, hF⟩ := of_bindM hF
    refine at_callB Try.func66 rfl (by kernel_rfl) rfl rfl (fun w hw => crawlwayref25_Right_ok _ _ _ ht7 w) ?_
    refine at_val rfl rfl rfl (r_not rfl) ?_
    refine at_nil ?_
    refine at_weak [(2, _), (7, _), (10, _), (25, _)] ⟨rfl, rfl, rfl, rfl, trivial⟩ ?_
    refine at_then_normal ?_
    rcases of_ite hF with ⟨h8, hF⟩ | ⟨h8, hF⟩
    · refine at_cond_true rfl h8 ?_
      refine at_seq ?_
      refine at_region ?_
      refine at_val rfl rfl rfl (r_move rfl) ?_
      refine at_val rfl rfl rfl (r_move rfl) ?_
      refine at_val rfl rfl rfl (r_ieql rfl rfl) ?_
      refine at_val rfl rfl rfl (r_assign rfl) ?_
      refine at_val rfl rfl rfl (r_assign rfl) ?_
      refine at_nil ?_
      refine at_drop (H := _) (.s .z) ?_
      refine at_weak [(8, _), (9, _)] ⟨rfl, rfl, trivial⟩ ?_
      refine at_then_normal ?_
      refine at_ret ?_
      refine at_then_ret (at_then_ret ?_)
      have K := of_some hF
      subst K
      exact at_return2 rfl rfl rfl (fun w1 hw => ⟨gh, p2_, c2_, rfl, hw⟩)
    · refine at_cond_false rfl h8 ?_
      refine at_skip ?_
      refine at_then_normal ?_
      refine at_seq ?_
      refine at_region ?_
      refine at_val rfl rfl rfl (r_move rfl) ?_
      refine at_val rfl rfl rfl (r_fieldAddr (fo := 1) Try.underlying48 rfl rfl (fun w => ⟨_, Try.sizeOf46 w⟩) rfl) ?_
      refine at_val rfl rfl rfl (r_load_aggc (c := c_api_Prefix) (z := x3.f_P) Try.isAgg46 Try.sizeOf46 rfl (lens_cell (.s .z) (Lens.comp (Lens.whole _ _) (fun z => { x3 with f_P := z }) (c_crawlwaylaw25_Deed_f_P x3)))) ?_
      refine at_val rfl rfl rfl (r_fieldAddr (fo := 19) Try.underlying48 rfl rfl (fun w => ⟨_, Try.sizeOf3 w⟩) rfl) ?_
      refine at_val rfl rfl rfl (r_load_cell Try.isAgg3 rfl (lens_cell0 (c := (cInt .i64)) (y := x3.f_Own) (.s .z) (Lens.comp (Lens.whole _ _) (fun z => { x3 with f_Own := z }) (c_crawlwaylaw25_Deed_f_Own x3)) rfl)) ?_
      refine at_val rfl rfl rfl (r_build_struct (zs := Cd.cs c_api_Entry ({ f_P := ({ f_A := ({ f_V := (0 : Int), f_B := (Vector.replicate 16 (0 : Int) : (Vector Int 16)) } : S_api_Addr), f_Bits := (0 : Int) } : S_api_Prefix), f_Owner := (0 : Int) } : S_api_Entry)) (cs := Cd.cs c_api_Entry ({ { ({ f_P := ({ f_A := ({ f_V := (0 : Int), f_B := (Vector.replicate 16 (0 : Int) : (Vector Int 16)) } : S_api_Addr), f_Bits := (0 : Int) } : S_api_Prefix), f_Owner := (0 : Int) } : S_api_Entry) with f_P := x3.f_P } with f_Owner := x3.f_Own })) Try.underlying52 Try.zeroValue52 rfl (places_api_Entry_52) rfl (fill_step (c := c_api_Prefix) (z := x3.f_P) rfl (c_api_Entry_f_P ({ f_P := ({ f_A := ({ f_V := (0 : Int), f_B := (Vector.replicate 16 (0 : Int) : (Vector Int 16)) } : S_api_Addr), f_Bits := (0 : Int) } : S_api_Prefix), f_Owner := (0 : Int) } : S_api_Entry)) rfl (fill_step (c := (cInt .i64)) (z := x3.f_Own) rfl (c_api_Entry_f_Owner ({ ({ f_P := ({ f_A := ({ f_V := (0 : Int), f_B := (Vector.replicate 16 (0 : Int) : (Vector Int 16)) } : S_api_Addr), f_Bits := (0 : Int) } : S_api_Prefix), f_Owner := (0 : Int) } : S_api_Entry) with f_P := x3.f_P })) rfl rfl))) ?_
      obtain ⟨t9, ht9, hF⟩ := of_bindM hF
      refine at_callO (c := c_api_Entry) (e := 52) (ys := t9) (V := fun p cap => .slice p t9.length cap) Try.func67 rfl (by kernel_rfl) rfl rfl (fun w hw => crawlwayref25_Put_ok _ _ _ _ _ ht9 w (hw.own (.s (.s .z))).row) ?_
      intro p10 c11
      refine at_val rfl rfl rfl (r_move rfl) ?_
      refine at_val rfl rfl rfl (r_ieql rfl rfl) ?_
      refine at_val rfl rfl rfl (r_assign rfl) ?_
      refine at_val rfl rfl rfl (r_assign rfl) ?_
      refine at_nil ?_
      refine at_drop (H := _) (.s (.s .z)) ?_
      refine at_drop (H := _) (.s (.s .z)) ?_
      refine at_weak [(8, _), (9, _)] ⟨rfl, rfl, trivial⟩ ?_
      refine at_then_normal ?_
      refine at_ret ?_
      refine at_then_ret ?_
      refine at_front (.s .z) ?_
      have K := of_some hF
      subst K
      exact at_return2 rfl rfl rfl (fun w1 hw => ⟨gh, p10, c11, rfl, hw⟩)
  · refine at_cond_false rfl h2 ?_
    refine at_skip ?_
    refine at_then_normal ?_
    refine at_seq ?_
    refine at_region ?_
    refine at_val rfl rfl rfl (r_move rfl) ?_
    refine at_val rfl rfl rfl (r_fieldAddr (fo := 1) Try.underlying48 rfl rfl (fun w => ⟨_, Try.sizeOf46 w⟩) rfl) ?_
    refine at_val rfl rfl rfl (r_load_aggc (c := c_api_Prefix) (z := x3.f_P) Try.isAgg46 Try.sizeOf46 rfl (lens_cell .z (Lens.comp (Lens.whole _ _) (fun z => { x3 with f_P := z }) (c_crawlwaylaw25_Deed_f_P x3)))) ?_
    obtain ⟨t12, ht12, hF⟩ := of_bindM hF
    refine at_front (.s .z) ?_
    refine at_callN (v := .int .i64 t12.1) (T := (heapE hK g0_ n0_ gh t12.2 :: cellsE b1 (Cd.cs c_crawlwaylaw25_Deed x3) 48 :: rowE c_api_Entry 52 p2_ c2_ x2 :: G_)) Try.func34 rfl (by kernel_rfl) rfl rfl (fun w hw => trie_Trie_Drop_ok ht12 hw) ?_
    refine at_val rfl rfl rfl (r_assign rfl) ?_
    refine at_nil ?_
    refine at_weak [(1, _), (2, _), (7, _), (11, _)] ⟨rfl, rfl, rfl, rfl, trivial⟩ ?_
    refine at_then_normal ?_
    refine at_seq ?_
    refine at_seq ?_
    refine at_region ?_
    refine at_val rfl rfl rfl (r_move rfl) ?_
    refine at_val rfl rfl rfl (r_fieldAddr (fo := 1) Try.underlying48 rfl rfl (fun w => ⟨_, Try.sizeOf46 w⟩) rfl) ?_
    refine at_val rfl rfl rfl (r_load_aggc (c := c_api_Prefix) (z := x3.f_P) Try.isAgg46 Try.sizeOf46 rfl (lens_cell (.s .z) (Lens.comp (Lens.whole _ _) (fun z => { x3 with f_P := z }) (c_crawlwaylaw25_Deed_f_P x3)))) ?_
    obtain ⟨t13, ht13, hF⟩ := of_bindM hF
    refine at_callB Try.func66 rfl (by kernel_rfl) rfl rfl (fun w hw => crawlwayref25_Right_ok _ _ _ ht13 w) ?_
    refine at_val rfl rfl rfl (r_not rfl) ?_
    refine at_nil ?_
    refine at_weak [(2, _), (7, _), (11, _), (46, _)] ⟨rfl, rfl, rfl, rfl, trivial⟩ ?_
    refine at_then_normal ?_
    rcases of_ite hF with ⟨h14, hF⟩ | ⟨h14, hF⟩
    · refine at_cond_true rfl h14 ?_
      refine at_seq ?_
      refine at_region ?_
      refine at_val rfl rfl rfl (r_move rfl) ?_
      refine at_val rfl rfl rfl (r_move rfl) ?_
      refine at_val rfl rfl rfl (r_ieql rfl rfl) ?_
      refine at_val rfl rfl rfl (r_assign rfl) ?_
      refine at_val rfl rfl rfl (r_assign rfl) ?_
      refine at_nil ?_
      refine at_drop (H := _) (.s .z) ?_
      refine at_weak [(8, _), (9, _)] ⟨rfl, rfl, trivial⟩ ?_
      refine at_then_normal ?_
      refine at_ret ?_
      refine at_then_ret ?_
      have K := of_some hF
      subst K
      exact at_return2 rfl rfl rfl (fun w1 hw => ⟨gh, p2_, c2_, rfl, hw⟩)
    · refine at_cond_false rfl h14 ?_
      refine at_skip ?_
      refine at_then_normal ?_
      refine at_seq ?_
      refine at_seq ?_
      refine at_region ?_
      refine at_val rfl rfl rfl (r_move rfl) ?_
      refine at_val rfl rfl rfl (r_fieldAddr (fo := 1) Try.underlying48 rfl rfl (fun w => ⟨_, Try.sizeOf46 w⟩) rfl) ?_
      refine at_val rfl rfl rfl (r_load_aggc (c := c_api_Prefix) (z := x3.f_P) Try.isAgg46 Try.sizeOf46 rfl (lens_cell (.s .z) (Lens.comp (Lens.whole _ _) (fun z => { x3 with f_P := z }) (c_crawlwaylaw25_Deed_f_P x3)))) ?_
      obtain ⟨t15, ht15, hF⟩ := of_bindM hF
      refine at_callB Try.func32 rfl (by kernel_rfl) rfl rfl (fun w hw => crawlwayref25_Place_ok _ _ _ _ _ ht15 w (hw.own (.s (.s .z))).row) ?_
      refine at_val rfl rfl rfl (r_ilss rfl rfl) ?_
      refine at_nil ?_
      refine at_weak [(2, _), (7, _), (11, _), (54, _)] ⟨rfl, rfl, rfl, rfl, trivial⟩ ?_
      refine at_then_normal ?_
      rcases of_ite hF with ⟨h16, hF⟩ | ⟨h16, hF⟩
      · refine at_cond_true rfl h16 ?_
        refine at_seq ?_
        refine at_region ?_
        refine at_val rfl rfl rfl (r_move rfl) ?_
        refine at_val rfl rfl rfl (r_move rfl) ?_
        refine at_val rfl rfl rfl (r_ieql rfl rfl) ?_
        refine at_val rfl rfl rfl (r_assign rfl) ?_
        refine at_val rfl rfl rfl (r_assign rfl) ?_
        refine at_nil ?_
        refine at_drop (H := _) (.s .z) ?_
        refine at_weak [(8, _), (9, _)] ⟨rfl, rfl, trivial⟩ ?_
        refine at_then_normal ?_
        refine at_ret ?_
        refine at_then_ret ?_
        have K := of_some hF
        subst K
        exact at_return2 rfl rfl rfl (fun w1 hw => ⟨gh, p2_, c2_, rfl, hw⟩)
      · refine at_cond_false rfl h16 ?_
        refine at_skip ?_
        refine at_then_normal ?_
        refine at_seq ?_
        refine at_region ?_
        refine at_val rfl rfl rfl (r_move rfl) ?_
        refine at_val rfl rfl rfl (r_fieldAddr (fo := 1) Try.underlying48 rfl rfl (fun w => ⟨_, Try.sizeOf46 w⟩) rfl) ?_
        refine at_val rfl rfl rfl (r_load_aggc (c := c_api_Prefix) (z := x3.f_P) Try.isAgg46 Try.sizeOf46 rfl (lens_cell (.s .z) (Lens.comp (Lens.whole _ _) (fun z => { x3 with f_P := z }) (c_crawlwaylaw25_Deed_f_P x3)))) ?_
        obtain ⟨t17, ht17, hF⟩ := of_bindM hF
        refine at_callO (c := c_api_Entry) (e := 52) (ys := t17) (V := fun p cap => .slice p t17.length cap) Try.func68 rfl (by kernel_rfl) rfl rfl (fun w hw => crawlwayref25_Drop_ok _ _ _ _ _ ht17 w (hw.own (.s (.s .z))).row) ?_
        intro p18 c19
        refine at_val rfl rfl rfl (r_move rfl) ?_
        refine at_val rfl rfl rfl (r_ieql rfl rfl) ?_
        refine at_val rfl rfl rfl (r_assign rfl) ?_
        refine at_val rfl rfl rfl (r_assign rfl) ?_
        refine at_nil ?_
        refine at_drop (H := _) (.s (.s .z)) ?_
        refine at_drop (H := _) (.s (.s .z)) ?_
        refine at_weak [(8, _), (9, _)] ⟨rfl, rfl, trivial⟩ ?_
        refine at_then_normal ?_
        refine at_ret ?_
        refine at_front (.s .z) ?_
        have K := of_some hF
        subst K
        exact at_return2 rfl rfl rfl (fun w1 hw => ⟨gh, p18, c19, rfl, hw⟩)
end Go.Proofs.Ythccncpephpdjaa
