/- What is found in a trie is what the document finds in its list; the chapter's example. -/
import Derived.Test.YthccncpephpdjaaTriJ
set_option linter.unusedVariables false
set_option linter.unusedSimpArgs false
namespace Go.Proofs.Ythccncpephpdjaa.Tri
open E Go.RowKit
open Adr Cid
variable {h : List HV} {tk : Nat} {F : Int} {t : T} {fp : List Nat}

theorem has_iff (hF : F = 4 ∨ F = 6) (hd : t.dok (wid F)) {a : List UInt8} (ha : a.length = 16) (hr : rightL F a = true) {x : Tr} (hx : x ∈ t.list zl 0) : hasT F x F a = true ↔ x.1 = mfull a (x.2.1 : Int) ∧ x.2.1 ≤ wid F ∧ t.val (bf a 0 x.2.1) = some x.2.2 := by
  have hw := wid_le F
  obtain ⟨p, h1, h2, h3, h4⟩ := (T.mem_list t zl 0 x).1 hx
  have hpl := T.val_len t _ p _ hd h2
  have h5 : x.2.1 = p.length := by omega
  have hrp := right_path hF h1 hpl
  unfold hasT hasP
  rw [h5, h3, hrp, hr, decide_eq_true rfl]
  simp only [Bool.true_and, decide_eq_true_eq]
  constructor
  · intro e
    refine ⟨e.symm, hpl, ?_⟩
    rw [← adr_mfull ha (by omega)] at e
    have := adr_inj (bf_lt a _ 0) h1 (by rw [bf_len]; omega) (bf_len ..) e
    rw [this]; exact h2
  · exact fun ⟨e, _⟩ => e.symm
theorem find_code (hJ : J h tk F t fp) (hc : (t.list zl 0).length ≤ 900) {V : Int} {a : List UInt8} (ha : a.length = 16) : ∃ e is, trie_Trie_Find h (some tk) (mkA V a) = some (e, is) ∧ crawlwayref25_Find ((t.list zl 0).map (toE F)) (mkA V a) = some (e, is) ∧ (is = true → V = F) := by
  obtain ⟨root, h1, h2⟩ := hJ.tr
  have hw := wid_le F
  rw [find_ref ha (list_len16 t) (by omega)]
  unfold trie_Trie_Find
  rw [if_neg (by simp), right_code ha, bindM_some]
  by_cases hr : rightL V a = true ∧ V = F
  · obtain ⟨hr, rfl⟩ := hr
    rw [hr, if_neg (by simp)]
    simp only [hn_trie h1, bindM_some]
    have e0 : ((mkA V a).f_V != V) = false := by show (V != V) = false; simp
    rw [e0, if_neg (by simp)]
    have hfl := find_loop ha hr h (wid V) 0 t _ fp false zE (by rw [wid_of hr]; omega) h2
    unfold zE at hfl
    rw [show (0 : Int) = ((0 : Nat) : Int) from rfl] at hfl ⊢
    rw [hfl, bindM_some]
    obtain ⟨d1, d2⟩ := deep_spec t (bf a 0 (wid V)) 0
    have hbl := bf_len a (wid V) 0
    cases hdp : t.deep (bf a 0 (wid V)) 0 with
    | none =>
      have hno : ∀ x ∈ t.list zl 0, hasT V x V a = false := fun x hx => by
        cases hh : hasT V x V a with
        | false => rfl
        | true =>
          obtain ⟨_, a2, a3⟩ := (has_iff hJ.fam hJ.dok ha hr hx).1 hh
          have := d1 hdp x.2.1 (by omega)
          rw [bf_take a _ _ _ a2, a3] at this; cases this
      rw [fold_none _ _ hno]
      exact ⟨_, _, rfl, rfl, fun e => by cases e⟩
    | some z =>
      obtain ⟨j, o⟩ := z
      obtain ⟨m, m1, m2, m3, m4⟩ := d2 j o hdp
      have hj : j = m := by omega
      subst hj
      rw [hbl] at m1
      rw [bf_take a _ _ _ m1] at m3
      have hx0 : (adrG zl 0 (bf a 0 j), j, o) ∈ t.list zl 0 := (T.mem_list t zl 0 _).2 ⟨bf a 0 j, bf_lt a j 0, m3, rfl, by simp [bf_len]⟩
      have hh0 := (has_iff hJ.fam hJ.dok ha hr hx0).2 ⟨adr_mfull ha (by omega), m1, m3⟩
      obtain ⟨f1, f2, f3, f4⟩ := fold_some (F := V) (V := V) (a := a) (t.list zl 0) (false, zE) (.inr ⟨_, hx0, hh0⟩)
      rcases f2 with ⟨f2, _⟩ | ⟨y, hy, hyh, f2⟩
      · cases f2
      · obtain ⟨b1, b2, b3⟩ := (has_iff hJ.fam hJ.dok ha hr hy).1 hyh
        have hle := f4 _ hx0 hh0
        rw [f2] at hle
        have hle' : j ≤ y.2.1 := by
          have : ((j : Nat) : Int) ≤ (y.2.1 : Int) := hle
          omega
        have hje : y.2.1 = j := by
          rcases Nat.lt_or_ge j y.2.1 with hlt | hge
          · have := m4 y.2.1 hlt (by rw [hbl]; exact b2)
            rw [bf_take a _ _ _ b2, b3] at this; cases this
          · omega
        refine ⟨_, _, rfl, ?_, fun _ => trivial⟩
        rw [f2, f1]
        rw [hje, m3] at b3
        rw [hje] at b1
        show some (toE V y, true) = _
        unfold toE
        rw [b1, hje, ← Option.some.inj b3]; rfl
  · have hno : ∀ x ∈ t.list zl 0, hasT F x V a = false := fun x hx => by
      unfold hasT hasP
      by_cases hV : V = F
      · have : rightL V a = false := by cases q : rightL V a with | false => rfl | true => exact absurd ⟨q, hV⟩ hr
        rw [this]; simp
      · rw [decide_eq_false hV]; simp
    rw [fold_none _ _ hno]
    refine ⟨zE, false, ?_, rfl, fun e => by cases e⟩
    cases q : rightL V a with
    | false => rfl
    | true =>
      rw [if_neg (by simp), hn_trie h1, bindM_some, if_pos (by
        show (V != F) = true
        simp
        exact fun e => hr ⟨q, e⟩)]
      rfl
/-! ### the chapter's example -/
def l1 : List UInt8 := [10, 0, 0, 0, 0, 0, 0, 0, 0, 0, 0, 0, 0, 0, 0, 0]
def l2 : List UInt8 := [10, 1, 0, 0, 0, 0, 0, 0, 0, 0, 0, 0, 0, 0, 0, 0]
def l3 : List UInt8 := [10, 1, 2, 3, 0, 0, 0, 0, 0, 0, 0, 0, 0, 0, 0, 0]
theorem v1 : vset (Vector.replicate 16 (0 : Int) : (Vector Int 16)) 0 10 = vb l1 := by decide +kernel
theorem v2 : vset (vset (Vector.replicate 16 (0 : Int) : (Vector Int 16)) 0 10) 1 1 = vb l2 := by decide +kernel
theorem v3 : vset (vset (vset (vset (Vector.replicate 16 (0 : Int) : (Vector Int 16)) 0 10) 1 1) 2 2) 3 3 = vb l3 := by decide +kernel
theorem alive25 : crawlwaylaw25_alive = some true := by
  obtain ⟨h0, e0, j0, _, _⟩ := new_code (F := 4) ([] : List HV) (.inl rfl)
  obtain ⟨h1, f1, e1, j1, g1⟩ := put_code (n := 8) j0 (by simp [T.list]) (show l1.length = 16 from rfl) (by decide +kernel) (by decide) (by decide +kernel) 1
  have q1 := list_put (t := .nd false 0 .nil .nil) (n := wid 4) (p := bf l1 0 8) 1 j0.dok (by decide) (bf_lt _ _ _) (by decide)
  have k1 : ((T.ext (.nd false 0 .nil .nil) (bf l1 0 8)).put (bf l1 0 8) true 1).list zl 0 = [(l1, 8, 1)] := by rw [q1]; decide +kernel
  obtain ⟨h2, f2, e2, j2, g2⟩ := put_code (n := 16) j1 (by rw [k1]; decide) (show l2.length = 16 from rfl) (by decide +kernel) (by decide) (by decide +kernel) 2
  have q2 := list_put (p := bf l2 0 16) 2 j1.dok (by decide) (bf_lt _ _ _) (by decide)
  have k2 : ((((T.ext (.nd false 0 .nil .nil) (bf l1 0 8)).put (bf l1 0 8) true 1).ext (bf l2 0 16)).put (bf l2 0 16) true 2).list zl 0 = [(l1, 8, 1), (l2, 16, 2)] := by rw [q2, k1]; decide +kernel
  obtain ⟨e, is, e3, e4, _⟩ := find_code (V := 4) (a := l3) j2 (by rw [k2]; decide) rfl
  have e5 := len_code j2
  rw [k2] at e4 e5
  rw [find_ref (show l3.length = 16 from rfl) (by rw [← k2]; exact list_len16 _) (by decide)] at e4
  have e6 : [(l1, 8, (1 : Int)), (l2, 16, (2 : Int))].foldl (fstep 4 4 l3) (false, zE) = (true, toE 4 (l2, 16, 2)) := by
    have a1 : hasT 4 (l1, 8, 1) 4 l3 = true := by decide +kernel
    have a2 : hasT 4 (l2, 16, 2) 4 l3 = true := by decide +kernel
    have s1 : fstep 4 4 l3 (false, zE) (l1, 8, 1) = (true, toE 4 (l1, 8, 1)) := by
      unfold fstep
      rw [if_pos a1, if_pos (Or.inl rfl)]
    have s2 : fstep 4 4 l3 (true, toE 4 (l1, 8, 1)) (l2, 16, 2) = (true, toE 4 (l2, 16, 2)) := by
      unfold fstep
      rw [if_pos a2, if_pos (Or.inr (by show ((16 : Nat) : Int) > ((8 : Nat) : Int); decide))]
    rw [List.foldl_cons, List.foldl_cons, List.foldl_nil, s1, s2]
  rw [e6] at e4
  cases e4
  have tl0 : vp h0.length (some ([] : List HV).length.succ) = true := by simp only [vp, decide_eq_true_eq]; exact j0.lt
  have tl1 : vp h1.length (some ([] : List HV).length.succ) = true := by simp only [vp, decide_eq_true_eq]; exact j1.lt
  unfold crawlwaylaw25_alive
  simp only [v1, v2, v3]
  rw [e0, bindM_some, if_neg (by simp)]
  show (trie_Trie_Put h0 (some ([] : List HV).length.succ) (mkP (mkA 4 l1) ((8 : Nat) : Int)) 1 >>= _) = _
  rw [show trie_Trie_Put h0 (some ([] : List HV).length.succ) (mkP (mkA 4 l1) ((8 : Nat) : Int)) 1 = _ from e1, bindM_some]
  show (if vp h0.length (some ([] : List HV).length.succ) = true then (trie_Trie_Put h1 (some ([] : List HV).length.succ) (mkP (mkA 4 l2) ((16 : Nat) : Int)) 2 >>= _) else none) = _
  rw [if_pos tl0, show trie_Trie_Put h1 (some ([] : List HV).length.succ) (mkP (mkA 4 l2) ((16 : Nat) : Int)) 2 = _ from e2, bindM_some]
  show (if vp h1.length (some ([] : List HV).length.succ) = true then (trie_Trie_Find h2 (some ([] : List HV).length.succ) (mkA 4 l3) >>= _) else none) = _
  rw [if_pos tl1, show trie_Trie_Find h2 (some ([] : List HV).length.succ) (mkA 4 l3) = _ from e3, bindM_some]
  show (if true = true then (if (2 : Int) == 2 then (if ((16 : Nat) : Int) == 16 then (trie_Trie_Len h2 (some ([] : List HV).length.succ) >>= _) else _) else _) else _) = _
  rw [if_pos rfl, if_pos (by decide), if_pos (by decide), show trie_Trie_Len h2 (some ([] : List HV).length.succ) = _ from e5, bindM_some]
  rfl
theorem alive_then : (crawlwaylaw25_alive >>= fun t => some t) = some true := by rw [alive25]; rfl
end Go.Proofs.Ythccncpephpdjaa.Tri
