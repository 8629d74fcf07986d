/- The longest prefix is found, of all that were put, for any address. -/
import Derived.Test.YthccncpephpdjaaTriP
import Derived.Test.YthccncpephpdjaaU5
set_option linter.unusedVariables false
set_option linter.unusedSimpArgs false
namespace Go.Proofs.Ythccncpephpdjaa.Tri
open E Go.RowKit
open Adr Cid
/-- Two tries, with nothing in common. -/
structure J2 (h : List HV) (k4 k6 : Nat) (t u : T) (f4 f6 : List Nat) : Prop where
  a : J h k4 4 t f4
  b : J h k6 6 u f6
  k : k4 ≠ k6
  ka : k4 ∉ f6
  kb : k6 ∉ f4
  d : ∀ i ∈ f4, i ∉ f6
theorem J2.swap4 {h h' : List HV} {k4 k6 : Nat} {t u t' : T} {f4 f6 f4' : List Nat} (hJ : J2 h k4 k6 t u f4 f6) (h1 : J h' k4 4 t' f4') (g : Gr h h' k4 f4 f4') : J2 h' k4 k6 t' u f4' f6 := by
  have l6 := hJ.b.fplt
  have lk := hJ.b.lt
  refine ⟨h1, hJ.b.frame (g.old k6 lk (Ne.symm hJ.k) hJ.kb) fun i hi => g.old i (l6 i hi) (fun e => hJ.ka (e ▸ hi)) fun e => hJ.d i e hi, hJ.k, hJ.ka, fun e => ?_, fun i hi e => ?_⟩
  · rcases g.new k6 e with e | e
    · exact hJ.kb e
    · omega
  · rcases g.new i hi with e' | e'
    · exact hJ.d i e' e
    · have := l6 i e; omega
theorem J2.swap6 {h h' : List HV} {k4 k6 : Nat} {t u u' : T} {f4 f6 f6' : List Nat} (hJ : J2 h k4 k6 t u f4 f6) (h1 : J h' k6 6 u' f6') (g : Gr h h' k6 f6 f6') : J2 h' k4 k6 t u' f4 f6' := by
  have l4 := hJ.a.fplt
  have lk := hJ.a.lt
  refine ⟨hJ.a.frame (g.old k4 lk hJ.k hJ.ka) fun i hi => g.old i (l4 i hi) (fun e => hJ.kb (e ▸ hi)) fun e => hJ.d i hi e, h1, hJ.k, fun e => ?_, hJ.kb, fun i hi e => ?_⟩
  · rcases g.new k4 e with e | e
    · exact hJ.ka e
    · omega
  · rcases g.new i e with e' | e'
    · exact hJ.d i hi e'
    · have := l4 i hi; omega
theorem finds_loop {xs : List S_crawlwaylaw25_Deed} (hx : ∀ x ∈ xs, ok_crawlwaylaw25_Deed x) (hn : xs.length ≤ 40) (k4 k6 : Nat) (h4 h6 : List HV) : ∀ (k i : Nat) (h : List HV) (t u : T) (f4 f6 : List Nat), i + k = xs.length → J2 h k4 k6 t u f4 f6 → (t.list zl 0).length ≤ i → (u.list zl 0).length ≤ i →
    ∃ h' t' u' f4' f6', crawlwaylaw25_TrieFinds.l0 xs (some k4, h4) (some k6, h6) ((t.list zl 0).map (toE 4)) ((u.list zl 0).map (toE 6)) (i : Int) h = some ((t'.list zl 0).map (toE 4), (u'.list zl 0).map (toE 6), h') ∧ J2 h' k4 k6 t' u' f4' f6' ∧ (t'.list zl 0).length ≤ 40 ∧ (u'.list zl 0).length ≤ 40
  | 0, i, h, t, u, f4, f6, hi, hJ, c4, c6 => ⟨h, t, u, f4, f6, by rw [crawlwaylaw25_TrieFinds.l0.eq_def, if_neg (by rw [decide_eq_true_eq]; omega)], hJ, by omega, by omega⟩
  | k + 1, i, h, t, u, f4, f6, hi, hJ, c4, c6 => by
    obtain ⟨d, hd⟩ : ∃ d, xs[i]? = some d := ⟨_, List.getElem?_eq_getElem (by omega)⟩
    have hdm := List.mem_of_getElem? hd
    have hld : lget xs (i : Int) = d := by unfold lget; rw [List.getD_eq_getElem?_getD, Int.toNat_natCast, hd]; rfl
    have hg : (0 : Int) ≤ (i : Int) ∧ (i : Int) < (xs.length : Int) := by omega
    obtain ⟨t1, h1, g4, q1, q2, q3, q4⟩ := step_code hJ.a (by omega) d (hx d hdm)
    have hJ1 := hJ.swap4 q2 q3
    obtain ⟨u1, h2, g6, r1, r2, r3, r4⟩ := step_code hJ1.b (by omega) d (hx d hdm)
    have hJ2 := hJ1.swap6 r2 r3
    obtain ⟨h', t', u', f4', f6', z1, z2, z3, z4⟩ := finds_loop hx hn k4 k6 h4 h6 k (i + 1) h2 t1 u1 g4 g6 (by omega) hJ2 (by omega) (by omega)
    refine ⟨h', t', u', f4', f6', ?_, z2, z3, z4⟩
    have v1 : vp h.length (some k4) = true := by simp only [vp, decide_eq_true_eq]; exact hJ.a.lt
    have v2 : vp h.length (some k6) = true := by simp only [vp, decide_eq_true_eq]; exact hJ.b.lt
    have v3 : vp h1.length (some k4) = true := by simp only [vp, decide_eq_true_eq]; exact hJ1.a.lt
    have v4 : vp h1.length (some k6) = true := by simp only [vp, decide_eq_true_eq]; exact hJ1.b.lt
    rw [crawlwaylaw25_TrieFinds.l0.eq_def, if_pos (by rw [decide_eq_true_eq]; exact hg.2), if_pos hg, hld, q1, bindM_some, if_pos v1, if_pos v2]
    simp only [r1, bindM_some]
    rw [if_pos v3, if_pos v4, wr1 (by omega)]
    exact z1
theorem TrieFinds_pure (a0 : List S_crawlwaylaw25_Deed) (w0 : ∀ x ∈ a0, ok_crawlwaylaw25_Deed x) (a1 : S_api_Addr) (w1 : ok_api_Addr a1) : crawlwaylaw25_TrieFinds a0 a1 = some true := by
  obtain ⟨V, a, rfl, ha, _⟩ := exists_mkA a1 w1
  unfold crawlwaylaw25_TrieFinds
  by_cases hn : (a0.length : Int) > 40
  · rw [if_pos (decide_eq_true hn), alive_then]
  · rw [if_neg (by rw [decide_eq_true_eq]; exact hn)]
    obtain ⟨h4, e4, j4, n4, _⟩ := new_code (F := 4) ([] : List HV) (.inl rfl)
    obtain ⟨h6, e6, j6, n6, o6⟩ := new_code (F := 6) h4 (.inr rfl)
    have n4' : h4.length = 2 := n4
    have hJ : J2 h6 (([] : List HV).length + 1) (h4.length + 1) (.nd false 0 .nil .nil) (.nd false 0 .nil .nil) [([] : List HV).length] [h4.length] :=
      ⟨j4.frame (o6 _ (by rw [n4']; decide)) fun i hi => o6 i (by simp at hi; omega), j6, by rw [n4']; decide, by rw [n4']; decide, by simp, by rw [n4']; decide⟩
    obtain ⟨h', t', u', f4', f6', z1, z2, z3, z4⟩ := finds_loop w0 (by omega) _ _ h4 h6 a0.length 0 h6 _ _ _ _ (by omega) hJ (by simp [T.list]) (by simp [T.list])
    have e2 : (T.nd false 0 .nil .nil).list zl 0 = [] := rfl
    rw [e2] at z1
    obtain ⟨x, is, x1, x2, x3⟩ := find_code (V := V) (a := a) z2.a (by omega) ha
    obtain ⟨y, was, y1, y2, y3⟩ := find_code (V := V) (a := a) z2.b (by omega) ha
    rw [e4, bindM_some]
    simp only [e6, bindM_some]
    rw [if_pos (by simp [vp, n4']), if_neg (by simp), if_neg (by simp)]
    rw [show (0 : Int) = ((0 : Nat) : Int) from rfl]
    rw [show crawlwaylaw25_TrieFinds.l0 a0 (some (([] : List HV).length + 1), h4) (some (h4.length + 1), h6) [] [] ((0 : Nat) : Int) h6 = _ from z1]
    simp only [bindM_some, x1, x2, y1, y2]
    cases is with
    | false => simp [alive25]
    | true =>
      have hV := x3 rfl
      subst hV
      have hw : was = false := by
        cases hq : was with
        | false => rfl
        | true => have := y3 hq; omega
      subst hw
      simp [alive25]
end Go.Proofs.Ythccncpephpdjaa.Tri
