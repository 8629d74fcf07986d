/- Whatever is put and dropped: all entries, in order, and who owns any prefix. -/
import Derived.Test.YthccncpephpdjaaTriP
import Derived.Test.YthccncpephpdjaaU6
set_option linter.unusedVariables false
set_option linter.unusedSimpArgs false
namespace Go.Proofs.Ythccncpephpdjaa.Tri
open E Go.RowKit
open Adr Cid
theorem place_none {F : Int} {X : List Tr} {P : S_api_Prefix} (hn : X.length ≤ 1000) (hp : ∀ x ∈ X, (toE F x).f_P ≠ P) : crawlwayref25_Place (X.map (toE F)) P = some (-1) := by
  have key : ∀ (k i : Nat), i + k = X.length → crawlwayref25_Place.l0 (X.map (toE F)) P (i : Int) = some (.nx ()) := by
    intro k
    induction k with
    | zero => intro i hi; rw [crawlwayref25_Place.l0.eq_def, if_neg (by rw [decide_eq_true_eq]; simp; omega)]
    | succ k ih =>
      intro i hi
      obtain ⟨x, hx⟩ : ∃ x, X[i]? = some x := ⟨_, List.getElem?_eq_getElem (by omega)⟩
      have hg : (0 : Int) ≤ (i : Int) ∧ (i : Int) < ((X.map (toE F)).length : Int) := by simp; omega
      rw [crawlwayref25_Place.l0.eq_def, if_pos (by rw [decide_eq_true_eq]; exact hg.2), if_pos hg, lget_map hx, wr1 (by omega), if_neg (by rw [decide_eq_true_eq]; exact hp x (List.mem_of_getElem? hx))]
      exact ih (i + 1) (by omega)
  unfold crawlwayref25_Place
  rw [show (0 : Int) = ((0 : Nat) : Int) from rfl, key X.length 0 (by omega)]; rfl
variable {h : List HV} {tk : Nat} {F : Int} {t : T} {fp : List Nat}
/-- Who owns a prefix, of the trie and of the list. -/
theorem own_code (hJ : J h tk F t fp) (hc : (t.list zl 0).length ≤ 900) (P : S_api_Prefix) (wP : ok_api_Prefix P) :
    (trie_Trie_Get h (some tk) P = some (0, false) ∧ crawlwayref25_Place ((t.list zl 0).map (toE F)) P = some (-1)) ∨
    ∃ (j : Nat) (x : Tr), (t.list zl 0)[j]? = some x ∧ trie_Trie_Get h (some tk) P = some (x.2.2, true) ∧ crawlwayref25_Place ((t.list zl 0).map (toE F)) P = some (j : Int) := by
  obtain ⟨V, l, b, rfl, hl, _⟩ := exists_mkP P wP
  have hw := wid_le F
  by_cases hr : rightP V l b = true ∧ V = F
  · obtain ⟨hr, rfl⟩ := hr
    obtain ⟨n, rfl, hn, hp⟩ := path_right hl hr
    have hbl := bf_lt l n 0
    have hlen := bf_len l n 0
    have hg := get_code hJ hl hr hn
    have hkp := key_path (o := 0) hJ.dok hw hbl
    rw [hp, hlen] at hkp
    rcases place_ref (F := V) (e := (l, n, (0 : Int))) (list_len16 t) hl (by omega) with ⟨j, x, h1, h2, h3⟩ | ⟨h1, h2⟩
    · right
      have hx := List.mem_of_getElem? h1
      obtain ⟨q, a1, a2, a3, a4⟩ := (T.mem_list t zl 0 x).1 hx
      have hq := T.val_len t _ q _ hJ.dok a2
      obtain ⟨k1, k2⟩ := h2
      rw [a3] at k1
      rw [a4] at k2
      simp at k1 k2
      have e := adr_inj a1 hbl (by omega) (by rw [hlen]; exact k2) (k1.trans hp.symm)
      subst e
      rw [a2] at hg
      exact ⟨j, x, h1, hg, h3⟩
    · left
      have hv : t.val (bf l 0 n) = none := by
        cases hv : t.val (bf l 0 n) with
        | none => rfl
        | some o =>
          obtain ⟨x, hx, hk⟩ := hkp.2 ⟨o, hv⟩
          exact absurd hk (h1 x hx)
      rw [hv] at hg
      exact ⟨hg, h2⟩
  · left
    refine ⟨get_wrong hJ hl hr, place_none (by omega) fun x hx e => hr ?_⟩
    obtain ⟨p, h1, h2, h3, h4⟩ := (T.mem_list t zl 0 x).1 hx
    have hpl := T.val_len t _ p _ hJ.dok h2
    have hrp := right_path hJ.fam h1 hpl
    have e' : mkP (mkA F x.1) (x.2.1 : Int) = mkP (mkA V l) b := e
    obtain ⟨⟨rfl, e2⟩, e3⟩ := (mkP_inj (list_len16 t x hx) hl).1 e'
    rw [h3] at e2
    rw [h4] at e3
    rw [← e2, ← e3]
    simp at hrp ⊢
    exact hrp
theorem plays_loop {xs : List S_crawlwaylaw25_Deed} (hx : ∀ x ∈ xs, ok_crawlwaylaw25_Deed x) (hn : xs.length ≤ 40) (F : Int) (tk : Nat) (h0 : List HV) : ∀ (k i : Nat) (h : List HV) (t : T) (fp : List Nat), i + k = xs.length → J h tk F t fp → (t.list zl 0).length ≤ i →
    ∃ h', crawlwaylaw25_TriePlays.l0 xs F (some tk, h0) ((t.list zl 0).map (toE F)) (i : Int) h = some (.nx h')
  | 0, i, h, t, fp, hi, hJ, hc => ⟨h, by rw [crawlwaylaw25_TriePlays.l0.eq_def, if_neg (by rw [decide_eq_true_eq]; omega)]⟩
  | k + 1, i, h, t, fp, hi, hJ, hc => by
    obtain ⟨d, hd⟩ : ∃ d, xs[i]? = some d := ⟨_, List.getElem?_eq_getElem (by omega)⟩
    have hdm := List.mem_of_getElem? hd
    have hld : lget xs (i : Int) = d := by unfold lget; rw [List.getD_eq_getElem?_getD, Int.toNat_natCast, hd]; rfl
    obtain ⟨u, h', fp', q1, q2, q3, q4⟩ := step_code hJ (by omega) d (hx d hdm)
    have hg : (0 : Int) ≤ (i : Int) ∧ (i : Int) < (xs.length : Int) := by omega
    have hcu : (u.list zl 0).length ≤ 900 := by omega
    obtain ⟨h'', ih⟩ := plays_loop hx hn F tk h0 k (i + 1) h' u fp' (by omega) q2 (by omega)
    refine ⟨h'', ?_⟩
    rw [crawlwaylaw25_TriePlays.l0.eq_def, if_pos (by rw [decide_eq_true_eq]; exact hg.2), if_pos hg, hld, q1, bindM_some]
    have hvp : vp h.length (some tk) = true := by simp only [vp, decide_eq_true_eq]; exact hJ.lt
    rw [if_pos hvp, if_neg (by simp)]
    simp only [len_code q2, bindM_some]
    have hll : ((((u.list zl 0).length : Nat) : Int) != (((u.list zl 0).map (toE F)).length : Int)) = false := by simp
    rw [hll, if_neg (by simp)]
    simp only [all_code q2 hcu, bindM_some, same_ref ((u.list zl 0).map (toE F)) (by simp; omega)]
    rw [if_neg (by simp), wr1 (by omega), ih]
    rcases own_code q2 hcu d.f_P (hx d hdm).2.1 with ⟨g1, g2⟩ | ⟨j, x, g1, g2, g3⟩
    · simp only [g1, g2, bindM_some]
      simp
    · simp only [g2, g3, bindM_some]
      have hj : j < (u.list zl 0).length := (List.getElem?_eq_some_iff.1 g1).1
      have hgj : (0 : Int) ≤ (j : Int) ∧ (j : Int) < (((u.list zl 0).map (toE F)).length : Int) := by simp; omega
      have hl := lget_map (F := F) g1
      rw [if_neg (by simp), if_pos trivial, if_pos hgj, hl, if_neg (by simp [toE])]
      simp
theorem TriePlays_pure (a0 : Bool) (a1 : List S_crawlwaylaw25_Deed) (w1 : ∀ x ∈ a1, ok_crawlwaylaw25_Deed x) : crawlwaylaw25_TriePlays a0 a1 = some true := by
  unfold crawlwaylaw25_TriePlays
  by_cases hn : (a1.length : Int) > 40
  · rw [if_pos (decide_eq_true hn), alive_then]
  · rw [if_neg (by rw [decide_eq_true_eq]; exact hn)]
    have key : ∀ F : Int, F = 4 ∨ F = 6 → (trie_New ([] : List HV) F >>= fun t6 => if (Option.isNone t6.1) = true then (some false) else (crawlwaylaw25_TriePlays.l0 a1 F t6 ([] : List S_api_Entry) 0 t6.2 >>= fun q13 => match q13 with | .ret r' => some r' | .nx sq13 => (crawlwaylaw25_alive >>= fun t51 => some t51))) = some true := fun F hF => by
      obtain ⟨h0, e0, j0, _, _⟩ := new_code (F := F) ([] : List HV) hF
      obtain ⟨h', e1⟩ := plays_loop w1 (by omega) F _ h0 a1.length 0 h0 _ _ (by omega) j0 (by simp [T.list])
      rw [e0, bindM_some, if_neg (by simp)]
      have e2 : (T.nd false 0 .nil .nil).list zl 0 = [] := rfl
      rw [e2] at e1
      rw [show (0 : Int) = ((0 : Nat) : Int) from rfl]
      show (crawlwaylaw25_TriePlays.l0 a1 F (some (([] : List HV).length + 1), h0) ([].map (toE F)) ((0 : Nat) : Int) h0 >>= _) = _
      rw [e1, bindM_some]
      exact alive_then
    cases a0 with
    | true => rw [if_pos rfl, bindM_some]; exact key 6 (.inr rfl)
    | false => rw [if_neg (by simp), bindM_some]; exact key 4 (.inl rfl)
end Go.Proofs.Ythccncpephpdjaa.Tri
