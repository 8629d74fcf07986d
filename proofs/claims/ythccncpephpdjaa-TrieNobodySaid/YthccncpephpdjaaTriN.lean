/- Of no family there is no trie, and nil has nothing. -/
import Derived.Test.YthccncpephpdjaaTriP
import Derived.Test.YthccncpephpdjaaU4
set_option linter.unusedVariables false
set_option linter.unusedSimpArgs false
namespace Go.Proofs.Ythccncpephpdjaa.Tri
open E Go.RowKit
open Adr Cid
theorem check_nil (h : List HV) (P : S_api_Prefix) : trie_Trie_check h none P = some 2 := rfl
theorem TrieNobody_pure (a0 : Int) (w0 : (Lit.int .i64 a0).wf = true) (a1 : S_crawlwaylaw25_Deed) (w1 : ok_crawlwaylaw25_Deed a1) (a2 : S_api_Addr) (w2 : ok_api_Addr a2) : crawlwaylaw25_TrieNobody a0 a1 a2 = some true := by
  have g1 : ∀ h P, trie_Trie_Get h none P = some (0, false) := fun h P => rfl
  have g2 : ∀ h a, trie_Trie_Find h none a = some (zE, false) := fun h a => rfl
  have g3 : ∀ h P o, trie_Trie_Put h none P o = some (2, h) := fun h P o => rfl
  have g4 : ∀ h P, trie_Trie_Drop h none P = some (2, h) := fun h P => rfl
  have g5 : ∀ h, trie_Trie_All h none = some [] := fun h => rfl
  have g6 : ∀ h, trie_Trie_Len h none = some 0 := fun h => rfl
  unfold crawlwaylaw25_TrieNobody
  by_cases h4 : a0 = 4
  · subst h4
    obtain ⟨h0, e0, _⟩ := new_code (F := 4) ([] : List HV) (.inl rfl)
    rw [e0, bindM_some]
    simp [g1, g2, g3, g4, g5, g6, alive25]
    rfl
  · by_cases h6 : a0 = 6
    · subst h6
      obtain ⟨h0, e0, _⟩ := new_code (F := 6) ([] : List HV) (.inr rfl)
      rw [e0, bindM_some]
      simp [g1, g2, g3, g4, g5, g6, alive25]
      rfl
    · rw [new_none [] (by omega), bindM_some]
      have e4 : (a0 == 4) = false := by simp [h4]
      have e6 : (a0 == 6) = false := by simp [h6]
      simp [g1, g2, g3, g4, g5, g6, alive25, e4, e6]
      rfl
end Go.Proofs.Ythccncpephpdjaa.Tri
