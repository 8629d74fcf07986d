/- The plain law of chapter 11: CidrPairs. -/
import Derived.Test.YtecolkjlpklaaaaDoorCidr
import Derived.Test.YtecolkjlpklaaaaDoorHCPairs
set_option linter.unusedVariables false
set_option linter.unusedSimpArgs false
namespace Go.Proofs.YtecolkjlpklaaaaDoor.Cid
open E Go.RowKit
open Adr AdrT

theorem CidrPairs_pure (a0 : S_api_Prefix) (w0 : ok_api_Prefix a0) (a1 : S_api_Prefix) (w1 : ok_api_Prefix a1) : crawlwaylaw11_CidrPairs a0 a1 = some true := by
  obtain ⟨V, l, b, rfl, hl, _⟩ := exists_mkP a0 w0
  obtain ⟨W, k, c, rfl, hk, _⟩ := exists_mkP a1 w1
  have n1 : (covP V l b W k c != covP V l b W k c) = false := by simp
  obtain ⟨z, hz1, hz2⟩ := less_same (V := V) (W := W) (b := b) (c := c) hl hk
  unfold crawlwaylaw11_CidrPairs
  rw [cov_code hl hk, bindM_some, cov_ref hl hk, bindM_some, n1, if_neg Bool.false_ne_true, cright_ref hl, bindM_some]
  cases hp : rightP V l b with
  | false =>
    have hc : covP V l b W k c = false := by
      unfold covP hasP
      rw [hp, Bool.false_and, Bool.and_false, Bool.and_false]
    rw [if_pos (show (!false) = true from rfl), bindM_some, hc, if_pos (show (!false) = true from rfl)]
    exact alive_then
  | true =>
    rw [if_neg (show ¬ (!true) = true by decide), cright_ref hk, bindM_some]
    cases hq : rightP W k c with
    | false =>
      have hc : covP V l b W k c = false := by
        unfold covP
        rw [hq, Bool.false_and]
      rw [if_pos (show (!false) = true from rfl), bindM_some, hc, if_pos (show (!false) = true from rfl)]
      exact alive_then
    | true =>
      rw [if_neg (show ¬ (!true) = true by decide), bindM_some]
      have fin : (cidr_Less (mkP (mkA V l) b) (mkP (mkA W k) c) >>= fun t20 => crawlwayref11_Less (mkP (mkA V l) b) (mkP (mkA W k) c) >>= fun t21 => if (t20 == t21) = true then (crawlwaylaw11_alive >>= fun t23 => some t23) else (some false)) = some true := by
        rw [hz1, bindM_some, hz2, bindM_some, if_pos (beq_self_eq_true _)]
        exact alive_then
      cases hc : covP V l b W k c with
      | false =>
        rw [if_neg Bool.false_ne_true]
        exact fin
      | true =>
        rw [if_pos rfl, cov_code hk hl, bindM_some]
        have he : covP W k c V l b = decide (mkP (mkA V l) b = mkP (mkA W k) c) := by
          rw [Bool.eq_iff_iff, decide_eq_true_eq, mkP_inj hl hk]
          unfold covP hasP at hc ⊢
          simp only [hp, hq, Bool.true_and, Bool.and_eq_true, decide_eq_true_eq] at hc ⊢
          obtain ⟨hbc, hrk, hVW, hm⟩ := hc
          obtain ⟨_, hmk⟩ := rightP_iff.1 hq
          obtain ⟨⟨hrl, _, _⟩, hml⟩ := rightP_iff.1 hp
          constructor
          · rintro ⟨hcb, _, _, _⟩
            have hbc2 : b = c := by omega
            subst hbc2
            exact ⟨⟨hVW.symm, by rw [← hm, hmk]⟩, rfl⟩
          · rintro ⟨⟨rfl, rfl⟩, rfl⟩
            exact ⟨Int.le_refl _, hrl, rfl, hml⟩
        have hne : (covP W k c V l b != decide (mkP (mkA V l) b = mkP (mkA W k) c)) = false := by rw [he]; simp
        rw [hne, if_neg Bool.false_ne_true]
        exact fin
end Go.Proofs.YtecolkjlpklaaaaDoor.Cid
