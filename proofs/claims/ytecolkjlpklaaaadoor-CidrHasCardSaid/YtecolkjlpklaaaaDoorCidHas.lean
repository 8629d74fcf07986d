/- The plain law of chapter 11: CidrHas. -/
import Derived.Test.YtecolkjlpklaaaaDoorCidr
import Derived.Test.YtecolkjlpklaaaaDoorHCHas
set_option linter.unusedVariables false
set_option linter.unusedSimpArgs false
namespace Go.Proofs.YtecolkjlpklaaaaDoor.Cid
open E Go.RowKit
open Adr AdrT

theorem CidrHas_pure (a0 : S_api_Prefix) (w0 : ok_api_Prefix a0) (a1 : S_api_Addr) (w1 : ok_api_Addr a1) : crawlwaylaw11_CidrHas a0 a1 = some true := by
  obtain ⟨V, l, b, rfl, hl, _⟩ := exists_mkP a0 w0
  obtain ⟨W, k, rfl, hk, _⟩ := exists_mkA a1 w1
  have n1 : (rightP V l b != rightP V l b) = false := by simp
  have n2 : (hasP V l b W k != hasP V l b W k) = false := by simp
  unfold crawlwaylaw11_CidrHas
  rw [cright_code hl, bindM_some, cright_ref hl, bindM_some, n1, if_neg Bool.false_ne_true, has_code hl hk, bindM_some, has_ref hl hk, bindM_some, n2, if_neg Bool.false_ne_true]
  show (cidr_Of (mkA W k) b >>= fun t9 => _) = _
  rw [of_code hk, bindM_some]
  by_cases h0 : (ofP W k b).2 = 0
  · have e : ((ofP W k b).2 != 0) = false := by rw [h0]; rfl
    rw [e, if_neg Bool.false_ne_true]
    have hE : rightL W k = true ∧ fits W k b = true := by
      unfold ofP at h0
      cases hr : rightL W k with
      | false => rw [hr] at h0; cases h0
      | true =>
        rw [hr, if_pos rfl] at h0
        cases hf : fits W k b with
        | false => rw [hf] at h0; cases h0
        | true => exact ⟨rfl, rfl⟩
    have hp : (ofP W k b).1 = mkP (mkA W (mfull k b)) b := by
      unfold ofP
      rw [if_pos hE.1, if_pos hE.2]
    have hh : hasP W (mfull k b) b W k = true := by
      unfold hasP
      rw [rightP_of hk hE.2, hE.1, decide_eq_true rfl, decide_eq_true rfl]; rfl
    rw [hp, has_code (mlen hk b) hk, bindM_some, hh, if_pos rfl]
    cases hr : rightP V l b with
    | false => rw [bindM_some, if_pos (show (!false) = true from rfl)]; exact alive_then
    | true =>
      rw [bindM_some, if_neg (show ¬ (!true) = true by decide), bindM_some]
      have hq : hasP V l b W k = decide (mkP (mkA V l) b = mkP (mkA W (mfull k b)) b) := by
        unfold hasP
        rw [hr, hE.1, Bool.true_and, Bool.true_and, Bool.eq_iff_iff, Bool.and_eq_true, decide_eq_true_eq, decide_eq_true_eq, decide_eq_true_eq, mkP_inj hl (mlen hk b)]
        exact ⟨fun h => ⟨⟨h.1.symm, h.2.symm⟩, rfl⟩, fun h => ⟨h.1.1.symm, h.1.2.symm⟩⟩
      rw [hq, if_pos (beq_self_eq_true _)]
      exact alive_then
  · have e : ((ofP W k b).2 != 0) = true := by rw [bne_iff_ne]; exact h0
    rw [e, if_pos rfl]
    exact alive_then
end Go.Proofs.YtecolkjlpklaaaaDoor.Cid
