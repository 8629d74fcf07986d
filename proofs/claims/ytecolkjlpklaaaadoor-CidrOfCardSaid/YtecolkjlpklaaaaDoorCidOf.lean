/- The plain law of chapter 11: CidrOf. -/
import Derived.Test.YtecolkjlpklaaaaDoorCidr
import Derived.Test.YtecolkjlpklaaaaDoorHCOf
set_option linter.unusedVariables false
set_option linter.unusedSimpArgs false
namespace Go.Proofs.YtecolkjlpklaaaaDoor.Cid
open E Go.RowKit
open Adr AdrT

theorem CidrOf_pure (a0 : S_api_Addr) (w0 : ok_api_Addr a0) (a1 : Int) (w1 : (Lit.int .i64 a1).wf = true) : crawlwaylaw11_CidrOf a0 a1 = some true := by
  obtain ⟨V, l, rfl, hl, _⟩ := exists_mkA a0 w0
  unfold crawlwaylaw11_CidrOf
  rw [of_code hl, bindM_some, of_ref hl, bindM_some, width_ref hl, bindM_some, of_ref hl, bindM_some, if_pos (decide_eq_true rfl), if_pos (beq_self_eq_true _)]
  by_cases h0 : (ofP V l a1).2 = 0
  · have e : ((ofP V l a1).2 != 0) = false := by rw [h0]; rfl
    rw [e, if_neg Bool.false_ne_true]
    have hE : rightL V l = true ∧ fits V l a1 = true := by
      unfold ofP at h0
      cases hr : rightL V l with
      | false => rw [hr] at h0; cases h0
      | true =>
        rw [hr, if_pos rfl] at h0
        cases hf : fits V l a1 with
        | false => rw [hf] at h0; cases h0
        | true => exact ⟨rfl, rfl⟩
    have hp : (ofP V l a1).1 = mkP (mkA V (mfull l a1)) a1 := by
      unfold ofP
      rw [if_pos hE.1, if_pos hE.2]
    rw [hp, cright_code (mlen hl a1), bindM_some, rightP_of hl hE.2, if_pos rfl, whole_code hl, bindM_some, if_pos (decide_eq_true rfl)]
    exact alive_then
  · have e : ((ofP V l a1).2 != 0) = true := by rw [bne_iff_ne]; exact h0
    rw [e, if_pos rfl, whole_code hl, bindM_some, if_pos (decide_eq_true rfl)]
    exact alive_then
end Go.Proofs.YtecolkjlpklaaaaDoor.Cid
