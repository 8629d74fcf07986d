/- The plain law of chapter 11: CidrReads. -/
import Derived.Test.YtecolkjlpklaaaaDoorCidr
import Derived.Test.YtecolkjlpklaaaaDoorHCReads
set_option linter.unusedVariables false
set_option linter.unusedSimpArgs false
namespace Go.Proofs.YtecolkjlpklaaaaDoor.Cid
open E Go.RowKit
open Adr AdrT

theorem CidrReads_pure (a0 : ByteArray) (w0 : a0.size ≤ maxLen) : crawlwaylaw11_CidrReads a0 = some true := by
  unfold crawlwaylaw11_CidrReads
  by_cases h : 100 < a0.size
  · rw [if_pos (decide_eq_true (by omega))]; exact alive_then
  · rw [if_neg (by rw [decide_eq_true_eq]; omega)]
    have he := eq_bs a0
    have hlen : a0.data.toList.length = a0.size := size_toList a0
    generalize a0.data.toList = l at he hlen
    subst he
    have n1 : ((cidP l).2 != (cidP l).2) = false := by simp
    rw [cid_parse l (by omega), bindM_some, cid_parse_ref l (by omega), bindM_some, decide_eq_true rfl, if_neg (show ¬ (!true) = true by decide), n1, if_neg Bool.false_ne_true]
    by_cases h0 : (cidP l).2 = 0
    · obtain ⟨V, k, b, hE, hk, hr⟩ := cidP_ok h0
      have e0 : ((cidP l).2 != 0) = false := by rw [h0]; rfl
      obtain ⟨⟨hrl, _, h1⟩, _⟩ := rightP_iff.1 hr
      have hw := width_le (V := V) (l := k)
      have hll := cidT_len (V := V) hk b (by omega)
      rw [e0, if_neg Bool.false_ne_true, hE, ctext_code hk, bindM_some, hr, if_pos rfl, Int.toNat_natCast, cid_parse _ (by omega), bindM_some, cidP_text hk b hr, if_pos (decide_eq_true rfl)]
      show (if ((0 : Int) == 0) = true then _ else _) = _
      rw [if_pos (by rfl)]; exact alive_then
    · have e0 : ((cidP l).2 != 0) = true := by rw [bne_iff_ne]; exact h0
      rw [e0, if_pos rfl]; exact alive_then
end Go.Proofs.YtecolkjlpklaaaaDoor.Cid
