/- The plain law of chapter 11: CidrTexts. -/
import Derived.Test.YtecolkjlpklaaaaDoorCidr
import Derived.Test.YtecolkjlpklaaaaDoorHCTexts
set_option linter.unusedVariables false
set_option linter.unusedSimpArgs false
namespace Go.Proofs.YtecolkjlpklaaaaDoor.Cid
open E Go.RowKit
open Adr AdrT

theorem CidrTexts_pure (a0 : S_api_Prefix) (w0 : ok_api_Prefix a0) : crawlwaylaw11_CidrTexts a0 = some true := by
  obtain ⟨V, l, b, rfl, hl, _⟩ := exists_mkP a0 w0
  unfold crawlwaylaw11_CidrTexts
  rw [ctext_code hl, bindM_some, ctext_ref hl, bindM_some, seq_self, if_neg (show ¬ (!true) = true by decide), cright_ref hl, bindM_some]
  cases hr : rightP V l b with
  | false =>
    rw [if_pos (show (!false) = true from rfl), if_neg Bool.false_ne_true]
    show (if seq (bs []) (bs []) = true then _ else _) = _
    rw [seq_self, if_pos rfl]; exact alive_then
  | true =>
    obtain ⟨⟨hrl, h0, h1⟩, _⟩ := rightP_iff.1 hr
    have hw := width_le (V := V) (l := l)
    obtain ⟨k, rfl⟩ := Int.eq_ofNat_of_zero_le h0
    have hlen := cidT_len (V := V) hl k (by omega)
    rw [if_neg (show ¬ (!true) = true by decide), if_pos rfl, Int.toNat_natCast, cid_parse _ (by omega), bindM_some, cidP_text hl k hr, if_pos (decide_eq_true rfl)]
    show (if ((0 : Int) == 0) = true then _ else _) = _
    rw [if_pos (by rfl)]; exact alive_then
end Go.Proofs.YtecolkjlpklaaaaDoor.Cid
