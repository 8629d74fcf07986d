/- The plain laws of chapter 10: AddrReads, AddrBytes. -/
import Derived.Test.YtecolkjlpklaaaaDoorAddrT
import Derived.Test.YtecolkjlpklaaaaDoorAddrC
set_option linter.unusedVariables false
set_option linter.unusedSimpArgs false
namespace Go.Proofs.YtecolkjlpklaaaaDoor.AdrT
open E Go.RowKit
open Adr

theorem AddrReads_pure (a0 : ByteArray) (w0 : a0.size ≤ maxLen) (a1 : List Int) (w1 : ∀ n ∈ a1, (Lit.int .u8 n).wf = true) : crawlwaylaw10_AddrReads a0 a1 = some true := by
  obtain ⟨b, rfl⟩ := exists_ob a1 w1
  unfold crawlwaylaw10_AddrReads
  by_cases h : 100 < a0.size
  · rw [if_pos (decide_eq_true (by omega))]; exact alive_then
  · rw [if_neg (by rw [decide_eq_true_eq]; omega)]
    by_cases hb : 100 < (ob b).length
    · rw [if_pos (decide_eq_true (by omega))]; exact alive_then
    · rw [if_neg (by rw [decide_eq_true_eq]; omega)]
      have he := eq_bs a0
      have hlen : a0.data.toList.length = a0.size := size_toList a0
      generalize a0.data.toList = l at he hlen
      subst he
      rw [addr_parse l (by omega), bindM_some, ref_parse10 l (by omega), bindM_some, addr_of, bindM_some, ref_of, bindM_some, if_pos (decide_eq_true rfl), if_pos (beq_self_eq_true _), if_pos (decide_eq_true rfl)]
      have h2 : (ofL b).2 = 0 ∨ (ofL b).2 = 5 := by
        unfold ofL
        split
        · exact .inl rfl
        · split
          · exact .inl rfl
          · exact .inr rfl
      rcases h2 with h2 | h2
      · rw [h2, if_pos (by rfl)]
        show (if true = true then _ else _) = _
        rw [if_pos rfl]; exact alive_then
      · rw [h2, if_pos (by rfl)]
        show (if decide ((5 : Int) = 0) = true then _ else _) = _
        rw [if_neg (by decide), if_pos (by rfl)]; exact alive_then
theorem AddrBytes_pure (a0 : S_api_Addr) (w0 : ok_api_Addr a0) : crawlwaylaw10_AddrBytes a0 = some true := by
  obtain ⟨V, l, rfl, hl, hV⟩ := exists_mkA a0 w0
  have hwb := wb_le V l
  unfold crawlwaylaw10_AddrBytes
  have n1 : (rightL V l != rightL V l) = false := by simp
  have n2 : (((widthL V l : Nat) : Int) != ((widthL V l : Nat) : Int)) = false := by simp
  have ht := adrT_len (V := V) hl
  rw [right_ref hl, bindM_some, addr_bytes hl, bindM_some, addr_text hl, bindM_some, right_code hl, bindM_some, n1, if_neg Bool.false_ne_true, ref_bytes10 hl, bindM_some, same_self _ (by rw [List.length_take]; omega), bindM_some, if_neg (show ¬ (!true) = true by decide), ref_text10 hl, bindM_some, seq_self, if_neg (show ¬ (!true) = true by decide), width_code hl, bindM_some, width_ref hl, bindM_some, n2, if_neg Bool.false_ne_true]
  cases hr : rightL V l with
  | false =>
    rw [if_pos (show (!false) = true from rfl)]; exact alive_then
  | true =>
    have h4l : (l.take 4).length = 4 := by rw [List.length_take]; omega
    rw [if_neg (show ¬ (!true) = true by decide), addr_of, bindM_some, addr_parse _ (by omega), bindM_some, of_bytes10 hl hr, parse_text10 hl hr]
    show (addr_Four (vset (vset (vset (vset (Vector.replicate 4 (0 : Int) : (Vector Int 4)) 0 (vget (vb l) 0)) 1 (vget (vb l) 1)) 2 (vget (vb l) 2)) 3 (vget (vb l) 3)) >>= fun t29 => _) = _
    rw [four_vget hl, four_v4 h4l, bindM_some]
    rcases right_cases hr with h6 | ⟨h4, hlow⟩
    · subst h6
      show (if ((6 : Int) == 6) = true then (addr_Six (Col.v16 l) >>= fun t32 => _) else _) = _
      rw [if_pos (by rfl), six_eq, bindM_some, if_pos (decide_eq_true rfl), if_pos (decide_eq_true rfl), if_pos (decide_eq_true rfl), if_pos (by rfl), if_pos (by rfl)]
      exact alive_then
    · subst h4
      show (if ((4 : Int) == 6) = true then _ else _) = _
      rw [if_neg (by decide), ← (low_iff hl).1 hlow, if_pos (decide_eq_true rfl), if_pos (decide_eq_true rfl), if_pos (decide_eq_true rfl), if_pos (by rfl), if_pos (by rfl)]
      exact alive_then
end Go.Proofs.YtecolkjlpklaaaaDoor.AdrT
