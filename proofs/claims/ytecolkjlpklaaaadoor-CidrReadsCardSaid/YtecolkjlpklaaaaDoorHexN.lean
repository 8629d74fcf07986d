/- Layer 5: numbers of 16 bits, by the document. -/
import Derived.Test.YtecolkjlpklaaaaDoorHexP
import Derived.Test.YtecolkjlpklaaaaDoorHexC
set_option linter.unusedVariables false
set_option linter.unusedSimpArgs false
namespace Go.Proofs.YtecolkjlpklaaaaDoor.Hex
open E Go.RowKit

theorem refGroup_eq (n : Nat) : n < 65536 → crawlwayref05_Group n = some (grp n) := by
  induction n using Nat.strongRecOn with
  | _ n ih =>
    intro h
    rw [crawlwayref05_Group.eq_def]
    unfold grp
    by_cases hn : n < 16
    · rw [if_pos (by simp; omega), if_pos hn, digit_eq n hn]; rfl
    · have e1 : wr .i64 (Int.tdiv (n : Int) 16) = ((n / 16 : Nat) : Int) := by
        rw [Int.tdiv_eq_ediv_of_nonneg (by omega), wr_i64 (by omega) (by omega)]; omega
      have e2 : Int.tmod (n : Int) 16 = ((n % 16 : Nat) : Int) := by rw [Int.tmod_eq_emod_of_nonneg (by omega)]; omega
      have hd : (dig (n % 16)).size = 1 := rfl
      have hs := (grp_size (n / 16)).2 3 (by omega)
      rw [if_neg (by simp; omega), if_neg hn, e1, ih _ (by omega) (by omega), e2]
      simp only [bindM_some, digit_eq (n % 16) (by omega), hd]
      rw [if_pos (by omega)]
theorem refRead_l0 (s : ByteArray) (hs : s.size ≤ 4) (f : Nat) : ∀ (i n : Nat), i + f = s.size → n < 16 ^ i →
    crawlwayref05_ReadGroup.l0 s n i = some (match rd (s.data.toList.drop i) n with | some m => .nx (m : Int) | none => .ret (-1)) := by
  induction f with
  | zero =>
    intro i n hi hn
    rw [crawlwayref05_ReadGroup.l0.eq_def, if_neg (by simp; omega), List.drop_eq_nil_of_le (by simp; omega), rd_nil]
  | succ f ih =>
    intro i n hi hn
    have hlt : i < s.size := by omega
    obtain ⟨c, hc⟩ : ∃ c, s.data.toList[i]? = some c := ⟨_, ba_get s i hlt⟩
    have hdrop : s.data.toList.drop i = c :: s.data.toList.drop (i + 1) := by
      have hl : i < s.data.toList.length := by simpa using hlt
      rw [List.drop_eq_getElem_cons hl]
      congr 1
      rw [List.getElem?_eq_getElem hl] at hc
      exact Option.some.inj hc
    have hb : bt s i = c.toNat := by rw [bt_nat, hc]; rfl
    have hcl := c.toNat_lt
    have hv1 : -1 ≤ val c.toNat true := (val_lt ⟨c.toNat, hcl⟩ true).1
    have hv2 : val c.toNat true < 16 := (val_lt ⟨c.toNat, hcl⟩ true).2
    have hpow : (16 : Nat) ^ i ≤ 16 ^ 3 := Nat.pow_le_pow_right (by decide) (by omega)
    have e0 : wr .i64 ((i : Int) + 1) = ((i + 1 : Nat) : Int) := by rw [wr_i64 (by omega) (by omega)]; omega
    rw [crawlwayref05_ReadGroup.l0.eq_def, if_pos (by simp; omega), if_pos (by omega), hb, refValue_eq _ _ hcl, hdrop, rd_cons]
    simp only [bindM_some, e0]
    by_cases hneg : val c.toNat true < 0
    · rw [if_pos (by simp; omega), if_pos hneg]
    · rw [if_neg (by simp; omega), if_neg hneg]
      obtain ⟨v, hv⟩ : ∃ v : Nat, val c.toNat true = v := ⟨(val c.toNat true).toNat, by omega⟩
      have e1 : wr .i64 (wr .i64 (16 * (n : Int)) + (v : Int)) = ((16 * n + v : Nat) : Int) := by
        have e2 : wr .i64 (16 * (n : Int)) = 16 * (n : Int) := wr_i64 (by omega) (by omega)
        rw [e2, wr_i64 (by omega) (by omega)]; omega
      rw [hv, e1, ih (i + 1) (16 * n + v) (by omega) (by rw [Nat.pow_succ]; omega)]
      simp
theorem refRead_eq (s : ByteArray) : crawlwayref05_ReadGroup s = some (match read s with | some n => (n : Int) | none => -1) := by
  unfold crawlwayref05_ReadGroup read
  by_cases h1 : s.size < 1
  · rw [if_pos (by simp; omega), if_pos (.inl h1)]
  · by_cases h2 : s.size > 4
    · rw [if_neg (by simp; omega), if_pos (by simp; omega), if_pos (.inr h2)]
    · rw [if_neg (by simp; omega), if_neg (by simp; omega), if_neg (by omega)]
      have := refRead_l0 s (by omega) s.size 0 0 (by omega) (by simp)
      rw [show ((0 : Nat) : Int) = 0 from rfl, List.drop_zero] at this
      rw [this]
      simp only [bindM_some]
      cases rd s.data.toList 0 <;> rfl
end Go.Proofs.YtecolkjlpklaaaaDoor.Hex
