/- Layer 5: digits and their values, by the document. -/
import Derived.Test.YtecolkjlpklaaaaDoorHexV
set_option linter.unusedVariables false
set_option linter.unusedSimpArgs false
namespace Go.Proofs.YtecolkjlpklaaaaDoor.Hex
open E Go.RowKit

theorem digit_eq (n : Nat) (h : n < 16) : crawlwayref05_digit n = some (dig n) := by
  unfold crawlwayref05_digit
  rw [wr_i64 (by omega) (by omega), if_pos (by rw [tab_size]; omega)]
  rw [show ((n : Int) + 1).toNat = n + 1 by omega, Int.toNat_natCast]
  exact congrArg some (dig_extract n h)
theorem dig_bt (n : Nat) : bt (dig n) 0 = (dg n).toNat := rfl
theorem value_l0 (c : Nat) (g : Bool) (hc : c < 256) (f : Nat) : ∀ i : Nat, i + f = 16 →
    crawlwayref05_Value.l0 c g i = some (if vf c g f i = -1 then .nx () else .ret (vf c g f i)) := by
  induction f with
  | zero =>
    intro i hi
    obtain rfl : i = 16 := by omega
    rw [crawlwayref05_Value.l0.eq_def]
    simp [vf]
  | succ f ih =>
    intro i hi
    rw [crawlwayref05_Value.l0.eq_def]
    have h1 : decide ((i : Int) < 16) = true := by simp; omega
    have hs : ((dig i).size : Int) = 1 := rfl
    have ih' := ih (i + 1) (by omega)
    have e1 : wr .i64 ((i : Int) + 1) = ((i + 1 : Nat) : Int) := by rw [wr_i64 (by omega) (by omega)]; omega
    have e2 : wr .u8 ((c : Int) + 32) = (((c + 32) % 256 : Nat) : Int) := by rw [wr_u8_mod]; omega
    rw [if_pos h1, digit_eq i (by omega)]
    simp only [bindM_some, dig_bt, hs, e1, e2, ih']
    rw [if_pos (by decide)]
    have hv : vf c g (f + 1) i = if (dg i).toNat = c ∨ g = true ∧ i > 9 ∧ (dg i).toNat = (c + 32) % 256 then (i : Int) else vf c g f (i + 1) := rfl
    by_cases hA : (dg i).toNat = c
    · have hA' : (((dg i).toNat : Int) == (c : Int)) = true := by simp; omega
      rw [if_pos (.inl hA)] at hv
      have : ¬ (i : Int) = -1 := by omega
      simp only [hA', hv, this, ↓reduceIte]
    · have hA' : (((dg i).toNat : Int) == (c : Int)) = false := by simp; omega
      cases g with
      | false => 
        rw [if_neg (by simp [hA])] at hv
        simp only [hA', hv, ↓reduceIte, Bool.false_eq_true]
      | true =>
        by_cases h9 : 9 < i
        · have h9' : decide ((i : Int) > 9) = true := by simp; omega
          by_cases hB : (dg i).toNat = (c + 32) % 256
          · have hB' : (((dg i).toNat : Int) == (((c + 32) % 256 : Nat) : Int)) = true := by simp; omega
            rw [if_pos (.inr ⟨rfl, h9, hB⟩)] at hv
            have : ¬ (i : Int) = -1 := by omega
            simp only [hA', hB', h9', hv, this, ↓reduceIte, Bool.false_eq_true, Int.le_refl, true_and, Int.zero_lt_one]
          · have hB' : (((dg i).toNat : Int) == (((c + 32) % 256 : Nat) : Int)) = false := by simp; omega
            rw [if_neg (by rintro (h | h); exact hA h; exact hB h.2.2)] at hv
            simp only [hA', hB', h9', hv, ↓reduceIte, Bool.false_eq_true, Int.le_refl, true_and, Int.zero_lt_one]
        · have h9' : decide ((i : Int) > 9) = false := by simp; omega
          rw [if_neg (by rintro (h | h); exact hA h; exact h9 h.2.1)] at hv
          simp only [hA', h9', hv, ↓reduceIte, Bool.false_eq_true]
theorem refValue_eq (c : Nat) (g : Bool) (hc : c < 256) : crawlwayref05_Value c g = some (val c g) := by
  unfold crawlwayref05_Value
  have := value_l0 c g hc 16 0 rfl
  rw [show ((0 : Nat) : Int) = 0 from rfl] at this
  rw [this]
  simp only [bindM_some]
  unfold val
  by_cases hv : vf c g 16 0 = -1
  · simp only [hv, ↓reduceIte]
  · simp only [hv, ↓reduceIte]
end Go.Proofs.YtecolkjlpklaaaaDoor.Hex
