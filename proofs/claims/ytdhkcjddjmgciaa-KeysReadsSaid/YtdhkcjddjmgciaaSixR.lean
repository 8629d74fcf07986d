/- Layer 4: the reference's Encode, bit by bit, comes to the same signs. -/
import Derived.Test.YtdhkcjddjmgciaaSixE
set_option linter.unusedVariables false
set_option linter.unusedSimpArgs false
namespace Go.Proofs.Ytdhkcjddjmgciaa.Six
open E Go.RowKit
open Hex (str str_size str_append str_push str_toList str_inj)

def bitN (l : List UInt8) (k : Nat) : Nat := (l.getD (k / 8) 0).toNat / 2 ^ (7 - k % 8) % 2
theorem tdiv2 (x : Nat) (h : x < 2 ^ 60) : wr .i64 (Int.tdiv (x : Int) 2) = ((x / 2 : Nat) : Int) := by
  rw [Int.tdiv_eq_ediv_of_nonneg (by omega), wr_i64 (by omega) (by omega)]; omega
theorem bit_l0 (k : Nat) (f : Nat) : ∀ (v j : Nat), k % 8 + f = j → j ≤ 7 → v < 256 → crawlwayref01_Bit.l0 (k : Int) (v : Int) (j : Int) = some ((v / 2 ^ f : Nat) : Int) := by
  have e0 : Int.tmod (k : Int) 8 = ((k % 8 : Nat) : Int) := by rw [Int.tmod_eq_emod_of_nonneg (by omega)]; omega
  induction f with
  | zero =>
    intro v j hj h7 hv
    have c1 : decide ((j : Int) > ((k % 8 : Nat) : Int)) = false := by simp; omega
    rw [crawlwayref01_Bit.l0.eq_def, e0]
    simp only [c1, Bool.false_eq_true, ↓reduceIte, Nat.pow_zero, Nat.div_one]
  | succ f ih =>
    intro v j hj h7 hv
    have c1 : decide ((j : Int) > ((k % 8 : Nat) : Int)) = true := by simp; omega
    have e1 : wr .i64 ((j : Int) - 1) = ((j - 1 : Nat) : Int) := by rw [wr_i64 (by omega) (by omega)]; omega
    rw [crawlwayref01_Bit.l0.eq_def, e0]
    simp only [c1, ↓reduceIte, tdiv2 v (by omega), e1]
    rw [ih (v / 2) (j - 1) (by omega) (by omega) (by omega), Nat.div_div_eq_div_mul, ← Nat.pow_succ']
theorem bit_eq (l : List UInt8) (k : Nat) (h : k < 8 * l.length) (hl : l.length < 100000) : crawlwayref01_Bit (ob l) (k : Int) = some ((bitN l k : Nat) : Int) := by
  unfold crawlwayref01_Bit
  have e1 : wr .i64 (Int.tdiv (k : Int) 8) = ((k / 8 : Nat) : Int) := by
    rw [Int.tdiv_eq_ediv_of_nonneg (by omega), wr_i64 (by omega) (by omega)]; omega
  have hb := (l.getD (k / 8) 0).toNat_lt
  rw [e1, if_pos (by rw [ob_length]; omega), lget_ob' l (k / 8) (by omega), wr_i64 (by omega) (by omega)]
  rw [show (7 : Int) = ((7 : Nat) : Int) from rfl, bit_l0 k (7 - k % 8) _ 7 (by omega) (by omega) hb, bindM_some, Int.tmod_eq_emod_of_nonneg (Int.natCast_nonneg _)]
  rfl
def bitP (l : List UInt8) (k : Nat) : Nat := if k < 8 * l.length then bitN l k else 0
theorem bitP_lt (l : List UInt8) (k : Nat) : bitP l k < 2 := by
  unfold bitP bitN; split <;> omega
theorem e8 (l : List UInt8) (hl : l.length < 100000) : wr .i64 (8 * ((ob l).length : Int)) = ((8 * l.length : Nat) : Int) := by
  rw [ob_length, wr_i64 (by omega) (by omega)]; omega
theorem e6 (i : Nat) (h : i < 1000000) : wr .i64 ((i : Int) + 6) = ((i + 6 : Nat) : Int) := by
  rw [wr_i64 (by omega) (by omega)]; omega
theorem rl1_step (l : List UInt8) (hl : l.length < 100000) (i n k : Nat) (hk : k < i + 6) (hi : i < 1000000) (hn : n < 1000) :
    crawlwayref04_Encode.l1 (ob l) i n k = crawlwayref04_Encode.l1 (ob l) i ((2 * n + bitP l k : Nat) : Int) ((k + 1 : Nat) : Int) := by
  have c1 : decide ((k : Int) < ((i + 6 : Nat) : Int)) = true := by simp; omega
  have e1 : wr .i64 ((k : Int) + 1) = ((k + 1 : Nat) : Int) := by rw [wr_i64 (by omega) (by omega)]; omega
  have e2 : wr .i64 (2 * (n : Int)) = ((2 * n : Nat) : Int) := by rw [wr_i64 (by omega) (by omega)]; omega
  rw [crawlwayref04_Encode.l1.eq_def, e6 i hi, e8 l hl, e1, e2]
  unfold bitP
  by_cases h : k < 8 * l.length
  · have c2 : decide ((k : Int) < ((8 * l.length : Nat) : Int)) = true := by simp; omega
    have hb : bitN l k < 2 := by unfold bitN; omega
    have e3 : wr .i64 (((2 * n : Nat) : Int) + ((bitN l k : Nat) : Int)) = ((2 * n + bitN l k : Nat) : Int) := by rw [wr_i64 (by omega) (by omega)]; omega
    simp only [c1, c2, ↓reduceIte, bit_eq l k h hl, bindM_some, e3, if_pos h]
  · have c2 : decide ((k : Int) < ((8 * l.length : Nat) : Int)) = false := by simp; omega
    simp only [c1, c2, ↓reduceIte, Bool.false_eq_true, if_neg h, Nat.add_zero]
/-- Six bits as a number. -/
def six (l : List UInt8) (i : Nat) : Nat := 32 * bitP l i + 16 * bitP l (i + 1) + 8 * bitP l (i + 2) + 4 * bitP l (i + 3) + 2 * bitP l (i + 4) + bitP l (i + 5)
theorem six_lt (l : List UInt8) (i : Nat) : six l i < 64 := by
  have h0 := bitP_lt l i
  have h1 := bitP_lt l (i + 1)
  have h2 := bitP_lt l (i + 2)
  have h3 := bitP_lt l (i + 3)
  have h4 := bitP_lt l (i + 4)
  have h5 := bitP_lt l (i + 5)
  unfold six; omega
theorem rl1_eq (l : List UInt8) (hl : l.length < 100000) (i : Nat) (hi : i < 1000000) : crawlwayref04_Encode.l1 (ob l) i 0 i = some ((six l i : Nat) : Int) := by
  have h0 := bitP_lt l i
  have h1 := bitP_lt l (i + 1)
  have h2 := bitP_lt l (i + 2)
  have h3 := bitP_lt l (i + 3)
  have h4 := bitP_lt l (i + 4)
  have s0 := rl1_step l hl i 0 i (by omega) hi (by omega)
  have s1 := rl1_step l hl i (2 * 0 + bitP l i) (i + 1) (by omega) hi (by omega)
  have s2 := rl1_step l hl i (2 * (2 * 0 + bitP l i) + bitP l (i + 1)) (i + 2) (by omega) hi (by omega)
  have s3 := rl1_step l hl i (2 * (2 * (2 * 0 + bitP l i) + bitP l (i + 1)) + bitP l (i + 2)) (i + 3) (by omega) hi (by omega)
  have s4 := rl1_step l hl i (2 * (2 * (2 * (2 * 0 + bitP l i) + bitP l (i + 1)) + bitP l (i + 2)) + bitP l (i + 3)) (i + 4) (by omega) hi (by omega)
  have s5 := rl1_step l hl i (2 * (2 * (2 * (2 * (2 * 0 + bitP l i) + bitP l (i + 1)) + bitP l (i + 2)) + bitP l (i + 3)) + bitP l (i + 4)) (i + 5) (by omega) hi (by omega)
  refine s0.trans (s1.trans (s2.trans (s3.trans (s4.trans (s5.trans ?_)))))
  have c1 : decide (((i + 5 + 1 : Nat) : Int) < ((i + 6 : Nat) : Int)) = false := decide_eq_false (by omega)
  rw [crawlwayref04_Encode.l1.eq_def, e6 i hi]
  simp only [c1, Bool.false_eq_true, ↓reduceIte]
  congr 2
  unfold six; omega
/-- The signs from bit 6t on. -/
def refE (l : List UInt8) : Nat → Nat → List UInt8
  | 0, _ => []
  | f + 1, t => if 6 * t < 8 * l.length then sg (six l (6 * t)) :: refE l f (t + 1) else []
theorem rl0_eq (l : List UInt8) (hl : l.length < 10000) (f : Nat) : ∀ (t : Nat) (o : ByteArray), 8 * l.length ≤ 6 * (t + f) → 6 * t ≤ 8 * l.length + 6 → o.size + f ≤ 100000 →
    crawlwayref04_Encode.l0 (ob l) o ((6 * t : Nat) : Int) = some (o ++ str (refE l f t)) := by
  have nil : ∀ o : ByteArray, o = o ++ str [] := fun o => by apply ByteArray.ext; simp [str]
  induction f with
  | zero =>
    intro t o h1 h3 h2
    have c1 : decide (((6 * t : Nat) : Int) < ((8 * l.length : Nat) : Int)) = false := by simp; omega
    rw [crawlwayref04_Encode.l0.eq_def, e8 l (by omega)]
    simp only [c1, Bool.false_eq_true, ↓reduceIte, refE, ← nil]
  | succ f ih =>
    intro t o h1 h3 h2
    rw [crawlwayref04_Encode.l0.eq_def, e8 l (by omega)]
    by_cases h : 6 * t < 8 * l.length
    · have c1 : decide (((6 * t : Nat) : Int) < ((8 * l.length : Nat) : Int)) = true := by simp; omega
      have hs := six_lt l (6 * t)
      have e1 : wr .i64 (((six l (6 * t) : Nat) : Int) + 1) = ((six l (6 * t) + 1 : Nat) : Int) := by rw [wr_i64 (by omega) (by omega)]; omega
      have hS : crawlwayref04_Signs = some tab := rfl
      simp only [c1, ↓reduceIte, rl1_eq l (by omega) (6 * t) (by omega), bindM_some, hS, e1, e6 (6 * t) (by omega)]
      have ht : (tab.size : Int) = 64 := rfl
      rw [if_pos (by rw [ht]; omega), Int.toNat_natCast, Int.toNat_natCast, tab_ext _ hs, if_pos (by rw [str_size]; simp; omega)]
      rw [show 6 * t + 6 = 6 * (t + 1) by omega, ih (t + 1) _ (by omega) (by omega) (by rw [ByteArray.size_append, str_size]; simp; omega)]
      rw [refE, if_pos h, ByteArray.append_assoc, ← str_append]; rfl
    · have c1 : decide (((6 * t : Nat) : Int) < ((8 * l.length : Nat) : Int)) = false := by simp; omega
      simp only [c1, Bool.false_eq_true, ↓reduceIte, refE, if_neg h, ← nil]
theorem bitP_drop (l : List UInt8) (k : Nat) : bitP l (24 + k) = bitP (l.drop 3) k := by
  unfold bitP bitN
  rw [List.length_drop]
  rw [show (24 + k) / 8 = 3 + k / 8 by omega, show (24 + k) % 8 = k % 8 by omega]
  have : (l.drop 3).getD (k / 8) 0 = l.getD (3 + k / 8) 0 := by simp [List.getD_eq_getElem?_getD]
  rw [this]
  by_cases h : 24 + k < 8 * l.length
  · rw [if_pos h, if_pos (by omega)]
  · rw [if_neg h, if_neg (by omega)]
theorem six_drop (l : List UInt8) (k : Nat) : six l (24 + k) = six (l.drop 3) k := by
  unfold six
  simp only [Nat.add_assoc, bitP_drop]
theorem refE_drop (l : List UInt8) (f : Nat) : ∀ t, refE l f (4 + t) = refE (l.drop 3) f t := by
  induction f with
  | zero => intro t; rfl
  | succ f ih =>
    intro t
    rw [refE, refE, List.length_drop]
    rw [show 4 + t + 1 = 4 + (t + 1) by omega, ih, show 6 * (4 + t) = 24 + 6 * t by omega, six_drop]
    by_cases h : 24 + 6 * t < 8 * l.length
    · rw [if_pos h, if_pos (by omega)]
    · rw [if_neg h, if_neg (by omega)]
theorem bitP_val (l : List UInt8) (k : Nat) : bitP l k = (l.getD (k / 8) 0).toNat / 2 ^ (7 - k % 8) % 2 := by
  unfold bitP bitN
  split
  · rfl
  · rw [List.getD_eq_getElem?_getD, List.getElem?_eq_none (by omega)]; simp
theorem bits8 (x : Nat) (h : x < 256) : x = 128 * (x / 128 % 2) + 64 * (x / 64 % 2) + 32 * (x / 32 % 2) + 16 * (x / 16 % 2) + 8 * (x / 8 % 2) + 4 * (x / 4 % 2) + 2 * (x / 2 % 2) + x % 2 := by omega
theorem six_gX (l : List UInt8) : ∀ t, t < 4 → sg (six l (6 * t)) = sx (gX l) t := by
  have ha := (l.getD 0 0).toNat_lt
  have hb := (l.getD 1 0).toNat_lt
  have hc := (l.getD 2 0).toNat_lt
  intro t ht
  unfold sx
  congr 1
  have h : t = 0 ∨ t = 1 ∨ t = 2 ∨ t = 3 := by omega
  unfold six gX
  rcases h with rfl | rfl | rfl | rfl <;> simp only [bitP_val, Nat.reduceMul, Nat.reduceAdd, Nat.reduceDiv, Nat.reduceMod, Nat.reduceSub, Nat.reducePow] <;> omega
theorem refE_enc (l : List UInt8) : ∀ f, (4 * l.length + 2) / 3 ≤ f → refE l f 0 = enc l := by
  generalize hn : l.length = n
  induction n using Nat.strongRecOn generalizing l with
  | _ n ih =>
    intro f hf
    rw [enc]
    by_cases h : l = []
    · subst h
      simp only [dif_pos]
      cases f with
      | zero => rfl
      | succ f => rw [refE, if_neg (by simp)]
    · have hl : 0 < l.length := List.length_pos_iff.2 h
      have g := six_gX l
      have g0 := g 0 (by omega)
      have g1 := g 1 (by omega)
      have g2 := g 2 (by omega)
      have g3 := g 3 (by omega)
      simp only [Nat.mul_zero, Nat.mul_one, Nat.reduceMul] at g0 g1 g2 g3
      simp only [dif_neg h, grpS]
      by_cases h1 : l.length = 1
      · obtain ⟨f, rfl⟩ : ∃ k, f = k + 2 := ⟨f - 2, by omega⟩
        rw [h1, List.drop_eq_nil_of_le (by omega), enc, refE, if_pos (by omega), refE, if_pos (by omega)]
        have : refE l f 2 = [] := by
          cases f with
          | zero => rfl
          | succ f => rw [refE, if_neg (by omega)]
        simp only [Nat.zero_add, Nat.reduceAdd, Nat.mul_zero, Nat.mul_one, this, g0, g1, dif_pos, List.append_nil]
        rfl
      · by_cases h2 : l.length = 2
        · obtain ⟨f, rfl⟩ : ∃ k, f = k + 3 := ⟨f - 3, by omega⟩
          rw [h2, List.drop_eq_nil_of_le (by omega), enc, refE, if_pos (by omega), refE, if_pos (by omega), refE, if_pos (by omega)]
          have : refE l f 3 = [] := by
            cases f with
            | zero => rfl
            | succ f => rw [refE, if_neg (by omega)]
          simp only [Nat.zero_add, Nat.reduceAdd, Nat.mul_zero, Nat.mul_one, Nat.reduceMul, this, g0, g1, g2, dif_pos, List.append_nil]
          rfl
        · obtain ⟨f, rfl⟩ : ∃ k, f = k + 4 := ⟨f - 4, by omega⟩
          rw [Nat.min_eq_right (by omega), refE, if_pos (by omega), refE, if_pos (by omega), refE, if_pos (by omega), refE, if_pos (by omega)]
          have := refE_drop l f 0
          simp only [Nat.zero_add, Nat.reduceAdd, Nat.mul_zero, Nat.mul_one, Nat.reduceMul, g0, g1, g2, g3, Nat.add_zero] at this ⊢
          rw [this, ih (l.drop 3).length (by simp; omega) _ rfl f (by simp; omega)]
          rfl
theorem rl2_eq (k : Nat) : ∀ s : List UInt8, s.length + k ≤ 1000000 → (s.length + k) % 4 = 0 → k < 4 → crawlwayref04_Encode.l2 (str s) = some (str (s ++ List.replicate k 61)) := by
  have tm : ∀ n : Nat, (Int.tmod (n : Int) 4 != 0) = decide (n % 4 ≠ 0) := fun n => by
    rw [Int.tmod_eq_emod_of_nonneg (by omega)]
    by_cases h : n % 4 = 0
    · have : ((n : Int) % 4) = 0 := by omega
      simp [h, this]
    · have : ¬ ((n : Int) % 4) = 0 := by omega
      simp [h, this]
  induction k with
  | zero =>
    intro s h1 h2 h3
    rw [crawlwayref04_Encode.l2.eq_def, str_size, tm, if_neg (by simp; omega)]
    simp
  | succ k ih =>
    intro s h1 h2 h3
    rw [crawlwayref04_Encode.l2.eq_def, str_size, tm, if_pos (by simp; omega)]
    have hz : (⟨#[61]⟩ : ByteArray).size = 1 := rfl
    have hp : str s ++ (⟨#[61]⟩ : ByteArray) = str (s ++ [61]) := by rw [str_append]; rfl
    rw [hz, if_pos (by omega), hp, ih _ (by simp; omega) (by simp; omega) (by omega), List.append_assoc]
    rfl
theorem refEncode_eq (l : List UInt8) (h : l.length < 5000) : crawlwayref04_Encode (ob l) = some (str (encP l)) := by
  unfold crawlwayref04_Encode
  have h0 := rl0_eq l (by omega) ((4 * l.length + 2) / 3) 0 (⟨#[]⟩) (by omega) (by omega) (by show 0 + _ ≤ _; omega)
  rw [show ((6 * 0 : Nat) : Int) = 0 from rfl, refE_enc l _ (Nat.le_refl _)] at h0
  have e0 : (⟨#[]⟩ : ByteArray) ++ str (enc l) = str (enc l) := by apply ByteArray.ext; simp [str]
  have hm : (enc l).length + (3 - l.length % 3) % 3 = (l.length + 2) / 3 * 4 := by
    have := encP_length l
    rw [encP_enc, List.length_append, List.length_replicate] at this
    exact this
  rw [h0, bindM_some, e0, rl2_eq ((3 - l.length % 3) % 3) (enc l) (by omega) (by rw [hm]; omega) (by omega), bindM_some, encP_enc]
end Go.Proofs.Ytdhkcjddjmgciaa.Six
