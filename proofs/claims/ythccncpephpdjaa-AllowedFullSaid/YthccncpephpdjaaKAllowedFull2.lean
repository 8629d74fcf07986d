/- Texts of this claim, those in one that belong together; printed by a program of this project. -/
import Derived.Test.YthccncpephpdjaaKAllowedFull1
set_option linter.unusedVariables false
set_option linter.unusedSimpArgs false
namespace Go.Proofs.Ythccncpephpdjaa.Adr
open E Go.RowKit
theorem width_ref {V : Int} {l : List UInt8} (hl : l.length = 16) : crawlwayref10_Width (mkA V l) = some ((widthL V l : Nat) : Int) := by
  unfold crawlwayref10_Width widthL
  rw [right_ref hl, bindM_some]
  cases rightL V l
  · rfl
  · show (if (V == 4) = true then some (32 : Int) else some 128) = _
    by_cases h : V = 4
    · rw [if_pos (by simpa using h), if_pos rfl, if_pos h]; rfl
    · rw [if_neg (by simpa using h), if_pos rfl, if_neg h]; rfl
def mb (b : UInt8) (k : Nat) : UInt8 := UInt8.ofNat (b.toNat - b.toNat % 2 ^ (8 - k))
theorem mb_fin : ∀ (b : Fin 256) (k : Fin 9), iand .u8 ((b.val : Nat) : Int) (ishl .u8 255 ((8 - k.val : Nat) : Int)) = ((b.val - b.val % 2 ^ (8 - k.val) : Nat) : Int) := by decide +kernel
theorem mb_toNat (b : UInt8) (k : Nat) : (mb b k).toNat = b.toNat - b.toNat % 2 ^ (8 - k) := by
  unfold mb
  have := b.toNat_lt
  rw [UInt8.toNat_ofNat', Nat.mod_eq_of_lt (by omega)]
theorem mb_code (b : UInt8) (k : Nat) (hk : k ≤ 8) : iand .u8 (b.toNat : Int) (ishl .u8 255 ((8 - k : Nat) : Int)) = ((mb b k).toNat : Int) := by
  rw [mb_toNat]
  exact mb_fin ⟨b.toNat, b.toNat_lt⟩ ⟨k, by omega⟩
theorem mb_zero (b : UInt8) : mb b 0 = 0 := by
  apply UInt8.toNat.inj
  have := b.toNat_lt
  rw [mb_toNat, show 2 ^ (8 - 0) = 256 from rfl, Nat.mod_eq_of_lt (by omega), Nat.sub_self]; rfl
theorem mb_of_zero (k : Nat) : mb 0 k = 0 := by
  apply UInt8.toNat.inj
  rw [mb_toNat, show (0 : UInt8).toNat = 0 from rfl, Nat.zero_mod]
theorem mb_step_fin : ∀ (b : Fin 256) (k : Fin 8), b.val - b.val % 2 ^ (8 - (k.val + 1)) = b.val - b.val % 2 ^ (8 - k.val) + (b.val / 2 ^ (7 - k.val) % 2) * (128 / 2 ^ k.val) := by decide +kernel
theorem mb_step (b : UInt8) (k : Nat) (hk : k < 8) : (mb b (k + 1)).toNat = (mb b k).toNat + (b.toNat / 2 ^ (7 - k) % 2) * (128 / 2 ^ k) := by
  rw [mb_toNat, mb_toNat]
  exact mb_step_fin ⟨b.toNat, b.toNat_lt⟩ ⟨k, hk⟩
/-- How many of a byte's first bits stay. -/
def lft (bits : Int) (q : Nat) : Nat := (min (max (bits - 8 * (q : Int)) 0) 8).toNat
theorem lft_le (bits : Int) (q : Nat) : lft bits q ≤ 8 := by unfold lft; omega
def mfull (l : List UInt8) (bits : Int) : List UInt8 := l.mapIdx fun q b => mb b (lft bits q)
theorem mfull_len (l : List UInt8) (bits : Int) : (mfull l bits).length = l.length := by simp [mfull]
theorem mfull_get (l : List UInt8) (bits : Int) (i : Nat) : (mfull l bits)[i]? = (l[i]?).map fun b => mb b (lft bits i) := by
  unfold mfull; rw [List.getElem?_mapIdx]
theorem set_step {α : Type} (A l : List α) (i : Nat) (x : α) (hA : A.length = l.length) (hx : A[i]? = some x) : (A.take i ++ l.drop i).set i x = A.take (i + 1) ++ l.drop (i + 1) := by
  have hi : i < A.length := (List.getElem?_eq_some_iff.1 hx).1
  apply List.ext_getElem?
  intro j
  have h1 : (A.take i).length = i := by simp; omega
  have h2 : (A.take (i + 1)).length = i + 1 := by simp; omega
  rw [List.getElem?_set]
  by_cases hj : i = j
  · subst hj
    have hl : i < (A.take i ++ l.drop i).length := by simp; omega
    rw [if_pos rfl, if_pos hl, List.getElem?_append_left (by omega), List.getElem?_take, if_pos (by omega), hx]
  · rw [if_neg hj]
    by_cases hlt : j < i
    · rw [List.getElem?_append_left (by omega), List.getElem?_append_left (by omega), List.getElem?_take, List.getElem?_take, if_pos hlt, if_pos (by omega)]
    · rw [List.getElem?_append_right (by omega), List.getElem?_append_right (by omega), List.getElem?_drop, List.getElem?_drop, h1, h2]
      congr 1; omega
theorem lft_code (bits : Int) (hb : -9223372036854775808 ≤ bits ∧ bits < 9223372036854775808) (i : Nat) (hi : i < 16) (h0 : ¬ bits < 0) :
    (if 8 < (if wr .i64 (bits - (wr .i64 (8 * (i : Int)))) < 0 then 0 else wr .i64 (bits - (wr .i64 (8 * (i : Int))))) then 8 else (if wr .i64 (bits - (wr .i64 (8 * (i : Int)))) < 0 then 0 else wr .i64 (bits - (wr .i64 (8 * (i : Int)))))) = ((lft bits i : Nat) : Int) := by
  have e1 : wr .i64 (8 * (i : Int)) = 8 * (i : Int) := wr_i64 (by omega) (by omega)
  rw [e1, wr_i64 (by omega) (by omega)]
  unfold lft
  by_cases h1 : bits - 8 * (i : Int) < 0
  · rw [if_pos h1]; split <;> omega
  · rw [if_neg h1]; split <;> omega
theorem mask_loop (V bits : Int) (l : List UInt8) (hl : l.length = 16) (hb : -9223372036854775808 ≤ bits ∧ bits < 9223372036854775808) : ∀ (k i : Nat), i + k = 16 →
    addr_Mask.l0 bits (i : Int) (mkA V ((mfull l bits).take i ++ l.drop i)) = some (mkA V (mfull l bits)) := by
  have hml := mfull_len l bits
  intro k
  induction k with
  | zero =>
    intro i hi
    have hz : decide ((i : Int) < 16) = false := decide_eq_false (by omega)
    rw [addr_Mask.l0.eq_def, hz, if_neg Bool.false_ne_true, List.drop_eq_nil_of_le (by omega), List.append_nil, List.take_of_length_le (by omega)]
  | succ k ih =>
    intro i hi
    have hz : decide ((i : Int) < 16) = true := decide_eq_true (by omega)
    have hc : l[i]? = some l[i] := List.getElem?_eq_getElem (by omega)
    generalize hcc : l[i] = c at hc
    have hAlen : ((mfull l bits).take i ++ l.drop i).length = 16 := by simp; omega
    have hAi : ((mfull l bits).take i ++ l.drop i)[i]? = some c := by
      rw [List.getElem?_append_right (by simp; omega), List.getElem?_drop]
      have : i + (i - ((mfull l bits).take i).length) = i := by simp; omega
      rw [this, hc]
    have hg : (0 : Int) ≤ (i : Int) ∧ (i : Int) < 16 := by omega
    have hv : vget (vb ((mfull l bits).take i ++ l.drop i)) (i : Int) = (c.toNat : Int) := by rw [vget_vb hAlen i (by omega), bg_get hAi]
    have hstep := set_step (mfull l bits) l i (mb c (lft bits i)) hml (by rw [mfull_get, hc]; rfl)
    have hle := lft_le bits i
    have hset : ∀ s : Int, s = ((8 - lft bits i : Nat) : Int) → ({ mkA V ((mfull l bits).take i ++ l.drop i) with f_B := vset (vb ((mfull l bits).take i ++ l.drop i)) (i : Int) (iand .u8 (vget (vb ((mfull l bits).take i ++ l.drop i)) (i : Int)) (ishl .u8 255 s)) } : S_api_Addr) =
        mkA V ((mfull l bits).take (i + 1) ++ l.drop (i + 1)) := fun s hs => by
      rw [hs, hv, mb_code c _ hle, vset_vb hAlen, hstep]; rfl
    have e8 : wr .u64 (wr .i64 (8 - ((lft bits i : Nat) : Int))) = ((8 - lft bits i : Nat) : Int) := by
      rw [wr_i64 (by omega) (by omega), wr_u64 (by omega) (by omega)]; omega
    have hn : (0 : Int) ≤ ((8 - lft bits i : Nat) : Int) := by omega
    have hi1 : wr .i64 ((i : Int) + 1) = ((i + 1 : Nat) : Int) := by rw [wr_i64 (by omega) (by omega)]; omega
    rw [addr_Mask.l0.eq_def, hz, if_pos rfl]
    by_cases h0 : bits < 0
    · have hl0 : lft bits i = 0 := by unfold lft; omega
      have e80 : wr .u64 (wr .i64 (8 - 0)) = ((8 - lft bits i : Nat) : Int) := by rw [hl0]; rfl
      rw [if_pos (decide_eq_true h0), if_pos hg, e80, if_pos hn, if_pos hg, hi1]
      have := hset _ rfl
      rw [show (mkA V ((mfull l bits).take i ++ l.drop i)).f_B = vb ((mfull l bits).take i ++ l.drop i) from rfl, this]
      exact ih (i + 1) (by omega)
    · rw [if_neg (by rw [decide_eq_true_eq]; exact h0), if_pos hg, lft_code bits hb i (by omega) h0, e8, if_pos hn, if_pos hg, hi1]
      have := hset _ rfl
      rw [show (mkA V ((mfull l bits).take i ++ l.drop i)).f_B = vb ((mfull l bits).take i ++ l.drop i) from rfl, this]
      exact ih (i + 1) (by omega)
def maskA (V : Int) (l : List UInt8) (bits : Int) : S_api_Addr := if rightL V l = true then mkA V (mfull l bits) else mkA 0 (List.replicate 16 0)
theorem mask_code {V bits : Int} {l : List UInt8} (hl : l.length = 16) (hb : -9223372036854775808 ≤ bits ∧ bits < 9223372036854775808) : addr_Mask (mkA V l) bits = some (maskA V l bits) := by
  unfold addr_Mask maskA
  rw [right_code hl, bindM_some]
  cases rightL V l
  · show some _ = _
    rw [zero_mkA]; rfl
  · have h := mask_loop V bits l hl hb 16 0 rfl
    rw [List.take_zero, List.nil_append, List.drop_zero, show ((0 : Nat) : Int) = 0 from rfl] at h
    show (addr_Mask.l0 bits 0 (mkA V l) >>= fun q5 => some q5) = _
    rw [h]; rfl
def bit (l : List UInt8) (i : Nat) : Nat := bg l (i / 8) / 2 ^ (7 - i % 8) % 2
theorem digit_loop (i : Nat) (hi : i < 9223372036854775808) : ∀ (k n : Nat), n < 256 → i % 8 + k ≤ 7 → crawlwayref10_digit.l0 (i : Int) (n : Int) ((i % 8 + k : Nat) : Int) = some ((n / 2 ^ k : Nat) : Int) := by
  intro k
  have hm : Int.tmod (i : Int) 8 = ((i % 8 : Nat) : Int) := by rw [Int.tmod_eq_emod_of_nonneg (by omega)]; omega
  induction k with
  | zero =>
    intro n hn hk
    rw [crawlwayref10_digit.l0.eq_def, hm, if_neg (by rw [decide_eq_true_eq]; omega), Nat.pow_zero, Nat.div_one]
  | succ k ih =>
    intro n hn hk
    have e1 : wr .i64 (Int.tdiv (n : Int) 2) = ((n / 2 : Nat) : Int) := by
      have : Int.tdiv (n : Int) 2 = ((n / 2 : Nat) : Int) := by rw [Int.tdiv_eq_ediv_of_nonneg (by omega)]; omega
      rw [this, wr_i64 (by omega) (by omega)]
    have e2 : wr .i64 (((i % 8 + (k + 1) : Nat) : Int) - 1) = ((i % 8 + k : Nat) : Int) := by rw [wr_i64 (by omega) (by omega)]; omega
    rw [crawlwayref10_digit.l0.eq_def, hm, if_pos (decide_eq_true (by omega)), e1, e2, ih (n / 2) (by omega) (by omega), Nat.div_div_eq_div_mul]
    rw [Nat.pow_succ, Nat.mul_comm]
theorem digit_ref {V : Int} {l : List UInt8} (hl : l.length = 16) (i : Nat) (hi : i < 128) : crawlwayref10_digit (mkA V l) (i : Int) = some ((bit l i : Nat) : Int) := by
  have hd : wr .i64 (Int.tdiv (i : Int) 8) = ((i / 8 : Nat) : Int) := by
    have : Int.tdiv (i : Int) 8 = ((i / 8 : Nat) : Int) := by rw [Int.tdiv_eq_ediv_of_nonneg (by omega)]; omega
    rw [this, wr_i64 (by omega) (by omega)]
  have hb := bg_lt l (i / 8)
  unfold crawlwayref10_digit
  rw [hd, if_pos (by omega)]
  show (crawlwayref10_digit.l0 (i : Int) (wr .i64 (vget (vb l) ((i / 8 : Nat) : Int))) 7 >>= fun q3 => some (Int.tmod q3 2)) = _
  rw [vget_vb hl _ (by omega), wr_i64 (by omega) (by omega)]
  have h := digit_loop i (by omega) (7 - i % 8) (bg l (i / 8)) hb (by omega)
  rw [show i % 8 + (7 - i % 8) = 7 by omega, show ((7 : Nat) : Int) = 7 from rfl] at h
  rw [h, bindM_some]
  unfold bit
  refine congrArg some ?_
  have := Int.tmod_eq_emod_of_nonneg (a := ((bg l (i / 8) / 2 ^ (7 - i % 8) : Nat) : Int)) (b := 2) (Int.natCast_nonneg _)
  rw [this]; exact (Int.natCast_emod _ 2).symm
theorem bit_lt (l : List UInt8) (i : Nat) : bit l i < 2 := Nat.mod_lt _ (by omega)
def lftN (t q : Nat) : Nat := min (t - 8 * q) 8
def refm (l : List UInt8) (t : Nat) : List UInt8 := l.mapIdx fun q b => mb b (lftN t q)
theorem refm_len (l : List UInt8) (t : Nat) : (refm l t).length = l.length := by simp [refm]
theorem refm_get (l : List UInt8) (t i : Nat) : (refm l t)[i]? = (l[i]?).map fun b => mb b (lftN t i) := by
  unfold refm; rw [List.getElem?_mapIdx]
theorem refm_step (l : List UInt8) (hl : l.length = 16) (i : Nat) (hi : i < 128) : refm l (i + 1) = (refm l i).set (i / 8) (mb (l.getD (i / 8) 0) (i % 8 + 1)) := by
  apply List.ext_getElem?
  intro j
  rw [List.getElem?_set, refm_get, refm_get]
  by_cases hj : i / 8 = j
  · subst hj
    have hlt : i / 8 < (refm l i).length := by rw [refm_len]; omega
    have hc : l[i / 8]? = some l[i / 8] := List.getElem?_eq_getElem (by omega)
    have e : lftN (i + 1) (i / 8) = i % 8 + 1 := by unfold lftN; omega
    rw [if_pos rfl, if_pos hlt, hc, List.getD_eq_getElem?_getD, hc, e]; rfl
  · rw [if_neg hj]
    have : lftN (i + 1) j = lftN i j := by unfold lftN; omega
    rw [this]
theorem refMask_l1 (i : Nat) (hi : i < 9223372036854775808) : ∀ (k j n : Nat), n < 256 → j + k = i % 8 → crawlwayref10_Mask.l1 (i : Int) (n : Int) (j : Int) = some ((n / 2 ^ k : Nat) : Int) := by
  intro k
  have hm : Int.tmod (i : Int) 8 = ((i % 8 : Nat) : Int) := by rw [Int.tmod_eq_emod_of_nonneg (by omega)]; omega
  induction k with
  | zero =>
    intro j n hn hk
    rw [crawlwayref10_Mask.l1.eq_def, hm, if_neg (by rw [decide_eq_true_eq]; omega), Nat.pow_zero, Nat.div_one]
  | succ k ih =>
    intro j n hn hk
    have e1 : wr .i64 (Int.tdiv (n : Int) 2) = ((n / 2 : Nat) : Int) := by
      have : Int.tdiv (n : Int) 2 = ((n / 2 : Nat) : Int) := by rw [Int.tdiv_eq_ediv_of_nonneg (by omega)]; omega
      rw [this, wr_i64 (by omega) (by omega)]
    have e2 : wr .i64 ((j : Int) + 1) = ((j + 1 : Nat) : Int) := by rw [wr_i64 (by omega) (by omega)]; omega
    rw [crawlwayref10_Mask.l1.eq_def, hm, if_pos (decide_eq_true (by omega)), e1, e2, ih (j + 1) (n / 2) (by omega) (by omega), Nat.div_div_eq_div_mul]
    rw [Nat.pow_succ, Nat.mul_comm]
theorem refMask_loop (V bits : Int) (l : List UInt8) (hl : l.length = 16) (w : Nat) (hw : w ≤ 128) : ∀ (k i : Nat), i + k = min w bits.toNat →
    crawlwayref10_Mask.l0 (mkA V l) bits (w : Int) (i : Int) (mkA V (refm l i)) = some (mkA V (refm l (min w bits.toNat))) := by
  intro k
  induction k with
  | zero =>
    intro i hi
    rw [crawlwayref10_Mask.l0.eq_def]
    by_cases h1 : i < w
    · have hb : decide ((i : Int) < bits) = false := decide_eq_false (by omega)
      rw [if_pos (decide_eq_true (by omega)), hb, if_neg Bool.false_ne_true, show i = min w bits.toNat by omega]
    · rw [if_neg (by rw [decide_eq_true_eq]; omega), show i = min w bits.toNat by omega]
  | succ k ih =>
    intro i hi
    have hi128 : i < 128 := by omega
    have hd : wr .i64 (Int.tdiv (i : Int) 8) = ((i / 8 : Nat) : Int) := by
      have : Int.tdiv (i : Int) 8 = ((i / 8 : Nat) : Int) := by rw [Int.tdiv_eq_ediv_of_nonneg (by omega)]; omega
      rw [this, wr_i64 (by omega) (by omega)]
    have hi1 : wr .i64 ((i : Int) + 1) = ((i + 1 : Nat) : Int) := by rw [wr_i64 (by omega) (by omega)]; omega
    have hl1 := refMask_l1 i (by omega) (i % 8) 0 128 (by omega) (by omega)
    rw [show ((128 : Nat) : Int) = 128 from rfl, show ((0 : Nat) : Int) = 0 from rfl] at hl1
    have hc : l[i / 8]? = some l[i / 8] := List.getElem?_eq_getElem (by omega)
    generalize hcc : l[i / 8] = c at hc
    have hgd : l.getD (i / 8) 0 = c := by rw [List.getD_eq_getElem?_getD, hc]; rfl
    have hbit : bit l i = c.toNat / 2 ^ (7 - i % 8) % 2 := by unfold bit; rw [bg_get hc]
    have hst := mb_step c (i % 8) (by omega)
    have hlt := (mb c (i % 8 + 1)).toNat_lt
    have hrl : (refm l i).length = 16 := by rw [refm_len]; exact hl
    have hri : (refm l i)[i / 8]? = some (mb c (i % 8)) := by
      have e : lftN i (i / 8) = i % 8 := by unfold lftN; omega
      rw [refm_get, hc, e]; rfl
    have hstep := refm_step l hl i hi128
    rw [hgd] at hstep
    rw [crawlwayref10_Mask.l0.eq_def, if_pos (decide_eq_true (by omega)), if_pos (decide_eq_true (by omega)), digit_ref hl i hi128, bindM_some, hl1, bindM_some, hd, hi1]
    by_cases hb : bit l i = 1
    · have hbb : (((bit l i : Nat) : Int) == 1) = true := by rw [hb]; rfl
      rw [hbb, if_pos rfl, if_pos (by omega), if_pos (by omega)]
      have hset : ({ mkA V (refm l i) with f_B := vset (mkA V (refm l i)).f_B ((i / 8 : Nat) : Int) (wr .u8 ((vget (mkA V (refm l i)).f_B ((i / 8 : Nat) : Int)) + (wr .u8 ((128 / 2 ^ (i % 8) : Nat) : Int)))) } : S_api_Addr) = mkA V (refm l (i + 1)) := by
        show S_api_Addr.mk V (vset (vb (refm l i)) ((i / 8 : Nat) : Int) (wr .u8 ((vget (vb (refm l i)) ((i / 8 : Nat) : Int)) + (wr .u8 ((128 / 2 ^ (i % 8) : Nat) : Int))))) = _
        have hq : 128 / 2 ^ (i % 8) < 256 := Nat.lt_of_le_of_lt (Nat.div_le_self _ _) (by omega)
        have e6 : wr .u8 ((128 / 2 ^ (i % 8) : Nat) : Int) = ((128 / 2 ^ (i % 8) : Nat) : Int) := by
          generalize 128 / 2 ^ (i % 8) = z at hq
          exact wr_u8 (by omega) (by omega)
        rw [vget_vb hrl _ (by omega), bg_get hri, e6]
        have e5 : wr .u8 (((mb c (i % 8)).toNat : Int) + ((128 / 2 ^ (i % 8) : Nat) : Int)) = ((mb c (i % 8 + 1)).toNat : Int) := by
          rw [hst, ← hbit, hb, Nat.one_mul] at hlt
          rw [hst, ← hbit, hb, Nat.one_mul]
          generalize 128 / 2 ^ (i % 8) = z at hlt
          rw [wr_u8 (by omega) (by omega)]; omega
        rw [e5, vset_vb hrl, ← hstep]; rfl
      rw [hset]
      exact ih (i + 1) (by omega)
    · have h0 : bit l i = 0 := by have := bit_lt l i; omega
      have hbb : (((bit l i : Nat) : Int) == 1) = false := by rw [h0]; rfl
      rw [hbb, if_neg Bool.false_ne_true]
      have : refm l (i + 1) = refm l i := by
        rw [hstep]
        have e6 : mb c (i % 8 + 1) = mb c (i % 8) := by
          apply UInt8.toNat.inj
          rw [hst, ← hbit, h0]; omega
        rw [e6]
        apply List.ext_getElem?
        intro j
        rw [List.getElem?_set]
        by_cases hj : i / 8 = j
        · subst hj; rw [if_pos rfl, if_pos (by omega), hri]
        · rw [if_neg hj]
      rw [← this]
      exact ih (i + 1) (by omega)
theorem refm_zero (l : List UInt8) (hl : l.length = 16) : refm l 0 = List.replicate 16 0 := by
  apply List.ext_getElem?
  intro j
  rw [refm_get]
  by_cases hj : j < 16
  · have hc : l[j]? = some l[j] := List.getElem?_eq_getElem (by omega)
    rw [hc, List.getElem?_replicate, if_pos hj]
    have e : lftN 0 j = 0 := by unfold lftN; omega
    rw [e]
    exact congrArg some (mb_zero _)
  · rw [List.getElem?_eq_none (by omega), List.getElem?_eq_none (by simp; omega)]; rfl
theorem refm_full {V bits : Int} {l : List UInt8} (hl : l.length = 16) (hr : rightL V l = true) : refm l (min (widthL V l) bits.toNat) = mfull l bits := by
  apply List.ext_getElem?
  intro j
  rw [refm_get, mfull_get]
  by_cases hj : j < 16
  · have hc : l[j]? = some l[j] := List.getElem?_eq_getElem (by omega)
    rw [hc]
    show some _ = some _
    congr 1
    rcases right_cases hr with h6 | ⟨h4, hlow⟩
    · have hw : widthL V l = 128 := by unfold widthL; rw [if_pos hr, if_neg (by omega)]
      have : lftN (min (widthL V l) bits.toNat) j = lft bits j := by rw [hw]; unfold lftN lft; omega
      rw [this]
    · have hw : widthL V l = 32 := by unfold widthL; rw [if_pos hr, if_pos h4]
      by_cases hj4 : j < 4
      · have : lftN (min (widthL V l) bits.toNat) j = lft bits j := by rw [hw]; unfold lftN lft; omega
        rw [this]
      · have hz : l[j] = 0 := by
          have h1 := (low_iff hl).1 hlow
          have h2 : l[j]? = some 0 := by
            rw [h1]; unfold fourL
            rw [List.getElem?_append_right (by simp; omega), List.getElem?_replicate, if_pos (by simp; omega)]
          rw [hc] at h2; exact Option.some.inj h2
        rw [hz]
        exact (mb_of_zero _).trans (mb_of_zero _).symm
  · rw [List.getElem?_eq_none (by omega)]; rfl
theorem mask_ref {V bits : Int} {l : List UInt8} (hl : l.length = 16) : crawlwayref10_Mask (mkA V l) bits = some (maskA V l bits) := by
  unfold crawlwayref10_Mask maskA
  rw [right_ref hl, bindM_some]
  cases hr : rightL V l
  · show some _ = _
    rw [zero_mkA]; rfl
  · have h := refMask_loop V bits l hl (widthL V l) width_le (min (widthL V l) bits.toNat) 0 (by omega)
    rw [refm_zero l hl, show ((0 : Nat) : Int) = 0 from rfl, refm_full hl hr] at h
    show (crawlwayref10_Width (mkA V l) >>= fun t6 => crawlwayref10_Mask.l0 (mkA V l) bits t6 0 (S_api_Addr.mk V (Vector.replicate 16 (0 : Int))) >>= fun q7 => some q7) = _
    rw [width_ref hl, bindM_some, zero_vb]
    show (crawlwayref10_Mask.l0 (mkA V l) bits _ 0 (mkA V (List.replicate 16 0)) >>= fun q7 => some q7) = _
    rw [h]; rfl
end Go.Proofs.Ythccncpephpdjaa.Adr
namespace Go.Proofs.Ythccncpephpdjaa.Cid
open E Go.RowKit
open Adr
def mkP (A : S_api_Addr) (b : Int) : S_api_Prefix := { f_A := A, f_Bits := b }
def zP : S_api_Prefix := { f_A := ({ f_V := (0 : Int), f_B := (Vector.replicate 16 (0 : Int) : (Vector Int 16)) } : S_api_Addr), f_Bits := (0 : Int) }
theorem mkP_inj {V W : Int} {l k : List UInt8} {b c : Int} (hl : l.length = 16) (hk : k.length = 16) : mkP (mkA V l) b = mkP (mkA W k) c ↔ (V = W ∧ l = k) ∧ b = c := by
  unfold mkP
  rw [S_api_Prefix.mk.injEq, mkA_inj hl hk]
def fits (V : Int) (l : List UInt8) (b : Int) : Bool := rightL V l && (decide (0 ≤ b) && decide (b ≤ (widthL V l : Int)))
theorem fits_iff {V : Int} {l : List UInt8} {b : Int} : fits V l b = true ↔ rightL V l = true ∧ 0 ≤ b ∧ b ≤ (widthL V l : Int) := by
  unfold fits
  simp only [Bool.and_eq_true, decide_eq_true_eq]
def ofP (V : Int) (l : List UInt8) (b : Int) : S_api_Prefix × Int := if rightL V l = true then (if fits V l b = true then (mkP (mkA V (mfull l b)) b, 0) else (zP, 6)) else (zP, 1)
theorem of_code {V b : Int} {l : List UInt8} (hl : l.length = 16) : cidr_Of (mkA V l) b = some (ofP V l b) := by
  unfold cidr_Of ofP
  rw [right_code hl, bindM_some]
  have hw := width_le (V := V) (l := l)
  cases hr : rightL V l with
  | false => rfl
  | true =>
    rw [if_neg (show ¬ (!true) = true by decide), if_pos rfl]
    by_cases h0 : b < 0
    · have hf : ¬ fits V l b = true := fun h => by have := (fits_iff.1 h).2.1; omega
      rw [if_pos (decide_eq_true h0), if_neg hf]; rfl
    · rw [if_neg (by rw [decide_eq_true_eq]; exact h0), width_code hl, bindM_some]
      by_cases h1 : b > (widthL V l : Int)
      · have hf : ¬ fits V l b = true := fun h => by have := (fits_iff.1 h).2.2; omega
        rw [if_pos (decide_eq_true h1), if_neg hf]; rfl
      · have hf : fits V l b = true := fits_iff.2 ⟨hr, by omega, by omega⟩
        rw [if_neg (by rw [decide_eq_true_eq]; exact h1), mask_code hl (by omega), bindM_some, if_pos hf]
        unfold maskA
        rw [if_pos hr]; rfl
def rightP (V : Int) (l : List UInt8) (b : Int) : Bool := fits V l b && decide (mfull l b = l)
theorem rightP_iff {V : Int} {l : List UInt8} {b : Int} : rightP V l b = true ↔ (rightL V l = true ∧ 0 ≤ b ∧ b ≤ (widthL V l : Int)) ∧ mfull l b = l := by
  unfold rightP
  rw [Bool.and_eq_true, fits_iff, decide_eq_true_eq]
theorem mlen {l : List UInt8} (hl : l.length = 16) (b : Int) : (mfull l b).length = 16 := by rw [mfull_len, hl]
theorem cright_code {V b : Int} {l : List UInt8} (hl : l.length = 16) : cidr_Right (mkP (mkA V l) b) = some (rightP V l b) := by
  unfold cidr_Right
  show (cidr_Of (mkA V l) b >>= fun t2 => if (t2.2 == 0) = true then some (decide (t2.1 = mkP (mkA V l) b)) else some false) = _
  rw [of_code hl, bindM_some]
  unfold ofP rightP
  cases hr : rightL V l with
  | false =>
    have hf : fits V l b = false := by unfold fits; rw [hr]; rfl
    rw [hf]; rfl
  | true =>
    rw [if_pos rfl]
    cases hf : fits V l b with
    | false => rfl
    | true =>
      rw [if_pos rfl]
      show (if ((0 : Int) == 0) = true then some (decide (mkP (mkA V (mfull l b)) b = mkP (mkA V l) b)) else some false) = _
      rw [if_pos (by rfl), Bool.true_and]
      refine congrArg some ?_
      rw [decide_eq_decide, mkP_inj (mlen hl b) hl]
      exact ⟨fun h => h.1.2, fun h => ⟨⟨rfl, h⟩, rfl⟩⟩
theorem cright_ref {V b : Int} {l : List UInt8} (hl : l.length = 16) : crawlwayref11_Right (mkP (mkA V l) b) = some (rightP V l b) := by
  unfold crawlwayref11_Right rightP
  show (crawlwayref10_Right (mkA V l) >>= fun t2 => if (!t2) = true then some false else (if decide (b < 0) = true then some false else (crawlwayref10_Width (mkA V l) >>= fun t5 => if decide (b > t5) = true then some false else (crawlwayref10_Mask (mkA V l) b >>= fun t7 => some (decide (mkA V l = t7)))))) = _
  rw [right_ref hl, bindM_some]
  cases hr : rightL V l with
  | false =>
    have hf : fits V l b = false := by unfold fits; rw [hr]; rfl
    rw [hf]; rfl
  | true =>
    rw [if_neg (show ¬ (!true) = true by decide)]
    by_cases h0 : b < 0
    · have hf : fits V l b = false := by cases h : fits V l b with | false => rfl | true => have := (fits_iff.1 h).2.1; omega
      rw [if_pos (decide_eq_true h0), hf]; rfl
    · rw [if_neg (by rw [decide_eq_true_eq]; exact h0), width_ref hl, bindM_some]
      by_cases h1 : b > (widthL V l : Int)
      · have hf : fits V l b = false := by cases h : fits V l b with | false => rfl | true => have := (fits_iff.1 h).2.2; omega
        rw [if_pos (decide_eq_true h1), hf]; rfl
      · have hf : fits V l b = true := fits_iff.2 ⟨hr, by omega, by omega⟩
        rw [if_neg (by rw [decide_eq_true_eq]; exact h1), mask_ref hl, bindM_some, hf, Bool.true_and]
        unfold maskA
        rw [if_pos hr]
        refine congrArg some ?_
        rw [decide_eq_decide, mkA_inj hl (mlen hl b)]
        exact ⟨fun h => h.2.symm, fun h => ⟨rfl, h.symm⟩⟩
end Go.Proofs.Ythccncpephpdjaa.Cid
namespace Go.Proofs.Ythccncpephpdjaa.Adr
open E Go.RowKit Cid
theorem bit_code {V i : Int} {l : List UInt8} (hl : l.length = 16) (hi : -9223372036854775808 ≤ i ∧ i < 9223372036854775808) :
    addr_Bit (mkA V l) i = some (if 0 ≤ i ∧ i < (widthL V l : Int) then ((bit l i.toNat : Nat) : Int) else -1) := by
  unfold addr_Bit
  rw [width_code hl, bindM_some]
  have hw := width_le (V := V) (l := l)
  by_cases h0 : i < 0
  · rw [if_pos (decide_eq_true h0), if_neg (by omega)]
  · rw [if_neg (by rw [decide_eq_true_eq]; exact h0)]
    by_cases h1 : i ≥ (widthL V l : Int)
    · rw [if_pos (decide_eq_true h1), if_neg (by omega)]
    · rw [if_neg (by rw [decide_eq_true_eq]; exact h1)]
      obtain ⟨n, rfl⟩ := Int.eq_ofNat_of_zero_le (show 0 ≤ i by omega)
      have hn : n < 128 := by omega
      have e1 : ishr .i64 (n : Int) 3 = ((n / 8 : Nat) : Int) := ishr_nat .i64 n 3 (by decide)
      have e2 : iand .i64 (n : Int) 7 = ((n % 8 : Nat) : Int) := by
        unfold iand
        have h7 : (BitVec.ofInt IntKind.i64.bits (7 : Int)).toNat = 7 := by decide
        have hb : (BitVec.ofInt IntKind.i64.bits (n : Int)).toNat = n := toNat_ofInt 64 n (by omega)
        rw [BitVec.toNat_and, h7, hb, show (7 : Nat) = 2 ^ 3 - 1 from rfl, Nat.and_two_pow_sub_one_eq_mod]
        have := wr_i64 (x := ((n % 2 ^ 3 : Nat) : Int)) (by omega) (by omega)
        exact this
      have e3 : wr .u64 (wr .i64 (7 - ((n % 8 : Nat) : Int))) = ((7 - n % 8 : Nat) : Int) := by rw [wr_i64 (by omega) (by omega), wr_u64 (by omega) (by omega)]; omega
      have hb := bg_lt l (n / 8)
      have h3 : (0 : Int) ≤ (n : Int) ∧ (n : Int) < (widthL V l : Int) := by omega
      rw [e1, e2, e3, if_pos (by omega), if_pos (by omega), if_pos h3]
      refine congrArg some ?_
      show iand .i64 (wr .i64 (ishr .u8 (vget (vb l) ((n / 8 : Nat) : Int)) ((7 - n % 8 : Nat) : Int))) 1 = _
      rw [vget_vb hl _ (by omega), ishr_nat .u8 _ _ (by show 7 - n % 8 ≤ 8; omega)]
      have hdl : bg l (n / 8) / 2 ^ (7 - n % 8) < 256 := Nat.lt_of_le_of_lt (Nat.div_le_self _ _) hb
      generalize hx : bg l (n / 8) / 2 ^ (7 - n % 8) = x at hdl
      rw [wr_i64 (by omega) (by omega)]
      have e4 : iand .i64 (x : Int) 1 = ((x % 2 : Nat) : Int) := by
        unfold iand
        have h1 : (BitVec.ofInt IntKind.i64.bits (1 : Int)).toNat = 1 := by decide
        have hb : (BitVec.ofInt IntKind.i64.bits (x : Int)).toNat = x := toNat_ofInt 64 x (by omega)
        rw [BitVec.toNat_and, h1, hb, Nat.and_one_is_mod]
        have := wr_i64 (x := ((x % 2 : Nat) : Int)) (by omega) (by omega)
        exact this
      rw [e4]
      unfold bit
      rw [Int.toNat_natCast, hx]
def fd (p : Nat → Bool) : Nat → Nat → Nat
  | 0, i => i
  | f + 1, i => if p i = true then fd p f (i + 1) else i
theorem fd_le (p : Nat → Bool) : ∀ (f i : Nat), fd p f i ≤ i + f
  | 0, i => Nat.le_refl _
  | f + 1, i => by
    unfold fd
    split
    · have := fd_le p f (i + 1); omega
    · omega
theorem fd_all (p : Nat → Bool) : ∀ (f i j : Nat), i ≤ j → j < fd p f i → p j = true
  | 0, i, j, h1, h2 => by unfold fd at h2; omega
  | f + 1, i, j, h1, h2 => by
    unfold fd at h2
    by_cases hp : p i = true
    · rw [if_pos hp] at h2
      by_cases hj : j = i
      · subst hj; exact hp
      · exact fd_all p f (i + 1) j (by omega) h2
    · rw [if_neg hp] at h2; omega
theorem fd_stop (p : Nat → Bool) : ∀ (f i : Nat), fd p f i < i + f → p (fd p f i) = false
  | 0, i, h => by unfold fd at h; omega
  | f + 1, i, h => by
    unfold fd at h ⊢
    by_cases hp : p i = true
    · rw [if_pos hp] at h ⊢
      exact fd_stop p f (i + 1) (by omega)
    · rw [if_neg hp]; simpa using hp
/-- Are the bits at a place alike? -/
def alikeB (l k : List UInt8) (i : Nat) : Bool := decide (bit l i = bit k i)
theorem refCommon_loop {V W : Int} {l k : List UInt8} (hl : l.length = 16) (hk : k.length = 16) (t : Nat) (ht : t ≤ 128) : ∀ (f i : Nat), i + f = t →
    crawlwayref10_Common.l0 (mkA V l) (mkA W k) (t : Int) (i : Int) = some ((fd (alikeB l k) f i : Nat) : Int) := by
  intro f
  induction f with
  | zero =>
    intro i hi
    rw [crawlwayref10_Common.l0.eq_def, if_neg (by rw [decide_eq_true_eq]; omega)]; rfl
  | succ f ih =>
    intro i hi
    rw [crawlwayref10_Common.l0.eq_def, if_pos (decide_eq_true (by omega)), digit_ref hl i (by omega), bindM_some, digit_ref hk i (by omega), bindM_some]
    unfold fd
    by_cases h : bit l i = bit k i
    · have h1 : (((bit l i : Nat) : Int) == ((bit k i : Nat) : Int)) = true := by rw [h]; exact beq_self_eq_true _
      have h2 : alikeB l k i = true := decide_eq_true h
      rw [h1, if_pos rfl, h2, if_pos rfl, wr_i64 (by omega) (by omega), show ((i : Int) + 1) = ((i + 1 : Nat) : Int) by omega]
      exact ih (i + 1) (by omega)
    · have h1 : (((bit l i : Nat) : Int) == ((bit k i : Nat) : Int)) = false := by rw [beq_eq_false_iff_ne]; omega
      have h2 : alikeB l k i = false := decide_eq_false h
      rw [h1, if_neg Bool.false_ne_true, h2, if_neg Bool.false_ne_true]
def commonL (V : Int) (l : List UInt8) (W : Int) (k : List UInt8) : Int :=
  if rightL V l = true ∧ rightL W k = true ∧ V = W then ((fd (alikeB l k) (widthL V l) 0 : Nat) : Int) else -1
theorem common_ref {V W : Int} {l k : List UInt8} (hl : l.length = 16) (hk : k.length = 16) : crawlwayref10_Common (mkA V l) (mkA W k) = some (commonL V l W k) := by
  unfold crawlwayref10_Common commonL
  rw [right_ref hl, bindM_some]
  cases hr : rightL V l
  · show some (-1 : Int) = _
    rw [if_neg (by simp)]
  · show (crawlwayref10_Right (mkA W k) >>= fun t5 => _) = _
    rw [right_ref hk, bindM_some]
    cases hs : rightL W k
    · show some (-1 : Int) = _
      rw [if_neg (by simp)]
    · show (if (V != W) = true then _ else _) = _
      by_cases hv : V = W
      · subst hv
        have hne : (V != V) = false := by simp
        rw [hne, if_neg Bool.false_ne_true, width_ref hl, bindM_some]
        have h1 := refCommon_loop (V := V) (W := V) hl hk (widthL V l) width_le (widthL V l) 0 (by omega)
        rw [show ((0 : Nat) : Int) = 0 from rfl] at h1
        rw [h1, bindM_some, if_pos ⟨rfl, rfl, rfl⟩]
      · have hne : (V != W) = true := by simpa using hv
        rw [hne, if_pos rfl, if_neg (fun h => hv h.2.2)]
def lessL : List UInt8 → List UInt8 → Bool
  | x :: a, y :: b => if x ≠ y then decide (x < y) else lessL a b
  | _, _ => false
theorem mb_alike (x y : UInt8) : ∀ (k : Nat), k ≤ 8 → (∀ j, j < k → x.toNat / 2 ^ (7 - j) % 2 = y.toNat / 2 ^ (7 - j) % 2) → mb x k = mb y k
  | 0, _, _ => by rw [mb_zero, mb_zero]
  | k + 1, hk, h => by
    apply UInt8.toNat.inj
    rw [mb_step x k (by omega), mb_step y k (by omega), mb_alike x y k (by omega) (fun j hj => h j (by omega)), h k (by omega)]
theorem mfull_alike {l k : List UInt8} (hl : l.length = 16) (hk : k.length = 16) (c : Nat) (hc : c ≤ 128) (h : ∀ j, j < c → bit l j = bit k j) : mfull l (c : Int) = mfull k (c : Int) := by
  apply List.ext_getElem?
  intro j
  rw [mfull_get, mfull_get]
  by_cases hj : j < 16
  · have hx : l[j]? = some l[j] := List.getElem?_eq_getElem (by omega)
    have hy : k[j]? = some k[j] := List.getElem?_eq_getElem (by omega)
    generalize l[j] = x at hx
    generalize k[j] = y at hy
    rw [hx, hy]
    show some _ = some _
    congr 1
    refine mb_alike x y _ (lft_le _ _) fun i hi => ?_
    have hlt : i < 8 := by have := lft_le (c : Int) j; omega
    have hb := h (8 * j + i) (by unfold lft at hi; omega)
    unfold bit at hb
    rw [show (8 * j + i) / 8 = j by omega, show (8 * j + i) % 8 = i by omega, bg_get hx, bg_get hy] at hb
    exact hb
  · rw [List.getElem?_eq_none (by omega), List.getElem?_eq_none (by omega)]
theorem mb_bit_fin : ∀ (x : Fin 256) (m : Fin 9) (j : Fin 8), j.val < m.val → (x.val - x.val % 2 ^ (8 - m.val)) / 2 ^ (7 - j.val) % 2 = x.val / 2 ^ (7 - j.val) % 2 := by decide +kernel
theorem bit_mfull {l : List UInt8} (hl : l.length = 16) (b : Int) (i : Nat) (hi : (i : Int) < b) (h128 : i < 128) : bit (mfull l b) i = bit l i := by
  unfold bit
  obtain ⟨c, hc⟩ : ∃ c, l[i / 8]? = some c := ⟨_, List.getElem?_eq_getElem (by omega)⟩
  have hm : (mfull l b)[i / 8]? = some (mb c (lft b (i / 8))) := by rw [mfull_get, hc]; rfl
  rw [bg_get hc, bg_get hm, mb_toNat]
  have hle := lft_le b (i / 8)
  have hlt : i % 8 < lft b (i / 8) := by unfold lft; omega
  exact mb_bit_fin ⟨c.toNat, c.toNat_lt⟩ ⟨lft b (i / 8), by omega⟩ ⟨i % 8, by omega⟩ hlt
theorem fd_far (p : Nat → Bool) (f c : Nat) (hc : c ≤ f) (h : ∀ j, j < c → p j = true) : c ≤ fd p f 0 := by
  rcases Nat.lt_or_ge (fd p f 0) c with hlt | hge
  · have h1 := fd_stop p f 0 (by omega)
    rw [h _ hlt] at h1; cases h1
  · exact hge
theorem same_bits {V W : Int} {l k : List UInt8} {b : Int} (hl : l.length = 16) (hk : k.length = 16) (hp : rightP V l b = true) (hV : V = W) (hr : rightL W k = true) : decide (mfull k b = l) = decide (commonL V l W k ≥ b) := by
  subst hV
  obtain ⟨⟨hrl, h0, h1⟩, hm⟩ := rightP_iff.1 hp
  have hw := width_le (V := V) (l := l)
  obtain ⟨c, rfl⟩ := Int.eq_ofNat_of_zero_le h0
  have hc : commonL V l V k = ((fd (alikeB l k) (widthL V l) 0 : Nat) : Int) := by unfold commonL; rw [if_pos ⟨hrl, hr, rfl⟩]
  rw [hc, decide_eq_decide]
  constructor
  · intro h
    have := fd_far (alikeB l k) (widthL V l) c (by omega) fun j hj => by
      unfold alikeB
      refine decide_eq_true ?_
      rw [← h, bit_mfull hk (c : Int) j (by omega) (by omega)]
    omega
  · intro h
    have hall := fd_all (alikeB l k) (widthL V l) 0
    have := mfull_alike hl hk c (by omega) fun j hj => of_decide_eq_true (hall j (by omega) (by omega))
    rw [← this, hm]
def hasP (V : Int) (l : List UInt8) (b W : Int) (k : List UInt8) : Bool := rightP V l b && (rightL W k && (decide (W = V) && decide (mfull k b = l)))
theorem has_ref {V b W : Int} {l k : List UInt8} (hl : l.length = 16) (hk : k.length = 16) : crawlwayref11_Has (mkP (mkA V l) b) (mkA W k) = some (hasP V l b W k) := by
  unfold crawlwayref11_Has hasP
  rw [cright_ref hl, bindM_some]
  cases hp : rightP V l b with
  | false => rfl
  | true =>
    obtain ⟨⟨hrl, h0, h1⟩, hm⟩ := rightP_iff.1 hp
    rw [if_pos rfl, Bool.true_and]
    show (crawlwayref10_Common (mkA V l) (mkA W k) >>= fun t5 => some (decide (t5 ≥ b))) = _
    rw [common_ref hl hk, bindM_some]
    refine congrArg some ?_
    cases hr : rightL W k with
    | false =>
      have hc : commonL V l W k = -1 := by unfold commonL; rw [if_neg (by rw [hr]; simp)]
      rw [hc, Bool.false_and]
      exact decide_eq_false (by omega)
    | true =>
      rw [Bool.true_and]
      by_cases hV : W = V
      · rw [decide_eq_true hV, Bool.true_and]
        exact (same_bits hl hk hp hV.symm hr).symm
      · have hc : commonL V l W k = -1 := by unfold commonL; rw [if_neg (fun h => hV h.2.2.symm)]
        rw [hc, decide_eq_false hV, Bool.false_and]
        exact decide_eq_false (by omega)
end Go.Proofs.Ythccncpephpdjaa.Adr
namespace Go.Proofs.Ythccncpephpdjaa.Tri
open E Go.RowKit
open Adr Cid
def sbb (b : UInt8) (k : Nat) : UInt8 := UInt8.ofNat (b.toNat ||| 128 / 2 ^ k)
theorem sbb_fin : ∀ (b : Fin 256) (k : Fin 8), (b.val ||| 128 / 2 ^ k.val) < 256 ∧ ∀ j : Fin 8, (b.val ||| 128 / 2 ^ k.val) / 2 ^ (7 - j.val) % 2 = if j = k then 1 else b.val / 2 ^ (7 - j.val) % 2 := by decide +kernel
theorem sbb_toNat (b : UInt8) (k : Nat) (hk : k < 8) : (sbb b k).toNat = (b.toNat ||| 128 / 2 ^ k) := by
  unfold sbb
  rw [UInt8.toNat_ofNat', Nat.mod_eq_of_lt]
  exact (sbb_fin ⟨b.toNat, b.toNat_lt⟩ ⟨k, hk⟩).1
theorem sbb_bit (b : UInt8) (k j : Nat) (hk : k < 8) (hj : j < 8) : (sbb b k).toNat / 2 ^ (7 - j) % 2 = if j = k then 1 else b.toNat / 2 ^ (7 - j) % 2 := by
  rw [sbb_toNat b k hk]
  have := (sbb_fin ⟨b.toNat, b.toNat_lt⟩ ⟨k, hk⟩).2 ⟨j, hj⟩
  simpa using this
def sb (l : List UInt8) (d : Nat) : List UInt8 := l.set (d / 8) (sbb (l.getD (d / 8) 0) (d % 8))
theorem sb_len (l : List UInt8) (d : Nat) : (sb l d).length = l.length := by simp [sb]
theorem bit_sb {l : List UInt8} (hl : l.length = 16) {d : Nat} (hd : d < 128) (i : Nat) : bit (sb l d) i = if i = d then 1 else bit l i := by
  unfold bit bg sb
  by_cases h8 : i / 8 = d / 8
  · have e1 : ((l.set (d / 8) (sbb (l.getD (d / 8) 0) (d % 8))).getD (i / 8) 0) = sbb (l.getD (d / 8) 0) (d % 8) := by
      rw [h8, List.getD_eq_getElem?_getD, List.getElem?_set_self (by omega)]; rfl
    rw [e1, sbb_bit _ _ _ (by omega) (by omega), h8]
    by_cases hi : i = d
    · subst hi; simp
    · rw [if_neg (by omega), if_neg hi]
  · rw [if_neg (by intro e; subst e; exact h8 rfl), List.getD_eq_getElem?_getD, List.getElem?_set_ne (by omega), ← List.getD_eq_getElem?_getD]
theorem mb_eight (b : UInt8) : mb b 8 = b := by
  apply UInt8.toNat_inj.1
  rw [mb_toNat]
  simp; omega
theorem mfull_all {l : List UInt8} (hl : l.length = 16) : mfull l 128 = l := by
  apply List.ext_getElem?
  intro i
  rw [mfull_get]
  cases h : l[i]? with
  | none => rfl
  | some b =>
    have : i < 16 := by rw [← hl]; exact (List.getElem?_eq_some_iff.1 h).1
    have e : lft 128 i = 8 := by unfold lft; omega
    rw [e, Option.map_some, mb_eight]
theorem bits_ext {l k : List UInt8} (hl : l.length = 16) (hk : k.length = 16) (h : ∀ i, i < 128 → bit l i = bit k i) : l = k := by
  have := mfull_alike hl hk 128 (Nat.le_refl _) h
  rw [show ((128 : Nat) : Int) = 128 from rfl] at this
  rwa [mfull_all hl, mfull_all hk] at this
def zl : List UInt8 := List.replicate 16 0
theorem zl_len : zl.length = 16 := by simp [zl]
theorem bit_zl (i : Nat) : bit zl i = 0 := by
  unfold bit bg zl
  have : (List.replicate 16 (0 : UInt8)).getD (i / 8) 0 = 0 := by
    rw [List.getD_eq_getElem?_getD, List.getElem?_replicate]
    split <;> rfl
  rw [this]; simp
/-- The address behind a path. -/
def adrG : List UInt8 → Nat → List Nat → List UInt8
  | l, _, [] => l
  | l, d, b :: p => adrG (if b = 1 then sb l d else l) (d + 1) p
theorem adrG_len : ∀ (p : List Nat) (l : List UInt8) (d : Nat), (adrG l d p).length = l.length
  | [], _, _ => rfl
  | b :: p, l, d => by
    unfold adrG
    rw [adrG_len p]
    split
    · exact sb_len l d
    · rfl
theorem bit_adrG : ∀ (p : List Nat) (l : List UInt8) (d : Nat), l.length = 16 → d + p.length ≤ 128 → (∀ b ∈ p, b < 2) → (∀ i, d ≤ i → bit l i = 0) → ∀ i, bit (adrG l d p) i = if i < d then bit l i else p.getD (i - d) 0
  | [], l, d, _, _, _, h0, i => by
    unfold adrG
    split
    · rfl
    · rw [h0 i (by omega)]; simp
  | b :: p, l, d, hl, hd, hb, h0, i => by
    unfold adrG
    simp only [List.length_cons] at hd
    have hb0 := hb b (List.mem_cons_self ..)
    have e := bit_sb hl (d := d) (by omega)
    rw [bit_adrG p _ (d + 1) (by split; rw [sb_len, hl]; exact hl) (by omega) (fun x hx => hb x (List.mem_cons_of_mem _ hx)) (fun j hj => by
      split
      · rw [e j, if_neg (by omega)]; exact h0 j (by omega)
      · exact h0 j (by omega))]
    by_cases h1 : i < d
    · rw [if_pos (by omega), if_pos h1]
      split
      · rw [e, if_neg (by omega)]
      · rfl
    · rw [if_neg h1]
      by_cases h2 : i = d
      · subst h2
        rw [if_pos (by omega), Nat.sub_self]
        simp only [List.getD_cons_zero]
        split
        · next h => rw [e, if_pos rfl, h]
        · rw [h0 _ (Nat.le_refl _)]; omega
      · rw [if_neg (by omega), show i - d = (i - (d + 1)) + 1 by omega, List.getD_cons_succ]
theorem lessL_at : ∀ (q : Nat) (l k : List UInt8) (x y : UInt8), (∀ i, i < q → l[i]? = k[i]?) → l[q]? = some x → k[q]? = some y → x < y → lessL l k = true
  | 0, l, k, x, y, _, hx, hy, hxy => by
    cases l with
    | nil => simp at hx
    | cons a l =>
      cases k with
      | nil => simp at hy
      | cons b k =>
        simp at hx hy
        subst hx hy
        unfold lessL
        simp [UInt8.ne_of_lt hxy, hxy]
  | q + 1, l, k, x, y, h, hx, hy, hxy => by
    cases l with
    | nil => simp at hx
    | cons a l =>
      cases k with
      | nil => simp at hy
      | cons b k =>
        have e := h 0 (by omega)
        simp at e hx hy
        subst e
        unfold lessL
        simp
        exact lessL_at q l k x y (fun i hi => by have := h (i + 1) (by omega); simpa using this) hx hy hxy
theorem byte_less {x y : UInt8} {m : Nat} (hm : m < 8) (h : ∀ j, j < m → x.toNat / 2 ^ (7 - j) % 2 = y.toNat / 2 ^ (7 - j) % 2) (h0 : x.toNat / 2 ^ (7 - m) % 2 = 0) (h1 : y.toNat / 2 ^ (7 - m) % 2 = 1) : x < y := by
  have e := congrArg UInt8.toNat (mb_alike x y m (by omega) h)
  rw [mb_toNat, mb_toNat] at e
  have hx := x.toNat_lt
  have hy := y.toNat_lt
  show x.toNat < y.toNat
  have : m = 0 ∨ m = 1 ∨ m = 2 ∨ m = 3 ∨ m = 4 ∨ m = 5 ∨ m = 6 ∨ m = 7 := by omega
  rcases this with rfl | rfl | rfl | rfl | rfl | rfl | rfl | rfl <;> simp at e h0 h1 <;> omega
theorem less_bits {l k : List UInt8} (hl : l.length = 16) (hk : k.length = 16) {d : Nat} (hd : d < 128) (h : ∀ i, i < d → bit l i = bit k i) (h0 : bit l d = 0) (h1 : bit k d = 1) : lessL l k = true := by
  have gl : ∀ q, q < 16 → l[q]? = some (l.getD q 0) := fun q hq => by rw [List.getD_eq_getElem?_getD, List.getElem?_eq_getElem (by omega)]; rfl
  have gk : ∀ q, q < 16 → k[q]? = some (k.getD q 0) := fun q hq => by rw [List.getD_eq_getElem?_getD, List.getElem?_eq_getElem (by omega)]; rfl
  refine lessL_at (d / 8) l k _ _ (fun q hq => ?_) (gl _ (by omega)) (gk _ (by omega)) (byte_less (m := d % 8) (by omega) (fun j hj => ?_) h0 h1)
  · rw [gl q (by omega), gk q (by omega)]
    have e := mb_alike (l.getD q 0) (k.getD q 0) 8 (by omega) fun j hj => by
      have := h (8 * q + j) (by omega)
      unfold bit bg at this
      rwa [show (8 * q + j) / 8 = q by omega, show (8 * q + j) % 8 = j by omega] at this
    rw [mb_eight, mb_eight] at e
    rw [e]
  · have := h (8 * (d / 8) + j) (by omega)
    unfold bit bg at this
    rwa [show (8 * (d / 8) + j) / 8 = d / 8 by omega, show (8 * (d / 8) + j) % 8 = j by omega] at this
theorem lessL_cons (x y : UInt8) (l k : List UInt8) : lessL (x :: l) (y :: k) = if x = y then lessL l k else decide (x < y) := by
  show (if x ≠ y then decide (x < y) else lessL l k) = _
  by_cases e : x = y <;> simp [e]
theorem lessL_irr : ∀ (l : List UInt8), lessL l l = false
  | [] => rfl
  | x :: l => by unfold lessL; simp [lessL_irr l]
theorem lessL_asym : ∀ (l k : List UInt8), lessL l k = true → lessL k l = false
  | [], [], h => by simp [lessL] at h
  | [], _ :: _, h => by simp [lessL] at h
  | _ :: _, [], h => by simp [lessL] at h
  | x :: l, y :: k, h => by
    rw [lessL_cons] at h ⊢
    by_cases e : x = y
    · subst e; simp at h ⊢; exact lessL_asym l k h
    · rw [if_neg e] at h
      rw [if_neg (Ne.symm e)]
      simp at h ⊢
      exact UInt8.le_of_lt h
theorem lessL_trans : ∀ (l k m : List UInt8), lessL l k = true → lessL k m = true → lessL l m = true
  | [], k, m, h, _ => by cases k <;> simp [lessL] at h
  | _ :: _, [], m, h, _ => by simp [lessL] at h
  | _ :: _, _ :: _, [], _, h => by simp [lessL] at h
  | x :: l, y :: k, z :: m, h, g => by
    rw [lessL_cons] at h g ⊢
    by_cases e : x = y
    · subst e
      by_cases e2 : x = z
      · subst e2; simp at h g ⊢; exact lessL_trans l k m h g
      · rw [if_neg e2] at g ⊢; exact g
    · rw [if_neg e] at h
      by_cases e2 : y = z
      · subst e2; rw [if_neg e]; exact h
      · rw [if_neg e2] at g
        simp at h g
        have hxz := UInt8.lt_trans h g
        rw [if_neg (UInt8.ne_of_lt hxz)]
        simpa using hxz
theorem lessL_total : ∀ (l k : List UInt8), l.length = k.length → l ≠ k → lessL l k = false → lessL k l = true
  | [], [], _, h, _ => absurd rfl h
  | [], _ :: _, h, _, _ => by simp at h
  | _ :: _, [], h, _, _ => by simp at h
  | x :: l, y :: k, hl, hn, h => by
    rw [lessL_cons] at h ⊢
    by_cases e : x = y
    · subst e
      simp at h ⊢
      exact lessL_total l k (by simpa using hl) (by intro e; subst e; exact hn rfl) h
    · rw [if_neg e] at h
      rw [if_neg (Ne.symm e)]
      simp at h ⊢
      exact UInt8.lt_of_le_of_ne h (Ne.symm e)
theorem le_bits {l k : List UInt8} (hl : l.length = 16) (hk : k.length = 16) (h : ∀ i, i < 128 → bit l i ≤ bit k i) : l = k ∨ lessL l k = true := by
  by_cases e : fd (alikeB l k) 128 0 < 128
  · right
    have hs := fd_stop (alikeB l k) 128 0 (by omega)
    have ha := fd_all (alikeB l k) 128 0
    generalize fd (alikeB l k) 128 0 = d at e hs ha
    have hne : bit l d ≠ bit k d := by simpa [alikeB] using hs
    have h1 := h d e
    have h2 := bit_lt l d
    have h3 := bit_lt k d
    exact less_bits hl hk e (fun i hi => by simpa [alikeB] using ha i (by omega) hi) (by omega) (by omega)
  · left
    have hge := fd_le (alikeB l k) 128 0
    exact bits_ext hl hk fun i hi => by simpa [alikeB] using fd_all (alikeB l k) 128 0 i (by omega) (by omega)
abbrev Tr := List UInt8 × Nat × Int
def lessE (x y : Tr) : Bool := if x.1 = y.1 then decide (x.2.1 < y.2.1) else lessL x.1 y.1
theorem lessE_asym {x y : Tr} (h : lessE x y = true) : lessE y x = false := by
  unfold lessE at h ⊢
  by_cases e : x.1 = y.1
  · rw [if_pos e] at h; rw [if_pos e.symm]; simp at h ⊢; omega
  · rw [if_neg e] at h; rw [if_neg (Ne.symm e)]; exact lessL_asym _ _ h
theorem lessE_trans {x y z : Tr} (h : lessE x y = true) (g : lessE y z = true) : lessE x z = true := by
  unfold lessE at h g ⊢
  by_cases e : x.1 = y.1
  · rw [if_pos e] at h
    by_cases e2 : y.1 = z.1
    · rw [if_pos e2] at g; rw [if_pos (e.trans e2)]; simp at h g ⊢; omega
    · rw [if_neg e2] at g; rw [if_neg (by rw [e]; exact e2), e]; exact g
  · rw [if_neg e] at h
    by_cases e2 : y.1 = z.1
    · rw [if_neg (by rw [← e2]; exact e), ← e2]; exact h
    · rw [if_neg e2] at g
      have t := lessL_trans _ _ _ h g
      rw [if_neg (by intro e3; rw [e3, lessL_irr] at t; cases t)]; exact t
theorem lessE_total {x y : Tr} (hl : x.1.length = y.1.length) (hn : ¬ (x.1 = y.1 ∧ x.2.1 = y.2.1)) (h : lessE x y = false) : lessE y x = true := by
  unfold lessE at h ⊢
  by_cases e : x.1 = y.1
  · have hn' : x.2.1 ≠ y.2.1 := fun h' => hn ⟨e, h'⟩
    rw [if_pos e] at h; rw [if_pos e.symm]; simp at h ⊢; omega
  · rw [if_neg e] at h; rw [if_neg (Ne.symm e)]; exact lessL_total _ _ hl e h
theorem lessE_irr (x : Tr) : lessE x x = false := by unfold lessE; simp
theorem sorted_ext : ∀ (l k : List Tr), l.Pairwise (fun x y => lessE x y = true) → k.Pairwise (fun x y => lessE x y = true) → (∀ x, x ∈ l ↔ x ∈ k) → l = k
  | [], [], _, _, _ => rfl
  | [], y :: k, _, _, h => by have := (h y).2 (List.mem_cons_self ..); simp at this
  | x :: l, [], _, _, h => by have := (h x).1 (List.mem_cons_self ..); simp at this
  | x :: l, y :: k, hl, hk, h => by
    rw [List.pairwise_cons] at hl hk
    have exy : x = y := by
      rcases List.mem_cons.1 ((h x).1 (List.mem_cons_self ..)) with e | hx
      · exact e
      · rcases List.mem_cons.1 ((h y).2 (List.mem_cons_self ..)) with e | hy
        · exact e.symm
        · have h1 := hk.1 x hx
          have h2 := hl.1 y hy
          rw [lessE_asym h1] at h2; cases h2
    subst exy
    rw [sorted_ext l k hl.2 hk.2 fun z => ⟨fun hz => ?_, fun hz => ?_⟩]
    · rcases List.mem_cons.1 ((h z).1 (List.mem_cons_of_mem _ hz)) with e | hz'
      · subst e; have := hl.1 z hz; rw [lessE_irr] at this; cases this
      · exact hz'
    · rcases List.mem_cons.1 ((h z).2 (List.mem_cons_of_mem _ hz)) with e | hz'
      · subst e; have := hk.1 z hz; rw [lessE_irr] at this; cases this
      · exact hz'
inductive T where
  | nil
  | nd (is : Bool) (own : Int) (l r : T)
  deriving DecidableEq
namespace T
def val : T → List Nat → Option Int
  | nil, _ => none
  | nd is o _ _, [] => if is = true then some o else none
  | nd _ _ l r, b :: p => if b = 0 then l.val p else r.val p
def list : T → List UInt8 → Nat → List Tr
  | nil, _, _ => []
  | nd is o a b, l, d => (if is = true then [(l, d, o)] else []) ++ (a.list l (d + 1) ++ b.list (sb l d) (d + 1))
/-- No deeper than this. -/
def dok : T → Nat → Prop
  | nil, _ => True
  | nd _ _ a b, 0 => a = nil ∧ b = nil
  | nd _ _ a b, n + 1 => a.dok n ∧ b.dok n
theorem mem_list : ∀ (t : T) (l : List UInt8) (d : Nat) (x : Tr), x ∈ t.list l d ↔ ∃ p, (∀ b ∈ p, b < 2) ∧ t.val p = some x.2.2 ∧ x.1 = adrG l d p ∧ x.2.1 = d + p.length
  | nil, l, d, x => by simp [list, val]
  | nd is o a b, l, d, x => by
    unfold list
    rw [List.mem_append, List.mem_append, mem_list a, mem_list b]
    constructor
    · rintro (h | ⟨p, h1, h2, h3, h4⟩ | ⟨p, h1, h2, h3, h4⟩)
      · cases is with
        | false => simp at h
        | true => simp at h; subst h; exact ⟨[], by simp, by simp [val], rfl, by simp⟩
      · exact ⟨0 :: p, fun c hc => by rcases List.mem_cons.1 hc with rfl | hc; omega; exact h1 c hc, by simp [val, h2], by simpa [adrG] using h3, by simp [h4]; omega⟩
      · exact ⟨1 :: p, fun c hc => by rcases List.mem_cons.1 hc with rfl | hc; omega; exact h1 c hc, by simp [val, h2], by simpa [adrG] using h3, by simp [h4]; omega⟩
    · rintro ⟨p, h1, h2, h3, h4⟩
      cases p with
      | nil =>
        left
        obtain ⟨x1, x2, x3⟩ := x
        simp [val] at h2
        simp [adrG] at h3 h4
        simp [h2, h3, h4]
      | cons c p =>
        right
        have hc := h1 c (List.mem_cons_self ..)
        have h1' : ∀ b ∈ p, b < 2 := fun b hb => h1 b (List.mem_cons_of_mem _ hb)
        unfold adrG at h3
        rw [List.length_cons] at h4
        by_cases h0 : c = 0
        · subst h0; left
          exact ⟨p, h1', by simpa [val] using h2, by simpa using h3, by omega⟩
        · have : c = 1 := by omega
          subst this; right
          exact ⟨p, h1', by simpa [val] using h2, by simpa using h3, by omega⟩
theorem val_len : ∀ (t : T) (n : Nat) (p : List Nat) (o : Int), t.dok n → t.val p = some o → p.length ≤ n
  | nil, _, _, _, _, h => by simp [val] at h
  | nd .., _, [], _, _, _ => by simp
  | nd is o a b, 0, c :: p, o', hd, h => by
    obtain ⟨rfl, rfl⟩ := hd
    simp [val] at h
  | nd is o a b, n + 1, c :: p, o', hd, h => by
    unfold val at h
    rw [List.length_cons]
    split at h
    · have := val_len a n p o' hd.1 h; omega
    · have := val_len b n p o' hd.2 h; omega
theorem sorted : ∀ (t : T) (n : Nat) (l : List UInt8) (d : Nat), t.dok n → d + n ≤ 128 → l.length = 16 → (∀ i, d ≤ i → bit l i = 0) → (t.list l d).Pairwise (fun x y => lessE x y = true)
  | nil, _, _, _, _, _, _, _ => by simp [list]
  | nd is o a b, n, l, d, hd, hn, hl, h0 => by
    cases n with
    | zero =>
      obtain ⟨rfl, rfl⟩ := hd
      cases is <;> simp [list]
    | succ n =>
      have h0' : ∀ i, d + 1 ≤ i → bit (sb l d) i = 0 := fun i hi => by rw [bit_sb hl (by omega), if_neg (by omega)]; exact h0 i (by omega)
      have ia := sorted a n l (d + 1) hd.1 (by omega) hl fun i hi => h0 i (by omega)
      have ib := sorted b n (sb l d) (d + 1) hd.2 (by omega) (by rw [sb_len, hl]) h0'
      have fa : ∀ y ∈ a.list l (d + 1), y.1.length = 16 ∧ d < y.2.1 ∧ (∀ i, i < d + 1 → bit y.1 i = bit l i) ∧ ∀ i, bit l i ≤ bit y.1 i := fun y hy => by
        obtain ⟨p, h1, h2, h3, h4⟩ := (mem_list a l (d + 1) y).1 hy
        have hpl := val_len a n p _ hd.1 h2
        have e := bit_adrG p l (d + 1) hl (by omega) h1 fun i hi => h0 i (by omega)
        rw [h3]
        refine ⟨by rw [adrG_len, hl], by omega, fun i hi => by rw [e i, if_pos hi], fun i => ?_⟩
        rw [e i]
        split
        · exact Nat.le_refl _
        · rw [h0 i (by omega)]; exact Nat.zero_le _
      have fb : ∀ y ∈ b.list (sb l d) (d + 1), y.1.length = 16 ∧ d < y.2.1 ∧ (∀ i, i < d → bit y.1 i = bit l i) ∧ bit y.1 d = 1 ∧ ∀ i, bit l i ≤ bit y.1 i := fun y hy => by
        obtain ⟨p, h1, h2, h3, h4⟩ := (mem_list b (sb l d) (d + 1) y).1 hy
        have hpl := val_len b n p _ hd.2 h2
        have e := bit_adrG p (sb l d) (d + 1) (by rw [sb_len, hl]) (by omega) h1 h0'
        have es := bit_sb hl (d := d) (by omega)
        rw [h3]
        refine ⟨by rw [adrG_len, sb_len, hl], by omega, fun i hi => by rw [e i, if_pos (by omega), es, if_neg (by omega)], by rw [e d, if_pos (by omega), es, if_pos rfl], fun i => ?_⟩
        rw [e i]
        split
        · rw [es]
          split
          · have := bit_lt l i; omega
          · exact Nat.le_refl _
        · rw [h0 i (by omega)]; exact Nat.zero_le _
      have own : ∀ (y : Tr) (o : Int), y.1.length = 16 → d < y.2.1 → (∀ i, bit l i ≤ bit y.1 i) → lessE (l, d, o) y = true := fun y o hy hd hb => by
        unfold lessE
        split
        · simpa using hd
        · next hne => exact (le_bits hl hy fun i _ => hb i).resolve_left hne
      unfold list
      rw [List.pairwise_append, List.pairwise_append]
      refine ⟨by cases is <;> simp, ⟨ia, ib, fun x hx y hy => ?_⟩, fun x hx y hy => ?_⟩
      · obtain ⟨a1, a2, a3, a4⟩ := fa x hx
        obtain ⟨b1, b2, b3, b4, b5⟩ := fb y hy
        have : lessL x.1 y.1 = true := less_bits a1 b1 (d := d) (by omega) (fun i hi => by rw [a3 i (by omega), b3 i hi]) (by rw [a3 d (by omega)]; exact h0 d (Nat.le_refl _)) b4
        unfold lessE
        rw [if_neg (by intro e; rw [e, lessL_irr] at this; cases this)]
        exact this
      · cases is with
        | false => simp at hx
        | true =>
          simp at hx
          subst hx
          rcases List.mem_append.1 hy with hy | hy
          · obtain ⟨a1, a2, a3, a4⟩ := fa y hy; exact own y o a1 a2 a4
          · obtain ⟨b1, b2, b3, b4, b5⟩ := fb y hy; exact own y o b1 b2 b5
/-- The places along a path are there. -/
def ext : T → List Nat → T
  | nil, [] => nd false 0 nil nil
  | nil, b :: p => if b = 0 then nd false 0 (ext nil p) nil else nd false 0 nil (ext nil p)
  | nd is o l r, [] => nd is o l r
  | nd is o l r, b :: p => if b = 0 then nd is o (l.ext p) r else nd is o l (r.ext p)
/-- What stands at a path is another. -/
def put : T → List Nat → Bool → Int → T
  | nil, _, _, _ => nil
  | nd _ _ l r, [], is, o => nd is o l r
  | nd i q l r, b :: p, is, o => if b = 0 then nd i q (l.put p is o) r else nd i q l (r.put p is o)
/-- Is there a place at the path's end? -/
def has : T → List Nat → Bool
  | nil, _ => false
  | nd .., [] => true
  | nd _ _ l r, b :: p => if b = 0 then l.has p else r.has p
theorem val_ext_nil : ∀ (p q : List Nat), (ext nil p).val q = none
  | [], [] => by simp [ext, val]
  | [], c :: q => by simp [ext, val]
  | b :: p, [] => by unfold ext; split <;> simp [val]
  | b :: p, c :: q => by
    unfold ext
    split <;> simp only [val] <;> split <;> first | exact val_ext_nil p q | rfl
theorem val_ext : ∀ (t : T) (p q : List Nat), (t.ext p).val q = t.val q
  | nil, p, q => by rw [val_ext_nil]; rfl
  | nd .., [], _ => rfl
  | nd is o l r, b :: p, [] => by unfold ext; split <;> rfl
  | nd is o l r, b :: p, c :: q => by
    unfold ext
    split <;> simp only [val, val_ext l p q, val_ext r p q]
theorem has_ext_nil : ∀ (p : List Nat), (ext nil p).has p = true
  | [] => rfl
  | b :: p => by
    unfold ext
    split
    · next h => simp [has, h, has_ext_nil p]
    · next h => simp [has, h, has_ext_nil p]
theorem has_ext : ∀ (t : T) (p : List Nat), (t.ext p).has p = true
  | nil, p => has_ext_nil p
  | nd .., [] => rfl
  | nd is o l r, b :: p => by
    unfold ext
    split
    · next h => simp [has, h, has_ext l p]
    · next h => simp [has, h, has_ext r p]
theorem val_put : ∀ (t : T) (p : List Nat) (is : Bool) (o : Int) (q : List Nat), (∀ b ∈ p, b < 2) → (∀ b ∈ q, b < 2) → t.has p = true → (t.put p is o).val q = if q = p then (if is = true then some o else none) else t.val q
  | nil, p, is, o, q, _, _, h => by simp [has] at h
  | nd i u l r, [], is, o, [], _, _, _ => by simp [put, val]
  | nd i u l r, [], is, o, c :: q, _, _, _ => by simp [put, val]
  | nd i u l r, b :: p, is, o, [], _, _, _ => by
    unfold put
    split <;> simp [val]
  | nd i u l r, b :: p, is, o, c :: q, hp, hq, h => by
    have hb := hp b (List.mem_cons_self ..)
    have hc := hq c (List.mem_cons_self ..)
    have hp' : ∀ b ∈ p, b < 2 := fun b hb => hp b (List.mem_cons_of_mem _ hb)
    have hq' : ∀ b ∈ q, b < 2 := fun b hb => hq b (List.mem_cons_of_mem _ hb)
    unfold put
    unfold has at h
    by_cases h0 : b = 0
    · rw [if_pos h0] at h ⊢
      unfold val
      by_cases h1 : c = 0
      · rw [if_pos h1, val_put l p is o q hp' hq' h, if_pos h1]
        simp [h0, h1]
      · rw [if_neg h1, if_neg h1]
        rw [if_neg (by rw [List.cons.injEq]; omega)]
    · rw [if_neg h0] at h ⊢
      unfold val
      by_cases h1 : c = 0
      · rw [if_pos h1, if_pos h1]
        rw [if_neg (by rw [List.cons.injEq]; omega)]
      · rw [if_neg h1, val_put r p is o q hp' hq' h, if_neg h1]
        have : c = b := by omega
        simp [this]
theorem dok_nil (n : Nat) : nil.dok n := by cases n <;> trivial
theorem dok_ext : ∀ (t : T) (n : Nat) (p : List Nat), t.dok n → p.length ≤ n → (t.ext p).dok n
  | nil, n, [], _, _ => by cases n <;> simp [ext, dok]
  | nil, 0, b :: p, _, h => by simp at h
  | nil, n + 1, b :: p, _, h => by
    have := dok_ext nil n p (dok_nil n) (by simpa using h)
    unfold ext
    split <;> simp [dok, this, dok_nil]
  | nd is o l r, n, [], h, _ => h
  | nd is o l r, 0, b :: p, _, h => by simp at h
  | nd is o l r, n + 1, b :: p, hd, h => by
    have h1 := dok_ext l n p hd.1 (by simpa using h)
    have h2 := dok_ext r n p hd.2 (by simpa using h)
    unfold ext
    split
    · exact ⟨h1, hd.2⟩
    · exact ⟨hd.1, h2⟩
theorem put_nil : ∀ (t : T) (p : List Nat) (is : Bool) (o : Int), t.put p is o = nil ↔ t = nil
  | nil, _, _, _ => by simp [put]
  | nd .., [], _, _ => by simp [put]
  | nd .., b :: p, _, _ => by unfold put; split <;> simp
theorem dok_put : ∀ (t : T) (n : Nat) (p : List Nat) (is : Bool) (o : Int), t.dok n → (t.put p is o).dok n
  | nil, n, p, is, o, h => h
  | nd i u l r, 0, [], is, o, h => h
  | nd i u l r, n + 1, [], is, o, h => h
  | nd i u l r, 0, b :: p, is, o, h => by
    unfold put
    split
    · exact ⟨(put_nil ..).2 h.1, h.2⟩
    · exact ⟨h.1, (put_nil ..).2 h.2⟩
  | nd i u l r, n + 1, b :: p, is, o, h => by
    unfold put
    split
    · exact ⟨dok_put l n p is o h.1, h.2⟩
    · exact ⟨h.1, dok_put r n p is o h.2⟩
end T
end Go.Proofs.Ythccncpephpdjaa.Tri
namespace Go.Proofs.Ythccncpephpdjaa.Tri
open E Go.RowKit
open Adr Cid
abbrev Nx := Vector (Option Nat) 2
def Rep (h : List HV) : T → Option Nat → List Nat → Prop
  | .nil, x, fp => x = none ∧ fp = []
  | .nd is o l r, x, fp => ∃ i nx f1 f2, x = some i ∧ h[i]? = some (.trie_node ⟨nx, is, o⟩) ∧ Rep h l (vget nx 0) f1 ∧ Rep h r (vget nx 1) f2 ∧ fp = i :: (f1 ++ f2) ∧ (i :: (f1 ++ f2)).Nodup
theorem Rep.frame {h h' : List HV} : ∀ {t : T} {x : Option Nat} {fp : List Nat}, Rep h t x fp → (∀ i ∈ fp, h'[i]? = h[i]?) → Rep h' t x fp
  | .nil, _, _, hr, _ => hr
  | .nd is o l r, x, fp, ⟨i, nx, f1, f2, hx, hi, hl, hr, hf, hn⟩, he => by
    subst hf
    refine ⟨i, nx, f1, f2, hx, (he i (List.mem_cons_self ..)).trans hi, hl.frame fun j hj => he j ?_, hr.frame fun j hj => he j ?_, rfl, hn⟩ <;> simp [hj]
theorem Rep.lt {h : List HV} : ∀ {t : T} {x : Option Nat} {fp : List Nat}, Rep h t x fp → ∀ i ∈ fp, i < h.length
  | .nil, _, _, ⟨_, hf⟩, i, hi => by subst hf; simp at hi
  | .nd is o l r, x, fp, ⟨i, nx, f1, f2, hx, hi, hl, hr, hf, hn⟩, j, hj => by
    subst hf
    rcases List.mem_cons.1 hj with rfl | hj
    · exact (List.getElem?_eq_some_iff.1 hi).1
    · rcases List.mem_append.1 hj with hj | hj
      · exact hl.lt j hj
      · exact hr.lt j hj
theorem Rep.nodup {h : List HV} : ∀ {t : T} {x : Option Nat} {fp : List Nat}, Rep h t x fp → fp.Nodup
  | .nil, _, _, ⟨_, hf⟩ => by subst hf; simp
  | .nd is o l r, x, fp, ⟨i, nx, f1, f2, hx, hi, hl, hr, hf, hn⟩ => by subst hf; exact hn
theorem Rep.none_iff {h : List HV} : ∀ {t : T} {x : Option Nat} {fp : List Nat}, Rep h t x fp → (x = none ↔ t = .nil)
  | .nil, _, _, ⟨hx, _⟩ => by simp [hx]
  | .nd is o l r, x, fp, ⟨i, nx, f1, f2, hx, _⟩ => by simp [hx]
theorem rep_nd {h : List HV} {is : Bool} {o : Int} {l r : T} {n : Nat} {nx : Nx} {f1 f2 : List Nat} (hi : h[n]? = some (.trie_node ⟨nx, is, o⟩)) (hl : Rep h l (vget nx 0) f1) (hr : Rep h r (vget nx 1) f2) (hn1 : n ∉ f1) (hn2 : n ∉ f2) (hd : ∀ a ∈ f1, ∀ b ∈ f2, a ≠ b) : Rep h (.nd is o l r) (some n) (n :: (f1 ++ f2)) :=
  ⟨n, nx, f1, f2, rfl, hi, hl, hr, rfl, by rw [List.nodup_cons, List.nodup_append]; exact ⟨by simp [hn1, hn2], hl.nodup, hr.nodup, hd⟩⟩
theorem rep_un {h : List HV} {is : Bool} {o : Int} {l r : T} {n : Nat} {fp : List Nat} (hr : Rep h (.nd is o l r) (some n) fp) : ∃ (nx : Nx) (f1 f2 : List Nat), h[n]? = some (.trie_node ⟨nx, is, o⟩) ∧ Rep h l (vget nx 0) f1 ∧ Rep h r (vget nx 1) f2 ∧ fp = n :: (f1 ++ f2) ∧ n ∉ f1 ∧ n ∉ f2 ∧ ∀ a ∈ f1, ∀ b ∈ f2, a ≠ b := by
  obtain ⟨i, nx, f1, f2, hx, hi, hl, hr, hf, hn⟩ := hr
  cases hx
  rw [List.nodup_cons, List.nodup_append] at hn
  exact ⟨nx, f1, f2, hi, hl, hr, hf, fun e => hn.1 (List.mem_append_left _ e), fun e => hn.1 (List.mem_append_right _ e), hn.2.2.2⟩
/-- From here along this path one comes there. -/
def Loc (h : List HV) : Option Nat → List Nat → Nat → Prop
  | x, [], n => x = some n
  | x, b :: p, n => ∃ i nd, x = some i ∧ h[i]? = some (.trie_node nd) ∧ Loc h (vget nd.f_next (b : Int)) p n
theorem vget2 (v : Nx) (i : Nat) (x : Option Nat) (hi : i < 2) : vget (vset v (i : Int) x) (i : Int) = x := by
  unfold vget
  rw [vset_toList, List.getD_eq_getElem?_getD, Int.toNat_natCast, List.getElem?_set_self (by simp; omega)]; rfl
theorem vget2' (v : Nx) (i j : Nat) (x : Option Nat) (hij : i ≠ j) : vget (vset v (i : Int) x) (j : Int) = vget v (j : Int) := by
  unfold vget
  rw [vset_toList, List.getD_eq_getElem?_getD, Int.toNat_natCast, Int.toNat_natCast, List.getElem?_set_ne hij, ← List.getD_eq_getElem?_getD]
/-- A place in a tree, and what it is when another thing stands there. -/
theorem rep_loc {h : List HV} : ∀ {t : T} {x : Option Nat} {fp : List Nat} {p : List Nat} {n : Nat}, Rep h t x fp → (∀ b ∈ p, b < 2) → Loc h x p n →
    t.has p = true ∧ n ∈ fp ∧ ∃ nd, h[n]? = some (.trie_node nd) ∧ t.val p = (if nd.f_is = true then some nd.f_owner else none) ∧
      ∀ is o, Rep (h.set n (.trie_node { nd with f_is := is, f_owner := o })) (t.put p is o) x fp
  | .nil, x, fp, [], n, ⟨hx, _⟩, _, hL => by subst hx; cases hL
  | .nil, x, fp, b :: p, n, ⟨hx, _⟩, _, ⟨i, nd, hL, _⟩ => by subst hx; cases hL
  | .nd is o l r, x, fp, [], n, hR, _, hL => by
    cases hL
    obtain ⟨nx, f1, f2, hi, hl, hr, hf, n1, n2, hd⟩ := rep_un hR
    subst hf
    have hn : n < h.length := (List.getElem?_eq_some_iff.1 hi).1
    refine ⟨rfl, List.mem_cons_self .., _, hi, rfl, fun is' o' => ?_⟩
    refine rep_nd (nx := nx) (List.getElem?_set_self hn) (hl.frame fun j hj => ?_) (hr.frame fun j hj => ?_) n1 n2 hd
    · exact List.getElem?_set_ne (by intro e; subst e; exact n1 hj)
    · exact List.getElem?_set_ne (by intro e; subst e; exact n2 hj)
  | .nd is o l r, x, fp, b :: p, n, hR, hb, ⟨i, nd, hx, hi', hL⟩ => by
    subst hx
    obtain ⟨nx, f1, f2, hi, hl, hr, hf, n1, n2, hd⟩ := rep_un hR
    subst hf
    rw [hi] at hi'
    cases hi'
    have hb0 := hb b (List.mem_cons_self ..)
    have hb' : ∀ b ∈ p, b < 2 := fun c hc => hb c (List.mem_cons_of_mem _ hc)
    have hil : i < h.length := (List.getElem?_eq_some_iff.1 hi).1
    by_cases h0 : b = 0
    · subst h0
      obtain ⟨h1, h2, nd, h3, h4, h5⟩ := rep_loc hl hb' hL
      refine ⟨by simpa [T.has] using h1, by simp [h2], nd, h3, by simpa [T.val] using h4, fun is' o' => ?_⟩
      have hin : n ≠ i := by intro e; subst e; exact n1 h2
      simp only [T.put, if_pos]
      exact rep_nd ((List.getElem?_set_ne hin).trans hi) (h5 is' o') (hr.frame fun j hj => List.getElem?_set_ne (by intro e; subst e; exact hd _ h2 _ hj rfl)) n1 n2 hd
    · have : b = 1 := by omega
      subst this
      obtain ⟨h1, h2, nd, h3, h4, h5⟩ := rep_loc hr hb' hL
      refine ⟨by simpa [T.has] using h1, by simp [h2], nd, h3, by simpa [T.val] using h4, fun is' o' => ?_⟩
      have hin : n ≠ i := by intro e; subst e; exact n2 h2
      simp only [T.put, if_neg h0]
      exact rep_nd ((List.getElem?_set_ne hin).trans hi) (hl.frame fun j hj => List.getElem?_set_ne (by intro e; subst e; exact hd _ hj _ h2 rfl)) (h5 is' o') n1 n2 hd
def bf (l : List UInt8) : Nat → Nat → List Nat
  | _, 0 => []
  | d, k + 1 => bit l d :: bf l (d + 1) k
theorem bf_lt (l : List UInt8) : ∀ (k d : Nat), ∀ b ∈ bf l d k, b < 2
  | 0, d, b, h => by simp [bf] at h
  | k + 1, d, b, h => by
    rcases List.mem_cons.1 h with rfl | h
    · exact bit_lt l d
    · exact bf_lt l k (d + 1) b h
theorem bf_len (l : List UInt8) : ∀ (k d : Nat), (bf l d k).length = k
  | 0, _ => rfl
  | k + 1, d => by simp [bf, bf_len l k (d + 1)]
theorem bf_get (l : List UInt8) : ∀ (k d i : Nat), i < k → (bf l d k).getD i 0 = bit l (d + i)
  | 0, _, _, h => by omega
  | k + 1, d, 0, _ => rfl
  | k + 1, d, i + 1, h => by
    show (bf l (d + 1) k).getD i 0 = _
    rw [bf_get l k (d + 1) i (by omega)]; congr 1; omega
def zn : S_trie_node := { f_next := (Vector.replicate 2 (none : Option Nat) : (Vector (Option Nat) 2)), f_is := false, f_owner := (0 : Int) }
theorem hvp_zn (h : List HV) : hvp hK h (.trie_node zn) = true := rfl
structure Grow (h h' : List HV) (fp fp' : List Nat) : Prop where
  len : h.length ≤ h'.length
  old : ∀ j, j < h.length → j ∉ fp → h'[j]? = h[j]?
  new : ∀ j ∈ fp', j ∈ fp ∨ h.length ≤ j
theorem ext_zn : ∀ (p : List Nat), T.ext .nil p = T.ext (.nd false 0 .nil .nil) p
  | [] => rfl
  | _ :: _ => rfl
theorem wr1 {d : Nat} (h : d ≤ 1000) : wr .i64 ((d : Int) + 1) = ((d + 1 : Nat) : Int) := by rw [wr_i64 (by omega) (by omega)]; rfl
theorem put_loop {V : Int} {l : List UInt8} (hl : l.length = 16) (hr : rightL V l = true) (b : Nat) (hb : b ≤ widthL V l) (tk : Nat) : ∀ (k d n : Nat) (t : T) (h : List HV) (fp : List Nat), d + k = b → tk < h.length → Rep h t (some n) fp →
    ∃ n' h' fp', trie_Trie_Put.l0 (some tk) (mkP (mkA V l) (b : Int)) (some n) (d : Int) h = some (some n', h') ∧ Rep h' (t.ext (bf l d k)) (some n) fp' ∧ Loc h' (some n) (bf l d k) n' ∧ Grow h h' fp fp'
  | 0, d, n, t, h, fp, hd, htk, hR => by
    refine ⟨n, h, fp, ?_, ?_, rfl, Nat.le_refl _, fun _ _ _ => rfl, fun _ hj => .inl hj⟩
    · rw [trie_Trie_Put.l0.eq_def, if_neg (by rw [decide_eq_true_eq]; show ¬ (d : Int) < (b : Int); omega)]
    · cases t with
      | nil => cases hR.1
      | nd => exact hR
  | k + 1, d, n, t, h, fp, hd, htk, hR => by
    have hw := width_le (V := V) (l := l)
    cases t with
    | nil => cases hR.1
    | nd is o tl tr =>
    obtain ⟨nx, f1, f2, hi, hL, hRr, hf, n1, n2, hdj⟩ := rep_un hR
    subst hf
    have hnl : n < h.length := (List.getElem?_eq_some_iff.1 hi).1
    have hc2 := bit_lt l d
    have hbit : addr_Bit (mkA V l) (d : Int) = some ((bit l d : Nat) : Int) := by
      rw [bit_code hl (by omega), if_pos (by omega), Int.toNat_natCast]
    have hg2 : (0 : Int) ≤ ((bit l d : Nat) : Int) ∧ ((bit l d : Nat) : Int) < 2 := by omega
    rw [trie_Trie_Put.l0.eq_def, if_pos (by rw [decide_eq_true_eq]; show (d : Int) < (b : Int); omega)]
    simp only [mkP, hbit, bindM_some, hn_trie_node_of hi, if_pos hg2]
    rw [wr1 (by omega)]
    have wdl := (hL.none_iff).1
    have wdr := (hRr.none_iff).1
    generalize hc : bit l d = c at *
    have ebf : bf l d (k + 1) = c :: bf l (d + 1) k := by simp [bf, hc]
    rw [ebf]
    by_cases hv : vget nx (c : Int) = none
    · -- a new place
      rw [if_pos (by rw [hv]; rfl), if_pos (by simp [vp, htk]), if_pos (by simp [vp, hnl]), if_pos (by simp [vp, hnl])]
      show ∃ n' h' fp', (if hvp hK h (.trie_node zn) = true then _ else none) = _ ∧ _
      rw [if_pos (hvp_zn h)]
      have hi1 : (h ++ [HV.trie_node zn])[n]? = some (.trie_node ⟨nx, is, o⟩) := by rw [List.getElem?_append_left hnl]; exact hi
      have e1 := hn_trie_node_of hi1
      unfold zn at e1
      simp only [e1, bindM_some, if_pos hg2]
      rw [if_pos (by simp [vp])]
      let h2 := (h ++ [HV.trie_node zn]).set n (.trie_node ⟨vset nx (c : Int) (some h.length), is, o⟩)
      have hi2 : h2[n]? = some (.trie_node ⟨vset nx (c : Int) (some h.length), is, o⟩) := by
        simp only [h2]; rw [List.getElem?_set_self (by simp; omega)]
      have e2 := hn_trie_node_of hi2
      simp only [h2] at e2
      unfold zn at e2
      simp only [e2, bindM_some, vget2 nx c _ hc2, if_pos hg2]
      have hl2 : h2.length = h.length + 1 := by simp [h2]
      have hm2 : h2[h.length]? = some (.trie_node zn) := by
        simp only [h2]; rw [List.getElem?_set_ne (by omega)]; simp
      have old2 : ∀ j, j < h.length → j ≠ n → h2[j]? = h[j]? := fun j hj hjn => by
        simp only [h2]; rw [List.getElem?_set_ne (by omega), List.getElem?_append_left hj]
      have hRm : Rep h2 (.nd false 0 .nil .nil) (some h.length) [h.length] := rep_nd (nx := zn.f_next) (f1 := []) (f2 := []) hm2 ⟨rfl, rfl⟩ ⟨rfl, rfl⟩ (by simp) (by simp) (by simp)
      obtain ⟨n', h', fp', c1, c2, c3, c4⟩ := put_loop hl hr b hb tk k (d + 1) h.length _ h2 _ (by omega) (by omega) hRm
      rw [← ext_zn] at c2
      have hn' : h'[n]? = some (.trie_node ⟨vset nx (c : Int) (some h.length), is, o⟩) := (c4.old n (by omega) (by simp; omega)).trans hi2
      have keep : ∀ j, j < h.length → j ≠ n → h'[j]? = h[j]? := fun j hj hjn => (c4.old j (by omega) (by simp; omega)).trans (old2 j hj hjn)
      have big : ∀ j ∈ fp', h.length ≤ j := fun j hj => by
        rcases c4.new j hj with e | e
        · simp at e; omega
        · omega
      have fr1 : ∀ j ∈ f1, h'[j]? = h[j]? := fun j hj => keep j (hL.lt j hj) (by intro e; subst e; exact n1 hj)
      have fr2 : ∀ j ∈ f2, h'[j]? = h[j]? := fun j hj => keep j (hRr.lt j hj) (by intro e; subst e; exact n2 hj)
      refine ⟨n', h', if c = 0 then n :: (fp' ++ f2) else n :: (f1 ++ fp'), c1, ?_, ⟨n, _, rfl, hn', by rw [vget2 nx c _ hc2]; exact c3⟩, by have := c4.len; omega, fun j hj hjf => keep j hj (by intro e; subst e; simp at hjf), fun j hj => ?_⟩
      · by_cases h0 : c = 0
        · subst h0
          have e0 : tl = .nil := wdl hv
          subst e0
          simp only [T.ext, if_pos]
          refine rep_nd hn' (by have := vget2 nx 0 (some h.length) (by omega); rw [show ((0 : Nat) : Int) = 0 from rfl] at this ⊢; rw [this]; exact c2) (by have := vget2' nx 0 1 (some h.length) (by omega); rw [show ((0 : Nat) : Int) = 0 from rfl, show ((1 : Nat) : Int) = 1 from rfl] at this; rw [show ((0 : Nat) : Int) = 0 from rfl, this]; exact hRr.frame fr2) (fun e => by have := big n e; omega) n2 (fun a ha c hc => by have := big a ha; have := hRr.lt c hc; omega)
        · have e1 : c = 1 := by omega
          subst e1
          have e0 : tr = .nil := wdr hv
          subst e0
          simp only [T.ext, if_neg h0]
          refine rep_nd hn' (by have := vget2' nx 1 0 (some h.length) (by omega); rw [show ((0 : Nat) : Int) = 0 from rfl, show ((1 : Nat) : Int) = 1 from rfl] at this; rw [show ((1 : Nat) : Int) = 1 from rfl, this]; exact hL.frame fr1) (by have := vget2 nx 1 (some h.length) (by omega); rw [show ((1 : Nat) : Int) = 1 from rfl] at this ⊢; rw [this]; exact c2) n1 (fun e => by have := big n e; omega) (fun a ha c hc => by have := big c hc; have := hL.lt a ha; omega)
      · split at hj <;> simp at hj ⊢
        · rcases hj with hj | hj | hj
          · exact .inl (.inl hj)
          · exact .inr (big j hj)
          · exact .inl (.inr (.inr hj))
        · rcases hj with hj | hj | hj
          · exact .inl (.inl hj)
          · exact .inl (.inr (.inl hj))
          · exact .inr (big j hj)
    · rw [if_neg (by intro e; exact hv (Option.isNone_iff_eq_none.1 e))]
      obtain ⟨m, hm⟩ := Option.ne_none_iff_exists'.1 hv
      rw [hm]
      by_cases h0 : c = 0
      · subst h0
        simp at hm
        rw [hm] at hL
        obtain ⟨n', h', fp', c1, c2, c3, c4⟩ := put_loop hl hr b hb tk k (d + 1) m tl h f1 (by omega) htk hL
        have hn' : h'[n]? = some (.trie_node ⟨nx, is, o⟩) := (c4.old n hnl n1).trans hi
        have fr2 : ∀ j ∈ f2, h'[j]? = h[j]? := fun j hj => c4.old j (hRr.lt j hj) fun e => hdj j e j hj rfl
        have ap : ∀ j ∈ fp', j ∈ f1 ∨ h.length ≤ j := c4.new
        refine ⟨n', h', n :: (fp' ++ f2), c1, ?_, ⟨n, _, rfl, hn', by simpa [hm] using c3⟩, c4.len, fun j hj hjf => c4.old j hj (by simp at hjf; exact hjf.2.1), fun j hj => ?_⟩
        · simp only [T.ext, if_pos]
          refine rep_nd hn' (by rw [hm]; exact c2) (hRr.frame fr2) (fun e => ?_) n2 (fun a ha c hc e => ?_)
          · rcases ap n e with e | e
            · exact n1 e
            · omega
          · subst e
            rcases ap a ha with e | e
            · exact hdj a e a hc rfl
            · have := hRr.lt a hc; omega
        · simp at hj ⊢
          rcases hj with hj | hj | hj
          · exact .inl (.inl hj)
          · exact (ap j hj).imp (fun e => .inr (.inl e)) id
          · exact .inl (.inr (.inr hj))
      · have e1 : c = 1 := by omega
        subst e1
        simp at hm
        rw [hm] at hRr
        obtain ⟨n', h', fp', c1, c2, c3, c4⟩ := put_loop hl hr b hb tk k (d + 1) m tr h f2 (by omega) htk hRr
        have hn' : h'[n]? = some (.trie_node ⟨nx, is, o⟩) := (c4.old n hnl n2).trans hi
        have fr1 : ∀ j ∈ f1, h'[j]? = h[j]? := fun j hj => c4.old j (hL.lt j hj) fun e => hdj j hj j e rfl
        have ap : ∀ j ∈ fp', j ∈ f2 ∨ h.length ≤ j := c4.new
        refine ⟨n', h', n :: (f1 ++ fp'), c1, ?_, ⟨n, _, rfl, hn', by simpa [hm] using c3⟩, c4.len, fun j hj hjf => c4.old j hj (by simp at hjf; exact hjf.2.2), fun j hj => ?_⟩
        · simp only [T.ext, if_neg h0]
          refine rep_nd hn' (hL.frame fr1) (by rw [hm]; exact c2) n1 (fun e => ?_) (fun a ha c hc e => ?_)
          · rcases ap n e with e | e
            · exact n2 e
            · omega
          · subst e
            rcases ap a hc with e | e
            · exact hdj a ha a e rfl
            · have := hL.lt a ha; omega
        · simp at hj ⊢
          rcases hj with hj | hj | hj
          · exact .inl (.inl hj)
          · exact .inl (.inr (.inl hj))
          · exact (ap j hj).imp (fun e => .inr (.inr e)) id
/-- Where a prefix lies, if it does. -/
theorem at_loop {V : Int} {l : List UInt8} (hl : l.length = 16) (b : Nat) (hb : b ≤ widthL V l) (h : List HV) : ∀ (k d : Nat) (t : T) (x : Option Nat) (fp : List Nat), d + k = b → Rep h t x fp →
    ∃ y, trie_Trie_at.l0 h (mkP (mkA V l) (b : Int)) x (d : Int) = some y ∧ (y = none → t.has (bf l d k) = false) ∧ ∀ n, y = some n → Loc h x (bf l d k) n
  | 0, d, t, x, fp, hd, hR => by
    refine ⟨x, ?_, fun e => ?_, fun n e => e⟩
    · rw [trie_Trie_at.l0.eq_def, if_neg (by rw [decide_eq_true_eq]; show ¬ (d : Int) < (b : Int); omega)]
    · rw [hR.none_iff.1 e]; rfl
  | k + 1, d, t, x, fp, hd, hR => by
    have hw := width_le (V := V) (l := l)
    rw [trie_Trie_at.l0.eq_def, if_pos (by rw [decide_eq_true_eq]; show (d : Int) < (b : Int); omega)]
    cases t with
    | nil =>
      obtain ⟨hx, _⟩ := hR
      subst hx
      exact ⟨none, rfl, fun _ => rfl, fun n e => by cases e⟩
    | nd is o tl tr =>
    obtain ⟨n, hx⟩ : ∃ n, x = some n := by obtain ⟨i, _, _, _, hx, _⟩ := hR; exact ⟨i, hx⟩
    subst hx
    obtain ⟨nx, f1, f2, hi, hL, hRr, hf, n1, n2, hdj⟩ := rep_un hR
    have hc2 := bit_lt l d
    have hbit : addr_Bit (mkA V l) (d : Int) = some ((bit l d : Nat) : Int) := by
      rw [bit_code hl (by omega), if_pos (by omega), Int.toNat_natCast]
    have hg2 : (0 : Int) ≤ ((bit l d : Nat) : Int) ∧ ((bit l d : Nat) : Int) < 2 := by omega
    rw [if_pos (show (!(Option.isNone (some n))) = true from rfl)]
    simp only [mkP, hbit, bindM_some, hn_trie_node_of hi, if_pos hg2]
    rw [wr1 (by omega)]
    generalize hc : bit l d = c at *
    have ebf : bf l d (k + 1) = c :: bf l (d + 1) k := by simp [bf, hc]
    rw [ebf]
    by_cases h0 : c = 0
    · subst h0
      obtain ⟨y, q1, q2, q3⟩ := at_loop hl b hb h k (d + 1) tl _ f1 (by omega) hL
      exact ⟨y, q1, fun e => by simpa [T.has] using q2 e, fun m e => ⟨n, _, rfl, hi, q3 m e⟩⟩
    · have e1 : c = 1 := by omega
      subst e1
      obtain ⟨y, q1, q2, q3⟩ := at_loop hl b hb h k (d + 1) tr _ f2 (by omega) hRr
      exact ⟨y, q1, fun e => by simpa [T.has] using q2 e, fun m e => ⟨n, _, rfl, hi, q3 m e⟩⟩
end Go.Proofs.Ythccncpephpdjaa.Tri
namespace Go.Proofs.Ythccncpephpdjaa.Tri
open E Go.RowKit
open Adr Cid
theorem T.list_nd (is : Bool) (o : Int) (a b : T) (l : List UInt8) (d : Nat) : (T.nd is o a b).list l d = (if is = true then [(l, d, o)] else []) ++ (a.list l (d + 1) ++ b.list (sb l d) (d + 1)) := rfl
def toE (F : Int) (x : Tr) : S_api_Entry := { f_P := mkP (mkA F x.1) (x.2.1 : Int), f_Owner := x.2.2 }
theorem ior_fin : ∀ (b : Fin 256) (k : Fin 8), ior .u8 ((b.val : Nat) : Int) ((128 / 2 ^ k.val : Nat) : Int) = ((b.val ||| 128 / 2 ^ k.val : Nat) : Int) := by decide +kernel
theorem ior_code (l : List UInt8) (d : Nat) : ior .u8 (bg l (d / 8) : Int) ((128 / 2 ^ (d % 8) : Nat) : Int) = ((sbb (l.getD (d / 8) 0) (d % 8)).toNat : Int) := by
  rw [sbb_toNat _ _ (by omega)]
  exact ior_fin ⟨bg l (d / 8), bg_lt l _⟩ ⟨d % 8, by omega⟩
theorem and7 {n : Nat} (hn : n ≤ 1000) : iand .i64 (n : Int) 7 = ((n % 8 : Nat) : Int) := by
  unfold iand
  have h7 : (BitVec.ofInt IntKind.i64.bits (7 : Int)).toNat = 7 := by decide
  have hb : (BitVec.ofInt IntKind.i64.bits (n : Int)).toNat = n := toNat_ofInt 64 n (by omega)
  rw [BitVec.toNat_and, h7, hb, show (7 : Nat) = 2 ^ 3 - 1 from rfl, Nat.and_two_pow_sub_one_eq_mod]
  exact wr_i64 (x := ((n % 2 ^ 3 : Nat) : Int)) (by omega) (by omega)
theorem each_nil (f : Nat) (h : List HV) (a : S_api_Addr) (d : Int) (out : List S_api_Entry) : trie_node_each__trie_Trie_All_1.go (f + 1) h none a d out = some out := rfl
theorem each_go (F : Int) : ∀ (t : T) (k f : Nat) (h : List HV) (x : Option Nat) (fp : List Nat) (l : List UInt8) (d : Nat) (out : List S_api_Entry), Rep h t x fp → t.dok k → k + 2 ≤ f → d + k ≤ 128 → l.length = 16 → out.length + (t.list l d).length ≤ 1000 →
    trie_node_each__trie_Trie_All_1.go f h x (mkA F l) (d : Int) out = some (out ++ (t.list l d).map (toE F))
  | .nil, k, f, h, x, fp, l, d, out, hR, _, hf, _, _, _ => by
    obtain ⟨f, rfl⟩ : ∃ g, f = g + 1 := ⟨f - 1, by omega⟩
    rw [hR.1, each_nil]; simp [T.list]
  | .nd is o tl tr, k, f, h, x, fp, l, d, out, hR, hd, hf, hdk, hl, hout => by
    obtain ⟨f, rfl⟩ : ∃ g, f = g + 1 := ⟨f - 1, by omega⟩
    obtain ⟨n, hx⟩ : ∃ n, x = some n := by obtain ⟨i, _, _, _, hx, _⟩ := hR; exact ⟨i, hx⟩
    subst hx
    obtain ⟨nx, f1, f2, hi, hL, hRr, hfp, n1, n2, hdj⟩ := rep_un hR
    have il : ∀ out : List S_api_Entry, out.length + (tl.list l (d + 1)).length ≤ 1000 → trie_node_each__trie_Trie_All_1.go f h (vget nx 0) (mkA F l) ((d + 1 : Nat) : Int) out = some (out ++ (tl.list l (d + 1)).map (toE F)) := fun out ho => by
      cases k with
      | zero =>
        obtain ⟨f, rfl⟩ : ∃ g, f = g + 1 := ⟨f - 1, by omega⟩
        have e := hd.1
        subst e
        rw [hL.1, each_nil]; simp [T.list]
      | succ k => exact each_go F tl k f h _ f1 l (d + 1) out hL hd.1 (by omega) (by omega) hl ho
    have ir : ∀ out : List S_api_Entry, tr ≠ .nil → out.length + (tr.list (sb l d) (d + 1)).length ≤ 1000 → trie_node_each__trie_Trie_All_1.go f h (vget nx 1) (mkA F (sb l d)) ((d + 1 : Nat) : Int) out = some (out ++ (tr.list (sb l d) (d + 1)).map (toE F)) := fun out hne ho => by
      cases k with
      | zero => exact absurd hd.2 hne
      | succ k => exact each_go F tr k f h _ f2 (sb l d) (d + 1) out hRr hd.2 (by omega) (by omega) (by rw [sb_len, hl]) ho
    have hdr : tr ≠ .nil → d < 128 := fun hne => by
      cases k with
      | zero => exact absurd hd.2 hne
      | succ k => omega
    have nr := hRr.none_iff
    have wd : wr .i64 ((d : Int) + 1) = ((d + 1 : Nat) : Int) := wr1 (by omega)
    have tail : ∀ out : List S_api_Entry, out.length + (tr.list (sb l d) (d + 1)).length ≤ 1000 → (if (!(Option.isNone (vget nx 1))) = true then (if (0 : Int) ≤ ishr .i64 (d : Int) 3 ∧ ishr .i64 (d : Int) 3 < 16 then if (0 : Int) ≤ wr .u64 (iand .i64 (d : Int) 7) then if (0 : Int) ≤ ishr .i64 (d : Int) 3 ∧ ishr .i64 (d : Int) 3 < 16 then trie_node_each__trie_Trie_All_1.go f h (vget nx 1) ({ mkA F l with f_B := vset (mkA F l).f_B (ishr .i64 (d : Int) 3) (ior .u8 (vget (mkA F l).f_B (ishr .i64 (d : Int) 3)) (ishr .u8 128 (wr .u64 (iand .i64 (d : Int) 7)))) }) (wr .i64 ((d : Int) + 1)) out >>= fun t31 => some t31 else none else none else none) else (some out)) = some (out ++ (tr.list (sb l d) (d + 1)).map (toE F)) := fun out ho => by
      cases hv : vget nx 1 with
      | none => rw [nr.1 hv]; simp [T.list]
      | some m =>
        have hne : tr ≠ .nil := fun e => by rw [nr.2 e] at hv; cases hv
        have hd128 := hdr hne
        have e1 : ishr .i64 (d : Int) 3 = ((d / 8 : Nat) : Int) := ishr_nat .i64 d 3 (by decide)
        have e2 := and7 (n := d) (by omega)
        have e3 : wr .u64 ((d % 8 : Nat) : Int) = ((d % 8 : Nat) : Int) := wr_u64 (by omega) (by omega)
        have e4 : ishr .u8 128 ((d % 8 : Nat) : Int) = ((128 / 2 ^ (d % 8) : Nat) : Int) := ishr_nat .u8 128 (d % 8) (by show d % 8 ≤ 8; omega)
        rw [if_pos (show (!(Option.isNone (some m))) = true from rfl), e1, e2, e3, e4, if_pos (by omega), if_pos (by omega), if_pos (by omega), wd]
        have e5 : ({ mkA F l with f_B := vset (mkA F l).f_B ((d / 8 : Nat) : Int) (ior .u8 (vget (mkA F l).f_B ((d / 8 : Nat) : Int)) ((128 / 2 ^ (d % 8) : Nat) : Int)) } : S_api_Addr) = mkA F (sb l d) := by
          show ({ f_V := F, f_B := vset (vb l) ((d / 8 : Nat) : Int) (ior .u8 (vget (vb l) ((d / 8 : Nat) : Int)) ((128 / 2 ^ (d % 8) : Nat) : Int)) } : S_api_Addr) = _
          rw [vget_vb hl _ (by omega), ior_code, vset_vb hl]
          rfl
        rw [e5, ← hv, ir out hne ho]; rfl
    have hlen : ((T.nd is o tl tr).list l d).length = (if is = true then 1 else 0) + ((tl.list l (d + 1)).length + (tr.list (sb l d) (d + 1)).length) := by
      rw [T.list_nd]
      cases is <;> simp
      omega
    rw [hlen] at hout
    rw [trie_node_each__trie_Trie_All_1.go]
    simp only [Option.isNone_some, Bool.false_eq_true, if_false, hn_trie_node_of hi, bindM_some]
    cases is with
    | true =>
      rw [if_pos (show true = true from rfl)] at hout ⊢
      unfold trie_Trie_All_1
      rw [if_pos (by omega), bindM_some, wd]
      rw [il _ (by rw [List.length_append, List.length_singleton]; omega), bindM_some]
      rw [wd] at tail
      rw [tail _ (by simp; omega)]
      rw [T.list_nd]
      simp [toE, mkP]
    | false =>
      rw [if_neg (show ¬ (false = true) from Bool.false_ne_true)] at hout ⊢
      rw [wd, il _ (by omega), bindM_some]
      rw [wd] at tail
      rw [tail _ (by simp; omega)]
      rw [T.list_nd]
      simp
def T.deep : T → List Nat → Nat → Option (Nat × Int)
  | .nil, _, _ => none
  | .nd is o _ _, [], d => if is = true then some (d, o) else none
  | .nd is o l r, b :: q, d => match (if b = 0 then l.deep q (d + 1) else r.deep q (d + 1)) with
    | some z => some z
    | none => if is = true then some (d, o) else none
theorem deep_spec : ∀ (t : T) (q : List Nat) (d : Nat), (t.deep q d = none → ∀ m, m ≤ q.length → t.val (q.take m) = none) ∧ ∀ j o, t.deep q d = some (j, o) → ∃ m, m ≤ q.length ∧ j = d + m ∧ t.val (q.take m) = some o ∧ ∀ m', m < m' → m' ≤ q.length → t.val (q.take m') = none
  | .nil, q, d => ⟨fun _ _ _ => rfl, fun j o h => by simp [T.deep] at h⟩
  | .nd is o l r, [], d => by
    constructor
    · intro h m hm
      have : m = 0 := by simpa using hm
      subst this
      cases is <;> simp_all [T.deep, T.val]
    · intro j o' h
      cases is with
      | false => simp [T.deep] at h
      | true =>
        simp [T.deep] at h
        exact ⟨0, Nat.le_refl _, by omega, by simp [T.val, h.2], fun m' h1 h2 => by simp at h2; omega⟩
  | .nd is o l r, b :: q, d => by
    obtain ⟨l1, l2⟩ := deep_spec l q (d + 1)
    obtain ⟨r1, r2⟩ := deep_spec r q (d + 1)
    have key : ∀ (c : T), (c.deep q (d + 1) = none → ∀ m, m ≤ q.length → c.val (q.take m) = none) → (∀ j o, c.deep q (d + 1) = some (j, o) → ∃ m, m ≤ q.length ∧ j = d + 1 + m ∧ c.val (q.take m) = some o ∧ ∀ m', m < m' → m' ≤ q.length → c.val (q.take m') = none) →
        (∀ m, (T.nd is o l r).val ((b :: q).take (m + 1)) = c.val (q.take m)) → (T.nd is o l r).deep (b :: q) d = (match c.deep q (d + 1) with | some z => some z | none => if is = true then some (d, o) else none) →
        ((T.nd is o l r).deep (b :: q) d = none → ∀ m, m ≤ (b :: q).length → (T.nd is o l r).val ((b :: q).take m) = none) ∧ ∀ j o', (T.nd is o l r).deep (b :: q) d = some (j, o') → ∃ m, m ≤ (b :: q).length ∧ j = d + m ∧ (T.nd is o l r).val ((b :: q).take m) = some o' ∧ ∀ m', m < m' → m' ≤ (b :: q).length → (T.nd is o l r).val ((b :: q).take m') = none := fun c c1 c2 hv hdp => by
      rw [hdp]
      cases hcd : c.deep q (d + 1) with
      | some z =>
        obtain ⟨j0, o0⟩ := z
        refine ⟨fun h => by simp at h, fun j o' h => ?_⟩
        simp at h
        obtain ⟨m, m1, m2, m3, m4⟩ := c2 j0 o0 hcd
        refine ⟨m + 1, by simp; omega, by omega, by rw [hv, m3, h.2], fun m' h1 h2 => ?_⟩
        obtain ⟨m', rfl⟩ : ∃ k, m' = k + 1 := ⟨m' - 1, by omega⟩
        rw [hv]; simp at h2
        exact m4 m' (by omega) (by omega)
      | none =>
        have cn := c1 hcd
        constructor
        · intro h m hm
          cases m with
          | zero => cases is <;> simp_all [T.val]
          | succ m => rw [hv]; simp at hm; exact cn m (by omega)
        · intro j o' h
          cases is with
          | false => simp at h
          | true =>
            simp at h
            refine ⟨0, Nat.zero_le _, by omega, by simp [T.val, h.2], fun m' h1 h2 => ?_⟩
            obtain ⟨m', rfl⟩ : ∃ k, m' = k + 1 := ⟨m' - 1, by omega⟩
            rw [hv]; simp at h2
            exact cn m' (by omega)
    by_cases h0 : b = 0
    · refine key l l1 l2 (fun m => by simp [T.val, h0]) ?_
      conv => lhs; unfold T.deep
      rw [if_pos h0]
    · refine key r r1 r2 (fun m => by simp [T.val, h0]) ?_
      conv => lhs; unfold T.deep
      rw [if_neg h0]
def findR (V : Int) (a : List UInt8) (z : Option (Nat × Int)) (st : Bool × S_api_Entry) : Bool × S_api_Entry := match z with
  | some (j, o) => (true, { f_P := mkP (mkA V (mfull a (j : Int))) (j : Int), f_Owner := o })
  | none => st
theorem find_loop {V : Int} {a : List UInt8} (hl : a.length = 16) (hr : rightL V a = true) (h : List HV) : ∀ (k i : Nat) (t : T) (x : Option Nat) (fp : List Nat) (is : Bool) (e : S_api_Entry), i + k = widthL V a → Rep h t x fp →
    trie_Trie_Find.l0 h (mkA V a) is x (i : Int) e = some (findR V a (t.deep (bf a i k) i) (is, e))
  | k, i, .nil, x, fp, is, e, hi, hR => by
    rw [trie_Trie_Find.l0.eq_def, hR.1, if_neg (by simp)]
    rfl
  | k, i, .nd s o tl tr, x, fp, is, e, hik, hR => by
    have hw := width_le (V := V) (l := a)
    obtain ⟨n, hx⟩ : ∃ n, x = some n := by obtain ⟨i, _, _, _, hx, _⟩ := hR; exact ⟨i, hx⟩
    subst hx
    obtain ⟨nx, f1, f2, hi, hL, hRr, hfp, n1, n2, hdj⟩ := rep_un hR
    have hof : cidr_Of (mkA V a) (i : Int) = some (mkP (mkA V (mfull a (i : Int))) (i : Int), 0) := by
      rw [of_code hl]
      unfold ofP
      rw [if_pos hr, if_pos (fits_iff.2 ⟨hr, by omega, by omega⟩)]
    rw [trie_Trie_Find.l0.eq_def, if_pos (show (!(Option.isNone (some n))) = true from rfl)]
    simp only [hn_trie_node_of hi, bindM_some, hof, width_code hl]
    cases k with
    | zero =>
      have e0 : (i : Int) == ((widthL V a : Nat) : Int) := by simp; omega
      simp only [e0, if_true]
      cases s <;> simp [bf, T.deep, findR, mkP]
    | succ k =>
      have e0 : ((i : Int) == ((widthL V a : Nat) : Int)) = false := by simp; omega
      have hc2 := bit_lt a i
      have hbit : addr_Bit (mkA V a) (i : Int) = some ((bit a i : Nat) : Int) := by
        rw [bit_code hl (by omega), if_pos (by omega), Int.toNat_natCast]
      have hg2 : (0 : Int) ≤ ((bit a i : Nat) : Int) ∧ ((bit a i : Nat) : Int) < 2 := by omega
      simp only [e0, Bool.false_eq_true, if_false, hbit, bindM_some, if_pos hg2]
      rw [wr1 (by omega)]
      have hrec : ∀ (is : Bool) (e : S_api_Entry), trie_Trie_Find.l0 h (mkA V a) is (vget nx ((bit a i : Nat) : Int)) ((i + 1 : Nat) : Int) e = some (findR V a (if bit a i = 0 then tl.deep (bf a (i + 1) k) (i + 1) else tr.deep (bf a (i + 1) k) (i + 1)) (is, e)) := fun is e => by
        by_cases h0 : bit a i = 0
        · rw [if_pos h0, h0]; exact find_loop hl hr h k (i + 1) tl _ f1 is e (by omega) hL
        · rw [if_neg h0, show bit a i = 1 by omega]; exact find_loop hl hr h k (i + 1) tr _ f2 is e (by omega) hRr
      rw [hrec, hrec]
      have edp : (T.nd s o tl tr).deep (bf a i (k + 1)) i = (match (if bit a i = 0 then tl.deep (bf a (i + 1) k) (i + 1) else tr.deep (bf a (i + 1) k) (i + 1)) with | some z => some z | none => if s = true then some (i, o) else none) := by
        conv => lhs; unfold bf T.deep
      rw [edp]
      cases (if bit a i = 0 then tl.deep (bf a (i + 1) k) (i + 1) else tr.deep (bf a (i + 1) k) (i + 1)) with
      | some z => cases s <;> rfl
      | none => cases s <;> simp [findR, mkP]
end Go.Proofs.Ythccncpephpdjaa.Tri
namespace Go.Proofs.Ythccncpephpdjaa.Tri
open E Go.RowKit
open Adr Cid
def key (x y : Tr) : Prop := x.1 = y.1 ∧ x.2.1 = y.2.1
instance (x y : Tr) : Decidable (key x y) := inferInstanceAs (Decidable (_ ∧ _))
def Ln (X : List Tr) : Prop := ∀ x ∈ X, x.1.length = 16
theorem toE_key {F : Int} {x y : Tr} (hx : x.1.length = 16) (hy : y.1.length = 16) : (toE F x).f_P = (toE F y).f_P ↔ key x y := by
  show mkP (mkA F x.1) (x.2.1 : Int) = mkP (mkA F y.1) (y.2.1 : Int) ↔ _
  rw [mkP_inj hx hy]
  exact ⟨fun ⟨⟨_, h1⟩, h2⟩ => ⟨h1, by omega⟩, fun ⟨h1, h2⟩ => ⟨⟨rfl, h1⟩, by omega⟩⟩
theorem lget_map {F : Int} {X : List Tr} {i : Nat} {x : Tr} (h : X[i]? = some x) : lget (X.map (toE F)) (i : Int) = toE F x := by
  unfold lget
  rw [List.getD_eq_getElem?_getD, Int.toNat_natCast, List.getElem?_map, h]; rfl
theorem drop_cons {X : List Tr} {i : Nat} {x : Tr} (h : X[i]? = some x) : X.drop i = x :: X.drop (i + 1) := by
  obtain ⟨hi, e⟩ := List.getElem?_eq_some_iff.1 h
  rw [← e]; exact List.drop_eq_getElem_cons hi
def fin (e : Tr) : List Tr → Bool → List Tr
  | [], inn => if inn = true then [] else [e]
  | x :: X, inn => if key x e then fin e X inn else if inn = false ∧ lessE e x = true then e :: x :: fin e X true else x :: fin e X inn
theorem fin_true (e : Tr) : ∀ (X : List Tr) (y : Tr), y ∈ fin e X true ↔ y ∈ X ∧ ¬ key y e
  | [], y => by simp [fin]
  | x :: X, y => by
    unfold fin
    split
    · next h =>
      rw [fin_true e X]
      constructor
      · exact fun ⟨a, b⟩ => ⟨List.mem_cons_of_mem _ a, b⟩
      · rintro ⟨a, b⟩
        rcases List.mem_cons.1 a with rfl | a
        · exact absurd h b
        · exact ⟨a, b⟩
    · next h =>
      rw [if_neg (by simp), List.mem_cons, fin_true e X, List.mem_cons]
      constructor
      · rintro (rfl | ⟨a, b⟩)
        · exact ⟨.inl rfl, h⟩
        · exact ⟨.inr a, b⟩
      · rintro ⟨rfl | a, b⟩
        · exact .inl rfl
        · exact .inr ⟨a, b⟩
theorem fin_false (e : Tr) : ∀ (X : List Tr) (y : Tr), y ∈ fin e X false ↔ (y ∈ X ∧ ¬ key y e) ∨ y = e
  | [], y => by simp [fin]
  | x :: X, y => by
    unfold fin
    split
    · next h =>
      rw [fin_false e X, List.mem_cons]
      constructor
      · rintro (⟨a, b⟩ | a)
        · exact .inl ⟨.inr a, b⟩
        · exact .inr a
      · rintro (⟨rfl | a, b⟩ | a)
        · exact absurd h b
        · exact .inl ⟨a, b⟩
        · exact .inr a
    · next h =>
      split
      · rw [List.mem_cons, List.mem_cons, fin_true e X, List.mem_cons]
        constructor
        · rintro (rfl | rfl | ⟨a, b⟩)
          · exact .inr rfl
          · exact .inl ⟨.inl rfl, h⟩
          · exact .inl ⟨.inr a, b⟩
        · rintro (⟨rfl | a, b⟩ | rfl)
          · exact .inr (.inl rfl)
          · exact .inr (.inr ⟨a, b⟩)
          · exact .inl rfl
      · rw [List.mem_cons, fin_false e X, List.mem_cons]
        constructor
        · rintro (rfl | ⟨a, b⟩ | rfl)
          · exact .inl ⟨.inl rfl, h⟩
          · exact .inl ⟨.inr a, b⟩
          · exact .inr rfl
        · rintro (⟨rfl | a, b⟩ | rfl)
          · exact .inl rfl
          · exact .inr (.inl ⟨a, b⟩)
          · exact .inr (.inr rfl)
abbrev Srt (X : List Tr) : Prop := X.Pairwise (fun x y => lessE x y = true)
theorem fin_true_sub (e : Tr) : ∀ (X : List Tr), (fin e X true).Sublist X
  | [] => by simp [fin]
  | x :: X => by
    unfold fin
    split
    · exact (fin_true_sub e X).trans (List.sublist_cons_self ..)
    · rw [if_neg (by simp)]; exact (fin_true_sub e X).cons_cons _
theorem fin_sorted {e : Tr} (he : e.1.length = 16) : ∀ (X : List Tr), Ln X → Srt X → Srt (fin e X false)
  | [], _, _ => by simp [fin]
  | x :: X, hl, hs => by
    have hs' := List.pairwise_cons.1 hs
    have hl' : Ln X := fun y hy => hl y (List.mem_cons_of_mem _ hy)
    unfold fin
    split
    · exact fin_sorted he X hl' hs'.2
    · next hk =>
      split
      · next h =>
        refine List.pairwise_cons.2 ⟨fun y hy => ?_, List.pairwise_cons.2 ⟨fun y hy => hs'.1 y ((fin_true_sub e X).subset hy), hs'.2.sublist (fin_true_sub e X)⟩⟩
        rcases List.mem_cons.1 hy with rfl | hy
        · exact h.2
        · exact lessE_trans h.2 (hs'.1 y ((fin_true_sub e X).subset hy))
      · next h =>
        refine List.pairwise_cons.2 ⟨fun y hy => ?_, fin_sorted he X hl' hs'.2⟩
        rcases (fin_false e X y).1 hy with ⟨hy, _⟩ | rfl
        · exact hs'.1 y hy
        · refine lessE_total (by rw [he, hl x (List.mem_cons_self ..)]) (fun ⟨a, b⟩ => hk ⟨a.symm, b.symm⟩) ?_
          cases hle : lessE y x with
          | false => rfl
          | true => exact absurd ⟨rfl, hle⟩ h
def out (e : Tr) (X : List Tr) : List Tr := X.filter fun x => decide (¬ key x e)
def hasT (F : Int) (x : Tr) (V : Int) (a : List UInt8) : Bool := hasP F x.1 (x.2.1 : Int) V a
def fstep (F V : Int) (a : List UInt8) (st : Bool × S_api_Entry) (x : Tr) : Bool × S_api_Entry := if hasT F x V a = true then (if st.1 = false ∨ (x.2.1 : Int) > st.2.f_P.f_Bits then (true, toE F x) else st) else st
theorem findR_loop {F V : Int} {a : List UInt8} (ha : a.length = 16) {X : List Tr} (hX : Ln X) (hn : X.length ≤ 1000) : ∀ (k i : Nat) (is : Bool) (b : S_api_Entry), i + k = X.length →
    crawlwayref25_Find.l0 (X.map (toE F)) (mkA V a) is (i : Int) b = some ((X.drop i).foldl (fstep F V a) (is, b))
  | 0, i, is, b, hi => by
    rw [crawlwayref25_Find.l0.eq_def, if_neg (by rw [decide_eq_true_eq]; simp; omega), List.drop_eq_nil_of_le (by omega)]; rfl
  | k + 1, i, is, b, hi => by
    obtain ⟨x, hx⟩ : ∃ x, X[i]? = some x := ⟨_, List.getElem?_eq_getElem (by omega)⟩
    have hx16 := hX x (List.mem_of_getElem? hx)
    have hg : (0 : Int) ≤ (i : Int) ∧ (i : Int) < ((X.map (toE F)).length : Int) := by simp; omega
    have hh : crawlwayref11_Has (toE F x).f_P (mkA V a) = some (hasT F x V a) := has_ref hx16 ha
    rw [crawlwayref25_Find.l0.eq_def, if_pos (by rw [decide_eq_true_eq]; exact hg.2), if_pos hg, lget_map hx, hh, bindM_some, wr1 (by omega), drop_cons hx, List.foldl_cons]
    have hb : (toE F x).f_P.f_Bits = (x.2.1 : Int) := rfl
    unfold fstep
    cases hasT F x V a with
    | false =>
      rw [if_neg (by simp), if_neg (by simp)]
      exact findR_loop ha hX hn k (i + 1) is b (by omega)
    | true =>
      rw [if_pos rfl, if_pos rfl]
      cases is with
      | false =>
        rw [if_pos (by simp), if_pos hg, if_pos (.inl rfl)]
        exact findR_loop ha hX hn k (i + 1) true (toE F x) (by omega)
      | true =>
        rw [if_neg (by simp), if_pos hg, hb]
        by_cases hc : (x.2.1 : Int) > b.f_P.f_Bits
        · rw [if_pos (decide_eq_true hc), if_pos hg, if_pos (.inr hc)]
          exact findR_loop ha hX hn k (i + 1) true (toE F x) (by omega)
        · rw [if_neg (by rw [decide_eq_true_eq]; exact hc), if_neg (by simp; exact Int.not_lt.1 hc)]
          exact findR_loop ha hX hn k (i + 1) true b (by omega)
def zE : S_api_Entry := { f_P := ({ f_A := ({ f_V := (0 : Int), f_B := (Vector.replicate 16 (0 : Int) : (Vector Int 16)) } : S_api_Addr), f_Bits := (0 : Int) } : S_api_Prefix), f_Owner := (0 : Int) }
theorem find_ref {F V : Int} {a : List UInt8} (ha : a.length = 16) {X : List Tr} (hX : Ln X) (hn : X.length ≤ 1000) : crawlwayref25_Find (X.map (toE F)) (mkA V a) = some ((X.foldl (fstep F V a) (false, zE)).2, (X.foldl (fstep F V a) (false, zE)).1) := by
  unfold crawlwayref25_Find
  have := findR_loop (F := F) (V := V) ha hX hn X.length 0 false zE (by omega)
  rw [List.drop_zero] at this
  unfold zE at this ⊢
  rw [show (0 : Int) = ((0 : Nat) : Int) from rfl] at this ⊢
  rw [this]; rfl
theorem fold_none {F V : Int} {a : List UInt8} : ∀ (X : List Tr) (st : Bool × S_api_Entry), (∀ x ∈ X, hasT F x V a = false) → X.foldl (fstep F V a) st = st
  | [], _, _ => rfl
  | x :: X, st, h => by
    rw [List.foldl_cons]
    have e : fstep F V a st x = st := by unfold fstep; rw [h x (List.mem_cons_self ..), if_neg (by simp)]
    rw [e]
    exact fold_none X st fun y hy => h y (List.mem_cons_of_mem _ hy)
theorem fold_some {F V : Int} {a : List UInt8} : ∀ (X : List Tr) (st : Bool × S_api_Entry), (st.1 = true ∨ ∃ x ∈ X, hasT F x V a = true) →
    (X.foldl (fstep F V a) st).1 = true ∧ ((st.1 = true ∧ (X.foldl (fstep F V a) st).2 = st.2) ∨ ∃ x ∈ X, hasT F x V a = true ∧ (X.foldl (fstep F V a) st).2 = toE F x) ∧
      (st.1 = true → st.2.f_P.f_Bits ≤ (X.foldl (fstep F V a) st).2.f_P.f_Bits) ∧ ∀ x ∈ X, hasT F x V a = true → (x.2.1 : Int) ≤ (X.foldl (fstep F V a) st).2.f_P.f_Bits
  | [], st, h => by
    have h1 : st.1 = true := by rcases h with h | ⟨x, hx, _⟩; exact h; simp at hx
    exact ⟨h1, .inl ⟨h1, rfl⟩, fun _ => Int.le_refl _, by simp⟩
  | x :: X, st, h => by
    rw [List.foldl_cons]
    by_cases hx : hasT F x V a = true
    · by_cases hc : st.1 = false ∨ (x.2.1 : Int) > st.2.f_P.f_Bits
      · have e : fstep F V a st x = (true, toE F x) := by unfold fstep; rw [if_pos hx, if_pos hc]
        rw [e]
        obtain ⟨h1, h2, h3, h4⟩ := fold_some X (true, toE F x) (.inl rfl)
        have h3' := h3 rfl
        have hb : (toE F x).f_P.f_Bits = (x.2.1 : Int) := rfl
        refine ⟨h1, .inr ?_, fun hs => ?_, fun y hy hyh => ?_⟩
        · rcases h2 with ⟨_, h2⟩ | ⟨y, hy, q⟩
          · exact ⟨x, List.mem_cons_self .., hx, h2⟩
          · exact ⟨y, List.mem_cons_of_mem _ hy, q⟩
        · rcases hc with hc | hc
          · rw [hs] at hc; cases hc
          · simp only [hb] at h3'; omega
        · rcases List.mem_cons.1 hy with rfl | hy
          · simpa only [hb] using h3'
          · exact h4 y hy hyh
      · have e : fstep F V a st x = st := by unfold fstep; rw [if_pos hx, if_neg hc]
        rw [e]
        have hs : st.1 = true := by cases hq : st.1 with | true => rfl | false => exact absurd (.inl hq) hc
        obtain ⟨h1, h2, h3, h4⟩ := fold_some X st (.inl hs)
        refine ⟨h1, ?_, h3, fun y hy hyh => ?_⟩
        · rcases h2 with h2 | ⟨y, hy, q⟩
          · exact .inl h2
          · exact .inr ⟨y, List.mem_cons_of_mem _ hy, q⟩
        · rcases List.mem_cons.1 hy with rfl | hy
          · have := h3 hs
            have : ¬ (y.2.1 : Int) > st.2.f_P.f_Bits := fun h => hc (.inr h)
            omega
          · exact h4 y hy hyh
    · have e : fstep F V a st x = st := by unfold fstep; rw [if_neg hx]
      rw [e]
      obtain ⟨h1, h2, h3, h4⟩ := fold_some X st (by
        rcases h with h | ⟨y, hy, q⟩
        · exact .inl h
        · rcases List.mem_cons.1 hy with rfl | hy
          · exact absurd q hx
          · exact .inr ⟨y, hy, q⟩)
      refine ⟨h1, ?_, h3, fun y hy hyh => ?_⟩
      · rcases h2 with h2 | ⟨y, hy, q⟩
        · exact .inl h2
        · exact .inr ⟨y, List.mem_cons_of_mem _ hy, q⟩
      · rcases List.mem_cons.1 hy with rfl | hy
        · exact absurd hyh hx
        · exact h4 y hy hyh
theorem adr_bits {p : List Nat} (hp : ∀ b ∈ p, b < 2) (hl : p.length ≤ 128) (i : Nat) : bit (adrG zl 0 p) i = p.getD i 0 := by
  have := bit_adrG p zl 0 zl_len (by omega) hp (fun i _ => bit_zl i) i
  simpa using this
theorem adr_inj {p q : List Nat} (hp : ∀ b ∈ p, b < 2) (hq : ∀ b ∈ q, b < 2) (hl : p.length ≤ 128) (h : p.length = q.length) (e : adrG zl 0 p = adrG zl 0 q) : p = q := by
  apply List.ext_getElem h
  intro i h1 h2
  have a := adr_bits hp hl i
  have b := adr_bits hq (by omega) i
  rw [e, b, List.getD_eq_getElem?_getD, List.getD_eq_getElem?_getD, List.getElem?_eq_getElem h1, List.getElem?_eq_getElem h2] at a
  exact a.symm
theorem list_len16 (t : T) : Ln (t.list zl 0) := fun x hx => by
  obtain ⟨p, _, _, h, _⟩ := (T.mem_list t zl 0 x).1 hx
  rw [h, adrG_len, zl_len]
theorem list_srt {t : T} {n : Nat} (hd : t.dok n) (hn : n ≤ 128) : Srt (t.list zl 0) := T.sorted t n zl 0 hd (by omega) zl_len fun i _ => bit_zl i
theorem list_put {t : T} {n : Nat} {p : List Nat} (o : Int) (hd : t.dok n) (hn : n ≤ 128) (hp : ∀ b ∈ p, b < 2) (hl : p.length ≤ n) : ((t.ext p).put p true o).list zl 0 = fin (adrG zl 0 p, p.length, o) (t.list zl 0) false := by
  have he : (adrG zl 0 p).length = 16 := by rw [adrG_len, zl_len]
  have hd' := T.dok_put (t.ext p) n p true o (T.dok_ext t n p hd hl)
  refine sorted_ext _ _ (list_srt hd' hn) (fin_sorted he _ (list_len16 t) (list_srt hd hn)) fun x => ?_
  rw [fin_false, T.mem_list, T.mem_list]
  constructor
  · rintro ⟨q, h1, h2, h3, h4⟩
    rw [T.val_put _ _ _ _ _ hp h1 (T.has_ext t p), T.val_ext] at h2
    by_cases e : q = p
    · subst e
      rw [if_pos rfl, if_pos rfl] at h2
      right
      obtain ⟨x1, x2, x3⟩ := x
      simp at h2 h3 h4
      simp [h2, h3, h4]
    · rw [if_neg e] at h2
      left
      refine ⟨⟨q, h1, h2, h3, h4⟩, fun ⟨k1, k2⟩ => e ?_⟩
      rw [h3] at k1
      rw [h4] at k2
      simp at k1 k2
      exact adr_inj h1 hp (by omega) k2 k1
  · rintro (⟨⟨q, h1, h2, h3, h4⟩, hk⟩ | rfl)
    · refine ⟨q, h1, ?_, h3, h4⟩
      rw [T.val_put _ _ _ _ _ hp h1 (T.has_ext t p), T.val_ext, if_neg, h2]
      rintro rfl
      exact hk ⟨h3, by simpa using h4⟩
    · refine ⟨p, hp, ?_, rfl, by simp⟩
      rw [T.val_put _ _ _ _ _ hp hp (T.has_ext t p), if_pos rfl, if_pos rfl]
def wid (F : Int) : Nat := if F = 4 then 32 else 128
theorem wid_le (F : Int) : wid F ≤ 128 := by unfold wid; split <;> omega
theorem wid_of {F : Int} {l : List UInt8} (h : rightL F l = true) : widthL F l = wid F := by unfold widthL wid; rw [if_pos h]
theorem mb_hi_fin : ∀ (x : Fin 256) (m : Fin 9) (j : Fin 8), m.val ≤ j.val → (x.val - x.val % 2 ^ (8 - m.val)) / 2 ^ (7 - j.val) % 2 = 0 := by decide +kernel
theorem bit_mfull_hi {l : List UInt8} (hl : l.length = 16) (b i : Nat) (hi : b ≤ i) (h128 : i < 128) : bit (mfull l (b : Int)) i = 0 := by
  unfold bit
  have e : (mfull l (b : Int))[i / 8]? = some (mb (l.getD (i / 8) 0) (lft (b : Int) (i / 8))) := by
    rw [mfull_get, List.getD_eq_getElem?_getD, List.getElem?_eq_getElem (by omega)]; rfl
  rw [bg_get e, mb_toNat]
  have hle := lft_le (b : Int) (i / 8)
  exact mb_hi_fin ⟨(l.getD (i / 8) 0).toNat, (l.getD (i / 8) 0).toNat_lt⟩ ⟨lft (b : Int) (i / 8), by omega⟩ ⟨i % 8, by omega⟩ (by show lft (b : Int) (i / 8) ≤ i % 8; unfold lft; omega)
theorem adr_mfull {l : List UInt8} (hl : l.length = 16) {b : Nat} (hb : b ≤ 128) : adrG zl 0 (bf l 0 b) = mfull l (b : Int) := by
  refine bits_ext (by rw [adrG_len, zl_len]) (mlen hl _) fun i hi => ?_
  rw [adr_bits (bf_lt l b 0) (by rw [bf_len]; exact hb)]
  by_cases h : i < b
  · rw [bf_get l b 0 i h, bit_mfull hl _ _ (by omega) hi, Nat.zero_add]
  · rw [bit_mfull_hi hl b i (by omega) hi, List.getD_eq_getElem?_getD, List.getElem?_eq_none (by rw [bf_len]; omega)]; rfl
theorem bf_take (l : List UInt8) : ∀ (w d m : Nat), m ≤ w → (bf l d w).take m = bf l d m
  | _, _, 0, _ => by simp [bf]
  | 0, _, m + 1, h => by omega
  | w + 1, d, m + 1, h => by
    show bit l d :: (bf l (d + 1) w).take m = bit l d :: bf l (d + 1) m
    rw [bf_take l w (d + 1) m (by omega)]
theorem bf_of {p : List Nat} (hp : ∀ b ∈ p, b < 2) (hl : p.length ≤ 128) : bf (adrG zl 0 p) 0 p.length = p := by
  apply List.ext_getElem (bf_len ..)
  intro i h1 h2
  have a := bf_get (adrG zl 0 p) p.length 0 i h2
  rw [Nat.zero_add, adr_bits hp hl, List.getD_eq_getElem?_getD, List.getD_eq_getElem?_getD, List.getElem?_eq_getElem h1, List.getElem?_eq_getElem h2] at a
  exact a
theorem low_bits {l : List UInt8} (hl : l.length = 16) (h : ∀ i, 32 ≤ i → i < 128 → bit l i = 0) : low l = true := by
  unfold low
  rw [List.all_eq_true]
  intro x hx
  obtain ⟨j, hj⟩ := List.getElem?_of_mem hx
  rw [List.getElem?_drop] at hj
  have hlt : 4 + j < 16 := by rw [← hl]; exact (List.getElem?_eq_some_iff.1 hj).1
  have e := mb_alike x 0 8 (by omega) fun m hm => by
    have := h (8 * (4 + j) + m) (by omega) (by omega)
    unfold bit at this
    rw [show (8 * (4 + j) + m) / 8 = 4 + j by omega, show (8 * (4 + j) + m) % 8 = m by omega, bg_get hj] at this
    rw [this]; simp
  rw [mb_eight, mb_eight] at e
  rw [e]; rfl
/-- What is in a tree of a family is right. -/
theorem right_path {F : Int} (hF : F = 4 ∨ F = 6) {p : List Nat} (hp : ∀ b ∈ p, b < 2) (hl : p.length ≤ wid F) : rightP F (adrG zl 0 p) (p.length : Int) = true := by
  have hw := wid_le F
  have h16 : (adrG zl 0 p).length = 16 := by rw [adrG_len, zl_len]
  have hr : rightL F (adrG zl 0 p) = true := by
    rcases hF with rfl | rfl
    · have : low (adrG zl 0 p) = true := low_bits h16 fun i h1 h2 => by
        rw [adr_bits hp (by omega), List.getD_eq_getElem?_getD, List.getElem?_eq_none (by have : wid 4 = 32 := rfl; omega)]; rfl
      unfold rightL; rw [this]; rfl
    · unfold rightL; rfl
  refine rightP_iff.2 ⟨⟨hr, by omega, by rw [wid_of hr]; omega⟩, ?_⟩
  have := adr_mfull h16 (b := p.length) (by omega)
  rw [bf_of hp (by omega)] at this
  exact this.symm
theorem path_right {F : Int} {l : List UInt8} (hl : l.length = 16) {b : Int} (h : rightP F l b = true) : ∃ n : Nat, b = (n : Int) ∧ n ≤ wid F ∧ adrG zl 0 (bf l 0 n) = l := by
  obtain ⟨⟨h1, h2, h3⟩, h4⟩ := rightP_iff.1 h
  obtain ⟨n, rfl⟩ := Int.eq_ofNat_of_zero_le h2
  have hw := wid_le F
  rw [wid_of h1] at h3
  refine ⟨n, rfl, by omega, ?_⟩
  rw [adr_mfull hl (by omega)]; exact h4
end Go.Proofs.Ythccncpephpdjaa.Tri
namespace Go.Proofs.Ythccncpephpdjaa.Tri
open E Go.RowKit
open Adr Cid
theorem fin_true_len (e : Tr) : ∀ (X : List Tr), (fin e X true).length = (out e X).length
  | [] => rfl
  | x :: X => by
    unfold fin out
    rw [List.filter_cons]
    by_cases h : key x e
    · rw [if_pos h, if_neg (by simp [h]), fin_true_len e X]; rfl
    · rw [if_neg h, if_neg (by simp), if_pos (by simp [h]), List.length_cons, List.length_cons, fin_true_len e X]; rfl
theorem fin_false_len (e : Tr) : ∀ (X : List Tr), (fin e X false).length = (out e X).length + 1
  | [] => rfl
  | x :: X => by
    have h1 := fin_true_len e X
    have h2 := fin_false_len e X
    unfold out at h1 h2 ⊢
    by_cases h : key x e
    · simp [fin, h, h2]
    · by_cases hl : lessE e x = true
      · simp [fin, h, hl, h1]
      · simp [fin, h, hl, h2]
theorem out_none {e : Tr} : ∀ {X : List Tr}, (∀ x ∈ X, ¬ key x e) → out e X = X
  | [], _ => rfl
  | x :: X, h => by
    unfold out
    rw [List.filter_cons, if_pos (by simp [h x (List.mem_cons_self ..)])]
    congr 1
    exact out_none fun y hy => h y (List.mem_cons_of_mem _ hy)
theorem out_one {e : Tr} : ∀ {X : List Tr}, Srt X → (∃ x ∈ X, key x e) → (out e X).length + 1 = X.length
  | [], _, ⟨x, hx, _⟩ => by simp at hx
  | x :: X, hs, hx => by
    have hs' := List.pairwise_cons.1 hs
    unfold out
    rw [List.filter_cons]
    by_cases h : key x e
    · rw [if_neg (by simp [h])]
      have : out e X = X := out_none fun y hy hk => by
        have := hs'.1 y hy
        unfold lessE at this
        rw [if_pos (h.1.trans hk.1.symm), h.2, hk.2] at this
        simp at this
      show (out e X).length + 1 = _
      rw [this]; rfl
    · rw [if_pos (by simp [h]), List.length_cons, List.length_cons]
      obtain ⟨y, hy, hk⟩ := hx
      have : y ∈ X := by
        rcases List.mem_cons.1 hy with rfl | hy
        · exact absurd hk h
        · exact hy
      show (out e X).length + 1 + 1 = _
      rw [out_one hs'.2 ⟨y, this, hk⟩]
theorem key_path {t : T} {p : List Nat} {o : Int} {n : Nat} (hd : t.dok n) (hn : n ≤ 128) (hp : ∀ b ∈ p, b < 2) : (∃ x ∈ t.list zl 0, key x (adrG zl 0 p, p.length, o)) ↔ ∃ o', t.val p = some o' := by
  constructor
  · rintro ⟨x, hx, k1, k2⟩
    obtain ⟨q, h1, h2, h3, h4⟩ := (T.mem_list t zl 0 x).1 hx
    have hq := T.val_len t n q _ hd h2
    rw [h3] at k1
    rw [h4] at k2
    simp at k1 k2
    have e := adr_inj h1 hp (by omega) k2 k1
    subst e
    exact ⟨_, h2⟩
  · rintro ⟨o', h⟩
    exact ⟨(adrG zl 0 p, p.length, o'), (T.mem_list t zl 0 _).2 ⟨p, hp, h, rfl, by simp⟩, rfl, rfl⟩
structure J (h : List HV) (tk : Nat) (F : Int) (t : T) (fp : List Nat) : Prop where
  fam : F = 4 ∨ F = 6
  tr : ∃ root, h[tk]? = some (.trie_Trie ⟨some root, F, ((t.list zl 0).length : Int)⟩) ∧ Rep h t (some root) fp
  dok : t.dok (wid F)
structure Gr (h h' : List HV) (tk : Nat) (fp fp' : List Nat) : Prop where
  len : h.length ≤ h'.length
  old : ∀ j, j < h.length → j ≠ tk → j ∉ fp → h'[j]? = h[j]?
  new : ∀ j ∈ fp', j ∈ fp ∨ h.length ≤ j
theorem Gr.refl (h : List HV) (tk : Nat) (fp : List Nat) : Gr h h tk fp fp := ⟨Nat.le_refl _, fun _ _ _ _ => rfl, fun _ h => .inl h⟩
theorem Rep.isnode {h : List HV} : ∀ {t : T} {x : Option Nat} {fp : List Nat}, Rep h t x fp → ∀ i ∈ fp, ∃ nd, h[i]? = some (.trie_node nd)
  | .nil, _, _, ⟨_, hf⟩, i, hi => by subst hf; simp at hi
  | .nd is o l r, x, fp, ⟨i, nx, f1, f2, hx, hi, hl, hr, hf, hn⟩, j, hj => by
    subst hf
    rcases List.mem_cons.1 hj with rfl | hj
    · exact ⟨_, hi⟩
    · rcases List.mem_append.1 hj with hj | hj
      · exact hl.isnode j hj
      · exact hr.isnode j hj
variable {h : List HV} {tk : Nat} {F : Int} {t : T} {fp : List Nat}
theorem J.lt (hJ : J h tk F t fp) : tk < h.length := by
  obtain ⟨root, h1, _⟩ := hJ.tr
  exact (List.getElem?_eq_some_iff.1 h1).1
theorem J.apart (hJ : J h tk F t fp) : tk ∉ fp := fun e => by
  obtain ⟨root, h1, h2⟩ := hJ.tr
  obtain ⟨nd, h3⟩ := h2.isnode tk e
  rw [h1] at h3; cases h3
theorem J.fplt (hJ : J h tk F t fp) : ∀ i ∈ fp, i < h.length := by
  obtain ⟨root, h1, h2⟩ := hJ.tr
  exact h2.lt
/-- What has not been touched is as it was. -/
theorem J.frame {h' : List HV} (hJ : J h tk F t fp) (h1 : h'[tk]? = h[tk]?) (h2 : ∀ i ∈ fp, h'[i]? = h[i]?) : J h' tk F t fp := by
  obtain ⟨root, a, b⟩ := hJ.tr
  exact ⟨hJ.fam, ⟨root, h1.trans a, b.frame h2⟩, hJ.dok⟩
theorem hn_trie {z : S_trie_Trie} (e : h[tk]? = some (.trie_Trie z)) : hn_trie_Trie h (some tk) = some (tk, z) := hn_trie_Trie_of e
theorem new_code (h : List HV) (hF : F = 4 ∨ F = 6) : ∃ h', trie_New h F = some (some (h.length + 1), h') ∧ J h' (h.length + 1) F (.nd false 0 .nil .nil) [h.length] ∧ h'.length = h.length + 2 ∧ ∀ j, j < h.length → h'[j]? = h[j]? := by
  let h' := (h ++ [HV.trie_node zn]) ++ [HV.trie_Trie ⟨some h.length, F, 0⟩]
  have e : trie_New h F = some (some (h.length + 1), h') := by
    unfold trie_New
    have hv : hvp hK (h ++ [HV.trie_node zn]) (HV.trie_Trie ⟨some h.length, F, 0⟩) = true := by simp [hvp, hK, vp]
    have hz := hvp_zn h
    unfold zn at hv hz
    rcases hF with rfl | rfl
    · rw [if_neg (by simp), if_pos hz, if_pos hv]
      simp [h', zn]
    · rw [if_pos (by simp), if_neg (by simp), if_pos hz, if_pos hv]
      simp [h', zn]
  have hn : h'[h.length]? = some (.trie_node zn) := by simp [h']
  have ht : h'[h.length + 1]? = some (.trie_Trie ⟨some h.length, F, 0⟩) := by simp [h']
  refine ⟨h', e, ⟨hF, ⟨h.length, by simpa [T.list] using ht, rep_nd (nx := zn.f_next) (f1 := []) (f2 := []) hn ⟨rfl, rfl⟩ ⟨rfl, rfl⟩ (by simp) (by simp) (by simp)⟩, ?_⟩, by simp [h'], fun j hj => ?_⟩
  · cases wid F <;> simp [T.dok]
  · simp only [h']
    rw [List.append_assoc, List.getElem?_append_left hj]
variable {V b : Int} {l : List UInt8}
theorem check_code (hJ : J h tk F t fp) (hl : l.length = 16) : trie_Trie_check h (some tk) (mkP (mkA V l) b) = some (if rightP V l b = true ∧ V = F then 0 else 1) := by
  obtain ⟨root, h1, _⟩ := hJ.tr
  unfold trie_Trie_check
  rw [if_neg (by simp), cright_code hl, bindM_some, hn_trie h1, bindM_some]
  cases rightP V l b with
  | false => rfl
  | true =>
    rw [if_neg (by simp)]
    show (if (V != F) = true then some 1 else some 0) = _
    by_cases e : V = F
    · simp [e]
    · simp [e]
theorem check_yes (hJ : J h tk F t fp) (hl : l.length = 16) (hr : rightP F l b = true) : trie_Trie_check h (some tk) (mkP (mkA F l) b) = some 0 := by
  rw [check_code hJ hl, if_pos ⟨hr, rfl⟩]
theorem put_code (hJ : J h tk F t fp) (hc : (t.list zl 0).length ≤ 900) (hl : l.length = 16) {n : Nat} (hr : rightP F l (n : Int) = true) (hn : n ≤ wid F) (hp : adrG zl 0 (bf l 0 n) = l) (o : Int) :
    ∃ h' fp', trie_Trie_Put h (some tk) (mkP (mkA F l) (n : Int)) o = some (0, h') ∧ J h' tk F ((t.ext (bf l 0 n)).put (bf l 0 n) true o) fp' ∧ Gr h h' tk fp fp' := by
  obtain ⟨root, h1, h2⟩ := hJ.tr
  have hap := hJ.apart
  have htl := hJ.lt
  have hw := wid_le F
  obtain ⟨⟨hrl, _, hb⟩, _⟩ := rightP_iff.1 hr
  obtain ⟨m, h1', fp', q1, q2, q3, q4⟩ := put_loop (V := F) hl hrl n (by rw [wid_of hrl]; exact hn) tk n 0 root t h fp (by omega) htl h2
  have hbl := bf_lt l n 0
  have hlen := bf_len l n 0
  obtain ⟨a1, a2, nd, a3, a4, a5⟩ := rep_loc q2 hbl q3
  rw [T.val_ext] at a4
  have ht1 : h1'[tk]? = some (.trie_Trie ⟨some root, F, ((t.list zl 0).length : Int)⟩) := (q4.old tk htl hap).trans h1
  have htl1 : tk < h1'.length := (List.getElem?_eq_some_iff.1 ht1).1
  have hmt : m ≠ tk := fun e => by
    subst e
    rw [ht1] at a3; cases a3
  have hml : m < h1'.length := (List.getElem?_eq_some_iff.1 a3).1
  have hdk := T.dok_put _ _ (bf l 0 n) true o (T.dok_ext t (wid F) (bf l 0 n) hJ.dok (by rw [hlen]; exact hn))
  have hlist := list_put o hJ.dok hw hbl (by rw [hlen]; exact hn)
  have hkp := key_path (o := o) hJ.dok hw hbl
  unfold trie_Trie_Put
  rw [check_yes hJ hl hr, bindM_some, if_neg (by simp), hn_trie h1, bindM_some]
  rw [show (0 : Int) = ((0 : Nat) : Int) from rfl, q1, bindM_some, hn_trie_node_of a3, bindM_some]
  have gr : ∀ h2 : List HV, h2.length = h1'.length → (∀ j, j ≠ m → j ≠ tk → h2[j]? = h1'[j]?) → Gr h h2 tk fp fp' := fun h2 e1 e2 => ⟨by rw [e1]; exact q4.len, fun j hj hjt hjf => by
    have hjm : j ≠ m := fun e => by
      subst e
      rcases q4.new j a2 with e | e
      · exact hjf e
      · omega
    rw [e2 j hjm hjt]; exact q4.old j hj hjf, q4.new⟩
  cases hi : nd.f_is with
  | false =>
    rw [hi] at a4
    have hno : ∀ x ∈ t.list zl 0, ¬ key x (adrG zl 0 (bf l 0 n), (bf l 0 n).length, o) := fun x hx hk => by
      obtain ⟨o', e⟩ := hkp.1 ⟨x, hx, hk⟩
      rw [a4] at e; simp at e
    rw [if_pos (by rfl)]
    simp only [hn_trie ht1, bindM_some]
    have wm : wr .i64 (((t.list zl 0).length : Int) + 1) = (((t.list zl 0).length + 1 : Nat) : Int) := wr1 (by omega)
    rw [wm]
    let hA := h1'.set tk (.trie_Trie ⟨some root, F, (((t.list zl 0).length + 1 : Nat) : Int)⟩)
    have b1 : hA[m]? = some (.trie_node nd) := (List.getElem?_set_ne hmt.symm).trans a3
    have b2 : (hA.set m (.trie_node { nd with f_is := true }))[m]? = some (.trie_node { nd with f_is := true }) := List.getElem?_set_self (by simp [hA]; exact hml)
    have e1 := hn_trie_node_of b1
    have e2 := hn_trie_node_of b2
    simp only [hA] at e1 e2
    simp only [e1, bindM_some, e2, List.set_set]
    refine ⟨_, fp', rfl, ⟨hJ.fam, ⟨root, ?_, ?_⟩, hdk⟩, gr _ (by simp) fun j hjm hjt => by rw [List.getElem?_set_ne (Ne.symm hjm), List.getElem?_set_ne (Ne.symm hjt)]⟩
    · rw [List.getElem?_set_ne hmt, List.getElem?_set_self htl1, hlist, fin_false_len, out_none hno]
    · have := a5 true o
      refine this.frame fun j hj => ?_
      have hjt : j ≠ tk := fun e => by
        subst e
        rcases q4.new j hj with e | e
        · exact hap e
        · omega
      by_cases hjm : j = m
      · subst hjm; rw [List.getElem?_set_self (by simp; exact hml), List.getElem?_set_self hml]
      · rw [List.getElem?_set_ne (Ne.symm hjm), List.getElem?_set_ne (Ne.symm hjt), List.getElem?_set_ne (Ne.symm hjm)]
  | true =>
    rw [hi] at a4
    rw [if_neg (by simp)]
    have b2 : (h1'.set m (.trie_node { nd with f_is := true }))[m]? = some (.trie_node { nd with f_is := true }) := List.getElem?_set_self hml
    simp only [hn_trie_node_of b2, bindM_some, List.set_set]
    refine ⟨_, fp', rfl, ⟨hJ.fam, ⟨root, ?_, a5 true o⟩, hdk⟩, gr _ (by simp) fun j hjm hjt => by rw [List.getElem?_set_ne (Ne.symm hjm)]⟩
    rw [List.getElem?_set_ne hmt, ht1, hlist, fin_false_len, out_one (list_srt hJ.dok hw) (hkp.2 ⟨nd.f_owner, by rw [a4, if_pos rfl]⟩)]
theorem all_code (hJ : J h tk F t fp) (hc : (t.list zl 0).length ≤ 900) : trie_Trie_All h (some tk) = some ((t.list zl 0).map (toE F)) := by
  obtain ⟨root, h1, h2⟩ := hJ.tr
  have hw := wid_le F
  unfold trie_Trie_All
  rw [if_neg (by simp)]
  simp only [hn_trie h1, bindM_some]
  unfold trie_node_each__trie_Trie_All_1
  have e := each_go F t (wid F) 400 h _ fp zl 0 [] h2 hJ.dok (by omega) (by omega) zl_len (by simp; omega)
  have ez : ({ f_V := F, f_B := (Vector.replicate 16 (0 : Int) : Vector Int 16) } : S_api_Addr) = mkA F zl := by rw [zero_vb]; rfl
  rw [ez, show (0 : Int) = ((0 : Nat) : Int) from rfl, e]
  simp
end Go.Proofs.Ythccncpephpdjaa.Tri
namespace Go.Proofs.Ythccncpephpdjaa.Tri
open E Go.RowKit
open Adr Cid
variable {h : List HV} {tk : Nat} {F : Int} {t : T} {fp : List Nat}
theorem has_iff (hF : F = 4 ∨ F = 6) (hd : t.dok (wid F)) {a : List UInt8} (ha : a.length = 16) (hr : rightL F a = true) {x : Tr} (hx : x ∈ t.list zl 0) : hasT F x F a = true ↔ x.1 = mfull a (x.2.1 : Int) ∧ x.2.1 ≤ wid F ∧ t.val (bf a 0 x.2.1) = some x.2.2 := by
  have hw := wid_le F
  obtain ⟨p, h1, h2, h3, h4⟩ := (T.mem_list t zl 0 x).1 hx
  have hpl := T.val_len t _ p _ hd h2
  have h5 : x.2.1 = p.length := by omega
  have hrp := right_path hF h1 hpl
  unfold hasT hasP
  rw [h5, h3, hrp, hr, decide_eq_true rfl]
  simp only [Bool.true_and, decide_eq_true_eq]
  constructor
  · intro e
    refine ⟨e.symm, hpl, ?_⟩
    rw [← adr_mfull ha (by omega)] at e
    have := adr_inj (bf_lt a _ 0) h1 (by rw [bf_len]; omega) (bf_len ..) e
    rw [this]; exact h2
  · exact fun ⟨e, _⟩ => e.symm
theorem find_code (hJ : J h tk F t fp) (hc : (t.list zl 0).length ≤ 900) {V : Int} {a : List UInt8} (ha : a.length = 16) : ∃ e is, trie_Trie_Find h (some tk) (mkA V a) = some (e, is) ∧ crawlwayref25_Find ((t.list zl 0).map (toE F)) (mkA V a) = some (e, is) ∧ (is = true → V = F) := by
  obtain ⟨root, h1, h2⟩ := hJ.tr
  have hw := wid_le F
  rw [find_ref ha (list_len16 t) (by omega)]
  unfold trie_Trie_Find
  rw [if_neg (by simp), right_code ha, bindM_some]
  by_cases hr : rightL V a = true ∧ V = F
  · obtain ⟨hr, rfl⟩ := hr
    rw [hr, if_neg (by simp)]
    simp only [hn_trie h1, bindM_some]
    have e0 : ((mkA V a).f_V != V) = false := by show (V != V) = false; simp
    rw [e0, if_neg (by simp)]
    have hfl := find_loop ha hr h (wid V) 0 t _ fp false zE (by rw [wid_of hr]; omega) h2
    unfold zE at hfl
    rw [show (0 : Int) = ((0 : Nat) : Int) from rfl] at hfl ⊢
    rw [hfl, bindM_some]
    obtain ⟨d1, d2⟩ := deep_spec t (bf a 0 (wid V)) 0
    have hbl := bf_len a (wid V) 0
    cases hdp : t.deep (bf a 0 (wid V)) 0 with
    | none =>
      have hno : ∀ x ∈ t.list zl 0, hasT V x V a = false := fun x hx => by
        cases hh : hasT V x V a with
        | false => rfl
        | true =>
          obtain ⟨_, a2, a3⟩ := (has_iff hJ.fam hJ.dok ha hr hx).1 hh
          have := d1 hdp x.2.1 (by omega)
          rw [bf_take a _ _ _ a2, a3] at this; cases this
      rw [fold_none _ _ hno]
      exact ⟨_, _, rfl, rfl, fun e => by cases e⟩
    | some z =>
      obtain ⟨j, o⟩ := z
      obtain ⟨m, m1, m2, m3, m4⟩ := d2 j o hdp
      have hj : j = m := by omega
      subst hj
      rw [hbl] at m1
      rw [bf_take a _ _ _ m1] at m3
      have hx0 : (adrG zl 0 (bf a 0 j), j, o) ∈ t.list zl 0 := (T.mem_list t zl 0 _).2 ⟨bf a 0 j, bf_lt a j 0, m3, rfl, by simp [bf_len]⟩
      have hh0 := (has_iff hJ.fam hJ.dok ha hr hx0).2 ⟨adr_mfull ha (by omega), m1, m3⟩
      obtain ⟨f1, f2, f3, f4⟩ := fold_some (F := V) (V := V) (a := a) (t.list zl 0) (false, zE) (.inr ⟨_, hx0, hh0⟩)
      rcases f2 with ⟨f2, _⟩ | ⟨y, hy, hyh, f2⟩
      · cases f2
      · obtain ⟨b1, b2, b3⟩ := (has_iff hJ.fam hJ.dok ha hr hy).1 hyh
        have hle := f4 _ hx0 hh0
        rw [f2] at hle
        have hle' : j ≤ y.2.1 := by
          have : ((j : Nat) : Int) ≤ (y.2.1 : Int) := hle
          omega
        have hje : y.2.1 = j := by
          rcases Nat.lt_or_ge j y.2.1 with hlt | hge
          · have := m4 y.2.1 hlt (by rw [hbl]; exact b2)
            rw [bf_take a _ _ _ b2, b3] at this; cases this
          · omega
        refine ⟨_, _, rfl, ?_, fun _ => trivial⟩
        rw [f2, f1]
        rw [hje, m3] at b3
        rw [hje] at b1
        show some (toE V y, true) = _
        unfold toE
        rw [b1, hje, ← Option.some.inj b3]; rfl
  · have hno : ∀ x ∈ t.list zl 0, hasT F x V a = false := fun x hx => by
      unfold hasT hasP
      by_cases hV : V = F
      · have : rightL V a = false := by cases q : rightL V a with | false => rfl | true => exact absurd ⟨q, hV⟩ hr
        rw [this]; simp
      · rw [decide_eq_false hV]; simp
    rw [fold_none _ _ hno]
    refine ⟨zE, false, ?_, rfl, fun e => by cases e⟩
    cases q : rightL V a with
    | false => rfl
    | true =>
      rw [if_neg (by simp), hn_trie h1, bindM_some, if_pos (by
        show (V != F) = true
        simp
        exact fun e => hr ⟨q, e⟩)]
      rfl
def l1 : List UInt8 := [10, 0, 0, 0, 0, 0, 0, 0, 0, 0, 0, 0, 0, 0, 0, 0]
def l2 : List UInt8 := [10, 1, 0, 0, 0, 0, 0, 0, 0, 0, 0, 0, 0, 0, 0, 0]
theorem v1 : vset (Vector.replicate 16 (0 : Int) : (Vector Int 16)) 0 10 = vb l1 := by decide +kernel
theorem v2 : vset (vset (Vector.replicate 16 (0 : Int) : (Vector Int 16)) 0 10) 1 1 = vb l2 := by decide +kernel
end Go.Proofs.Ythccncpephpdjaa.Tri
namespace Go.Proofs.Ythccncpephpdjaa.Alw
open E Go.RowKit
open Adr Cid Tri
abbrev G := Int × Tr
def toG (g : G) : S_api_Entry := toE g.1 g.2
def keyG (x y : G) : Prop := x.1 = y.1 ∧ key x.2 y.2
instance (x y : G) : Decidable (keyG x y) := inferInstanceAs (Decidable (_ ∧ _))
def LnG (X : List G) : Prop := ∀ x ∈ X, x.2.1.length = 16
theorem toG_key {x y : G} (hx : x.2.1.length = 16) (hy : y.2.1.length = 16) : (toG x).f_P = (toG y).f_P ↔ keyG x y := by
  show mkP (mkA x.1 x.2.1) (x.2.2.1 : Int) = mkP (mkA y.1 y.2.1) (y.2.2.1 : Int) ↔ _
  rw [mkP_inj hx hy]
  exact ⟨fun ⟨⟨h0, h1⟩, h2⟩ => ⟨h0, h1, by omega⟩, fun ⟨h0, h1, h2⟩ => ⟨⟨h0, h1⟩, by omega⟩⟩
theorem lgetG {X : List G} {i : Nat} {x : G} (h : X[i]? = some x) : lget (X.map toG) (i : Int) = toG x := by
  unfold lget
  rw [List.getD_eq_getElem?_getD, Int.toNat_natCast, List.getElem?_map, h]; rfl
theorem dropG_cons {α : Type} {X : List α} {i : Nat} {x : α} (h : X[i]? = some x) : X.drop i = x :: X.drop (i + 1) := by
  obtain ⟨hi, e⟩ := List.getElem?_eq_some_iff.1 h
  rw [← e]; exact List.drop_eq_getElem_cons hi
def both (A B : List Tr) : List G := A.map (fun x => (4, x)) ++ B.map (fun x => (6, x))
theorem both_len (A B : List Tr) : (both A B).length = A.length + B.length := by simp [both]
theorem both_map (A B : List Tr) : (both A B).map toG = A.map (toE 4) ++ B.map (toE 6) := by
  simp only [both, List.map_append, List.map_map]
  rfl
theorem both_ln {A B : List Tr} (hA : Ln A) (hB : Ln B) : LnG (both A B) := fun x hx => by
  unfold both at hx
  rcases List.mem_append.1 hx with hx | hx
  · obtain ⟨y, hy, rfl⟩ := List.mem_map.1 hx; exact hA y hy
  · obtain ⟨y, hy, rfl⟩ := List.mem_map.1 hx; exact hB y hy
theorem lgetL {L : List S_api_Entry} {i : Nat} {x : S_api_Entry} (h : L[i]? = some x) : lget L (i : Int) = x := by
  unfold lget
  rw [List.getD_eq_getElem?_getD, Int.toNat_natCast, h]; rfl
def ofL (L : List S_api_Entry) (o : Int) : List S_api_Prefix := (L.filter fun x => x.f_Owner == o).map (·.f_P)
def gstep (V : Int) (a : List UInt8) (st : Bool × S_api_Entry) (x : G) : Bool × S_api_Entry := fstep x.1 V a st x.2
theorem findG_loop {V : Int} {a : List UInt8} (ha : a.length = 16) {X : List G} (hX : LnG X) (hn : X.length ≤ 1000) : ∀ (k i : Nat) (is : Bool) (b : S_api_Entry), i + k = X.length →
    crawlwayref25_Find.l0 (X.map toG) (mkA V a) is (i : Int) b = some ((X.drop i).foldl (gstep V a) (is, b))
  | 0, i, is, b, hi => by
    rw [crawlwayref25_Find.l0.eq_def, if_neg (by rw [decide_eq_true_eq]; simp; omega), List.drop_eq_nil_of_le (by omega)]; rfl
  | k + 1, i, is, b, hi => by
    obtain ⟨x, hx⟩ : ∃ x, X[i]? = some x := ⟨_, List.getElem?_eq_getElem (by omega)⟩
    have hx16 := hX x (List.mem_of_getElem? hx)
    have hg : (0 : Int) ≤ (i : Int) ∧ (i : Int) < ((X.map toG).length : Int) := by simp; omega
    have hh : crawlwayref11_Has (toG x).f_P (mkA V a) = some (hasT x.1 x.2 V a) := has_ref hx16 ha
    rw [crawlwayref25_Find.l0.eq_def, if_pos (by rw [decide_eq_true_eq]; exact hg.2), if_pos hg, lgetG hx, hh, bindM_some, wr1 (by omega), dropG_cons hx, List.foldl_cons]
    have hb : (toG x).f_P.f_Bits = (x.2.2.1 : Int) := rfl
    have hs : gstep V a (is, b) x = if hasT x.1 x.2 V a = true then (if is = false ∨ (x.2.2.1 : Int) > b.f_P.f_Bits then (true, toG x) else (is, b)) else (is, b) := rfl
    rw [hs]
    cases hasT x.1 x.2 V a with
    | false =>
      rw [if_neg (by simp), if_neg (by simp)]
      exact findG_loop ha hX hn k (i + 1) is b (by omega)
    | true =>
      rw [if_pos rfl, if_pos rfl]
      cases is with
      | false =>
        rw [if_pos (by simp), if_pos hg, if_pos (.inl rfl)]
        exact findG_loop ha hX hn k (i + 1) true (toG x) (by omega)
      | true =>
        rw [if_neg (by simp), if_pos hg, hb]
        by_cases hc : (x.2.2.1 : Int) > b.f_P.f_Bits
        · rw [if_pos (decide_eq_true hc), if_pos hg, if_pos (.inr hc)]
          exact findG_loop ha hX hn k (i + 1) true (toG x) (by omega)
        · rw [if_neg (by rw [decide_eq_true_eq]; exact hc), if_neg (by simp; exact Int.not_lt.1 hc)]
          exact findG_loop ha hX hn k (i + 1) true b (by omega)
theorem has_fam {F V : Int} {x : Tr} {a : List UInt8} (h : V ≠ F) : hasT F x V a = false := by
  unfold hasT hasP
  rw [decide_eq_false h]
  simp
/-- Who is found, in the list of the address's own family alone. -/
theorem find_both {V : Int} {a : List UInt8} (ha : a.length = 16) {A B : List Tr} (hA : Ln A) (hB : Ln B) (hn : A.length + B.length ≤ 1000) :
    crawlwayref25_Find (A.map (toE 4) ++ B.map (toE 6)) (mkA V a) = if V = 4 then crawlwayref25_Find (A.map (toE 4)) (mkA V a) else crawlwayref25_Find (B.map (toE 6)) (mkA V a) := by
  have f4 := find_ref (F := 4) (V := V) ha hA (by omega)
  have f6 := find_ref (F := 6) (V := V) ha hB (by omega)
  have hf := findG_loop (V := V) ha (both_ln hA hB) (by rw [both_len]; omega) (both A B).length 0 false zE (by omega)
  rw [List.drop_zero] at hf
  have e : (both A B).foldl (gstep V a) (false, zE) = if V = 4 then A.foldl (fstep 4 V a) (false, zE) else B.foldl (fstep 6 V a) (false, zE) := by
    unfold both
    rw [List.foldl_append, List.foldl_map, List.foldl_map]
    show B.foldl (fstep 6 V a) (A.foldl (fstep 4 V a) (false, zE)) = _
    by_cases hV : V = 4
    · rw [if_pos hV, fold_none (F := 6) B _ fun x _ => has_fam (by omega)]
    · rw [if_neg hV, fold_none (F := 4) A _ fun x _ => has_fam hV]
  rw [e, both_map] at hf
  rw [f4, f6]
  unfold crawlwayref25_Find
  unfold zE at hf ⊢
  rw [show (0 : Int) = ((0 : Nat) : Int) from rfl] at hf ⊢
  rw [hf, bindM_some]
  by_cases hV : V = 4
  · rw [if_pos hV, if_pos hV]
  · rw [if_neg hV, if_neg hV]
def kp (F : Int) (x : Tr) : S_api_Prefix := (toE F x).f_P
theorem fin_true_out (e : Tr) : ∀ (X : List Tr), fin e X true = out e X
  | [] => rfl
  | x :: X => by
    unfold fin out
    rw [List.filter_cons]
    by_cases h : key x e
    · rw [if_pos h, if_neg (by simp [h]), fin_true_out e X]; rfl
    · rw [if_neg h, if_neg (by simp), if_pos (by simp [h]), fin_true_out e X]; rfl
theorem fin_perm (e : Tr) : ∀ (X : List Tr), (fin e X false).Perm (e :: out e X)
  | [] => by simp [fin, out]
  | x :: X => by
    unfold fin out
    rw [List.filter_cons]
    by_cases h : key x e
    · rw [if_pos h, if_neg (by simp [h])]; exact fin_perm e X
    · rw [if_neg h, if_pos (show (decide ¬ key x e) = true by simp [h])]
      split
      · rw [fin_true_out]; exact .refl _
      · exact ((fin_perm e X).cons x).trans (.swap ..)
theorem out_perm {F : Int} {e : Tr} (he : e.1.length = 16) : ∀ {X : List Tr}, Ln X → Srt X → (∃ x ∈ X, key x e) → (X.map (kp F)).Perm (kp F e :: (out e X).map (kp F))
  | [], _, _, h => by obtain ⟨x, hx, _⟩ := h; simp at hx
  | x :: X, hl, hs, h => by
    have hs' := List.pairwise_cons.1 hs
    have hl' : Ln X := fun y hy => hl y (List.mem_cons_of_mem _ hy)
    unfold out
    rw [List.filter_cons]
    by_cases hk : key x e
    · rw [if_neg (by simp [hk]), List.map_cons]
      have hx : kp F x = kp F e := (toE_key (hl x (List.mem_cons_self ..)) he).2 hk
      have ho : out e X = X := out_none fun y hy hky => by
        have := hs'.1 y hy
        unfold lessE at this
        rw [if_pos (hk.1.trans hky.1.symm), hk.2, hky.2] at this
        simp at this
      unfold out at ho
      rw [ho, hx]
    · rw [if_pos (by simp [hk]), List.map_cons, List.map_cons]
      have ih := out_perm (F := F) he hl' hs'.2 (by
        obtain ⟨y, hy, hky⟩ := h
        rcases List.mem_cons.1 hy with rfl | hy
        · exact absurd hky hk
        · exact ⟨y, hy, hky⟩)
      exact (ih.cons _).trans (.swap ..)
section
variable {κ μ : Type} [DecidableEq κ]
theorem mfind_key : ∀ (m : List (κ × μ)) (p : κ), (mfind m p).isSome = decide (p ∈ m.map Prod.fst)
  | [], p => by simp [mfind]
  | (a, b) :: r, p => by
    unfold mfind
    by_cases h : p = a
    · rw [if_pos h]; simp [h]
    · rw [if_neg h, mfind_key r p]; simp [h]
theorem mput_old : ∀ (m : List (κ × μ)) (p : κ) (v : μ), p ∈ m.map Prod.fst → (mput m p v).map Prod.fst = m.map Prod.fst
  | [], p, v, h => by simp at h
  | (a, b) :: r, p, v, h => by
    unfold mput
    by_cases e : p = a
    · rw [if_pos e]; simp [e]
    · rw [if_neg e, List.map_cons, List.map_cons, mput_old r p v (by simpa [e] using h)]
theorem mput_new : ∀ (m : List (κ × μ)) (p : κ) (v : μ), p ∉ m.map Prod.fst → (mput m p v).map Prod.fst = m.map Prod.fst ++ [p]
  | [], p, v, h => rfl
  | (a, b) :: r, p, v, h => by
    have e : p ≠ a := fun e => h (by simp [e])
    unfold mput
    rw [if_neg e, List.map_cons, List.map_cons, mput_new r p v (fun g => h (by simp [g]))]; rfl
end
end Go.Proofs.Ythccncpephpdjaa.Alw
namespace Go.Proofs.Ythccncpephpdjaa.Tri
open E Go.RowKit
open Adr Cid
/-- Two tries, with nothing in common. -/
structure J2 (h : List HV) (k4 k6 : Nat) (t u : T) (f4 f6 : List Nat) : Prop where
  a : J h k4 4 t f4
  b : J h k6 6 u f6
  k : k4 ≠ k6
  ka : k4 ∉ f6
  kb : k6 ∉ f4
  d : ∀ i ∈ f4, i ∉ f6
theorem J2.swap4 {h h' : List HV} {k4 k6 : Nat} {t u t' : T} {f4 f6 f4' : List Nat} (hJ : J2 h k4 k6 t u f4 f6) (h1 : J h' k4 4 t' f4') (g : Gr h h' k4 f4 f4') : J2 h' k4 k6 t' u f4' f6 := by
  have l6 := hJ.b.fplt
  have lk := hJ.b.lt
  refine ⟨h1, hJ.b.frame (g.old k6 lk (Ne.symm hJ.k) hJ.kb) fun i hi => g.old i (l6 i hi) (fun e => hJ.ka (e ▸ hi)) fun e => hJ.d i e hi, hJ.k, hJ.ka, fun e => ?_, fun i hi e => ?_⟩
  · rcases g.new k6 e with e | e
    · exact hJ.kb e
    · omega
  · rcases g.new i hi with e' | e'
    · exact hJ.d i e' e
    · have := l6 i e; omega
theorem J2.swap6 {h h' : List HV} {k4 k6 : Nat} {t u u' : T} {f4 f6 f6' : List Nat} (hJ : J2 h k4 k6 t u f4 f6) (h1 : J h' k6 6 u' f6') (g : Gr h h' k6 f6 f6') : J2 h' k4 k6 t u' f4 f6' := by
  have l4 := hJ.a.fplt
  have lk := hJ.a.lt
  refine ⟨hJ.a.frame (g.old k4 lk hJ.k hJ.ka) fun i hi => g.old i (l4 i hi) (fun e => hJ.kb (e ▸ hi)) fun e => hJ.d i hi e, h1, hJ.k, fun e => ?_, hJ.kb, fun i hi e => ?_⟩
  · rcases g.new k4 e with e | e
    · exact hJ.ka e
    · omega
  · rcases g.new i e with e' | e'
    · exact hJ.d i hi e'
    · have := l4 i hi; omega
end Go.Proofs.Ythccncpephpdjaa.Tri
namespace Go.Proofs.Ythccncpephpdjaa.Alw
open E Go.RowKit
open Adr Cid Tri
def LL (t u : Tri.T) : List S_api_Entry := (t.list zl 0).map (toE 4) ++ (u.list zl 0).map (toE 6)
def LK (t u : Tri.T) : List S_api_Prefix := (LL t u).map (·.f_P)
theorem LL_len (t u : Tri.T) : (LL t u).length = (t.list zl 0).length + (u.list zl 0).length := by simp [LL]
theorem LK_eq (t u : Tri.T) : LK t u = (t.list zl 0).map (kp 4) ++ (u.list zl 0).map (kp 6) := by
  simp only [LK, LL, List.map_append, List.map_map]; rfl
structure Tb (h : List HV) (tb : Nat) (t u : Tri.T) (fp : List Nat) : Prop where
  ex : ∃ im k4 k6 f4 f6 m, h[tb]? = some (.allowed_Table ⟨some im, some k4, some k6⟩) ∧ h[im]? = some (.M82 m) ∧ J2 h k4 k6 t u f4 f6 ∧ (m.map Prod.fst).Perm (LK t u) ∧ fp = im :: k4 :: k6 :: (f4 ++ f6)
structure GrT (h h' : List HV) (fp fp' : List Nat) : Prop where
  len : h.length ≤ h'.length
  old : ∀ j, j < h.length → j ∉ fp → h'[j]? = h[j]?
  new : ∀ j ∈ fp', j ∈ fp ∨ h.length ≤ j
theorem GrT.refl (h : List HV) (fp : List Nat) : GrT h h fp fp := ⟨Nat.le_refl _, fun _ _ _ => rfl, fun _ h => .inl h⟩
theorem GrT.trans {h h' h'' : List HV} {fp fp' fp'' : List Nat} (a : GrT h h' fp fp') (b : GrT h' h'' fp' fp'') : GrT h h'' fp fp'' := by
  refine ⟨Nat.le_trans a.len b.len, fun j hj hf => ?_, fun j hj => ?_⟩
  · have hl := a.len
    rw [b.old j (by omega) (fun e => ?_), a.old j hj hf]
    rcases a.new j e with e | e
    · exact hf e
    · omega
  · rcases b.new j hj with e | e
    · exact a.new j e
    · exact .inr (Nat.le_trans a.len e)
variable {h : List HV} {tb : Nat} {t u : Tri.T} {fp : List Nat}
theorem J2.isk4 {h : List HV} {k4 k6 : Nat} {t u : Tri.T} {f4 f6 : List Nat} (hJ : J2 h k4 k6 t u f4 f6) : (∃ z, h[k4]? = some (.trie_Trie z)) ∧ ∃ z, h[k6]? = some (.trie_Trie z) := by
  obtain ⟨r, a, _⟩ := hJ.a.tr
  obtain ⟨r', b, _⟩ := hJ.b.tr
  exact ⟨⟨_, a⟩, ⟨_, b⟩⟩
theorem J2.isnd {h : List HV} {k4 k6 : Nat} {t u : Tri.T} {f4 f6 : List Nat} (hJ : J2 h k4 k6 t u f4 f6) : (∀ i ∈ f4, ∃ z, h[i]? = some (.trie_node z)) ∧ ∀ i ∈ f6, ∃ z, h[i]? = some (.trie_node z) := by
  obtain ⟨r, _, a⟩ := hJ.a.tr
  obtain ⟨r', _, b⟩ := hJ.b.tr
  exact ⟨a.isnode, b.isnode⟩
theorem j2_frame {h h' : List HV} {k4 k6 : Nat} {t u : Tri.T} {f4 f6 : List Nat} (hJ : J2 h k4 k6 t u f4 f6) (e : ∀ j, j = k4 ∨ j = k6 ∨ j ∈ f4 ∨ j ∈ f6 → h'[j]? = h[j]?) : J2 h' k4 k6 t u f4 f6 :=
  ⟨hJ.a.frame (e _ (.inl rfl)) fun i hi => e i (.inr (.inr (.inl hi))), hJ.b.frame (e _ (.inr (.inl rfl))) fun i hi => e i (.inr (.inr (.inr hi))), hJ.k, hJ.ka, hJ.kb, hJ.d⟩
/-- What lies at a place is not among the tries' places, if it is of another kind. -/
theorem J2.off {h : List HV} {k4 k6 : Nat} {t u : Tri.T} {f4 f6 : List Nat} (hJ : J2 h k4 k6 t u f4 f6) {j : Nat} {v : HV} (hj : h[j]? = some v) (h1 : ∀ z, v ≠ .trie_Trie z) (h2 : ∀ z, v ≠ .trie_node z) : j ≠ k4 ∧ j ≠ k6 ∧ j ∉ f4 ∧ j ∉ f6 := by
  obtain ⟨⟨z, a⟩, ⟨z', b⟩⟩ := J2.isk4 hJ
  obtain ⟨c, d⟩ := J2.isnd hJ
  refine ⟨fun e => ?_, fun e => ?_, fun e => ?_, fun e => ?_⟩
  · subst e; rw [hj] at a; cases a; exact h1 _ rfl
  · subst e; rw [hj] at b; cases b; exact h1 _ rfl
  · obtain ⟨z, q⟩ := c j e; rw [hj] at q; cases q; exact h2 _ rfl
  · obtain ⟨z, q⟩ := d j e; rw [hj] at q; cases q; exact h2 _ rfl
theorem Tb.lt (hT : Tb h tb t u fp) : tb < h.length := by
  obtain ⟨im, k4, k6, f4, f6, m, h1, _⟩ := hT.ex
  exact (List.getElem?_eq_some_iff.1 h1).1
theorem Tb.fplt (hT : Tb h tb t u fp) : ∀ j ∈ fp, j < h.length := by
  obtain ⟨im, k4, k6, f4, f6, m, h1, h2, h3, h4, rfl⟩ := hT.ex
  intro j hj
  simp only [List.mem_cons, List.mem_append] at hj
  rcases hj with rfl | rfl | rfl | hj | hj
  · exact (List.getElem?_eq_some_iff.1 h2).1
  · exact h3.a.lt
  · exact h3.b.lt
  · exact h3.a.fplt j hj
  · exact h3.b.fplt j hj
theorem Tb.apart (hT : Tb h tb t u fp) : tb ∉ fp := by
  obtain ⟨im, k4, k6, f4, f6, m, h1, h2, h3, h4, rfl⟩ := hT.ex
  obtain ⟨a, b, c, d⟩ := J2.off h3 h1 (fun z => by simp) (fun z => by simp)
  intro e
  simp only [List.mem_cons, List.mem_append] at e
  rcases e with e | e | e | e | e
  · subst e; rw [h1] at h2; cases h2
  · exact a e
  · exact b e
  · exact c e
  · exact d e
theorem Tb.frame {h' : List HV} (hT : Tb h tb t u fp) (e : ∀ j, j = tb ∨ j ∈ fp → h'[j]? = h[j]?) : Tb h' tb t u fp := by
  obtain ⟨im, k4, k6, f4, f6, m, h1, h2, h3, h4, rfl⟩ := hT.ex
  refine ⟨im, k4, k6, f4, f6, m, (e _ (.inl rfl)).trans h1, (e _ (.inr (by simp))).trans h2, j2_frame h3 fun j hj => e j (.inr ?_), h4, rfl⟩
  simp only [List.mem_cons, List.mem_append]
  rcases hj with hj | hj | hj | hj
  · exact .inr (.inl hj)
  · exact .inr (.inr (.inl hj))
  · exact .inr (.inr (.inr (.inl hj)))
  · exact .inr (.inr (.inr (.inr hj)))
theorem made_code (hT : Tb h tb t u fp) : allowed_Table_made h (some tb) = some true := by
  obtain ⟨im, k4, k6, f4, f6, m, h1, h2, h3, h4, rfl⟩ := hT.ex
  unfold allowed_Table_made
  rw [if_pos (by rfl), hn_allowed_Table_of h1, bindM_some]; rfl
theorem own_at {im k4 k6 : Nat} (h1 : h[tb]? = some (.allowed_Table ⟨some im, some k4, some k6⟩)) (A : S_api_Addr) : allowed_Table_own h (some tb) A = some (if A.f_V = 4 then some k4 else some k6) := by
  unfold allowed_Table_own
  rw [hn_allowed_Table_of h1, bindM_some, bindM_some]
  by_cases e : A.f_V = 4
  · rw [if_pos (by simpa using e), if_pos e]
  · rw [if_neg (by simpa using e), if_neg e]
theorem len_codeT (hT : Tb h tb t u fp) : allowed_Table_Len h (some tb) = some ((LL t u).length : Int) := by
  have hm := made_code hT
  obtain ⟨im, k4, k6, f4, f6, m, h1, h2, h3, h4, rfl⟩ := hT.ex
  unfold allowed_Table_Len
  rw [hm, bindM_some, if_neg (by decide), hn_allowed_Table_of h1, bindM_some]
  show (hn_M82 h (some im) >>= _) = _
  rw [hn_M82_of h2, bindM_some]
  have := h4.length_eq
  simp only [List.length_map, LK] at this
  show some (m.length : Int) = _
  rw [this]
theorem grow_code (n : Nat) (h : n ≤ 1000000) : slices_Grow_api_Entry (n : Int) = some [] := by
  unfold slices_Grow_api_Entry
  rw [if_neg (by rw [decide_eq_true_eq]; omega)]
  have e : wr .i64 ((n : Int) - (wr .i64 ((0 : Int) - (([] : List S_api_Entry).length : Int)))) = (n : Int) := by
    rw [wr_i64 (x := (0 : Int) - (([] : List S_api_Entry).length : Int)) (by simp) (by simp), wr_i64 (by simp <;> omega) (by simp <;> omega)]; simp
  rw [e]
  by_cases h0 : (n : Int) > 0
  · rw [if_pos (decide_eq_true h0), if_pos ⟨by omega, by omega⟩]
  · rw [if_neg (by rw [decide_eq_true_eq]; exact h0)]
theorem concat_code (A B : List S_api_Entry) (hA : A.length ≤ 1000) (hB : B.length ≤ 1000) : slices_Concat_api_Entry [A, B] = some (A ++ B) := by
  have g0 : lget [A, B] 0 = A := rfl
  have g1 : lget [A, B] 1 = B := rfl
  have w0 : wr .i64 ((0 : Int) + (A.length : Int)) = (A.length : Int) := by rw [wr_i64 (by omega) (by omega)]; omega
  have w1 : wr .i64 ((A.length : Int) + (B.length : Int)) = ((A.length + B.length : Nat) : Int) := by rw [wr_i64 (by omega) (by omega)]; omega
  have w2 : wr .i64 ((0 : Int) + 1) = 1 := by rw [wr_i64 (by omega) (by omega)]; omega
  have w3 : wr .i64 ((1 : Int) + 1) = 2 := by rw [wr_i64 (by omega) (by omega)]; omega
  have n2 : (([A, B] : List (List S_api_Entry)).length : Int) = 2 := rfl
  have l0 : slices_Concat_api_Entry.l0 [A, B] 0 0 = some ((A.length + B.length : Nat) : Int) := by
    rw [slices_Concat_api_Entry.l0.eq_def, n2, if_pos (by decide), if_pos (by decide), g0, w0, if_neg (by rw [decide_eq_true_eq]; omega), w2, slices_Concat_api_Entry.l0.eq_def, n2, if_pos (by decide), if_pos (by decide), g1, w1, if_neg (by rw [decide_eq_true_eq]; omega), w3, slices_Concat_api_Entry.l0.eq_def, n2, if_neg (by decide)]
  have l1 : slices_Concat_api_Entry.l1 [A, B] [] 0 = some (A ++ B) := by
    rw [slices_Concat_api_Entry.l1.eq_def, n2, if_pos (by decide), if_pos (by decide), g0, if_pos (by simp; omega), w2, slices_Concat_api_Entry.l1.eq_def, n2, if_pos (by decide), if_pos (by decide), g1, if_pos (by simp; omega), w3, slices_Concat_api_Entry.l1.eq_def, n2, if_neg (by decide)]
    simp
  unfold slices_Concat_api_Entry
  rw [l0, bindM_some, grow_code _ (by omega), bindM_some, l1, bindM_some]
theorem all_codeT (hT : Tb h tb t u fp) (hc : (t.list zl 0).length + (u.list zl 0).length ≤ 900) : allowed_Table_All h (some tb) = some (LL t u) := by
  have hm := made_code hT
  obtain ⟨im, k4, k6, f4, f6, m, h1, h2, h3, h4, rfl⟩ := hT.ex
  unfold allowed_Table_All
  rw [hm, bindM_some, if_neg (by decide), hn_allowed_Table_of h1, bindM_some]
  show (trie_Trie_All h (some k4) >>= _) = _
  rw [all_code h3.a (by omega), bindM_some, bindM_some]
  show (trie_Trie_All h (some k6) >>= _) = _
  rw [all_code h3.b (by omega), bindM_some, concat_code _ _ (by simp; omega) (by simp; omega), bindM_some]; rfl
theorem ofT_loop (L : List S_api_Entry) (o : Int) (hn : L.length ≤ 1000) : ∀ (k i : Nat) (out : List S_api_Prefix), i + k = L.length → out.length ≤ i → allowed_Table_Of.l0 o L out (i : Int) = some (out ++ ((L.drop i).filter fun x => x.f_Owner == o).map (·.f_P))
  | 0, i, out, hi, ho => by rw [allowed_Table_Of.l0.eq_def, if_neg (by rw [decide_eq_true_eq]; omega), List.drop_eq_nil_of_le (by omega)]; simp
  | k + 1, i, out, hi, ho => by
    obtain ⟨x, hx⟩ : ∃ x, L[i]? = some x := ⟨_, List.getElem?_eq_getElem (by omega)⟩
    rw [allowed_Table_Of.l0.eq_def, if_pos (by rw [decide_eq_true_eq]; omega), if_pos (by omega), lgetL hx, wr1 (by omega), dropG_cons hx, List.filter_cons]
    cases hc : (x.f_Owner == o) with
    | true =>
      rw [if_pos rfl, if_pos (by omega), ofT_loop L o hn k (i + 1) _ (by omega) (by simp; omega), if_pos rfl]
      simp
    | false => rw [if_neg Bool.false_ne_true, ofT_loop L o hn k (i + 1) _ (by omega) (by omega), if_neg Bool.false_ne_true]
theorem of_codeT (hT : Tb h tb t u fp) (hc : (t.list zl 0).length + (u.list zl 0).length ≤ 900) (o : Int) : allowed_Table_Of h (some tb) o = some (ofL (LL t u) o) := by
  unfold allowed_Table_Of
  rw [all_codeT hT hc, bindM_some, show (0 : Int) = ((0 : Nat) : Int) from rfl, ofT_loop (LL t u) o (by rw [LL_len]; omega) (LL t u).length 0 [] (by omega) (by simp)]; rfl
theorem find_codeT (hT : Tb h tb t u fp) (hc : (t.list zl 0).length + (u.list zl 0).length ≤ 900) {V : Int} {a : List UInt8} (ha : a.length = 16) : ∃ (e : S_api_Entry) (is : Bool), allowed_Table_Find h (some tb) (mkA V a) = some (e.f_Owner, is) ∧ crawlwayref25_Find (LL t u) (mkA V a) = some (e, is) := by
  have hm := made_code hT
  obtain ⟨im, k4, k6, f4, f6, m, h1, h2, h3, h4, rfl⟩ := hT.ex
  unfold allowed_Table_Find
  rw [hm, bindM_some, if_neg (by decide), own_at h1, bindM_some]
  unfold LL
  rw [find_both ha (list_len16 t) (list_len16 u) (by omega)]
  show ∃ (e : S_api_Entry) (is : Bool), (trie_Trie_Find h (if V = 4 then some k4 else some k6) (mkA V a) >>= fun t5 => some (t5.1.f_Owner, t5.2)) = some (e.f_Owner, is) ∧ _
  by_cases hV : V = 4
  · obtain ⟨e, is, q1, q2, _⟩ := find_code (V := V) h3.a (by omega) ha
    rw [if_pos hV, if_pos hV]
    exact ⟨e, is, by rw [q1, bindM_some], q2⟩
  · obtain ⟨e, is, q1, q2, _⟩ := find_code (V := V) h3.b (by omega) ha
    rw [if_neg hV, if_neg hV]
    exact ⟨e, is, by rw [q1, bindM_some], q2⟩
theorem kp_fam {F F' : Int} {x y : Tr} (hx : x.1.length = 16) (hy : y.1.length = 16) (e : kp F x = kp F' y) : F = F' ∧ key x y := by
  have := (toG_key (x := (F, x)) (y := (F', y)) hx hy).1 e
  exact this
theorem mem_LK4 {x : Tr} (hx : x.1.length = 16) : kp 4 x ∈ LK t u ↔ ∃ y ∈ t.list zl 0, key y x := by
  rw [LK_eq, List.mem_append, List.mem_map, List.mem_map]
  constructor
  · rintro (⟨y, hy, e⟩ | ⟨y, hy, e⟩)
    · exact ⟨y, hy, (kp_fam (list_len16 t y hy) hx e).2⟩
    · have := (kp_fam (list_len16 u y hy) hx e).1; omega
  · rintro ⟨y, hy, e⟩
    exact .inl ⟨y, hy, (toE_key (list_len16 t y hy) hx).2 e⟩
theorem mem_LK6 {x : Tr} (hx : x.1.length = 16) : kp 6 x ∈ LK t u ↔ ∃ y ∈ u.list zl 0, key y x := by
  rw [LK_eq, List.mem_append, List.mem_map, List.mem_map]
  constructor
  · rintro (⟨y, hy, e⟩ | ⟨y, hy, e⟩)
    · have := (kp_fam (list_len16 t y hy) hx e).1; omega
    · exact ⟨y, hy, (kp_fam (list_len16 u y hy) hx e).2⟩
  · rintro ⟨y, hy, e⟩
    exact .inr ⟨y, hy, (toE_key (list_len16 u y hy) hx).2 e⟩
theorem fin_keys {F : Int} {x : Tr} (hx : x.1.length = 16) {X : List Tr} (hl : Ln X) (hs : Srt X) : ((fin x X false).map (kp F)).Perm (if (∃ y ∈ X, key y x) then X.map (kp F) else kp F x :: X.map (kp F)) := by
  have h1 := (fin_perm x X).map (kp F)
  rw [List.map_cons] at h1
  by_cases hk : ∃ y ∈ X, key y x
  · rw [if_pos hk]; exact h1.trans (out_perm hx hl hs hk).symm
  · rw [if_neg hk]
    rw [out_none fun y hy hky => hk ⟨y, hy, hky⟩] at h1
    exact h1
theorem mput_perm {m : List (S_api_Prefix × Int)} {P : S_api_Prefix} {o : Int} {K : List S_api_Prefix} (hm : (m.map Prod.fst).Perm K) : ((mput m P o).map Prod.fst).Perm (if P ∈ K then K else P :: K) := by
  by_cases hp : P ∈ K
  · rw [if_pos hp, mput_old m P o (hm.mem_iff.2 hp)]; exact hm
  · rw [if_neg hp, mput_new m P o (fun h => hp (hm.mem_iff.1 h))]
    exact (List.perm_append_singleton P _).trans (hm.cons P)
theorem srtT {h : List HV} {k : Nat} {F : Int} {t : Tri.T} {fp : List Nat} (hJ : J h k F t fp) : Srt (t.list zl 0) := list_srt hJ.dok (wid_le F)
/-- The lists behind a put. -/
def Put (F : Int) (x : Tr) (t u t' u' : Tri.T) : Prop := (F = 4 ∧ t'.list zl 0 = fin x (t.list zl 0) false ∧ u' = u) ∨ (F = 6 ∧ u'.list zl 0 = fin x (u.list zl 0) false ∧ t' = t)
theorem tput (hT : Tb h tb t u fp) (hn : (t.list zl 0).length + (u.list zl 0).length ≤ 64) {V b : Int} {l : List UInt8} (hl : l.length = 16) (o : Int) :
    (crawlwayref11_Right (mkP (mkA V l) b) = some false ∧ allowed_Table_Put h (some tb) (mkP (mkA V l) b) o = some (1, h)) ∨
    (crawlwayref11_Right (mkP (mkA V l) b) = some true ∧ (mkP (mkA V l) b) ∉ LK t u ∧ 64 ≤ (t.list zl 0).length + (u.list zl 0).length ∧ allowed_Table_Put h (some tb) (mkP (mkA V l) b) o = some (7, h)) ∨
    (crawlwayref11_Right (mkP (mkA V l) b) = some true ∧ ((mkP (mkA V l) b) ∈ LK t u ∨ (t.list zl 0).length + (u.list zl 0).length < 64) ∧ ∃ F x t' u' h' fp', x.1.length = 16 ∧ (mkP (mkA V l) b) = kp F x ∧ x.2.2 = o ∧ allowed_Table_Put h (some tb) (mkP (mkA V l) b) o = some (0, h') ∧ Tb h' tb t' u' fp' ∧ GrT h h' fp fp' ∧ Put F x t u t' u') := by
  have hm := made_code hT
  have hap := hT.apart
  obtain ⟨im, k4, k6, f4, f6, m, h1, h2, h3, h4, rfl⟩ := hT.ex
  obtain ⟨i1, i2, i3, i4⟩ := J2.off h3 h2 (fun z => by simp) (fun z => by simp)
  obtain ⟨b1, b2, b3, b4⟩ := J2.off h3 h1 (fun z => by simp) (fun z => by simp)
  have hti : tb ≠ im := fun e => by subst e; rw [h1] at h2; cases h2
  rw [cright_ref hl]
  have hml : m.length = (t.list zl 0).length + (u.list zl 0).length := by
    have := h4.length_eq
    simp only [List.length_map, LK] at this
    rw [this, LL_len]
  have pre : ∀ (G : S_api_Prefix → Option (Int × List HV)), (hn_allowed_Table h (some tb) >>= fun t13 => hn_M82 h t13.2.f_owners >>= fun t16 => G (mkP (mkA V l) b)) = G (mkP (mkA V l) b) := fun G => by
    rw [hn_allowed_Table_of h1, bindM_some]
    show (hn_M82 h (some im) >>= _) = _
    rw [hn_M82_of h2, bindM_some]
  unfold allowed_Table_Put
  rw [hm, bindM_some, if_neg (by decide), hn_allowed_Table_of h1, bindM_some]
  show (_ ∧ (hn_M82 h (some im) >>= _) = _) ∨ (_ ∧ _ ∧ _ ∧ (hn_M82 h (some im) >>= _) = _) ∨ (_ ∧ _ ∧ ∃ F x t' u' h' fp', _ ∧ _ ∧ _ ∧ (hn_M82 h (some im) >>= _) = _ ∧ _)
  rw [hn_M82_of h2, bindM_some, cright_code hl, bindM_some]
  cases hr : rightP V l b with
  | false =>
    left
    exact ⟨rfl, by rw [if_pos (by rfl)]⟩
  | true =>
    right
    rw [if_neg (by decide)]
    have hisk := mfind_key m (mkP (mkA V l) b)
    have hmem : mkP (mkA V l) b ∈ m.map Prod.fst ↔ mkP (mkA V l) b ∈ LK t u := h4.mem_iff
    -- what is done, if it is done
    have go : ∃ F x t' u' h' fp', x.1.length = 16 ∧ mkP (mkA V l) b = kp F x ∧ x.2.2 = o ∧ (allowed_Table_own (h.set im (.M82 (mput m (mkP (mkA V l) b) o))) (some tb) (mkA V l) >>= fun t26 => trie_Trie_Put (h.set im (.M82 (mput m (mkP (mkA V l) b) o))) t26 (mkP (mkA V l) b) o >>= fun t28 => some (t28.1, t28.2)) = some (0, h') ∧ Tb h' tb t' u' fp' ∧ GrT h h' (im :: k4 :: k6 :: (f4 ++ f6)) fp' ∧ Put F x t u t' u' := by
      let m' := mput m (mkP (mkA V l) b) o
      let hA := h.set im (.M82 m')
      have hA_other : ∀ j, j ≠ im → hA[j]? = h[j]? := fun j hj => List.getElem?_set_ne (Ne.symm hj)
      have him : im < h.length := (List.getElem?_eq_some_iff.1 h2).1
      have hA_im : hA[im]? = some (.M82 m') := List.getElem?_set_self him
      have hA_tb : hA[tb]? = some (.allowed_Table ⟨some im, some k4, some k6⟩) := (hA_other tb hti).trans h1
      have hlen : hA.length = h.length := by simp [hA]
      have hJA : J2 hA k4 k6 t u f4 f6 := j2_frame h3 fun j hj => hA_other j (by
        rintro rfl
        rcases hj with e | e | e | e
        · exact i1 e
        · exact i2 e
        · exact i3 e
        · exact i4 e)
      have hmp := mput_perm (P := mkP (mkA V l) b) (o := o) h4
      obtain ⟨n, rfl, hnw, hp⟩ := path_right hl hr
      have hbl := bf_lt l n 0
      have hbn := bf_len l n 0
      obtain ⟨⟨hrl, _, _⟩, _⟩ := rightP_iff.1 hr
      have hfam := right_cases hrl
      rw [own_at hA_tb, bindM_some]
      show ∃ F x t' u' h' fp', _ ∧ _ ∧ _ ∧ (trie_Trie_Put hA (if V = 4 then some k4 else some k6) (mkP (mkA V l) (n : Int)) o >>= _) = _ ∧ _
      rcases hfam with rfl | ⟨rfl, _⟩
      · obtain ⟨h', fp', q1, q2, q3⟩ := put_code hJA.b (by omega) hl hr hnw hp o
        have hlist := list_put o hJA.b.dok (wid_le 6) hbl (by rw [hbn]; exact hnw)
        rw [hp, hbn] at hlist
        have hJ' := hJA.swap6 q2 q3
        refine ⟨6, (l, n, o), t, _, h', im :: k4 :: k6 :: (f4 ++ fp'), hl, rfl, rfl, ?_, ⟨im, k4, k6, f4, fp', m', ?_, ?_, hJ', ?_, rfl⟩, ⟨by rw [← hlen]; exact q3.len, fun j hj hf => ?_, fun j hj => ?_⟩, .inr ⟨rfl, hlist, rfl⟩⟩
        · rw [if_neg (by decide), q1, bindM_some]
        · rw [q3.old tb (by rw [hlen]; exact (List.getElem?_eq_some_iff.1 h1).1) b2 b4]; exact hA_tb
        · rw [q3.old im (by rw [hlen]; exact him) i2 i4]; exact hA_im
        · refine hmp.trans ?_
          rw [LK_eq t ((u.ext (bf l 0 n)).put (bf l 0 n) true o), hlist]
          have hk := fin_keys (F := 6) (x := (l, n, o)) hl (list_len16 u) (srtT hJA.b)
          have hiff := mem_LK6 (t := t) (u := u) (x := (l, n, o)) hl
          have e0 : kp 6 (l, n, o) = mkP (mkA 6 l) (n : Int) := rfl
          rw [e0] at hiff hk
          by_cases hin : mkP (mkA 6 l) (n : Int) ∈ LK t u
          · rw [if_pos hin, LK_eq]
            rw [if_pos (hiff.1 hin)] at hk
            exact (hk.symm.append_left _)
          · rw [if_neg hin, LK_eq]
            rw [if_neg (fun g => hin (hiff.2 g))] at hk
            exact (List.perm_middle.symm.trans (hk.symm.append_left _))
        · simp only [List.mem_cons, List.mem_append, not_or] at hf
          rw [q3.old j (by rw [hlen]; exact hj) hf.2.2.1 hf.2.2.2.2, hA_other j hf.1]
        · simp only [List.mem_cons, List.mem_append] at hj ⊢
          rcases hj with e | e | e | e | e
          · exact .inl (.inl e)
          · exact .inl (.inr (.inl e))
          · exact .inl (.inr (.inr (.inl e)))
          · exact .inl (.inr (.inr (.inr (.inl e))))
          · rcases q3.new j e with e | e
            · exact .inl (.inr (.inr (.inr (.inr e))))
            · right; rw [← hlen]; exact e
      · obtain ⟨h', fp', q1, q2, q3⟩ := put_code hJA.a (by omega) hl hr hnw hp o
        have hlist := list_put o hJA.a.dok (wid_le 4) hbl (by rw [hbn]; exact hnw)
        rw [hp, hbn] at hlist
        have hJ' := hJA.swap4 q2 q3
        refine ⟨4, (l, n, o), _, u, h', im :: k4 :: k6 :: (fp' ++ f6), hl, rfl, rfl, ?_, ⟨im, k4, k6, fp', f6, m', ?_, ?_, hJ', ?_, rfl⟩, ⟨by rw [← hlen]; exact q3.len, fun j hj hf => ?_, fun j hj => ?_⟩, .inl ⟨rfl, hlist, rfl⟩⟩
        · rw [if_pos rfl, q1, bindM_some]
        · rw [q3.old tb (by rw [hlen]; exact (List.getElem?_eq_some_iff.1 h1).1) b1 b3]; exact hA_tb
        · rw [q3.old im (by rw [hlen]; exact him) i1 i3]; exact hA_im
        · refine hmp.trans ?_
          rw [LK_eq ((t.ext (bf l 0 n)).put (bf l 0 n) true o) u, hlist]
          have hk := fin_keys (F := 4) (x := (l, n, o)) hl (list_len16 t) (srtT hJA.a)
          have hiff := mem_LK4 (t := t) (u := u) (x := (l, n, o)) hl
          have e0 : kp 4 (l, n, o) = mkP (mkA 4 l) (n : Int) := rfl
          rw [e0] at hiff hk
          by_cases hin : mkP (mkA 4 l) (n : Int) ∈ LK t u
          · rw [if_pos hin, LK_eq]
            rw [if_pos (hiff.1 hin)] at hk
            exact (hk.symm.append_right _)
          · rw [if_neg hin, LK_eq]
            rw [if_neg (fun g => hin (hiff.2 g))] at hk
            exact (hk.symm.append_right _)
        · simp only [List.mem_cons, List.mem_append, not_or] at hf
          rw [q3.old j (by rw [hlen]; exact hj) hf.2.1 hf.2.2.2.1, hA_other j hf.1]
        · simp only [List.mem_cons, List.mem_append] at hj ⊢
          rcases hj with e | e | e | e | e
          · exact .inl (.inl e)
          · exact .inl (.inr (.inl e))
          · exact .inl (.inr (.inr (.inl e)))
          · rcases q3.new j e with e | e
            · exact .inl (.inr (.inr (.inr (.inl e))))
            · right; rw [← hlen]; exact e
          · exact .inl (.inr (.inr (.inr (.inr e))))
    by_cases hin : mkP (mkA V l) b ∈ LK t u
    · right
      rw [hisk, decide_eq_true (hmem.2 hin), if_neg (by decide)]
      refine ⟨rfl, .inl hin, ?_⟩
      obtain ⟨F, x, t', u', h', fp', z1, z2, z3, z4, z5⟩ := go
      refine ⟨F, x, t', u', h', fp', z1, z2, z3, ?_, z5⟩
      rw [bindM_some]
      show (hn_M82 h (some im) >>= _) = _
      rw [hn_M82_of h2, bindM_some]
      exact z4
    · rw [hisk, decide_eq_false (fun g => hin (hmem.1 g)), if_pos (by rfl), bindM_some]
      show (_ ∧ _ ∧ _ ∧ (hn_M82 h (some im) >>= _) = _) ∨ (_ ∧ _ ∧ ∃ F x t' u' h' fp', _ ∧ _ ∧ _ ∧ (hn_M82 h (some im) >>= _) = _ ∧ _)
      rw [hn_M82_of h2, bindM_some]
      by_cases h64 : 64 ≤ (t.list zl 0).length + (u.list zl 0).length
      · left
        rw [if_pos (by rw [decide_eq_true_eq, hml]; omega)]
        exact ⟨rfl, hin, h64, rfl⟩
      · right
        rw [if_neg (by rw [decide_eq_true_eq, hml]; omega), bindM_some]
        refine ⟨rfl, .inr (by omega), ?_⟩
        obtain ⟨F, x, t', u', h', fp', z1, z2, z3, z4, z5⟩ := go
        refine ⟨F, x, t', u', h', fp', z1, z2, z3, ?_, z5⟩
        show (hn_M82 h (some im) >>= _) = _
        rw [hn_M82_of h2, bindM_some]
        exact z4
end Go.Proofs.Ythccncpephpdjaa.Alw
namespace Go.Proofs.Ythccncpephpdjaa.Alw
open E Go.RowKit
open Adr Cid Tri
variable {h : List HV} {tb : Nat} {t u : Tri.T} {fp : List Nat}
def In (t u : Tri.T) (g : G) : Prop := (g.1 = 4 ∧ g.2 ∈ t.list zl 0) ∨ (g.1 = 6 ∧ g.2 ∈ u.list zl 0)
abbrev nl : Tri.T := .nd false 0 .nil .nil
theorem nl_list : nl.list zl 0 = [] := rfl
theorem new_codeT (h : List HV) : ∃ h' tb fp, allowed_New h = some (some tb, h') ∧ Tb h' tb nl nl fp ∧ h.length ≤ h'.length ∧ h.length ≤ tb ∧ (∀ j ∈ fp, h.length ≤ j) ∧ ∀ j, j < h.length → h'[j]? = h[j]? := by
  let hA := h ++ [HV.M82 []]
  obtain ⟨h1, e1, j1, n1, o1⟩ := new_code (F := 4) hA (.inl rfl)
  obtain ⟨h2, e2, j2, n2, o2⟩ := new_code (F := 6) h1 (.inr rfl)
  have nA : hA.length = h.length + 1 := by simp [hA]
  let z : S_allowed_Table := ⟨some h.length, some (hA.length + 1), some (h1.length + 1)⟩
  let h' := h2 ++ [HV.allowed_Table z]
  have eA : hA[h.length]? = some (.M82 []) := by simp [hA]
  have em : h2[h.length]? = some (.M82 []) := by rw [o2 _ (by omega), o1 _ (by omega)]; exact eA
  have hv : hvp hK h2 (HV.allowed_Table z) = true := by
    simp [hvp, hK, vp, z]; omega
  have hJ : J2 h2 (hA.length + 1) (h1.length + 1) nl nl [hA.length] [h1.length] :=
    ⟨j1.frame (o2 _ (by omega)) fun i hi => o2 i (by simp at hi; omega), j2, by omega, by simp; omega, by simp; omega, by simp; omega⟩
  have hlen' : h'.length = h2.length + 1 := by simp [h']
  have old : ∀ j, j < h2.length → h'[j]? = h2[j]? := fun j hj => List.getElem?_append_left hj
  refine ⟨h', h2.length, h.length :: (hA.length + 1) :: (h1.length + 1) :: ([hA.length] ++ [h1.length]), ?_, ⟨h.length, hA.length + 1, h1.length + 1, [hA.length], [h1.length], [], ?_, ?_, ?_, ?_, rfl⟩, by omega, by omega, ?_, fun j hj => ?_⟩
  · unfold allowed_New
    show (trie_New hA 4 >>= _) = _
    rw [e1, bindM_some]
    show (if vp hA.length (some h.length) = true then (trie_New h1 6 >>= _) else none) = _
    rw [if_pos (by simp [vp]; omega), e2, bindM_some]
    show (if vp h1.length (some h.length) = true then (if vp h1.length (some (hA.length + 1)) = true then (if hvp hK h2 (HV.allowed_Table z) = true then some (some h2.length, h') else none) else none) else none) = _
    rw [if_pos (by simp [vp]; omega), if_pos (by simp [vp]; omega), if_pos hv]
  · simp [h', z]
  · rw [old _ (by omega)]; exact em
  · exact j2_frame hJ fun j hj => old j (by simp at hj; omega)
  · exact .refl _
  · intro j hj
    simp at hj
    omega
  · rw [old j (by omega), o2 j (by omega), o1 j (by omega)]
    exact List.getElem?_append_left hj
theorem Tb.srt (hT : Tb h tb t u fp) : Srt (t.list zl 0) ∧ Srt (u.list zl 0) := by
  obtain ⟨_, _, _, _, _, _, _, _, a, _⟩ := hT.ex
  exact ⟨srtT a.a, srtT a.b⟩
end Go.Proofs.Ythccncpephpdjaa.Alw
namespace Go.Proofs.Ythccncpephpdjaa.Alw
open E Go.RowKit
open Adr Cid Tri
variable {h : List HV} {tb : Nat} {t u : Tri.T} {fp : List Nat}
def m1 : List UInt8 := [10, 0, 0, 0, 0, 0, 0, 0, 0, 0, 0, 0, 0, 0, 0, 0]
def m2 : List UInt8 := [10, 9, 9, 9, 0, 0, 0, 0, 0, 0, 0, 0, 0, 0, 0, 0]
theorem w1 : vset (Vector.replicate 16 (0 : Int) : (Vector Int 16)) 0 10 = vb m1 := by decide +kernel
theorem w2 : vset (vset (vset (vset (Vector.replicate 16 (0 : Int) : (Vector Int 16)) 0 10) 1 9) 2 9) 3 9 = vb m2 := by decide +kernel
/-- A put of a right prefix of four bytes, where there is room. -/
theorem tput4 (hT : Tb h tb t u fp) (hn : (t.list zl 0).length + (u.list zl 0).length ≤ 64) {l : List UInt8} {n : Nat} (hl : l.length = 16) (hr : rightP 4 l (n : Int) = true) (o : Int) (hroom : (∃ y ∈ t.list zl 0, key y (l, n, o)) ∨ (t.list zl 0).length + (u.list zl 0).length < 64) :
    ∃ t' h' fp', allowed_Table_Put h (some tb) (mkP (mkA 4 l) (n : Int)) o = some (0, h') ∧ Tb h' tb t' u fp' ∧ GrT h h' fp fp' ∧ t'.list zl 0 = fin (l, n, o) (t.list zl 0) false := by
  have hR : crawlwayref11_Right (mkP (mkA 4 l) (n : Int)) = some true := by rw [cright_ref hl, hr]
  have e0 : mkP (mkA 4 l) (n : Int) = kp 4 (l, n, o) := rfl
  have hiff := mem_LK4 (t := t) (u := u) (x := (l, n, o)) hl
  rcases tput hT hn hl o with ⟨a, _⟩ | ⟨_, b1, b2, _⟩ | ⟨_, _, F, x, t', u', h', fp', c1, c2, c3, c4, c5, c6, c7⟩
  · rw [hR] at a; cases a
  · rcases hroom with q | q
    · exact absurd (hiff.2 q) b1
    · omega
  · rw [e0] at c2
    obtain ⟨rfl, k1, k2⟩ := kp_fam hl c1 c2
    have hx : x = (l, n, o) := by
      obtain ⟨x1, x2, x3⟩ := x
      simp only at k1 k2 c3
      rw [← k1, ← k2, c3]
    subst hx
    rcases c7 with ⟨_, a, rfl⟩ | ⟨a, _⟩
    · exact ⟨t', h', fp', c4, c5, c6, a⟩
    · omega
theorem alive26 : crawlwaylaw26_alive = some true := by
  obtain ⟨h0, tb, f0, e0, T0, _, _, _, _⟩ := new_codeT ([] : List HV)
  obtain ⟨t1, h1, f1, e1, T1, _, l1⟩ := tput4 T0 (by rw [nl_list]; decide) (show m1.length = 16 from rfl) (n := 8) (by decide +kernel) 1 (.inr (by rw [nl_list]; decide))
  rw [nl_list] at l1
  have l1' : t1.list zl 0 = [(m1, 8, 1)] := l1
  obtain ⟨t2, h2, f2, e2, T2, _, l2⟩ := tput4 T1 (by rw [l1', nl_list]; decide) (show m1.length = 16 from rfl) (n := 8) (by decide +kernel) 2 (.inr (by rw [l1', nl_list]; decide))
  rw [l1'] at l2
  have l2' : t2.list zl 0 = [(m1, 8, 2)] := by rw [l2]; decide +kernel
  have hL : LL t2 nl = [toE 4 (m1, 8, 2)] := by unfold LL; rw [l2', nl_list]; rfl
  obtain ⟨e, is, f3, f4⟩ := find_codeT (V := 4) (a := m2) T2 (by rw [l2', nl_list]; decide) rfl
  have h3 := len_codeT T2
  have h4 := of_codeT T2 (by rw [l2', nl_list]; decide) 1
  rw [hL] at h3 h4 f4
  have hfr := find_ref (F := 4) (V := 4) (a := m2) (X := [(m1, 8, (2 : Int))]) rfl (by intro x hx; simp at hx; subst hx; rfl) (by decide)
  have e6 : [(m1, 8, (2 : Int))].foldl (fstep 4 4 m2) (false, Tri.zE) = (true, toE 4 (m1, 8, 2)) := by
    have a1 : hasT 4 (m1, 8, 2) 4 m2 = true := by decide +kernel
    have s1 : fstep 4 4 m2 (false, Tri.zE) (m1, 8, 2) = (true, toE 4 (m1, 8, 2)) := by
      unfold fstep
      rw [if_pos a1, if_pos (Or.inl rfl)]
    rw [List.foldl_cons, List.foldl_nil, s1]
  rw [e6] at hfr
  rw [show [toE 4 (m1, 8, 2)] = [(m1, 8, (2 : Int))].map (toE 4) from rfl, hfr] at f4
  cases f4
  have v0 : vp h0.length (some tb) = true := by simp only [vp, decide_eq_true_eq]; exact T0.lt
  have v1 : vp h1.length (some tb) = true := by simp only [vp, decide_eq_true_eq]; exact T1.lt
  unfold crawlwaylaw26_alive
  simp only [w1, w2]
  rw [e0, bindM_some, if_neg (by simp)]
  show (allowed_Table_Put h0 (some tb) (mkP (mkA 4 m1) ((8 : Nat) : Int)) 1 >>= _) = _
  rw [e1, bindM_some]
  show (if vp h0.length (some tb) = true then (allowed_Table_Put h1 (some tb) (mkP (mkA 4 m1) ((8 : Nat) : Int)) 2 >>= _) else none) = _
  rw [if_pos v0, e2, bindM_some]
  show (if vp h1.length (some tb) = true then (allowed_Table_Find h2 (some tb) (mkA 4 m2) >>= _) else none) = _
  rw [if_pos v1, f3, bindM_some]
  show (if true = true then (if ((2 : Int) == 2) = true then (allowed_Table_Len h2 (some tb) >>= fun t20 => if (t20 == 1) = true then (allowed_Table_Of h2 (some tb) 1 >>= fun t22 => some ((t22.length : Int) == 0)) else (some false)) else (some false)) else (some false)) = _
  rw [if_pos rfl, if_pos (by decide), h3, bindM_some, if_pos (by decide), h4, bindM_some]
  have : ofL [toE 4 (m1, 8, 2)] 1 = [] := by decide +kernel
  rw [this]; rfl
theorem alive_then26 : (crawlwaylaw26_alive >>= fun t => some t) = some true := by rw [alive26]; rfl
end Go.Proofs.Ythccncpephpdjaa.Alw
namespace Go.Proofs.Ythccncpephpdjaa.Alw
open E Go.RowKit
open Adr Cid Tri
def lf (n : Nat) : List UInt8 := [10, 0, 0, UInt8.ofNat n, 0, 0, 0, 0, 0, 0, 0, 0, 0, 0, 0, 0]
theorem lf_v : ∀ i : Fin 80, vset (vset (vset (vset (Vector.replicate 16 (0 : Int) : (Vector Int 16)) 0 10) 1 0) 2 0) 3 (wr .u8 ((i.val : Nat) : Int)) = vb (lf i.val) := by decide +kernel
theorem lf_v0 : vset (vset (vset (vset (Vector.replicate 16 (0 : Int) : (Vector Int 16)) 0 10) 1 0) 2 0) 3 0 = vb (lf 0) := by decide +kernel
theorem lf_r : ∀ i : Fin 80, rightP 4 (lf i.val) ((32 : Nat) : Int) = true := by decide +kernel
theorem lf_inj {i j : Nat} (hi : i < 80) (hj : j < 80) (h : lf i = lf j) : i = j := by
  simp only [lf, List.cons.injEq, true_and, and_true] at h
  have := congrArg UInt8.toNat h
  simp only [UInt8.toNat_ofNat'] at this
  omega
structure Inv (tb i : Nat) (h : List HV) (t u : Tri.T) (fp : List Nat) : Prop where
  T : Tb h tb t u fp
  n : (t.list zl 0).length = min i 64
  u : u.list zl 0 = []
  m : ∀ x ∈ t.list zl 0, x.2.1 = 32 ∧ ∃ j, j < min i 64 ∧ x.1 = lf j
  z : 0 < i → ∃ y ∈ t.list zl 0, y.1 = lf 0
theorem full_loop {n : Nat} (hn : n ≤ 80) (o : Int) (tb : Nat) (h0 : List HV) : ∀ (k i : Nat) (h : List HV) (t u : Tri.T) (fp : List Nat), i + k = n → Inv tb i h t u fp →
    ∃ h' t' u' fp', crawlwaylaw26_AllowedFull.l0 (n : Int) o (some tb, h0) (i : Int) h = some (.nx h') ∧ Inv tb n h' t' u' fp'
  | 0, i, h, t, u, fp, hi, hI => ⟨h, t, u, fp, by rw [crawlwaylaw26_AllowedFull.l0.eq_def, if_neg (by rw [decide_eq_true_eq]; omega)], (show i = n by omega) ▸ hI⟩
  | k + 1, i, h, t, u, fp, hi, hI => by
    have hT := hI.T
    have hv : vp h.length (some tb) = true := by simp only [vp, decide_eq_true_eq]; exact hT.lt
    have hlen : (lf i).length = 16 := rfl
    have hr := lf_r ⟨i, by omega⟩
    have hu0 : (u.list zl 0).length = 0 := by rw [hI.u]; rfl
    have hcnt : (t.list zl 0).length + (u.list zl 0).length ≤ 64 := by rw [hI.n, hu0]; omega
    have hnew : ¬ ∃ y ∈ t.list zl 0, key y (lf i, 32, o) := by
      rintro ⟨y, hy, hk⟩
      obtain ⟨_, j, hj, e⟩ := hI.m y hy
      have := lf_inj (by omega) (by omega) (e.symm.trans hk.1)
      omega
    have hval := lf_v ⟨i, by omega⟩
    by_cases h64 : i < 64
    · obtain ⟨t', h', fp', e1, T1, G1, l1⟩ := tput4 hT hcnt hlen (n := 32) hr o (.inr (by rw [hI.n, hu0]; omega))
      have hln : Ln (t.list zl 0) := list_len16 t
      have hlen' : (t'.list zl 0).length = min (i + 1) 64 := by
        have p := (fin_keys (F := 4) (x := (lf i, 32, o)) hlen hln hT.srt.1).length_eq
        rw [if_neg hnew] at p
        simp only [List.length_map, List.length_cons] at p
        rw [l1, p, hI.n]; omega
      have I' : Inv tb (i + 1) h' t' u fp' := ⟨T1, hlen', hI.u, fun x hx => by
          rw [l1, fin_false] at hx
          rcases hx with ⟨hx, _⟩ | rfl
          · obtain ⟨a, j, b, c⟩ := hI.m x hx
            exact ⟨a, j, by omega, c⟩
          · exact ⟨rfl, i, by omega, rfl⟩, fun _ => by
          by_cases hi0 : i = 0
          · subst hi0
            exact ⟨(lf 0, 32, o), by rw [l1, fin_false]; exact .inr rfl, rfl⟩
          · obtain ⟨y, hy, e⟩ := hI.z (by omega)
            refine ⟨y, ?_, e⟩
            rw [l1, fin_false]
            exact .inl ⟨hy, fun hk => hnew ⟨y, hy, hk⟩⟩⟩
      obtain ⟨h2, t2, u2, f2, z1, z2⟩ := full_loop hn o tb h0 k (i + 1) h' t' u fp' (by omega) I'
      refine ⟨h2, t2, u2, f2, ?_, z2⟩
      rw [crawlwaylaw26_AllowedFull.l0.eq_def, if_pos (by rw [decide_eq_true_eq]; omega), hval]
      show (allowed_Table_Put h (some tb) (mkP (mkA 4 (lf i)) ((32 : Nat) : Int)) o >>= _) = _
      rw [e1, bindM_some, if_pos hv]
      have hd : decide ((i : Int) < 64) = true := decide_eq_true (by omega)
      rw [hd, if_neg (by simp), if_neg (by simp), wr1 (by omega)]
      exact z1
    · have I' : Inv tb (i + 1) h t u fp := ⟨hT, by rw [hI.n]; omega, hI.u, fun x hx => by
          obtain ⟨a, j, b, c⟩ := hI.m x hx
          exact ⟨a, j, by omega, c⟩, fun _ => hI.z (by omega)⟩
      obtain ⟨h2, t2, u2, f2, z1, z2⟩ := full_loop hn o tb h0 k (i + 1) h t u fp (by omega) I'
      have e0 : mkP (mkA 4 (lf i)) ((32 : Nat) : Int) = kp 4 (lf i, 32, o) := rfl
      have hR : crawlwayref11_Right (mkP (mkA 4 (lf i)) ((32 : Nat) : Int)) = some true := by rw [cright_ref hlen, hr]
      have hput : allowed_Table_Put h (some tb) (mkP (mkA 4 (lf i)) ((32 : Nat) : Int)) o = some (7, h) := by
        rcases tput hT hcnt (V := 4) (b := ((32 : Nat) : Int)) hlen o with ⟨a, _⟩ | ⟨_, _, _, b⟩ | ⟨_, b, _⟩
        · rw [hR] at a; cases a
        · exact b
        · rcases b with b | b
          · rw [e0] at b
            exact absurd ((mem_LK4 hlen).1 b) hnew
          · rw [hI.n, hu0] at b; omega
      refine ⟨h2, t2, u2, f2, ?_, z2⟩
      rw [crawlwaylaw26_AllowedFull.l0.eq_def, if_pos (by rw [decide_eq_true_eq]; omega), hval]
      show (allowed_Table_Put h (some tb) (mkP (mkA 4 (lf i)) ((32 : Nat) : Int)) o >>= _) = _
      rw [hput, bindM_some, if_pos hv]
      have hd : decide ((i : Int) < 64) = false := decide_eq_false (by omega)
      rw [hd, if_neg (by simp), if_pos (by simp), if_neg (by simp), wr1 (by omega)]
      exact z1
theorem AllowedFull_pure (a0 : Int) (w0 : (Lit.int .i64 a0).wf = true) (a1 : Int) (w1 : (Lit.int .i64 a1).wf = true) : crawlwaylaw26_AllowedFull a0 a1 = some true := by
  unfold crawlwaylaw26_AllowedFull
  by_cases hn : a0 < 0
  · rw [if_pos (decide_eq_true hn), alive_then26]
  by_cases hm : a0 > 80
  · rw [if_neg (by rw [decide_eq_true_eq]; exact hn), if_pos (decide_eq_true hm), alive_then26]
  rw [if_neg (by rw [decide_eq_true_eq]; exact hn), if_neg (by rw [decide_eq_true_eq]; exact hm)]
  obtain ⟨n, rfl⟩ : ∃ n : Nat, a0 = (n : Int) := ⟨a0.toNat, by omega⟩
  obtain ⟨h0, tb, f0, e0, T0, _⟩ := new_codeT ([] : List HV)
  obtain ⟨h1, t, u, fp, e1, I1⟩ := full_loop (n := n) (by omega) a1 tb h0 n 0 h0 nl nl f0 (by omega) ⟨T0, by rw [nl_list]; rfl, nl_list, by simp [nl_list], by omega⟩
  have hu0 : (u.list zl 0).length = 0 := by rw [I1.u]; rfl
  rw [e0, bindM_some, if_neg (by simp)]
  rw [show (0 : Int) = ((0 : Nat) : Int) from rfl]
  show (crawlwaylaw26_AllowedFull.l0 (n : Int) a1 (some tb, h0) ((0 : Nat) : Int) h0 >>= _) = _
  rw [e1, bindM_some]
  show (if ((n : Int) == 0) = true then (allowed_Table_Len h1 (some tb) >>= fun t23 => if (t23 == 0) = true then (crawlwaylaw26_alive >>= fun t25 => some t25) else (some false)) else _) = _
  by_cases hz : n = 0
  · subst hz
    rw [if_pos (by rfl), len_codeT I1.T, bindM_some, LL_len, I1.n, hu0, if_pos (by rfl)]
    exact alive_then26
  · rw [if_neg (by simp; omega)]
    obtain ⟨y, hy, ey⟩ := I1.z (by omega)
    obtain ⟨y2, _⟩ := I1.m y hy
    have hin : ∃ y ∈ t.list zl 0, key y (lf 0, 32, (5 : Int)) := ⟨y, hy, ey, y2⟩
    have hcnt : (t.list zl 0).length + (u.list zl 0).length ≤ 64 := by rw [I1.n, hu0]; omega
    obtain ⟨t', h', fp', q1, T1, G1, l1⟩ := tput4 I1.T hcnt (l := lf 0) rfl (n := 32) (lf_r ⟨0, by decide⟩) 5 (.inl hin)
    have hlen' : (t'.list zl 0).length = min n 64 := by
      have p := (fin_keys (F := 4) (x := (lf 0, 32, (5 : Int))) rfl (list_len16 t) I1.T.srt.1).length_eq
      rw [if_pos hin] at p
      simp only [List.length_map] at p
      rw [l1, p, I1.n]
    have hv : vp h1.length (some tb) = true := by simp only [vp, decide_eq_true_eq]; exact I1.T.lt
    show (allowed_Table_Put h1 (some tb) ({ f_A := { f_V := 4, f_B := vset (vset (vset (vset (Vector.replicate 16 (0 : Int) : (Vector Int 16)) 0 10) 1 0) 2 0) 3 0 }, f_Bits := 32 } : S_api_Prefix) 5 >>= _) = _
    rw [lf_v0]
    show (allowed_Table_Put h1 (some tb) (mkP (mkA 4 (lf 0)) ((32 : Nat) : Int)) 5 >>= _) = _
    rw [q1, bindM_some, if_pos hv, if_pos (by rfl), len_codeT T1, bindM_some, LL_len, hlen', hu0]
    have : ((((min n 64) + 0 : Nat) : Int) == (if (64 : Int) < (n : Int) then 64 else (n : Int))) = true := by
      rw [beq_iff_eq]
      split <;> omega
    rw [if_pos this]
    exact alive_then26
end Go.Proofs.Ythccncpephpdjaa.Alw
