/- Texts of this claim, those in one that belong together; printed by a program of this project. -/
import Derived.Lib.IndexLaws
import Derived.Lib.IndexMore
import Derived.Test.YtkkmmpofdcccmaaGreatDoorKFieldReads4
set_option linter.unusedVariables false
set_option linter.unusedSimpArgs false
namespace Go.Proofs.YtkkmmpofdcccmaaGreatDoor.Adr
open E Go.RowKit
theorem width_ref {V : Int} {l : List UInt8} (hl : l.length = 16) : crawlwayref10_Width (mkA V l) = some ((widthL V l : Nat) : Int) := by
  unfold crawlwayref10_Width widthL
  rw [right_ref hl, bindM_some]
  cases rightL V l
  · rfl
  · show (if (V == 4) = true then some (32 : Int) else some 128) = _
    by_cases h : V = 4
    · rw [if_pos (by simpa using h), if_pos rfl, if_pos h]; rfl
    · rw [if_neg (by simpa using h), if_pos rfl, if_neg h]; rfl
def mb (b : UInt8) (k : Nat) : UInt8 := UInt8.ofNat (b.toNat - b.toNat % 2 ^ (8 - k))
theorem mb_fin : ∀ (b : Fin 256) (k : Fin 9), iand .u8 ((b.val : Nat) : Int) (ishl .u8 255 ((8 - k.val : Nat) : Int)) = ((b.val - b.val % 2 ^ (8 - k.val) : Nat) : Int) := by decide +kernel
theorem mb_toNat (b : UInt8) (k : Nat) : (mb b k).toNat = b.toNat - b.toNat % 2 ^ (8 - k) := by
  unfold mb
  have := b.toNat_lt
  rw [UInt8.toNat_ofNat', Nat.mod_eq_of_lt (by omega)]
theorem mb_code (b : UInt8) (k : Nat) (hk : k ≤ 8) : iand .u8 (b.toNat : Int) (ishl .u8 255 ((8 - k : Nat) : Int)) = ((mb b k).toNat : Int) := by
  rw [mb_toNat]
  exact mb_fin ⟨b.toNat, b.toNat_lt⟩ ⟨k, by omega⟩
theorem mb_zero (b : UInt8) : mb b 0 = 0 := by
  apply UInt8.toNat.inj
  have := b.toNat_lt
  rw [mb_toNat, show 2 ^ (8 - 0) = 256 from rfl, Nat.mod_eq_of_lt (by omega), Nat.sub_self]; rfl
theorem mb_of_zero (k : Nat) : mb 0 k = 0 := by
  apply UInt8.toNat.inj
  rw [mb_toNat, show (0 : UInt8).toNat = 0 from rfl, Nat.zero_mod]
theorem mb_step_fin : ∀ (b : Fin 256) (k : Fin 8), b.val - b.val % 2 ^ (8 - (k.val + 1)) = b.val - b.val % 2 ^ (8 - k.val) + (b.val / 2 ^ (7 - k.val) % 2) * (128 / 2 ^ k.val) := by decide +kernel
theorem mb_step (b : UInt8) (k : Nat) (hk : k < 8) : (mb b (k + 1)).toNat = (mb b k).toNat + (b.toNat / 2 ^ (7 - k) % 2) * (128 / 2 ^ k) := by
  rw [mb_toNat, mb_toNat]
  exact mb_step_fin ⟨b.toNat, b.toNat_lt⟩ ⟨k, hk⟩
theorem mb_idem_fin : ∀ (b : Fin 256) (k : Fin 9), (b.val - b.val % 2 ^ (8 - k.val)) - (b.val - b.val % 2 ^ (8 - k.val)) % 2 ^ (8 - k.val) = b.val - b.val % 2 ^ (8 - k.val) := by decide +kernel
theorem mb_idem (b : UInt8) (k : Nat) (hk : k ≤ 8) : mb (mb b k) k = mb b k := by
  apply UInt8.toNat.inj
  rw [mb_toNat, mb_toNat]
  exact mb_idem_fin ⟨b.toNat, b.toNat_lt⟩ ⟨k, by omega⟩
/-- How many of a byte's first bits stay. -/
def lft (bits : Int) (q : Nat) : Nat := (min (max (bits - 8 * (q : Int)) 0) 8).toNat
theorem lft_le (bits : Int) (q : Nat) : lft bits q ≤ 8 := by unfold lft; omega
def mfull (l : List UInt8) (bits : Int) : List UInt8 := l.mapIdx fun q b => mb b (lft bits q)
theorem mfull_len (l : List UInt8) (bits : Int) : (mfull l bits).length = l.length := by simp [mfull]
theorem mfull_get (l : List UInt8) (bits : Int) (i : Nat) : (mfull l bits)[i]? = (l[i]?).map fun b => mb b (lft bits i) := by
  unfold mfull; rw [List.getElem?_mapIdx]
theorem set_step {α : Type} (A l : List α) (i : Nat) (x : α) (hA : A.length = l.length) (hx : A[i]? = some x) : (A.take i ++ l.drop i).set i x = A.take (i + 1) ++ l.drop (i + 1) := by
  have hi : i < A.length := (List.getElem?_eq_some_iff.1 hx).1
  apply List.ext_getElem?
  intro j
  have h1 : (A.take i).length = i := by simp; omega
  have h2 : (A.take (i + 1)).length = i + 1 := by simp; omega
  rw [List.getElem?_set]
  by_cases hj : i = j
  · subst hj
    have hl : i < (A.take i ++ l.drop i).length := by simp; omega
    rw [if_pos rfl, if_pos hl, List.getElem?_append_left (by omega), List.getElem?_take, if_pos (by omega), hx]
  · rw [if_neg hj]
    by_cases hlt : j < i
    · rw [List.getElem?_append_left (by omega), List.getElem?_append_left (by omega), List.getElem?_take, List.getElem?_take, if_pos hlt, if_pos (by omega)]
    · rw [List.getElem?_append_right (by omega), List.getElem?_append_right (by omega), List.getElem?_drop, List.getElem?_drop, h1, h2]
      congr 1; omega
theorem lft_code (bits : Int) (hb : -9223372036854775808 ≤ bits ∧ bits < 9223372036854775808) (i : Nat) (hi : i < 16) (h0 : ¬ bits < 0) :
    (if 8 < (if wr .i64 (bits - (wr .i64 (8 * (i : Int)))) < 0 then 0 else wr .i64 (bits - (wr .i64 (8 * (i : Int))))) then 8 else (if wr .i64 (bits - (wr .i64 (8 * (i : Int)))) < 0 then 0 else wr .i64 (bits - (wr .i64 (8 * (i : Int)))))) = ((lft bits i : Nat) : Int) := by
  have e1 : wr .i64 (8 * (i : Int)) = 8 * (i : Int) := wr_i64 (by omega) (by omega)
  rw [e1, wr_i64 (by omega) (by omega)]
  unfold lft
  by_cases h1 : bits - 8 * (i : Int) < 0
  · rw [if_pos h1]; split <;> omega
  · rw [if_neg h1]; split <;> omega
theorem mask_loop (V bits : Int) (l : List UInt8) (hl : l.length = 16) (hb : -9223372036854775808 ≤ bits ∧ bits < 9223372036854775808) : ∀ (k i : Nat), i + k = 16 →
    addr_Mask.l0 bits (i : Int) (mkA V ((mfull l bits).take i ++ l.drop i)) = some (mkA V (mfull l bits)) := by
  have hml := mfull_len l bits
  intro k
  induction k with
  | zero =>
    intro i hi
    have hz : decide ((i : Int) < 16) = false := decide_eq_false (by omega)
    rw [addr_Mask.l0.eq_def, hz, if_neg Bool.false_ne_true, List.drop_eq_nil_of_le (by omega), List.append_nil, List.take_of_length_le (by omega)]
  | succ k ih =>
    intro i hi
    have hz : decide ((i : Int) < 16) = true := decide_eq_true (by omega)
    have hc : l[i]? = some l[i] := List.getElem?_eq_getElem (by omega)
    generalize hcc : l[i] = c at hc
    have hAlen : ((mfull l bits).take i ++ l.drop i).length = 16 := by simp; omega
    have hAi : ((mfull l bits).take i ++ l.drop i)[i]? = some c := by
      rw [List.getElem?_append_right (by simp; omega), List.getElem?_drop]
      have : i + (i - ((mfull l bits).take i).length) = i := by simp; omega
      rw [this, hc]
    have hg : (0 : Int) ≤ (i : Int) ∧ (i : Int) < 16 := by omega
    have hv : vget (vb ((mfull l bits).take i ++ l.drop i)) (i : Int) = (c.toNat : Int) := by rw [vget_vb hAlen i (by omega), bg_get hAi]
    have hstep := set_step (mfull l bits) l i (mb c (lft bits i)) hml (by rw [mfull_get, hc]; rfl)
    have hle := lft_le bits i
    have hset : ∀ s : Int, s = ((8 - lft bits i : Nat) : Int) → ({ mkA V ((mfull l bits).take i ++ l.drop i) with f_B := vset (vb ((mfull l bits).take i ++ l.drop i)) (i : Int) (iand .u8 (vget (vb ((mfull l bits).take i ++ l.drop i)) (i : Int)) (ishl .u8 255 s)) } : S_api_Addr) =
        mkA V ((mfull l bits).take (i + 1) ++ l.drop (i + 1)) := fun s hs => by
      rw [hs, hv, mb_code c _ hle, vset_vb hAlen, hstep]; rfl
    have e8 : wr .u64 (wr .i64 (8 - ((lft bits i : Nat) : Int))) = ((8 - lft bits i : Nat) : Int) := by
      rw [wr_i64 (by omega) (by omega), wr_u64 (by omega) (by omega)]; omega
    have hn : (0 : Int) ≤ ((8 - lft bits i : Nat) : Int) := by omega
    have hi1 : wr .i64 ((i : Int) + 1) = ((i + 1 : Nat) : Int) := by rw [wr_i64 (by omega) (by omega)]; omega
    rw [addr_Mask.l0.eq_def, hz, if_pos rfl]
    by_cases h0 : bits < 0
    · have hl0 : lft bits i = 0 := by unfold lft; omega
      have e80 : wr .u64 (wr .i64 (8 - 0)) = ((8 - lft bits i : Nat) : Int) := by rw [hl0]; rfl
      rw [if_pos (decide_eq_true h0), if_pos hg, e80, if_pos hn, if_pos hg, hi1]
      have := hset _ rfl
      rw [show (mkA V ((mfull l bits).take i ++ l.drop i)).f_B = vb ((mfull l bits).take i ++ l.drop i) from rfl, this]
      exact ih (i + 1) (by omega)
    · rw [if_neg (by rw [decide_eq_true_eq]; exact h0), if_pos hg, lft_code bits hb i (by omega) h0, e8, if_pos hn, if_pos hg, hi1]
      have := hset _ rfl
      rw [show (mkA V ((mfull l bits).take i ++ l.drop i)).f_B = vb ((mfull l bits).take i ++ l.drop i) from rfl, this]
      exact ih (i + 1) (by omega)
def maskA (V : Int) (l : List UInt8) (bits : Int) : S_api_Addr := if rightL V l = true then mkA V (mfull l bits) else mkA 0 (List.replicate 16 0)
theorem mask_code {V bits : Int} {l : List UInt8} (hl : l.length = 16) (hb : -9223372036854775808 ≤ bits ∧ bits < 9223372036854775808) : addr_Mask (mkA V l) bits = some (maskA V l bits) := by
  unfold addr_Mask maskA
  rw [right_code hl, bindM_some]
  cases rightL V l
  · show some _ = _
    rw [zero_mkA]; rfl
  · have h := mask_loop V bits l hl hb 16 0 rfl
    rw [List.take_zero, List.nil_append, List.drop_zero, show ((0 : Nat) : Int) = 0 from rfl] at h
    show (addr_Mask.l0 bits 0 (mkA V l) >>= fun q5 => some q5) = _
    rw [h]; rfl
def bit (l : List UInt8) (i : Nat) : Nat := bg l (i / 8) / 2 ^ (7 - i % 8) % 2
theorem digit_loop (i : Nat) (hi : i < 9223372036854775808) : ∀ (k n : Nat), n < 256 → i % 8 + k ≤ 7 → crawlwayref10_digit.l0 (i : Int) (n : Int) ((i % 8 + k : Nat) : Int) = some ((n / 2 ^ k : Nat) : Int) := by
  intro k
  have hm : Int.tmod (i : Int) 8 = ((i % 8 : Nat) : Int) := by rw [Int.tmod_eq_emod_of_nonneg (by omega)]; omega
  induction k with
  | zero =>
    intro n hn hk
    rw [crawlwayref10_digit.l0.eq_def, hm, if_neg (by rw [decide_eq_true_eq]; omega), Nat.pow_zero, Nat.div_one]
  | succ k ih =>
    intro n hn hk
    have e1 : wr .i64 (Int.tdiv (n : Int) 2) = ((n / 2 : Nat) : Int) := by
      have : Int.tdiv (n : Int) 2 = ((n / 2 : Nat) : Int) := by rw [Int.tdiv_eq_ediv_of_nonneg (by omega)]; omega
      rw [this, wr_i64 (by omega) (by omega)]
    have e2 : wr .i64 (((i % 8 + (k + 1) : Nat) : Int) - 1) = ((i % 8 + k : Nat) : Int) := by rw [wr_i64 (by omega) (by omega)]; omega
    rw [crawlwayref10_digit.l0.eq_def, hm, if_pos (decide_eq_true (by omega)), e1, e2, ih (n / 2) (by omega) (by omega), Nat.div_div_eq_div_mul]
    rw [Nat.pow_succ, Nat.mul_comm]
theorem digit_ref {V : Int} {l : List UInt8} (hl : l.length = 16) (i : Nat) (hi : i < 128) : crawlwayref10_digit (mkA V l) (i : Int) = some ((bit l i : Nat) : Int) := by
  have hd : wr .i64 (Int.tdiv (i : Int) 8) = ((i / 8 : Nat) : Int) := by
    have : Int.tdiv (i : Int) 8 = ((i / 8 : Nat) : Int) := by rw [Int.tdiv_eq_ediv_of_nonneg (by omega)]; omega
    rw [this, wr_i64 (by omega) (by omega)]
  have hb := bg_lt l (i / 8)
  unfold crawlwayref10_digit
  rw [hd, if_pos (by omega)]
  show (crawlwayref10_digit.l0 (i : Int) (wr .i64 (vget (vb l) ((i / 8 : Nat) : Int))) 7 >>= fun q3 => some (Int.tmod q3 2)) = _
  rw [vget_vb hl _ (by omega), wr_i64 (by omega) (by omega)]
  have h := digit_loop i (by omega) (7 - i % 8) (bg l (i / 8)) hb (by omega)
  rw [show i % 8 + (7 - i % 8) = 7 by omega, show ((7 : Nat) : Int) = 7 from rfl] at h
  rw [h, bindM_some]
  unfold bit
  refine congrArg some ?_
  have := Int.tmod_eq_emod_of_nonneg (a := ((bg l (i / 8) / 2 ^ (7 - i % 8) : Nat) : Int)) (b := 2) (Int.natCast_nonneg _)
  rw [this]; exact (Int.natCast_emod _ 2).symm
theorem bit_lt (l : List UInt8) (i : Nat) : bit l i < 2 := Nat.mod_lt _ (by omega)
def lftN (t q : Nat) : Nat := min (t - 8 * q) 8
def refm (l : List UInt8) (t : Nat) : List UInt8 := l.mapIdx fun q b => mb b (lftN t q)
theorem refm_len (l : List UInt8) (t : Nat) : (refm l t).length = l.length := by simp [refm]
theorem refm_get (l : List UInt8) (t i : Nat) : (refm l t)[i]? = (l[i]?).map fun b => mb b (lftN t i) := by
  unfold refm; rw [List.getElem?_mapIdx]
theorem refm_step (l : List UInt8) (hl : l.length = 16) (i : Nat) (hi : i < 128) : refm l (i + 1) = (refm l i).set (i / 8) (mb (l.getD (i / 8) 0) (i % 8 + 1)) := by
  apply List.ext_getElem?
  intro j
  rw [List.getElem?_set, refm_get, refm_get]
  by_cases hj : i / 8 = j
  · subst hj
    have hlt : i / 8 < (refm l i).length := by rw [refm_len]; omega
    have hc : l[i / 8]? = some l[i / 8] := List.getElem?_eq_getElem (by omega)
    have e : lftN (i + 1) (i / 8) = i % 8 + 1 := by unfold lftN; omega
    rw [if_pos rfl, if_pos hlt, hc, List.getD_eq_getElem?_getD, hc, e]; rfl
  · rw [if_neg hj]
    have : lftN (i + 1) j = lftN i j := by unfold lftN; omega
    rw [this]
theorem refMask_l1 (i : Nat) (hi : i < 9223372036854775808) : ∀ (k j n : Nat), n < 256 → j + k = i % 8 → crawlwayref10_Mask.l1 (i : Int) (n : Int) (j : Int) = some ((n / 2 ^ k : Nat) : Int) := by
  intro k
  have hm : Int.tmod (i : Int) 8 = ((i % 8 : Nat) : Int) := by rw [Int.tmod_eq_emod_of_nonneg (by omega)]; omega
  induction k with
  | zero =>
    intro j n hn hk
    rw [crawlwayref10_Mask.l1.eq_def, hm, if_neg (by rw [decide_eq_true_eq]; omega), Nat.pow_zero, Nat.div_one]
  | succ k ih =>
    intro j n hn hk
    have e1 : wr .i64 (Int.tdiv (n : Int) 2) = ((n / 2 : Nat) : Int) := by
      have : Int.tdiv (n : Int) 2 = ((n / 2 : Nat) : Int) := by rw [Int.tdiv_eq_ediv_of_nonneg (by omega)]; omega
      rw [this, wr_i64 (by omega) (by omega)]
    have e2 : wr .i64 ((j : Int) + 1) = ((j + 1 : Nat) : Int) := by rw [wr_i64 (by omega) (by omega)]; omega
    rw [crawlwayref10_Mask.l1.eq_def, hm, if_pos (decide_eq_true (by omega)), e1, e2, ih (j + 1) (n / 2) (by omega) (by omega), Nat.div_div_eq_div_mul]
    rw [Nat.pow_succ, Nat.mul_comm]
theorem refMask_loop (V bits : Int) (l : List UInt8) (hl : l.length = 16) (w : Nat) (hw : w ≤ 128) : ∀ (k i : Nat), i + k = min w bits.toNat →
    crawlwayref10_Mask.l0 (mkA V l) bits (w : Int) (i : Int) (mkA V (refm l i)) = some (mkA V (refm l (min w bits.toNat))) := by
  intro k
  induction k with
  | zero =>
    intro i hi
    rw [crawlwayref10_Mask.l0.eq_def]
    by_cases h1 : i < w
    · have hb : decide ((i : Int) < bits) = false := decide_eq_false (by omega)
      rw [if_pos (decide_eq_true (by omega)), hb, if_neg Bool.false_ne_true, show i = min w bits.toNat by omega]
    · rw [if_neg (by rw [decide_eq_true_eq]; omega), show i = min w bits.toNat by omega]
  | succ k ih =>
    intro i hi
    have hi128 : i < 128 := by omega
    have hd : wr .i64 (Int.tdiv (i : Int) 8) = ((i / 8 : Nat) : Int) := by
      have : Int.tdiv (i : Int) 8 = ((i / 8 : Nat) : Int) := by rw [Int.tdiv_eq_ediv_of_nonneg (by omega)]; omega
      rw [this, wr_i64 (by omega) (by omega)]
    have hi1 : wr .i64 ((i : Int) + 1) = ((i + 1 : Nat) : Int) := by rw [wr_i64 (by omega) (by omega)]; omega
    have hl1 := refMask_l1 i (by omega) (i % 8) 0 128 (by omega) (by omega)
    rw [show ((128 : Nat) : Int) = 128 from rfl, show ((0 : Nat) : Int) = 0 from rfl] at hl1
    have hc : l[i / 8]? = some l[i / 8] := List.getElem?_eq_getElem (by omega)
    generalize hcc : l[i / 8] = c at hc
    have hgd : l.getD (i / 8) 0 = c := by rw [List.getD_eq_getElem?_getD, hc]; rfl
    have hbit : bit l i = c.toNat / 2 ^ (7 - i % 8) % 2 := by unfold bit; rw [bg_get hc]
    have hst := mb_step c (i % 8) (by omega)
    have hlt := (mb c (i % 8 + 1)).toNat_lt
    have hrl : (refm l i).length = 16 := by rw [refm_len]; exact hl
    have hri : (refm l i)[i / 8]? = some (mb c (i % 8)) := by
      have e : lftN i (i / 8) = i % 8 := by unfold lftN; omega
      rw [refm_get, hc, e]; rfl
    have hstep := refm_step l hl i hi128
    rw [hgd] at hstep
    rw [crawlwayref10_Mask.l0.eq_def, if_pos (decide_eq_true (by omega)), if_pos (decide_eq_true (by omega)), digit_ref hl i hi128, bindM_some, hl1, bindM_some, hd, hi1]
    by_cases hb : bit l i = 1
    · have hbb : (((bit l i : Nat) : Int) == 1) = true := by rw [hb]; rfl
      rw [hbb, if_pos rfl, if_pos (by omega), if_pos (by omega)]
      have hset : ({ mkA V (refm l i) with f_B := vset (mkA V (refm l i)).f_B ((i / 8 : Nat) : Int) (wr .u8 ((vget (mkA V (refm l i)).f_B ((i / 8 : Nat) : Int)) + (wr .u8 ((128 / 2 ^ (i % 8) : Nat) : Int)))) } : S_api_Addr) = mkA V (refm l (i + 1)) := by
        show S_api_Addr.mk V (vset (vb (refm l i)) ((i / 8 : Nat) : Int) (wr .u8 ((vget (vb (refm l i)) ((i / 8 : Nat) : Int)) + (wr .u8 ((128 / 2 ^ (i % 8) : Nat) : Int))))) = _
        have hq : 128 / 2 ^ (i % 8) < 256 := Nat.lt_of_le_of_lt (Nat.div_le_self _ _) (by omega)
        have e6 : wr .u8 ((128 / 2 ^ (i % 8) : Nat) : Int) = ((128 / 2 ^ (i % 8) : Nat) : Int) := by
          generalize 128 / 2 ^ (i % 8) = z at hq
          exact wr_u8 (by omega) (by omega)
        rw [vget_vb hrl _ (by omega), bg_get hri, e6]
        have e5 : wr .u8 (((mb c (i % 8)).toNat : Int) + ((128 / 2 ^ (i % 8) : Nat) : Int)) = ((mb c (i % 8 + 1)).toNat : Int) := by
          rw [hst, ← hbit, hb, Nat.one_mul] at hlt
          rw [hst, ← hbit, hb, Nat.one_mul]
          generalize 128 / 2 ^ (i % 8) = z at hlt
          rw [wr_u8 (by omega) (by omega)]; omega
        rw [e5, vset_vb hrl, ← hstep]; rfl
      rw [hset]
      exact ih (i + 1) (by omega)
    · have h0 : bit l i = 0 := by have := bit_lt l i; omega
      have hbb : (((bit l i : Nat) : Int) == 1) = false := by rw [h0]; rfl
      rw [hbb, if_neg Bool.false_ne_true]
      have : refm l (i + 1) = refm l i := by
        rw [hstep]
        have e6 : mb c (i % 8 + 1) = mb c (i % 8) := by
          apply UInt8.toNat.inj
          rw [hst, ← hbit, h0]; omega
        rw [e6]
        apply List.ext_getElem?
        intro j
        rw [List.getElem?_set]
        by_cases hj : i / 8 = j
        · subst hj; rw [if_pos rfl, if_pos (by omega), hri]
        · rw [if_neg hj]
      rw [← this]
      exact ih (i + 1) (by omega)
theorem refm_zero (l : List UInt8) (hl : l.length = 16) : refm l 0 = List.replicate 16 0 := by
  apply List.ext_getElem?
  intro j
  rw [refm_get]
  by_cases hj : j < 16
  · have hc : l[j]? = some l[j] := List.getElem?_eq_getElem (by omega)
    rw [hc, List.getElem?_replicate, if_pos hj]
    have e : lftN 0 j = 0 := by unfold lftN; omega
    rw [e]
    exact congrArg some (mb_zero _)
  · rw [List.getElem?_eq_none (by omega), List.getElem?_eq_none (by simp; omega)]; rfl
theorem refm_full {V bits : Int} {l : List UInt8} (hl : l.length = 16) (hr : rightL V l = true) : refm l (min (widthL V l) bits.toNat) = mfull l bits := by
  apply List.ext_getElem?
  intro j
  rw [refm_get, mfull_get]
  by_cases hj : j < 16
  · have hc : l[j]? = some l[j] := List.getElem?_eq_getElem (by omega)
    rw [hc]
    show some _ = some _
    congr 1
    rcases right_cases hr with h6 | ⟨h4, hlow⟩
    · have hw : widthL V l = 128 := by unfold widthL; rw [if_pos hr, if_neg (by omega)]
      have : lftN (min (widthL V l) bits.toNat) j = lft bits j := by rw [hw]; unfold lftN lft; omega
      rw [this]
    · have hw : widthL V l = 32 := by unfold widthL; rw [if_pos hr, if_pos h4]
      by_cases hj4 : j < 4
      · have : lftN (min (widthL V l) bits.toNat) j = lft bits j := by rw [hw]; unfold lftN lft; omega
        rw [this]
      · have hz : l[j] = 0 := by
          have h1 := (low_iff hl).1 hlow
          have h2 : l[j]? = some 0 := by
            rw [h1]; unfold fourL
            rw [List.getElem?_append_right (by simp; omega), List.getElem?_replicate, if_pos (by simp; omega)]
          rw [hc] at h2; exact Option.some.inj h2
        rw [hz]
        exact (mb_of_zero _).trans (mb_of_zero _).symm
  · rw [List.getElem?_eq_none (by omega)]; rfl
theorem mask_ref {V bits : Int} {l : List UInt8} (hl : l.length = 16) : crawlwayref10_Mask (mkA V l) bits = some (maskA V l bits) := by
  unfold crawlwayref10_Mask maskA
  rw [right_ref hl, bindM_some]
  cases hr : rightL V l
  · show some _ = _
    rw [zero_mkA]; rfl
  · have h := refMask_loop V bits l hl (widthL V l) width_le (min (widthL V l) bits.toNat) 0 (by omega)
    rw [refm_zero l hl, show ((0 : Nat) : Int) = 0 from rfl, refm_full hl hr] at h
    show (crawlwayref10_Width (mkA V l) >>= fun t6 => crawlwayref10_Mask.l0 (mkA V l) bits t6 0 (S_api_Addr.mk V (Vector.replicate 16 (0 : Int))) >>= fun q7 => some q7) = _
    rw [width_ref hl, bindM_some, zero_vb]
    show (crawlwayref10_Mask.l0 (mkA V l) bits _ 0 (mkA V (List.replicate 16 0)) >>= fun q7 => some q7) = _
    rw [h]; rfl
theorem mfull_idem (l : List UInt8) (bits : Int) : mfull (mfull l bits) bits = mfull l bits := by
  apply List.ext_getElem?
  intro j
  rw [mfull_get, mfull_get]
  cases l[j]? with
  | none => rfl
  | some c => exact congrArg some (mb_idem c _ (lft_le bits j))
theorem low_mfull {l : List UInt8} {bits : Int} (hl : l.length = 16) (h : low l = true) : low (mfull l bits) = true := by
  unfold low at *
  rw [List.all_eq_true] at *
  intro x hx
  obtain ⟨i, hi⟩ := List.mem_iff_getElem?.1 hx
  rw [List.getElem?_drop, mfull_get] at hi
  cases hc : l[4 + i]? with
  | none => rw [hc] at hi; cases hi
  | some c =>
    rw [hc] at hi
    have hc0 : c = 0 := by
      have := h c (List.mem_iff_getElem?.2 ⟨i, by rw [List.getElem?_drop]; exact hc⟩)
      simpa using this
    have : mb c (lft bits (4 + i)) = x := Option.some.inj hi
    rw [← this, hc0, mb_of_zero]; rfl
theorem right_mfull {V bits : Int} {l : List UInt8} (hl : l.length = 16) (h : rightL V l = true) : rightL V (mfull l bits) = true := by
  rcases right_cases h with h6 | ⟨h4, hlow⟩
  · unfold rightL; rw [h6]; rfl
  · unfold rightL; rw [h4, low_mfull hl hlow]; rfl
end Go.Proofs.YtkkmmpofdcccmaaGreatDoor.Adr
namespace Go.Proofs.YtkkmmpofdcccmaaGreatDoor.Cid
open E Go.RowKit
open Adr
def mkP (A : S_api_Addr) (b : Int) : S_api_Prefix := { f_A := A, f_Bits := b }
def zP : S_api_Prefix := { f_A := ({ f_V := (0 : Int), f_B := (Vector.replicate 16 (0 : Int) : (Vector Int 16)) } : S_api_Addr), f_Bits := (0 : Int) }
theorem mkP_inj {V W : Int} {l k : List UInt8} {b c : Int} (hl : l.length = 16) (hk : k.length = 16) : mkP (mkA V l) b = mkP (mkA W k) c ↔ (V = W ∧ l = k) ∧ b = c := by
  unfold mkP
  rw [S_api_Prefix.mk.injEq, mkA_inj hl hk]
def fits (V : Int) (l : List UInt8) (b : Int) : Bool := rightL V l && (decide (0 ≤ b) && decide (b ≤ (widthL V l : Int)))
theorem fits_iff {V : Int} {l : List UInt8} {b : Int} : fits V l b = true ↔ rightL V l = true ∧ 0 ≤ b ∧ b ≤ (widthL V l : Int) := by
  unfold fits
  simp only [Bool.and_eq_true, decide_eq_true_eq]
def ofP (V : Int) (l : List UInt8) (b : Int) : S_api_Prefix × Int := if rightL V l = true then (if fits V l b = true then (mkP (mkA V (mfull l b)) b, 0) else (zP, 6)) else (zP, 1)
theorem of_code {V b : Int} {l : List UInt8} (hl : l.length = 16) : cidr_Of (mkA V l) b = some (ofP V l b) := by
  unfold cidr_Of ofP
  rw [right_code hl, bindM_some]
  have hw := width_le (V := V) (l := l)
  cases hr : rightL V l with
  | false => rfl
  | true =>
    rw [if_neg (show ¬ (!true) = true by decide), if_pos rfl]
    by_cases h0 : b < 0
    · have hf : ¬ fits V l b = true := fun h => by have := (fits_iff.1 h).2.1; omega
      rw [if_pos (decide_eq_true h0), if_neg hf]; rfl
    · rw [if_neg (by rw [decide_eq_true_eq]; exact h0), width_code hl, bindM_some]
      by_cases h1 : b > (widthL V l : Int)
      · have hf : ¬ fits V l b = true := fun h => by have := (fits_iff.1 h).2.2; omega
        rw [if_pos (decide_eq_true h1), if_neg hf]; rfl
      · have hf : fits V l b = true := fits_iff.2 ⟨hr, by omega, by omega⟩
        rw [if_neg (by rw [decide_eq_true_eq]; exact h1), mask_code hl (by omega), bindM_some, if_pos hf]
        unfold maskA
        rw [if_pos hr]; rfl
def rightP (V : Int) (l : List UInt8) (b : Int) : Bool := fits V l b && decide (mfull l b = l)
theorem rightP_iff {V : Int} {l : List UInt8} {b : Int} : rightP V l b = true ↔ (rightL V l = true ∧ 0 ≤ b ∧ b ≤ (widthL V l : Int)) ∧ mfull l b = l := by
  unfold rightP
  rw [Bool.and_eq_true, fits_iff, decide_eq_true_eq]
theorem mlen {l : List UInt8} (hl : l.length = 16) (b : Int) : (mfull l b).length = 16 := by rw [mfull_len, hl]
theorem cright_code {V b : Int} {l : List UInt8} (hl : l.length = 16) : cidr_Right (mkP (mkA V l) b) = some (rightP V l b) := by
  unfold cidr_Right
  show (cidr_Of (mkA V l) b >>= fun t2 => if (t2.2 == 0) = true then some (decide (t2.1 = mkP (mkA V l) b)) else some false) = _
  rw [of_code hl, bindM_some]
  unfold ofP rightP
  cases hr : rightL V l with
  | false =>
    have hf : fits V l b = false := by unfold fits; rw [hr]; rfl
    rw [hf]; rfl
  | true =>
    rw [if_pos rfl]
    cases hf : fits V l b with
    | false => rfl
    | true =>
      rw [if_pos rfl]
      show (if ((0 : Int) == 0) = true then some (decide (mkP (mkA V (mfull l b)) b = mkP (mkA V l) b)) else some false) = _
      rw [if_pos (by rfl), Bool.true_and]
      refine congrArg some ?_
      rw [decide_eq_decide, mkP_inj (mlen hl b) hl]
      exact ⟨fun h => h.1.2, fun h => ⟨⟨rfl, h⟩, rfl⟩⟩
end Go.Proofs.YtkkmmpofdcccmaaGreatDoor.Cid
namespace Go.Proofs.YtkkmmpofdcccmaaGreatDoor.Col
open E Go.RowKit
def un : List Nat → List UInt8
  | [] => []
  | n :: r => UInt8.ofNat (n / 256) :: UInt8.ofNat (n % 256) :: un r
def gr : List UInt8 → List Nat
  | a :: b :: r => (256 * a.toNat + b.toNat) :: gr r
  | [_] => []
  | [] => []
theorem gr_lt : ∀ (l : List UInt8), ∀ n ∈ gr l, n < 65536
  | [], n, h => by cases h
  | [_], n, h => by cases h
  | a :: b :: r, n, h => by
    rcases List.mem_cons.1 h with rfl | h
    · have ha := a.toNat_lt
      have hb := b.toNat_lt
      omega
    · exact gr_lt r n h
theorem gr_len : ∀ (l : List UInt8), (gr l).length = l.length / 2
  | [] => rfl
  | [_] => by simp [gr]
  | a :: b :: r => by simp only [gr, List.length_cons, gr_len r]; omega
theorem un_len : ∀ (G : List Nat), (un G).length = 2 * G.length
  | [] => rfl
  | n :: G => by simp only [un, List.length_cons, un_len G]; omega
theorem un_app : ∀ (A B : List Nat), un (A ++ B) = un A ++ un B
  | [], _ => rfl
  | n :: A, B => by simp [un, un_app A B]
def runz : List Bool → Nat
  | true :: r => runz r + 1
  | _ => 0
def lgC : List Bool → Nat → Nat → Nat → Nat → Nat × Nat
  | [], _, p, z, _ => (p, z)
  | b :: r, i, p, z, now => if b = false then lgC r (i + 1) p z 0 else if now + 1 > z then lgC r (i + 1) (i + 1 - (now + 1)) (now + 1) (now + 1) else lgC r (i + 1) p z (now + 1)
def lgR : List Bool → Nat → Nat → Nat → Nat × Nat
  | [], _, p, z => (p, z)
  | b :: r, i, p, z => if runz (b :: r) > z then lgR r (i + 1) i (runz (b :: r)) else lgR r (i + 1) p z
theorem lg_same8 : ∀ a b c d e f g h : Bool, lgC [a, b, c, d, e, f, g, h] 0 0 0 0 = lgR [a, b, c, d, e, f, g, h] 0 0 0 := by decide +kernel
theorem lg_fits8 : ∀ a b c d e f g h : Bool, (lgR [a, b, c, d, e, f, g, h] 0 0 0).1 + (lgR [a, b, c, d, e, f, g, h] 0 0 0).2 ≤ 8 := by decide +kernel
theorem eight {α : Type} {z : List α} (h : z.length = 8) : ∃ a b c d e f g k, z = [a, b, c, d, e, f, g, k] := by
  match z, h with
  | [a, b, c, d, e, f, g, k], _ => exact ⟨a, b, c, d, e, f, g, k, rfl⟩
def lg (z : List Bool) : Nat × Nat := lgR z 0 0 0
theorem lg_code {z : List Bool} (h : z.length = 8) : lgC z 0 0 0 0 = lg z := by
  obtain ⟨a, b, c, d, e, f, g, k, rfl⟩ := eight h; exact lg_same8 ..
theorem lg_fits {z : List Bool} (h : z.length = 8) : (lg z).1 + (lg z).2 ≤ 8 := by
  obtain ⟨a, b, c, d, e, f, g, k, rfl⟩ := eight h; exact lg_fits8 ..
def g1 (n : Nat) : List UInt8 := (Hex.grp n).data.toList
def rowL : List Nat → List UInt8
  | [] => []
  | [n] => g1 n
  | n :: m :: r => g1 n ++ 58 :: rowL (m :: r)
def zp (G : List Nat) : List Bool := G.map fun n => n == 0
def textL (G : List Nat) : List UInt8 := if (lg (zp G)).2 < 2 then rowL G else rowL (G.take (lg (zp G)).1) ++ 58 :: 58 :: rowL (G.drop ((lg (zp G)).1 + (lg (zp G)).2))
theorem zp_len (G : List Nat) : (zp G).length = G.length := by simp [zp]
theorem g1_len (n : Nat) (h : n < 65536) : 1 ≤ (g1 n).length ∧ (g1 n).length ≤ 4 := by
  have := Hex.grp_size n
  unfold g1
  rw [size_toList]
  exact ⟨this.1, this.2 3 (by simpa using h)⟩
theorem rowL_len : ∀ (G : List Nat), (∀ n ∈ G, n < 65536) → (rowL G).length ≤ 5 * G.length
  | [], _ => Nat.zero_le _
  | [n], h => by
    have := (g1_len n (h n (List.mem_cons_self ..))).2
    simp only [rowL, List.length_cons, List.length_nil]; omega
  | n :: m :: r, h => by
    have h1 := (g1_len n (h n (List.mem_cons_self ..))).2
    have h2 := rowL_len (m :: r) fun k hk => h k (List.mem_cons_of_mem _ hk)
    simp only [rowL, List.length_append, List.length_cons] at h2 ⊢; omega
theorem textL_len (G : List Nat) (h : ∀ n ∈ G, n < 65536) (h8 : G.length = 8) : (textL G).length ≤ 42 := by
  unfold textL
  split
  · have := rowL_len G h; omega
  · have h1 := rowL_len (G.take (lg (zp G)).1) fun n hn => h n (List.mem_of_mem_take hn)
    have h2 := rowL_len (G.drop ((lg (zp G)).1 + (lg (zp G)).2)) fun n hn => h n (List.mem_of_mem_drop hn)
    have hf := lg_fits (z := zp G) (by rw [zp_len, h8])
    simp only [List.length_append, List.length_cons, List.length_take, List.length_drop] at h1 h2 ⊢; omega
def spl : List (List UInt8) → Option (List (List UInt8) × List (List UInt8))
  | [] => none
  | p :: r => if r.head? = some [] ∧ 2 ≤ r.length then some ([p], r.tail) else (spl r).map fun q => (p :: q.1, q.2)
def q2 (v : Vector Int 4) : List Nat := [256 * (vget v 0).toNat + (vget v 1).toNat, 256 * (vget v 2).toNat + (vget v 3).toNat]
def lst (last : Bool) : List (List UInt8) → Option (List Nat)
  | [] => some []
  | p :: r => match Hex.read (bs p) with
    | some n => (lst last r).map (n :: ·)
    | none => if (quadP p).2 = 0 ∧ last = true ∧ r = [] then some (q2 (quadP p).1) else none
def lstE (last : Bool) (ps : List (List UInt8)) : Option (List Nat) := if ps = [[]] then some [] else lst last ps
def parseL (l : List UInt8) : Option (List Nat) := match spl (parts 58 l) with
  | none => (lst true (parts 58 l)).bind fun x => if x.length = 8 then some x else none
  | some (a, b) => (lstE false a).bind fun x => (lstE true b).bind fun y => if x.length + y.length ≤ 7 then some (x ++ (List.replicate (8 - x.length - y.length) 0 ++ y)) else none
theorem parts_colon (r : List UInt8) : parts 58 (58 :: r) = [] :: parts 58 r := by rw [parts, if_pos rfl]
theorem parts_head (r : List UInt8) : ((parts 58 r).head? = some [] ∧ 2 ≤ (parts 58 r).length) ↔ ∃ r2, r = 58 :: r2 := by
  cases r with
  | nil => simp [parts]
  | cons x r =>
    by_cases hx : x = 58
    · subst hx
      rw [parts_colon]
      have := parts_ne 58 r
      cases hp : parts 58 r with
      | nil => exact absurd hp this
      | cons a b => simp
    · rw [parts, if_neg hx]
      simp [hx]
theorem read_nil : Hex.read (bs []) = none := rfl
theorem quad_nil : (quadP []).2 = 5 := rfl
theorem lst_nil (last : Bool) (r : List (List UInt8)) (h : r ≠ [] ∨ True) : lst last ([] :: r) = none := by
  unfold lst
  rw [read_nil, quad_nil]
  simp
theorem parts_nil_iff (l : List UInt8) : parts 58 l = [[]] ↔ l = [] := by
  constructor
  · intro h
    cases l with
    | nil => rfl
    | cons x r =>
      have hne := parts_ne 58 r
      by_cases hx : x = 58
      · subst hx
        rw [parts_colon] at h
        cases h2 : parts 58 r with
        | nil => exact absurd h2 hne
        | cons a b => rw [h2] at h; simp at h
      · rw [parts, if_neg hx] at h; simp at h
  · intro h; subst h; rfl
end Go.Proofs.YtkkmmpofdcccmaaGreatDoor.Col
namespace Go.Proofs.YtkkmmpofdcccmaaGreatDoor.Col
open E Go.RowKit
def ns (G : List Nat) : List Int := G.map fun n : Nat => (n : Int)
theorem ns_len (G : List Nat) : (ns G).length = G.length := by simp [ns]
def gv (G : List Nat) : Vector Int 8 := lvec 8 (ns (G ++ List.replicate (8 - G.length) 0))
theorem gv_toList {G : List Nat} (h : G.length ≤ 8) : (gv G).toList = ns (G ++ List.replicate (8 - G.length) 0) := by
  have hl : (ns (G ++ List.replicate (8 - G.length) 0)).length = 8 := by rw [ns_len]; simp; omega
  unfold gv
  rw [lvec_toList 8 _ (by omega), List.take_of_length_le (by omega)]
theorem gv_of {v : Vector Int 8} {G : List Nat} (h : v.toList = ns G) : v = gv G := by
  have hl : G.length = 8 := by have := congrArg List.length h; rw [ns_len] at this; simpa using this.symm
  apply Vector.toList_inj.1
  rw [gv_toList (by omega), h, hl]; simp
theorem gv_set {G : List Nat} (h : G.length < 8) (n : Nat) : vset (gv G) (G.length : Int) (n : Int) = gv (G ++ [n]) := by
  apply Vector.toList_inj.1
  rw [vset_toList, gv_toList (by omega), gv_toList (by simp; omega), Int.toNat_natCast]
  unfold ns
  rw [← List.map_set, List.set_append_right _ _ (Nat.le_refl _), Nat.sub_self, show 8 - G.length = (8 - (G.length + 1)) + 1 by omega, List.replicate_succ]
  simp
theorem gv_zero : (Vector.replicate 8 (0 : Int) : Vector Int 8) = gv [] := by
  apply Vector.toList_inj.1; rw [gv_toList (by simp)]; rfl
theorem ns_get (G : List Nat) (i : Nat) (n : Nat) (h : G[i]? = some n) : (ns G).getD i default = (n : Int) := by
  unfold ns; rw [List.getD_eq_getElem?_getD, List.getElem?_map, h]; rfl
theorem gv_get {G : List Nat} (h8 : G.length = 8) (i : Nat) (n : Nat) (h : G[i]? = some n) : vget (gv G) (i : Int) = (n : Int) := by
  unfold vget
  rw [gv_toList (by omega), h8, Int.toNat_natCast, show 8 - 8 = 0 from rfl, List.replicate_zero, List.append_nil]
  exact ns_get G i n h
def rd (acc : List Nat) (gp : Int) : S_colon_reader := { f_g := gv acc, f_n := (acc.length : Int), f_gap := gp }
def Res (r : Option (Bool × S_colon_reader)) (o : Option (List Nat × Int)) : Prop := match o with
  | some (G, gp) => r = some (true, rd G gp)
  | none => ∃ s', r = some (false, s')
def addG (acc l : List Nat) (gp : Int) : Option (List Nat × Int) := if acc.length + l.length ≤ 8 then some (acc ++ l, gp) else none
theorem put_full {acc : List Nat} (h : acc.length = 8) (gp : Int) (x : Int) : colon_reader_put (rd acc gp) x = some (false, rd acc gp) := by
  unfold colon_reader_put
  have e : ((rd acc gp).f_n == 8) = true := by show ((acc.length : Int) == 8) = true; rw [h]; rfl
  rw [e, if_pos rfl]
theorem put_ok {acc : List Nat} (h : acc.length < 8) (gp : Int) (n : Nat) : colon_reader_put (rd acc gp) (n : Int) = some (true, rd (acc ++ [n]) gp) := by
  unfold colon_reader_put
  have e : ((rd acc gp).f_n == 8) = false := by
    show ((acc.length : Int) == 8) = false
    rw [beq_eq_false_iff_ne]; omega
  have hb : (0 : Int) ≤ (rd acc gp).f_n ∧ (rd acc gp).f_n < 8 := by show (0 : Int) ≤ (acc.length : Int) ∧ (acc.length : Int) < 8; omega
  rw [e, if_neg Bool.false_ne_true, if_pos hb]
  refine congrArg some (congrArg (Prod.mk true) ?_)
  show S_colon_reader.mk (vset (gv acc) (acc.length : Int) (n : Int)) (wr .i64 ((acc.length : Int) + 1)) gp = S_colon_reader.mk (gv (acc ++ [n])) ((acc ++ [n]).length : Int) gp
  rw [gv_set h, wr_i64 (by omega) (by omega)]
  congr 1
  simp
theorem or16 (a b : Nat) (ha : a < 256) (hb : b < 256) : ior .u16 (ishl .u16 (wr .u16 (a : Int)) 8) (wr .u16 (b : Int)) = ((256 * a + b : Nat) : Int) := by
  rw [wr_u16 (by omega) (by omega), wr_u16 (by omega) (by omega), show (8 : Int) = ((8 : Nat) : Int) from rfl, ishl_nat .u16 rfl a 8 (by decide)]
  have e : (a * 2 ^ 8) % 2 ^ IntKind.u16.bits = a * 256 := by show (a * 256) % 65536 = _; omega
  rw [e, ior_nat .u16 rfl _ _ (by show _ < 65536; omega) (by show _ < 65536; omega)]
  have h2 := Nat.two_pow_add_eq_or_of_lt (i := 8) (b := b) (by simpa using hb) a
  have e3 : 2 ^ 8 * a = a * 256 := by omega
  rw [e3] at h2
  rw [← h2, Nat.mul_comm a 256]
theorem tail_ok {acc : List Nat} (h : acc.length ≤ 8) (gp : Int) (p : List UInt8) (hp : p.length < 1000000) : Res (colon_reader_tail (rd acc gp) (bs p)) ((lst true [p]).bind fun x => addG acc x gp) := by
  unfold colon_reader_tail
  rw [Hex.read_eq, bindM_some]
  unfold lst
  cases hr : Hex.read (bs p) with
  | some n =>
    show Res (if ((0 : Int) == 0) = true then _ else _) (((lst true []).map (n :: ·)).bind _)
    rw [if_pos (by rfl)]
    show Res _ (addG acc [n] gp)
    unfold addG
    by_cases h8 : acc.length = 8
    · rw [put_full h8, if_neg (by simp; omega)]
      exact ⟨_, rfl⟩
    · rw [put_ok (by omega), if_pos (by simp; omega)]
      rfl
  | none =>
    show Res (if ((5 : Int) == 0) = true then _ else _) _
    rw [if_neg (by decide), quad_parse p hp, bindM_some]
    by_cases h0 : (quadP p).2 = 0
    · obtain ⟨m, hm, hq, _⟩ := quadP_back h0
      simp only [h0, and_self, if_pos, Option.bind_some]
      match m, hm with
      | [a, b, c, d], hm =>
        have ha := a.toNat_lt
        have hb := b.toNat_lt
        have hc := c.toNat_lt
        have hd := d.toNat_lt
        rw [hq]
        have e0 : vget (v4 [a, b, c, d]) 0 = (a.toNat : Int) := vget_v4 hm 0 a rfl
        have e1 : vget (v4 [a, b, c, d]) 1 = (b.toNat : Int) := vget_v4 hm 1 b rfl
        have e2 : vget (v4 [a, b, c, d]) 2 = (c.toNat : Int) := vget_v4 hm 2 c rfl
        have e3 : vget (v4 [a, b, c, d]) 3 = (d.toNat : Int) := vget_v4 hm 3 d rfl
        have eq : q2 (v4 [a, b, c, d]) = [256 * a.toNat + b.toNat, 256 * c.toNat + d.toNat] := by unfold q2; rw [e0, e1, e2, e3]; rfl
        show Res (if ((0 : Int) == 0) = true then (colon_reader_put (rd acc gp) (ior .u16 (ishl .u16 (wr .u16 (vget (v4 [a, b, c, d]) 0)) 8) (wr .u16 (vget (v4 [a, b, c, d]) 1))) >>= fun t7 => if t7.1 = true then (colon_reader_put t7.2 (ior .u16 (ishl .u16 (wr .u16 (vget (v4 [a, b, c, d]) 2)) 8) (wr .u16 (vget (v4 [a, b, c, d]) 3))) >>= fun t9 => some (t9.1, t9.2)) else (some (false, t7.2))) else _) (addG acc (q2 (v4 [a, b, c, d])) gp)
        rw [if_pos (by rfl), e0, e1, e2, e3, or16 _ _ ha hb, or16 _ _ hc hd, eq]
        unfold addG
        by_cases h8 : acc.length = 8
        · rw [put_full h8, bindM_some, if_neg Bool.false_ne_true, if_neg (by simp; omega)]
          exact ⟨_, rfl⟩
        · rw [put_ok (by omega), bindM_some, if_pos rfl]
          by_cases h7 : acc.length = 7
          · rw [put_full (by simp; omega), bindM_some, if_neg (by simp; omega)]
            exact ⟨_, rfl⟩
          · rw [put_ok (by simp; omega), bindM_some, if_pos (by simp; omega)]
            show _ = some (true, rd (acc ++ [_, _]) gp)
            rw [List.append_assoc]; rfl
    · have hb : ((viOf (quadP p)).2 == 0) = false := by rw [beq_eq_false_iff_ne]; show (((quadP p).2 : Nat) : Int) ≠ 0; omega
      rw [hb, if_neg Bool.false_ne_true]
      simp only [h0, false_and, if_false, Option.bind_none]
      exact ⟨_, rfl⟩
def isC : List UInt8 → Bool
  | x :: _ => x == 58
  | [] => false
def isCC : List UInt8 → Bool
  | x :: y :: _ => x == 58 && y == 58
  | _ => false
theorem isC_iff (r : List UInt8) : isC r = true ↔ ∃ r2, r = 58 :: r2 := by
  cases r with
  | nil => simp [isC]
  | cons x r => simp [isC]
theorem isCC_iff (r : List UInt8) : isCC r = true ↔ ∃ r2, r = 58 :: 58 :: r2 := by
  match r with
  | [] => simp [isCC]
  | [x] => simp [isCC]
  | x :: y :: r => simp [isCC]
theorem pre1 (r : List UInt8) : strings_HasPrefix (bs r) (⟨#[58]⟩ : ByteArray) = some (isC r) := by
  unfold strings_HasPrefix stringslite_HasPrefix
  cases r with
  | nil => rw [if_neg (by decide)]; rfl
  | cons x r =>
    have hsz : (bs (x :: r)).size = r.length + 1 := bs_size _
    have h1 : ((⟨#[58]⟩ : ByteArray).size : Int) = 1 := rfl
    rw [h1, hsz, if_pos (decide_eq_true (by omega)), if_pos (by omega), bindM_some]
    refine congrArg some ?_
    show seq ((bs (x :: r)).extract 0 1) (bs [58]) = _
    rw [bs_extract]
    by_cases hx : x = 58
    · subst hx
      exact seq_self _
    · have hf : isC (x :: r) = false := by simp [isC, hx]
      rw [hf]
      cases hc : seq (bs ((List.take 1 (x :: r)).drop 0)) (bs [58]) with
      | false => rfl
      | true =>
        have := bs_inj ((seq_iff _ _).1 hc)
        simp at this
        exact absurd this hx
theorem pre2 (r : List UInt8) : strings_HasPrefix (bs r) (⟨#[58, 58]⟩ : ByteArray) = some (isCC r) := by
  unfold strings_HasPrefix stringslite_HasPrefix
  match r with
  | [] => rw [if_neg (by decide)]; rfl
  | [x] =>
    have hsz : (bs [x]).size = 1 := bs_size _
    have h1 : ((⟨#[58, 58]⟩ : ByteArray).size : Int) = 2 := rfl
    rw [h1, hsz, if_neg (by decide)]; rfl
  | x :: y :: r =>
    have hsz : (bs (x :: y :: r)).size = r.length + 2 := bs_size _
    have h1 : ((⟨#[58, 58]⟩ : ByteArray).size : Int) = 2 := rfl
    rw [h1, hsz, if_pos (decide_eq_true (by omega)), if_pos (by omega), bindM_some]
    refine congrArg some ?_
    show seq ((bs (x :: y :: r)).extract 0 2) (bs [58, 58]) = _
    rw [bs_extract]
    by_cases hx : x = 58 ∧ y = 58
    · obtain ⟨rfl, rfl⟩ := hx
      exact seq_self _
    · have hf : isCC (x :: y :: r) = false := by
        cases hc : isCC (x :: y :: r) with
        | false => rfl
        | true => simp [isCC] at hc; exact absurd hc hx
      rw [hf]
      cases hc : seq (bs ((List.take 2 (x :: y :: r)).drop 0)) (bs [58, 58]) with
      | false => rfl
      | true =>
        have := bs_inj ((seq_iff _ _).1 hc)
        simp at this
        exact absurd this hx
/-- The two loops of (*reader).read are alike. -/
def Loop (R : ByteArray → S_colon_reader → Option (Bool × S_colon_reader)) : Prop := ∀ s st, R s st = (lines_Cut s 58 >>= fun t8 => if (!t8.2.2) = true then (colon_reader_tail st t8.1 >>= fun t10 => some (t10.1, t10.2)) else (hexes_ReadGroup t8.1 >>= fun t11 => if (t11.2 != 0) = true then (some (false, st)) else (colon_reader_put st t11.1 >>= fun t13 => if (!t13.1) = true then (some (false, t13.2)) else (strings_HasPrefix t8.2.1 (⟨#[58]⟩ : ByteArray) >>= fun t15 => if (!t15) = true then (R t8.2.1 t13.2) else (if (decide (t13.2.f_gap ≥ 0)) = true then (some (false, t13.2)) else (if (0 : Int) ≤ 1 ∧ 1 ≤ (t8.2.1.size : Int) ∧ (t8.2.1.size : Int) ≤ (t8.2.1.size : Int) then if (seq (t8.2.1.extract (Int.toNat 1) (Int.toNat (t8.2.1.size : Int))) (⟨#[]⟩ : ByteArray)) = true then (some (true, { t13.2 with f_gap := t13.2.f_n })) else (R (t8.2.1.extract (Int.toNat 1) (Int.toNat (t8.2.1.size : Int))) ({ t13.2 with f_gap := t13.2.f_n })) else none))))))
theorem loop0 : Loop colon_reader_read.l0 := fun s st => colon_reader_read.l0.eq_def s st
theorem loop1 : Loop colon_reader_read.l1 := fun s st => colon_reader_read.l1.eq_def s st
theorem seq_nil (l : List UInt8) : seq (bs l) (⟨#[]⟩ : ByteArray) = true ↔ l = [] := by
  rw [seq_iff]
  exact ⟨fun h => bs_inj (k := []) h, fun h => by rw [h]; rfl⟩
theorem res_pair {r : Option (Bool × S_colon_reader)} {o : Option (List Nat × Int)} (h : Res r o) : Res (r >>= fun t => some (t.1, t.2)) o := by
  unfold Res at *
  cases o with
  | none => obtain ⟨s', h⟩ := h; rw [h]; exact ⟨s', rfl⟩
  | some q => obtain ⟨G, gp⟩ := q; simp only at h ⊢; rw [h]; rfl
theorem res_id {r : Option (Bool × S_colon_reader)} {o : Option (List Nat × Int)} (h : Res r o) : Res (r >>= fun t => some t) o := by
  cases r <;> exact h
/-- A round of the loop: a text with a colon in it. -/
theorem round {R : ByteArray → S_colon_reader → Option (Bool × S_colon_reader)} (hR : Loop R) {acc : List Nat} (gp : Int) (p r : List UInt8) (hp : ∀ x ∈ p, x ≠ 58) (hl : p.length + r.length < 1000000) :
    (Hex.read (bs p) = none ∨ acc.length = 8 → ∃ s', R (bs (p ++ 58 :: r)) (rd acc gp) = some (false, s')) ∧
    (∀ n, Hex.read (bs p) = some n → acc.length < 8 → (∀ r2, r ≠ 58 :: r2) → R (bs (p ++ 58 :: r)) (rd acc gp) = R (bs r) (rd (acc ++ [n]) gp)) ∧
    (∀ n r2, Hex.read (bs p) = some n → acc.length < 8 → r = 58 :: r2 → 0 ≤ gp → ∃ s', R (bs (p ++ 58 :: r)) (rd acc gp) = some (false, s')) ∧
    (∀ n r2, Hex.read (bs p) = some n → acc.length < 8 → r = 58 :: r2 → gp < 0 → R (bs (p ++ 58 :: r)) (rd acc gp) = if r2 = [] then some (true, rd (acc ++ [n]) ((acc ++ [n]).length : Int)) else R (bs r2) (rd (acc ++ [n]) ((acc ++ [n]).length : Int))) := by
  have h58 : ((58 : UInt8).toNat : Int) = 58 := rfl
  have hcut := cut_some p r 58 hp hl
  rw [h58] at hcut
  have h1 : ∀ (r2 : List UInt8), r = 58 :: r2 → (bs r).extract (Int.toNat 1) (Int.toNat ((bs r).size : Int)) = bs r2 := by
    intro r2 e
    rw [Int.toNat_natCast, bs_extract, bs_size, List.take_of_length_le (Nat.le_refl _), e]; rfl
  have h2 : ∀ (r2 : List UInt8), r = 58 :: r2 → (0 : Int) ≤ 1 ∧ 1 ≤ ((bs r).size : Int) ∧ ((bs r).size : Int) ≤ ((bs r).size : Int) := by
    intro r2 e
    rw [bs_size, e, List.length_cons]; omega
  refine ⟨fun h => ?_, fun n hn h8 hr => ?_, fun n r2 hn h8 hr hg => ?_, fun n r2 hn h8 hr hg => ?_⟩
  · rw [hR, hcut, bindM_some]
    show ∃ s', (if (!true) = true then _ else _) = _
    rw [if_neg (by decide), Hex.read_eq, bindM_some]
    cases hq : Hex.read (bs p) with
    | none =>
      show ∃ s', (if ((5 : Int) != 0) = true then _ else _) = _
      rw [if_pos (by decide)]
      exact ⟨_, rfl⟩
    | some n =>
      show ∃ s', (if ((0 : Int) != 0) = true then _ else _) = _
      have h8 : acc.length = 8 := by rcases h with h | h; rw [h] at hq; cases hq; exact h
      rw [if_neg (by decide), put_full h8, bindM_some]
      exact ⟨_, rfl⟩
  · rw [hR, hcut, bindM_some]
    show (if (!true) = true then _ else _) = _
    rw [if_neg (by decide), Hex.read_eq, bindM_some, hn]
    show (if ((0 : Int) != 0) = true then _ else _) = _
    rw [if_neg (by decide), put_ok h8, bindM_some]
    show (if (!true) = true then _ else _) = _
    have hf : isC r = false := by
      cases hc : isC r with
      | false => rfl
      | true => obtain ⟨r2, h⟩ := (isC_iff r).1 hc; exact absurd h (hr r2)
    rw [if_neg (by decide), pre1, bindM_some, hf]
    rfl
  · rw [hR, hcut, bindM_some]
    show ∃ s', (if (!true) = true then _ else _) = _
    rw [if_neg (by decide), Hex.read_eq, bindM_some, hn]
    show ∃ s', (if ((0 : Int) != 0) = true then _ else _) = _
    rw [if_neg (by decide), put_ok h8, bindM_some]
    show ∃ s', (if (!true) = true then _ else _) = _
    rw [if_neg (by decide), pre1, bindM_some, (isC_iff r).2 ⟨r2, hr⟩]
    show ∃ s', (if (!true) = true then _ else (if decide (gp ≥ 0) = true then _ else _)) = _
    rw [if_neg (by decide), if_pos (decide_eq_true hg)]
    exact ⟨_, rfl⟩
  · rw [hR, hcut, bindM_some]
    show (if (!true) = true then _ else _) = _
    rw [if_neg (by decide), Hex.read_eq, bindM_some, hn]
    show (if ((0 : Int) != 0) = true then _ else _) = _
    rw [if_neg (by decide), put_ok h8, bindM_some]
    show (if (!true) = true then _ else _) = _
    rw [if_neg (by decide), pre1, bindM_some, (isC_iff r).2 ⟨r2, hr⟩]
    show (if (!true) = true then _ else (if decide (gp ≥ 0) = true then _ else (if _ then (if seq ((bs r).extract (Int.toNat 1) (Int.toNat ((bs r).size : Int))) _ = true then _ else _) else _))) = _
    rw [if_neg (by decide), if_neg (by rw [decide_eq_true_eq]; omega), if_pos (h2 r2 hr), h1 r2 hr]
    by_cases h0 : r2 = []
    · subst h0
      rw [if_pos rfl, if_pos ((seq_nil []).2 rfl)]; rfl
    · rw [if_neg h0, if_neg]; rfl
      intro e
      exact h0 ((seq_nil r2).1 e)
/-- The loop behind a gap. -/
theorem run_gap {R : ByteArray → S_colon_reader → Option (Bool × S_colon_reader)} (hR : Loop R) (gp : Int) (hg : 0 ≤ gp) : ∀ (k : Nat) (l : List UInt8) (acc : List Nat), l.length ≤ k → l.length < 1000000 → acc.length ≤ 8 →
    Res (R (bs l) (rd acc gp)) ((lst true (parts 58 l)).bind fun x => addG acc x gp) := by
  intro k
  induction k with
  | zero =>
    intro l acc hk hb h8
    obtain rfl : l = [] := List.eq_nil_of_length_eq_zero (by omega)
    have hc := cut_none [] 58 (fun x h => by cases h)
    rw [show ((58 : UInt8).toNat : Int) = 58 from rfl] at hc
    rw [hR, hc, bindM_some]
    exact res_pair (tail_ok h8 gp [] (by simp))
  | succ k ih =>
    intro l acc hk hb h8
    rcases split_at 58 l with h | ⟨p, r, rfl, h⟩
    · have hc := cut_none l 58 h
      rw [show ((58 : UInt8).toNat : Int) = 58 from rfl] at hc
      rw [hR, hc, bindM_some, parts_none _ _ h]
      exact res_pair (tail_ok h8 gp l hb)
    · have hlen : (p ++ 58 :: r).length = p.length + (r.length + 1) := by simp
      obtain ⟨c1, c2, c3, _⟩ := round hR (acc := acc) gp p r h (by omega)
      have hne := parts_ne 58 r
      rw [parts_cons 58 r p h]
      cases hr : Hex.read (bs p) with
      | none =>
        have e : lst true (p :: parts 58 r) = none := by
          unfold lst
          rw [hr]
          simp [hne]
        rw [e]; exact c1 (.inl hr)
      | some n =>
        have e : lst true (p :: parts 58 r) = (lst true (parts 58 r)).map (n :: ·) := by
          rw [lst, hr]
        rw [e]
        have hk2 : ∀ (o : Option (List Nat)), ((o.map (n :: ·)).bind fun x => addG acc x gp) = if acc.length = 8 then none else o.bind fun x => addG (acc ++ [n]) x gp := by
          intro o
          cases o with
          | none => simp
          | some x =>
            simp only [Option.map_some, Option.bind_some]
            unfold addG
            by_cases ha : acc.length = 8
            · rw [if_pos ha, if_neg (by simp; omega)]
            · rw [if_neg ha]
              by_cases hb : acc.length + (n :: x).length ≤ 8
              · rw [if_pos hb, if_pos (by simp at hb ⊢; omega)]; simp
              · rw [if_neg hb, if_neg (by simp at hb ⊢; omega)]
        rw [hk2]
        by_cases ha : acc.length = 8
        · rw [if_pos ha]; exact c1 (.inr ha)
        · rw [if_neg ha]
          by_cases hrc : ∃ r2, r = 58 :: r2
          · obtain ⟨r2, hr2⟩ := hrc
            have e3 : lst true (parts 58 r) = none := by rw [hr2, parts_colon]; exact lst_nil _ _ (.inr trivial)
            rw [e3]
            exact c3 n r2 hr (by omega) hr2 hg
          · rw [c2 n hr (by omega) fun r2 e => hrc ⟨r2, e⟩]
            exact ih r (acc ++ [n]) (by omega) (by omega) (by simp; omega)
def after (acc : List Nat) (ps : List (List UInt8)) : Option (List Nat × Int) := match spl ps with
  | none => (lst true ps).bind fun x => addG acc x (-1)
  | some (a, b) => (lst false a).bind fun x => (lstE true b).bind fun y => if acc.length + x.length + y.length ≤ 8 then some (acc ++ x ++ y, ((acc.length + x.length : Nat) : Int)) else none
theorem spl_head {p : List UInt8} {ps : List (List UInt8)} {a b : List (List UInt8)} (h : spl (p :: ps) = some (a, b)) : ∃ r, a = p :: r := by
  rw [spl] at h
  split at h
  · cases h; exact ⟨[], rfl⟩
  · cases hs : spl ps with
    | none => rw [hs] at h; cases h
    | some q => rw [hs] at h; cases h; exact ⟨q.1, rfl⟩
theorem after_none {acc : List Nat} {p : List UInt8} {ps : List (List UInt8)} (hne : ps ≠ []) (h : Hex.read (bs p) = none) : after acc (p :: ps) = none := by
  unfold after
  cases hs : spl (p :: ps) with
  | none =>
    have e : lst true (p :: ps) = none := by
      unfold lst
      rw [h]; simp [hne]
    simp only [e]; rfl
  | some q =>
    obtain ⟨a, b⟩ := q
    obtain ⟨r, rfl⟩ := spl_head hs
    have e : lst false (p :: r) = none := by
      unfold lst
      rw [h]; simp
    simp only [e]; rfl
theorem after_some {acc : List Nat} {p : List UInt8} {ps : List (List UInt8)} {n : Nat} (h : Hex.read (bs p) = some n) (hc : ¬ (ps.head? = some [] ∧ 2 ≤ ps.length)) : after acc (p :: ps) = if acc.length = 8 then none else after (acc ++ [n]) ps := by
  have e0 : spl (p :: ps) = (spl ps).map fun q => (p :: q.1, q.2) := by rw [spl, if_neg hc]
  have el : ∀ b t, lst b (p :: t) = (lst b t).map (n :: ·) := fun b t => by rw [lst, h]
  unfold after
  rw [e0]
  cases hs : spl ps with
  | none =>
    simp only [Option.map_none, el]
    cases hl : lst true ps with
    | none => simp
    | some x =>
      simp only [Option.map_some, Option.bind_some]
      unfold addG
      by_cases ha : acc.length = 8
      · rw [if_pos ha, if_neg (by simp; omega)]
      · rw [if_neg ha]
        by_cases hb : acc.length + (n :: x).length ≤ 8
        · rw [if_pos hb, if_pos (by simp at hb ⊢; omega)]; simp
        · rw [if_neg hb, if_neg (by simp at hb ⊢; omega)]
  | some q =>
    obtain ⟨a, b⟩ := q
    simp only [Option.map_some, el]
    cases hl : lst false a with
    | none => simp
    | some x =>
      simp only [Option.map_some, Option.bind_some]
      cases hl2 : lstE true b with
      | none => simp
      | some y =>
        simp only [Option.bind_some]
        by_cases ha : acc.length = 8
        · rw [if_pos ha, if_neg (by simp; omega)]
        · rw [if_neg ha]
          by_cases hb : acc.length + (n :: x).length + y.length ≤ 8
          · rw [if_pos hb, if_pos (by simp at hb ⊢; omega)]
            simp only [List.append_assoc, List.cons_append, List.nil_append, List.length_cons, List.length_append, List.length_nil]
            refine congrArg some (congrArg (Prod.mk _) ?_)
            omega
          · rw [if_neg hb, if_neg (by simp at hb ⊢; omega)]
theorem after_gap {acc : List Nat} (h8 : acc.length ≤ 8) {p : List UInt8} {r2 : List UInt8} {n : Nat} (h : Hex.read (bs p) = some n) : after acc (p :: [] :: parts 58 r2) = if acc.length = 8 then none else if r2 = [] then some (acc ++ [n], ((acc ++ [n]).length : Int)) else (lst true (parts 58 r2)).bind fun y => addG (acc ++ [n]) y ((acc ++ [n]).length : Int) := by
  have hne := parts_ne 58 r2
  have e0 : spl (p :: [] :: parts 58 r2) = some ([p], parts 58 r2) := by
    rw [spl, if_pos]; rfl
    refine ⟨rfl, ?_⟩
    cases hp : parts 58 r2 with
    | nil => exact absurd hp hne
    | cons a b => simp
  have el : lst false [p] = some [n] := by rw [lst, h]; rfl
  unfold after
  simp only [e0, el, Option.bind_some]
  unfold lstE
  by_cases h0 : r2 = []
  · subst h0
    have e : parts 58 [] = [[]] := rfl
    simp only [e, if_true, Option.bind_some]
    by_cases ha : acc.length = 8
    · rw [if_pos ha, if_neg (by simp; omega)]
    · rw [if_neg ha]
      rw [if_pos (by simp; omega)]; simp
  · rw [if_neg (fun e => h0 ((parts_nil_iff r2).1 e)), if_neg h0]
    cases hl : lst true (parts 58 r2) with
    | none => simp
    | some y =>
      simp only [Option.bind_some]
      unfold addG
      by_cases ha : acc.length = 8
      · rw [if_pos ha, if_neg (by simp; omega)]
      · rw [if_neg ha]
        by_cases hb : acc.length + [n].length + y.length ≤ 8
        · rw [if_pos hb, if_pos (by simp at hb ⊢; omega)]; simp
        · rw [if_neg hb, if_neg (by simp at hb ⊢; omega)]
/-- The loop ahead of a gap. -/
theorem run_all {R : ByteArray → S_colon_reader → Option (Bool × S_colon_reader)} (hR : Loop R) : ∀ (k : Nat) (l : List UInt8) (acc : List Nat), l.length ≤ k → l.length < 1000000 → acc.length ≤ 8 →
    Res (R (bs l) (rd acc (-1))) (after acc (parts 58 l)) := by
  intro k
  induction k with
  | zero =>
    intro l acc hk hb h8
    obtain rfl : l = [] := List.eq_nil_of_length_eq_zero (by omega)
    have hc := cut_none [] 58 (fun x h => by cases h)
    rw [show ((58 : UInt8).toNat : Int) = 58 from rfl] at hc
    rw [hR, hc, bindM_some]
    exact res_pair (tail_ok h8 (-1) [] (by simp))
  | succ k ih =>
    intro l acc hk hb h8
    rcases split_at 58 l with h | ⟨p, r, rfl, h⟩
    · have hc := cut_none l 58 h
      rw [show ((58 : UInt8).toNat : Int) = 58 from rfl] at hc
      rw [hR, hc, bindM_some, parts_none _ _ h]
      exact res_pair (tail_ok h8 (-1) l hb)
    · have hlen : (p ++ 58 :: r).length = p.length + (r.length + 1) := by simp
      obtain ⟨c1, c2, _, c4⟩ := round hR (acc := acc) (-1) p r h (by omega)
      have hne := parts_ne 58 r
      rw [parts_cons 58 r p h]
      cases hr : Hex.read (bs p) with
      | none => rw [after_none hne hr]; exact c1 (.inl hr)
      | some n =>
        by_cases hrc : ∃ r2, r = 58 :: r2
        · obtain ⟨r2, hr2⟩ := hrc
          subst hr2
          rw [parts_colon, after_gap h8 hr]
          by_cases ha : acc.length = 8
          · rw [if_pos ha]; exact c1 (.inr ha)
          · rw [if_neg ha, c4 n r2 hr (by omega) rfl (by omega)]
            by_cases h0 : r2 = []
            · rw [if_pos h0, if_pos h0]; rfl
            · rw [if_neg h0, if_neg h0]
              exact run_gap hR _ (by omega) r2.length r2 (acc ++ [n]) (Nat.le_refl _) (by simp only [List.length_append, List.length_cons] at hb; omega) (by simp; omega)
        · rw [after_some hr (fun hc => hrc ((parts_head r).1 hc))]
          by_cases ha : acc.length = 8
          · rw [if_pos ha]; exact c1 (.inr ha)
          · rw [if_neg ha, c2 n hr (by omega) fun r2 e => hrc ⟨r2, e⟩]
            exact ih r (acc ++ [n]) (by omega) (by omega) (by simp; omega)
def readL (l : List UInt8) : Option (List Nat × Int) := if isCC l = true then (if l.drop 2 = [] then some ([], 0) else (lst true (parts 58 (l.drop 2))).bind fun x => addG [] x 0) else after [] (parts 58 l)
theorem read_ok (l : List UInt8) (hb : l.length < 1000000) : Res (colon_reader_read (rd [] (-1)) (bs l)) (readL l) := by
  unfold colon_reader_read readL
  rw [pre2, bindM_some]
  by_cases hc : isCC l = true
  · obtain ⟨r, rfl⟩ := (isCC_iff l).1 hc
    have hg : (0 : Int) ≤ 2 ∧ 2 ≤ ((bs (58 :: 58 :: r)).size : Int) ∧ ((bs (58 :: 58 :: r)).size : Int) ≤ ((bs (58 :: 58 :: r)).size : Int) := by
      rw [bs_size, List.length_cons, List.length_cons]; omega
    have hx : (bs (58 :: 58 :: r)).extract (Int.toNat 2) (Int.toNat ((bs (58 :: 58 :: r)).size : Int)) = bs r := by
      rw [Int.toNat_natCast, bs_extract, bs_size, List.take_of_length_le (Nat.le_refl _)]; rfl
    rw [if_pos hc, if_pos hc, if_pos hg, hx]
    show Res (if seq (bs r) (⟨#[]⟩ : ByteArray) = true then _ else _) (if r = [] then _ else _)
    by_cases h0 : r = []
    · subst h0
      rw [if_pos rfl, if_pos ((seq_nil []).2 rfl)]; rfl
    · rw [if_neg h0, if_neg (fun e => h0 ((seq_nil r).1 e))]
      exact res_id (run_gap loop0 0 (by omega) r.length r [] (Nat.le_refl _) (by simp only [List.length_cons] at hb; omega) (by simp))
  · rw [if_neg hc, if_neg hc]
    exact res_id (run_all loop1 l.length l [] (Nat.le_refl _) hb (by simp))
def fin (q : List Nat × Int) : Option (List Nat) := if q.2 < 0 then (if q.1.length = 8 then some q.1 else none) else if q.1.length = 8 then none else some (q.1.take q.2.toNat ++ (List.replicate (8 - q.1.length) 0 ++ q.1.drop q.2.toNat))
theorem addG_some {acc l : List Nat} {gp : Int} {q : List Nat × Int} (h : addG acc l gp = some q) : q.1.length ≤ 8 ∧ q.2 = gp := by
  unfold addG at h
  split at h
  · cases h; simp; omega
  · cases h
theorem readL_ok {l : List UInt8} {q : List Nat × Int} (h : readL l = some q) : q.1.length ≤ 8 ∧ q.2 ≤ q.1.length := by
  unfold readL at h
  split at h
  · split at h
    · cases h; simp
    · obtain ⟨x, _, h⟩ := Option.bind_eq_some_iff.1 h
      have := addG_some h
      omega
  · unfold after at h
    split at h
    · obtain ⟨x, _, h⟩ := Option.bind_eq_some_iff.1 h
      have := addG_some h
      omega
    · obtain ⟨x, _, h⟩ := Option.bind_eq_some_iff.1 h
      obtain ⟨y, _, h⟩ := Option.bind_eq_some_iff.1 h
      split at h
      · cases h; simp at *; omega
      · cases h
theorem spl_ne : ∀ {ps : List (List UInt8)} {a b : List (List UInt8)}, spl ps = some (a, b) → a ≠ []
  | [], _, _, h => by cases h
  | p :: r, a, b, h => by
    obtain ⟨t, rfl⟩ := spl_head h
    simp
theorem spl_colons {l : List UInt8} {b : List (List UInt8)} (h : spl (parts 58 l) = some ([[]], b)) : isCC l = true := by
  have hne := parts_ne 58 l
  cases hp : parts 58 l with
  | nil => exact absurd hp hne
  | cons p r =>
    rw [hp, spl] at h
    split at h
    · next hc =>
      simp only [Option.some.injEq, Prod.mk.injEq, List.cons.injEq, and_true] at h
      obtain ⟨rfl, _⟩ := h
      obtain ⟨l2, rfl⟩ := (parts_head l).1 ⟨by rw [hp]; rfl, by rw [hp]; simp; omega⟩
      rw [parts_colon] at hp
      obtain rfl := (List.cons.inj hp).2
      obtain ⟨l3, rfl⟩ := (parts_head l2).1 hc
      rfl
    · cases hs : spl r with
      | none => rw [hs] at h; cases h
      | some q =>
        rw [hs] at h
        simp only [Option.map_some, Option.some.injEq, Prod.mk.injEq, List.cons.injEq] at h
        obtain ⟨a, b'⟩ := q
        exact absurd h.1.2 (spl_ne hs)
theorem parse_read (l : List UInt8) : parseL l = (readL l).bind fin := by
  unfold readL
  by_cases hc : isCC l = true
  · obtain ⟨r, rfl⟩ := (isCC_iff l).1 hc
    rw [if_pos hc]
    have hne := parts_ne 58 r
    have e0 : spl (parts 58 (58 :: 58 :: r)) = some ([[]], parts 58 r) := by
      rw [parts_colon, parts_colon, spl, if_pos]; rfl
      refine ⟨rfl, ?_⟩
      cases hp : parts 58 r with
      | nil => exact absurd hp hne
      | cons a b => simp
    have e1 : lstE false [[]] = some [] := rfl
    unfold parseL
    simp only [e0, e1, Option.bind_some]
    show _ = (if r = [] then _ else (lst true (parts 58 r)).bind _ : Option (List Nat × Int)).bind fin
    by_cases h0 : r = []
    · subst h0; rfl
    · rw [if_neg h0]
      unfold lstE
      rw [if_neg (fun e => h0 ((parts_nil_iff r).1 e))]
      cases hl : lst true (parts 58 r) with
      | none => rfl
      | some y =>
        simp only [Option.bind_some]
        unfold addG
        by_cases h7 : y.length ≤ 7
        · rw [if_pos (by simp; omega), if_pos (by simp; omega)]
          show _ = fin (y, 0)
          unfold fin
          simp only [Int.lt_irrefl, if_false]
          rw [if_neg (by omega)]
          simp
        · rw [if_neg (by simp; omega)]
          by_cases h8 : y.length = 8
          · rw [if_pos (by simp; omega)]
            show _ = fin (y, 0)
            unfold fin
            simp only [Int.lt_irrefl, if_false]
            rw [if_pos h8]
          · rw [if_neg (by simp; omega)]; rfl
  · rw [if_neg hc]
    unfold parseL after
    cases hs : spl (parts 58 l) with
    | none =>
      simp only
      cases hl : lst true (parts 58 l) with
      | none => rfl
      | some x =>
        simp only [Option.bind_some]
        unfold addG
        by_cases h8 : x.length = 8
        · rw [if_pos h8, if_pos (by simp; omega)]
          show _ = fin (x, -1)
          unfold fin
          rw [if_pos (by show (-1 : Int) < 0; omega), if_pos h8]
        · rw [if_neg h8]
          by_cases h9 : x.length ≤ 8
          · rw [if_pos (by simp; omega)]
            show _ = fin (x, -1)
            unfold fin
            rw [if_pos (by show (-1 : Int) < 0; omega), if_neg h8]
          · rw [if_neg (by simp; omega)]; rfl
    | some q =>
      obtain ⟨a, b⟩ := q
      simp only
      have ea : lstE false a = lst false a := by
        unfold lstE
        rw [if_neg]
        intro e; subst e
        exact hc (spl_colons hs)
      rw [ea]
      cases hl : lst false a with
      | none => rfl
      | some x =>
        simp only [Option.bind_some]
        cases hl2 : lstE true b with
        | none => rfl
        | some y =>
          simp only [Option.bind_some, List.nil_append, List.length_nil, Nat.zero_add]
          by_cases h8 : x.length + y.length ≤ 8
          · rw [if_pos h8]
            show _ = fin (x ++ y, ((x.length : Nat) : Int))
            unfold fin
            simp only [Int.toNat_natCast, List.take_left', List.drop_left', List.length_append]
            rw [if_neg (show ¬ ((x.length : Nat) : Int) < 0 by omega)]
            by_cases h7 : x.length + y.length ≤ 7
            · rw [if_pos h7, if_neg (by omega), Nat.sub_sub]
            · rw [if_neg h7, if_pos (by omega)]
          · rw [if_neg h8, if_neg (by omega)]; rfl
theorem ns_take (G : List Nat) (k : Nat) : (ns G).take k = ns (G.take k) := by unfold ns; rw [List.map_take]
theorem ns_drop (G : List Nat) (k : Nat) : (ns G).drop k = ns (G.drop k) := by unfold ns; rw [List.map_drop]
theorem ns_app (G H : List Nat) : ns (G ++ H) = ns G ++ ns H := by unfold ns; rw [List.map_append]
theorem spread_ok {G : List Nat} {gp : Int} (h8 : G.length ≤ 8) (hg : gp ≤ G.length) (hg1 : -1 ≤ gp) : ∃ v, colon_reader_spread (rd G gp) = some (v, (fin (G, gp)).isSome, rd G gp) ∧ ∀ K, fin (G, gp) = some K → v = gv K ∧ K.length = 8 := by
  unfold colon_reader_spread fin
  show ∃ v, (if decide (gp < 0) = true then some (gv G, ((G.length : Int) == 8), rd G gp) else if ((G.length : Int) == 8) = true then some (gv G, false, rd G gp) else _) = _ ∧ _
  by_cases hn : gp < 0
  · rw [if_pos (decide_eq_true hn)]
    simp only [hn, if_true]
    by_cases h : G.length = 8
    · rw [if_pos h]
      exact ⟨gv G, by rw [h]; rfl, fun K hK => by cases hK; exact ⟨rfl, h⟩⟩
    · rw [if_neg h]
      have e : ((G.length : Int) == 8) = false := by rw [beq_eq_false_iff_ne]; omega
      exact ⟨gv G, by rw [e]; rfl, fun K hK => by cases hK⟩
  · rw [if_neg (by rw [decide_eq_true_eq]; exact hn)]
    simp only [hn, if_false]
    by_cases h : G.length = 8
    · rw [if_pos h]
      have e : ((G.length : Int) == 8) = true := by rw [h]; rfl
      exact ⟨gv G, by rw [e]; rfl, fun K hK => by cases hK⟩
    · rw [if_neg h]
      have e : ((G.length : Int) == 8) = false := by rw [beq_eq_false_iff_ne]; omega
      rw [e, if_neg Bool.false_ne_true]
      obtain ⟨g, rfl⟩ := Int.eq_ofNat_of_zero_le (show 0 ≤ gp by omega)
      have hgl : g ≤ G.length := by omega
      have w1 : wr .i64 (8 - (G.length : Int)) = ((8 - G.length : Nat) : Int) := by rw [wr_i64 (by omega) (by omega)]; omega
      have w2 : wr .i64 (((8 - G.length : Nat) : Int) + (g : Int)) = ((8 - G.length + g : Nat) : Int) := by rw [wr_i64 (by omega) (by omega)]; omega
      show ∃ v, (if (0 : Int) ≤ 0 ∧ (0 : Int) ≤ (g : Int) ∧ (g : Int) ≤ 8 then if (0 : Int) ≤ wr .i64 (wr .i64 (8 - (G.length : Int)) + (g : Int)) ∧ wr .i64 (wr .i64 (8 - (G.length : Int)) + (g : Int)) ≤ 8 ∧ (8 : Int) ≤ 8 then if (0 : Int) ≤ (g : Int) ∧ (g : Int) ≤ (G.length : Int) ∧ (G.length : Int) ≤ 8 then some (vcopy (vcopy (Vector.replicate 8 (0 : Int) : Vector Int 8) (Int.toNat 0) (List.take (Int.toNat (8 - 0)) (lsub (Vector.toList (gv G)) 0 (g : Int)))) (Int.toNat (wr .i64 (wr .i64 (8 - (G.length : Int)) + (g : Int)))) (List.take (Int.toNat (8 - wr .i64 (wr .i64 (8 - (G.length : Int)) + (g : Int)))) (lsub (Vector.toList (gv G)) (g : Int) (G.length : Int))), true, rd G (g : Int)) else none else none else none) = _ ∧ _
      rw [w1, w2, if_pos (by omega), if_pos (by omega), if_pos (by omega)]
      have t1 : List.take (Int.toNat (8 - 0)) (lsub (Vector.toList (gv G)) 0 (g : Int)) = ns (G.take g) := by
        unfold lsub
        rw [gv_toList h8, Int.toNat_natCast, ns_take, List.take_append_of_le_length hgl]
        show List.take 8 (ns (G.take g)) = _
        exact List.take_of_length_le (by rw [ns_len, List.length_take]; omega)
      have t2 : List.take (Int.toNat (8 - ((8 - G.length + g : Nat) : Int))) (lsub (Vector.toList (gv G)) (g : Int) (G.length : Int)) = ns (G.drop g) := by
        unfold lsub
        rw [gv_toList h8, Int.toNat_natCast, Int.toNat_natCast, ns_take, List.take_left' rfl, ns_drop]
        exact List.take_of_length_le (by rw [ns_len, List.length_drop]; omega)
      rw [t1, t2, Int.toNat_natCast]
      refine ⟨_, rfl, fun K hK => ?_⟩
      cases hK
      have hz : (Vector.replicate 8 (0 : Int) : Vector Int 8).toList = ns (List.replicate 8 0) := by simp [ns]
      have c1 : (vcopy (Vector.replicate 8 (0 : Int) : Vector Int 8) (Int.toNat 0) (ns (G.take g))).toList = ns (G.take g ++ List.replicate (8 - g) 0) := by
        rw [vcopy_toList _ _ _ (by rw [ns_len, List.length_take]; show 0 + _ ≤ 8; omega), hz, ns_len, List.length_take, Nat.min_eq_left hgl, ns_drop, ns_app]
        show [] ++ ns (G.take g) ++ ns ((List.replicate 8 0).drop (0 + g)) = _
        rw [List.nil_append, List.drop_replicate, Nat.zero_add]
      constructor
      · apply gv_of
        rw [vcopy_toList _ _ _ (by rw [ns_len, List.length_drop]; omega), c1, ns_len, List.length_drop, ns_take, ns_drop, ← ns_app, ← ns_app]
        congr 1
        have hA : (G.take g).length = g := by rw [List.length_take]; omega
        have e5 : (G.take g ++ List.replicate (8 - g) 0).drop (8 - G.length + g + (G.length - g)) = [] := List.drop_eq_nil_of_le (by simp; omega)
        rw [e5, List.append_nil, List.take_append, List.take_of_length_le (by omega), hA, List.take_replicate]
        rw [show min (8 - G.length + g - g) (8 - g) = 8 - G.length by omega, Int.toNat_natCast, List.append_assoc]
      · simp; omega
def v16 (m : List UInt8) : Vector Int 16 := lvec 16 (ob m)
theorem v16_toList {m : List UInt8} (h : m.length = 16) : (v16 m).toList = ob m := by
  unfold v16
  rw [lvec_toList 16 _ (by rw [ob_length]; omega), List.take_of_length_le (by rw [ob_length]; omega)]
theorem v16_of {v : Vector Int 16} {m : List UInt8} (h : v.toList = ob m) : v = v16 m := by
  have hl : m.length = 16 := by have := congrArg List.length h; rw [ob_length] at this; simpa using this.symm
  apply Vector.toList_inj.1
  rw [v16_toList hl, h]
theorem v16_zero : (Vector.replicate 16 (0 : Int) : Vector Int 16) = v16 (List.replicate 16 0) := v16_of rfl
theorem v16_set {m : List UInt8} (h : m.length = 16) (i : Nat) (c : UInt8) : vset (v16 m) (i : Int) (c.toNat : Int) = v16 (m.set i c) := by
  apply Vector.toList_inj.1
  rw [vset_toList, v16_toList h, v16_toList (by simpa using h), Int.toNat_natCast]
  unfold ob
  rw [List.map_set]
theorem set2 (A : List UInt8) (k : Nat) (x y : UInt8) : ((A ++ List.replicate (k + 2) 0).set A.length x).set (A.length + 1) y = A ++ (x :: y :: List.replicate k 0) := by
  rw [List.set_append_right _ _ (Nat.le_refl _), Nat.sub_self, List.replicate_succ, List.replicate_succ, List.set_cons_zero, List.set_append_right _ _ (by omega), show A.length + 1 - A.length = 1 by omega]
  rfl
theorem un_step (G : List Nat) (i n : Nat) (h : G[i]? = some n) : un (G.take (i + 1)) = un (G.take i) ++ [UInt8.ofNat (n / 256), UInt8.ofNat (n % 256)] := by
  rw [List.take_add_one, h, un_app]; rfl
theorem put2 (G : List Nat) (h8 : G.length = 8) (i n : Nat) (hi : i < 8) (h : G[i]? = some n) (hn : n < 65536) (x y : Int) (hx : x = ((n / 256 : Nat) : Int)) (hy : y = ((n % 256 : Nat) : Int)) :
    vset (vset (v16 (un (G.take i) ++ List.replicate (16 - 2 * i) 0)) ((2 * i : Nat) : Int) x) ((2 * i + 1 : Nat) : Int) y = v16 (un (G.take (i + 1)) ++ List.replicate (16 - 2 * (i + 1)) 0) := by
  have hA : (un (G.take i)).length = 2 * i := by rw [un_len, List.length_take]; omega
  have e1 : ((UInt8.ofNat (n / 256)).toNat : Int) = ((n / 256 : Nat) : Int) := by rw [UInt8.toNat_ofNat', Nat.mod_eq_of_lt (by omega)]
  have e2 : ((UInt8.ofNat (n % 256)).toNat : Int) = ((n % 256 : Nat) : Int) := by rw [UInt8.toNat_ofNat', Nat.mod_eq_of_lt (by omega)]
  subst hx hy
  rw [← e1, ← e2, v16_set (by simp [hA]; omega), v16_set (by simp [hA]; omega), un_step G i n h, show 16 - 2 * i = (16 - 2 * (i + 1)) + 2 by omega]
  have := set2 (un (G.take i)) (16 - 2 * (i + 1)) (UInt8.ofNat (n / 256)) (UInt8.ofNat (n % 256))
  rw [hA] at this
  rw [this, List.append_assoc]; rfl
theorem bytes_loop {G : List Nat} (h8 : G.length = 8) (hG : ∀ n ∈ G, n < 65536) (b : Bool) (st : S_colon_reader) : ∀ (k i : Nat), i + k = 8 → colon_Parse.l0 (gv G, b, st) (i : Int) (v16 (un (G.take i) ++ List.replicate (16 - 2 * i) 0)) = some (v16 (un G)) := by
  intro k
  induction k with
  | zero =>
    intro i hi
    obtain rfl : i = 8 := by omega
    rw [colon_Parse.l0.eq_def, if_neg (by decide), List.take_of_length_le (by omega)]
    simp
  | succ k ih =>
    intro i hi
    have hlt : i < 8 := by omega
    obtain ⟨n, hn⟩ : ∃ n, G[i]? = some n := ⟨_, List.getElem?_eq_getElem (by omega)⟩
    have hn6 := hG n (List.mem_of_getElem? hn)
    have w1 : wr .i64 (2 * (i : Int)) = ((2 * i : Nat) : Int) := by rw [wr_i64 (by omega) (by omega)]; omega
    have w2 : wr .i64 (((2 * i : Nat) : Int) + 1) = ((2 * i + 1 : Nat) : Int) := by rw [wr_i64 (by omega) (by omega)]; omega
    have w3 : wr .i64 ((i : Int) + 1) = ((i + 1 : Nat) : Int) := by rw [wr_i64 (by omega) (by omega)]; omega
    have hv : vget (gv G) (i : Int) = (n : Int) := gv_get h8 i n hn
    rw [colon_Parse.l0.eq_def, if_pos (decide_eq_true (by omega)), if_pos (by omega), w1, w2, if_pos (by omega), if_pos (by omega), w3]
    show colon_Parse.l0 (gv G, b, st) _ (vset (vset _ _ (wr .u8 (ishr .u16 (vget (gv G) (i : Int)) 8))) _ (wr .u8 (vget (gv G) (i : Int)))) = _
    rw [hv, put2 G h8 i n hlt hn hn6]
    · exact ih (i + 1) (by omega)
    · rw [show (8 : Int) = ((8 : Nat) : Int) from rfl, ishr_nat .u16 n 8 (by decide), wr_u8 (by omega) (by show ((n / 256 : Nat) : Int) < 256; omega)]
    · rw [wr_u8_mod]; omega
theorem lst_lt (last : Bool) : ∀ (ps : List (List UInt8)) (x : List Nat), lst last ps = some x → ∀ n ∈ x, n < 65536
  | [], x, h, n, hn => by cases h; cases hn
  | p :: r, x, h, n, hn => by
    rw [lst] at h
    cases hr : Hex.read (bs p) with
    | some m =>
      rw [hr] at h
      obtain ⟨y, hy, rfl⟩ := Option.map_eq_some_iff.1 h
      rcases List.mem_cons.1 hn with rfl | hn
      · exact Hex.read_lt _ _ hr
      · exact lst_lt last r y hy n hn
    | none =>
      rw [hr] at h
      simp only at h
      split at h
      · next hq =>
        cases h
        obtain ⟨m, hm, hq2, _⟩ := quadP_back hq.1
        match m, hm with
        | [a, b, c, d], hm =>
          have ha := a.toNat_lt
          have hb := b.toNat_lt
          have hc := c.toNat_lt
          have hd := d.toNat_lt
          have e0 : vget (v4 [a, b, c, d]) 0 = (a.toNat : Int) := vget_v4 hm 0 a rfl
          have e1 : vget (v4 [a, b, c, d]) 1 = (b.toNat : Int) := vget_v4 hm 1 b rfl
          have e2 : vget (v4 [a, b, c, d]) 2 = (c.toNat : Int) := vget_v4 hm 2 c rfl
          have e3 : vget (v4 [a, b, c, d]) 3 = (d.toNat : Int) := vget_v4 hm 3 d rfl
          rw [hq2] at hn
          unfold q2 at hn
          simp only [e0, e1, e2, e3, Int.toNat_natCast, List.mem_cons, List.not_mem_nil, or_false] at hn
          omega
      · cases h
theorem lstE_lt {last : Bool} {ps : List (List UInt8)} {x : List Nat} (h : lstE last ps = some x) : ∀ n ∈ x, n < 65536 := by
  unfold lstE at h
  split at h
  · cases h; intro n hn; cases hn
  · exact lst_lt last ps x h
theorem parseL_ok {l : List UInt8} {G : List Nat} (h : parseL l = some G) : G.length = 8 ∧ ∀ n ∈ G, n < 65536 := by
  unfold parseL at h
  split at h
  · obtain ⟨x, hx, h⟩ := Option.bind_eq_some_iff.1 h
    split at h
    · next h8 => cases h; exact ⟨h8, lst_lt _ _ _ hx⟩
    · cases h
  · obtain ⟨x, hx, h⟩ := Option.bind_eq_some_iff.1 h
    obtain ⟨y, hy, h⟩ := Option.bind_eq_some_iff.1 h
    split at h
    · cases h
      refine ⟨by simp; omega, fun n hn => ?_⟩
      rcases List.mem_append.1 hn with hn | hn
      · exact lstE_lt hx n hn
      · rcases List.mem_append.1 hn with hn | hn
        · have := List.eq_of_mem_replicate hn; omega
        · exact lstE_lt hy n hn
    · cases h
def parseV (l : List UInt8) : Vector Int 16 := v16 (match parseL l with | some G => un G | none => List.replicate 16 0)
theorem colon_parse (l : List UInt8) (hb : l.length < 1000000) : colon_Parse (bs l) = some (parseV l, if (parseL l).isSome then 0 else 5) := by
  unfold colon_Parse parseV
  have h0 : ({ ({ f_g := (Vector.replicate 8 (0 : Int) : (Vector Int 8)), f_n := (0 : Int), f_gap := (0 : Int) } : S_colon_reader) with f_gap := (-1) } : S_colon_reader) = rd [] (-1) := by
    show S_colon_reader.mk _ _ _ = S_colon_reader.mk _ _ _
    rw [gv_zero]; rfl
  rw [h0, parse_read]
  have hr := read_ok l hb
  cases hq : readL l with
  | none =>
    rw [hq] at hr
    obtain ⟨s', hr⟩ := hr
    rw [hr, bindM_some]
    show (if (!false) = true then _ else _) = _
    rw [if_pos (show (!false) = true from rfl), v16_zero]; rfl
  | some q =>
    obtain ⟨G, gp⟩ := q
    rw [hq] at hr
    have hr' : colon_reader_read (rd [] (-1)) (bs l) = some (true, rd G gp) := hr
    rw [hr', bindM_some]
    show (if (!true) = true then _ else _) = _
    obtain ⟨h8, hg⟩ := readL_ok hq
    have hg1 : -1 ≤ gp := by
      unfold readL at hq
      split at hq
      · split at hq
        · cases hq; omega
        · obtain ⟨x, _, hq⟩ := Option.bind_eq_some_iff.1 hq
          have := (addG_some hq).2
          simp only at this; omega
      · unfold after at hq
        split at hq
        · obtain ⟨x, _, hq⟩ := Option.bind_eq_some_iff.1 hq
          have := (addG_some hq).2
          simp only at this; omega
        · obtain ⟨x, _, hq⟩ := Option.bind_eq_some_iff.1 hq
          obtain ⟨y, _, hq⟩ := Option.bind_eq_some_iff.1 hq
          split at hq
          · cases hq; omega
          · cases hq
    obtain ⟨v, hv, hK⟩ := spread_ok h8 hg hg1
    rw [if_neg (by decide)]
    show (colon_reader_spread (rd G gp) >>= fun t5 => _) = _
    rw [hv, bindM_some]
    show (if (!(fin (G, gp)).isSome) = true then _ else _) = some (v16 (match fin (G, gp) with | some K => un K | none => List.replicate 16 0), if (fin (G, gp)).isSome = true then 0 else 5)
    cases hf : fin (G, gp) with
    | none =>
      rw [if_pos (show (!(none : Option (List Nat)).isSome) = true from rfl), v16_zero]; rfl
    | some K =>
      obtain ⟨hv2, hK8⟩ := hK K hf
      have hlt : ∀ n ∈ K, n < 65536 := (parseL_ok (l := l) (G := K) (by rw [parse_read, hq]; exact hf)).2
      rw [if_neg (show ¬ (!(some K).isSome) = true from Bool.false_ne_true), v16_zero, hv2]
      have := bytes_loop hK8 hlt true (rd G gp) 8 0 rfl
      rw [show 16 - 2 * 0 = 16 from rfl, List.take_zero, show un [] = [] from rfl, List.nil_append, show ((0 : Nat) : Int) = 0 from rfl] at this
      show (colon_Parse.l0 (gv K, true, rd G gp) 0 (v16 (List.replicate 16 0)) >>= fun q9 => _) = _
      rw [this]; rfl
end Go.Proofs.YtkkmmpofdcccmaaGreatDoor.Col
namespace Go.Proofs.YtkkmmpofdcccmaaGreatDoor.Col
open E Go.RowKit
/-- Where '::' stands. -/
def gapL : List UInt8 → Option (List UInt8 × List UInt8)
  | [] => none
  | c :: r => if isCC (c :: r) = true then some ([], r.drop 1) else (gapL r).map fun q => (c :: q.1, q.2)
theorem gapL_eq : ∀ {l a b : List UInt8}, gapL l = some (a, b) → l = a ++ 58 :: 58 :: b
  | [], _, _, h => by cases h
  | c :: r, a, b, h => by
    unfold gapL at h
    split at h
    · next hc =>
      obtain ⟨r2, hr⟩ := (isCC_iff _).1 hc
      cases h
      rw [hr]
      obtain ⟨_, rfl⟩ := List.cons.inj hr
      rfl
    · obtain ⟨q, hq, h⟩ := Option.map_eq_some_iff.1 h
      obtain ⟨a', b'⟩ := q
      cases h
      rw [gapL_eq hq]; rfl
theorem u8_58 (x : UInt8) : ((x.toNat : Int) == 58) = (x == 58) := by
  by_cases h : x = 58
  · subst h; rfl
  · have h2 : x.toNat ≠ 58 := fun e => h (UInt8.toNat_inj.1 e)
    have h3 : (x == 58) = false := by simp [h]
    rw [h3, beq_eq_false_iff_ne]; omega
theorem gap_loop (l : List UInt8) (hl : l.length < 1000000) : ∀ (k i : Nat), l.length - i = k → i ≤ l.length →
    crawlwayref09_gap.l0 (bs l) (i : Int) = some (match gapL (l.drop i) with | some (a, _) => .ret ((i + a.length : Nat) : Int) | none => .nx ()) := by
  intro k
  induction k with
  | zero =>
    intro i hk hi
    have w : wr .i64 ((i : Int) + 1) = ((i + 1 : Nat) : Int) := by rw [wr_i64 (by omega) (by omega)]; omega
    rw [crawlwayref09_gap.l0.eq_def, w, bs_size, if_neg (by rw [decide_eq_true_eq]; omega), List.drop_eq_nil_of_le (by omega)]; rfl
  | succ k ih =>
    intro i hk hi
    have w : wr .i64 ((i : Int) + 1) = ((i + 1 : Nat) : Int) := by rw [wr_i64 (by omega) (by omega)]; omega
    obtain ⟨c, hc, hd⟩ := drop_get l i (by omega)
    have hbc : bt (bs l) (i : Int) = (c.toNat : Int) := bt_at (by rw [bs_list]; exact hc)
    have e58 := u8_58
    have hi1 := ih (i + 1) (by omega) (by omega)
    rw [crawlwayref09_gap.l0.eq_def, w, bs_size]
    by_cases h1 : i + 1 < l.length
    · obtain ⟨d, hdd, hd2⟩ := drop_get l (i + 1) h1
      have hbd : bt (bs l) ((i + 1 : Nat) : Int) = (d.toNat : Int) := bt_at (by rw [bs_list]; exact hdd)
      rw [if_pos (decide_eq_true (by omega)), if_pos (by omega), hbc, e58, hbd, e58, hd, hi1, hd2]
      unfold gapL
      by_cases hc58 : c = 58
      · subst hc58
        rw [if_pos (by rfl), if_pos (by omega)]
        by_cases hd58 : d = 58
        · subst hd58
          rw [if_pos (by rfl), if_pos (by rfl)]; rfl
        · have hf : (d == 58) = false := by simp [hd58]
          have hf2 : isCC (58 :: d :: l.drop (i + 1 + 1)) = false := by simp [isCC, hd58]
          rw [hf, if_neg Bool.false_ne_true, hf2, if_neg Bool.false_ne_true]
          have e : gapL (d :: l.drop (i + 1 + 1)) = if isCC (d :: l.drop (i + 1 + 1)) = true then some ([], (l.drop (i + 1 + 1)).drop 1) else (gapL (l.drop (i + 1 + 1))).map fun q => (d :: q.1, q.2) := rfl
          rw [← e]
          cases hg : gapL (d :: l.drop (i + 1 + 1)) with
          | none => rfl
          | some q => obtain ⟨a, b⟩ := q; simp; omega
      · have hf : (c == 58) = false := by simp [hc58]
        have hf2 : isCC (c :: d :: l.drop (i + 1 + 1)) = false := by simp [isCC, hc58]
        rw [hf, if_neg Bool.false_ne_true, hf2, if_neg Bool.false_ne_true]
        have e : gapL (d :: l.drop (i + 1 + 1)) = if isCC (d :: l.drop (i + 1 + 1)) = true then some ([], (l.drop (i + 1 + 1)).drop 1) else (gapL (l.drop (i + 1 + 1))).map fun q => (d :: q.1, q.2) := rfl
        rw [← e]
        cases hg : gapL (d :: l.drop (i + 1 + 1)) with
        | none => rfl
        | some q => obtain ⟨a, b⟩ := q; simp; omega
    · rw [if_neg (by rw [decide_eq_true_eq]; omega), hd, List.drop_eq_nil_of_le (show l.length ≤ i + 1 by omega)]
      rfl
theorem gap_ok (l : List UInt8) (hl : l.length < 1000000) : crawlwayref09_gap (bs l) = some (match gapL l with | some (a, _) => (a.length : Int) | none => -1) := by
  unfold crawlwayref09_gap
  have h := gap_loop l hl l.length 0 (by omega) (by omega)
  rw [show ((0 : Nat) : Int) = 0 from rfl, List.drop_zero] at h
  rw [h, bindM_some]
  cases gapL l with
  | none => rfl
  | some q => obtain ⟨a, b⟩ := q; simp
theorem parts_other {c : UInt8} (hc : c ≠ 58) (r : List UInt8) : parts 58 (c :: r) = (c :: (parts 58 r).headD []) :: (parts 58 r).tail := by rw [parts, if_neg hc]
theorem spl_gap : ∀ (l : List UInt8), spl (parts 58 l) = (gapL l).map fun q => (parts 58 q.1, parts 58 q.2)
  | [] => rfl
  | c :: r => by
    have ih := spl_gap r
    have hne := parts_ne 58 r
    unfold gapL
    by_cases hc : c = 58
    · subst hc
      rw [parts_colon, spl]
      by_cases hr : ∃ r2, r = 58 :: r2
      · rw [if_pos ((parts_head r).2 hr), if_pos ((isCC_iff _).2 (by obtain ⟨r2, h⟩ := hr; exact ⟨r2, by rw [h]⟩))]
        obtain ⟨r2, rfl⟩ := hr
        rw [parts_colon]; rfl
      · rw [if_neg (fun h => hr ((parts_head r).1 h)), if_neg (fun h => hr (by obtain ⟨r2, h⟩ := (isCC_iff _).1 h; exact ⟨r2, (List.cons.inj h).2⟩)), ih]
        cases gapL r with
        | none => rfl
        | some q => simp [parts_colon]
    · rw [parts_other hc]
      have hcc : ¬ isCC (c :: r) = true := fun h => by obtain ⟨r2, h⟩ := (isCC_iff _).1 h; exact hc (List.cons.inj h).1
      rw [if_neg hcc]
      cases hp : parts 58 r with
      | nil => exact absurd hp hne
      | cons h t =>
        rw [hp] at ih
        show spl ((c :: h) :: t) = _
        rw [spl] at ih ⊢
        have key : ∀ (q : Option (List UInt8 × List UInt8)), (∀ z, q = some z → ∃ h' t', parts 58 z.1 = h' :: t') →
            ((q.map fun q => (c :: q.1, q.2)).map fun q => (parts 58 q.1, parts 58 q.2)) = (q.map fun q => (parts 58 q.1, parts 58 q.2)).map fun x => ((c :: x.1.headD []) :: x.1.tail, x.2) := by
          intro q _
          cases q with
          | none => rfl
          | some z => simp [parts_other hc]
        rw [key _ (fun z _ => by
          have := parts_ne 58 z.1
          cases hz : parts 58 z.1 with
          | nil => exact absurd hz this
          | cons a b => exact ⟨a, b, rfl⟩), ← ih]
        by_cases hcond : t.head? = some [] ∧ 2 ≤ t.length
        · rw [if_pos hcond, if_pos hcond]; rfl
        · rw [if_neg hcond, if_neg hcond]
          cases spl t with
          | none => rfl
          | some z => rfl
theorem lget_map {α β : Type} [Inhabited β] (f : α → β) (ps : List α) (i : Nat) (p : α) (h : ps[i]? = some p) : lget (ps.map f) (i : Int) = f p := by
  unfold lget
  rw [Int.toNat_natCast, List.getD_eq_getElem?_getD, List.getElem?_map, h]; rfl
theorem list_loop (last : Bool) (ps : List (List UInt8)) (hps : ps.length < 1000000) (hsz : ∀ p ∈ ps, p.length < 1000000) : ∀ (k i : Nat) (acc : List Nat), ps.length - i = k → i ≤ ps.length → acc.length ≤ 2 * i →
    crawlwayref09_list.l0 last (ps.map bs) (ns acc) (i : Int) = some (match lst last (ps.drop i) with | some x => .nx (ns (acc ++ x)) | none => .ret ([], false)) := by
  intro k
  induction k with
  | zero =>
    intro i acc hk hi ha
    rw [crawlwayref09_list.l0.eq_def, if_neg (by rw [decide_eq_true_eq]; simp; omega), List.drop_eq_nil_of_le (by omega)]
    simp [lst]
  | succ k ih =>
    intro i acc hk hi ha
    have w : wr .i64 ((i : Int) + 1) = ((i + 1 : Nat) : Int) := by rw [wr_i64 (by omega) (by omega)]; omega
    obtain ⟨p, hp, hd⟩ := drop_get ps i (by omega)
    have hpm := hsz p (List.mem_of_getElem? hp)
    have hlen : ((ps.map bs).length : Int) = (ps.length : Int) := by simp
    have w2 : wr .i64 ((ps.length : Int) - 1) = (ps.length : Int) - 1 := wr_i64 (by omega) (by omega)
    rw [crawlwayref09_list.l0.eq_def, hlen, if_pos (decide_eq_true (by omega)), if_pos (by omega), lget_map bs ps i p hp, Hex.refRead_eq, bindM_some, hd, lst]
    cases hr : Hex.read (bs p) with
    | some n =>
      show (if decide ((n : Int) ≥ 0) = true then _ else _) = _
      rw [if_pos (decide_eq_true (by omega)), if_pos (by rw [ns_len]; omega), w]
      have h2 := ih (i + 1) (acc ++ [n]) (by omega) (by omega) (by simp; omega)
      rw [ns_app] at h2
      show crawlwayref09_list.l0 last (ps.map bs) (ns acc ++ [(n : Int)]) _ = _
      have e : ns [n] = [(n : Int)] := rfl
      rw [← e, h2]
      simp only
      cases lst last (ps.drop (i + 1)) with
      | none => rfl
      | some x => simp [ns_app, e]
    | none =>
      show (if decide ((-1 : Int) ≥ 0) = true then _ else _) = _
      rw [if_neg (by decide), if_pos (by omega), quad_parse_ref p hpm, bindM_some]
      simp only
      by_cases h0 : (quadP p).2 = 0
      · obtain ⟨m, hm, hq, _⟩ := quadP_back h0
        have hb : ((viOf (quadP p)).2 != 0) = false := by rw [hq]; rfl
        rw [hb, if_neg Bool.false_ne_true]
        cases last with
        | false =>
          rw [if_pos (by rfl), if_neg (by simp)]
        | true =>
          rw [if_neg (by decide), w2]
          by_cases hl : i + 1 < ps.length
          · rw [if_pos (decide_eq_true (by omega)), if_neg]
            rintro ⟨_, _, h⟩
            have := congrArg List.length h
            simp at this; omega
          · have hdn : ps.drop (i + 1) = [] := List.drop_eq_nil_of_le (by omega)
            rw [if_neg (by rw [decide_eq_true_eq]; omega), if_pos (by rw [ns_len]; omega), if_pos ⟨h0, rfl, hdn⟩, w]
            match m, hm with
            | [a, b, c, d], hm =>
              have la := a.toNat_lt
              have lb := b.toNat_lt
              have lc := c.toNat_lt
              have ld := d.toNat_lt
              rw [hq]
              have e0 : vget (v4 [a, b, c, d]) 0 = (a.toNat : Int) := vget_v4 hm 0 a rfl
              have e1 : vget (v4 [a, b, c, d]) 1 = (b.toNat : Int) := vget_v4 hm 1 b rfl
              have e2 : vget (v4 [a, b, c, d]) 2 = (c.toNat : Int) := vget_v4 hm 2 c rfl
              have e3 : vget (v4 [a, b, c, d]) 3 = (d.toNat : Int) := vget_v4 hm 3 d rfl
              have eq : q2 (v4 [a, b, c, d]) = [256 * a.toNat + b.toNat, 256 * c.toNat + d.toNat] := by unfold q2; rw [e0, e1, e2, e3]; rfl
              have g1 : ∀ x y : Nat, x < 256 → y < 256 → wr .i64 (wr .i64 (256 * wr .i64 (x : Int)) + wr .i64 (y : Int)) = ((256 * x + y : Nat) : Int) := by
                intro x y hx hy
                rw [wr_i64 (x := (x : Int)) (by omega) (by omega), wr_i64 (x := (y : Int)) (by omega) (by omega), wr_i64 (x := 256 * (x : Int)) (by omega) (by omega), wr_i64 (by omega) (by omega)]; omega
              show crawlwayref09_list.l0 true (ps.map bs) (ns acc ++ [wr .i64 (wr .i64 (256 * wr .i64 (vget (v4 [a, b, c, d]) 0)) + wr .i64 (vget (v4 [a, b, c, d]) 1)), wr .i64 (wr .i64 (256 * wr .i64 (vget (v4 [a, b, c, d]) 2)) + wr .i64 (vget (v4 [a, b, c, d]) 3))]) _ = some (Ctl.nx (ns (acc ++ q2 (v4 [a, b, c, d]))))
              rw [e0, e1, e2, e3, g1 _ _ la lb, g1 _ _ lc ld, eq, crawlwayref09_list.l0.eq_def, hlen, if_neg (by rw [decide_eq_true_eq]; omega), ns_app]; rfl
      · have hb : ((viOf (quadP p)).2 != 0) = true := by rw [bne_iff_ne]; show (((quadP p).2 : Nat) : Int) ≠ 0; omega
        rw [hb, if_pos rfl, if_neg (fun h => h0 h.1)]
def liOf (o : Option (List Nat)) : List Int × Bool := match o with
  | some x => (ns x, true)
  | none => ([], false)
theorem list_ok (l : List UInt8) (last : Bool) (hl : l.length < 100000) : crawlwayref09_list (bs l) last = some (liOf (lstE last (parts 58 l))) := by
  unfold crawlwayref09_list lstE
  by_cases h0 : l = []
  · subst h0
    rw [if_pos ((seq_nil []).2 rfl), if_pos (show parts 58 [] = [[]] from rfl)]; rfl
  · rw [if_neg (fun e => h0 ((seq_nil l).1 e)), if_neg (fun e => h0 ((parts_nil_iff l).1 e))]
    have h58 : ((58 : UInt8).toNat : Int) = 58 := rfl
    have hp := parts_ref 58 l (by omega)
    rw [h58] at hp
    rw [hp, bindM_some]
    have := list_loop last (parts 58 l) (by have := parts_len 58 l; omega) (fun p hpm => by have := part_short 58 l p hpm; omega) (parts 58 l).length 0 [] (by omega) (by omega) (by simp)
    rw [show ns [] = ([] : List Int) from rfl, show ((0 : Nat) : Int) = 0 from rfl, List.drop_zero] at this
    rw [this, bindM_some]
    cases lst last (parts 58 l) with
    | none => rfl
    | some x => rfl
/-- The two loops of Parse that write bytes are alike. -/
def Bytes (L : List Int) (R : Int → Vector Int 16 → Option (Vector Int 16)) : Prop := ∀ i o, R i o = if (decide (i < 8)) = true then (if (0 : Int) ≤ i ∧ i < (L.length : Int) then if (0 : Int) ≤ wr .i64 (2 * i) ∧ wr .i64 (2 * i) < 16 then if (0 : Int) ≤ i ∧ i < (L.length : Int) then if (0 : Int) ≤ wr .i64 ((wr .i64 (2 * i)) + 1) ∧ wr .i64 ((wr .i64 (2 * i)) + 1) < 16 then R (wr .i64 (i + 1)) (vset (vset o (wr .i64 (2 * i)) (wr .u8 (wr .i64 (Int.tdiv (lget L i) 256)))) (wr .i64 ((wr .i64 (2 * i)) + 1)) (wr .u8 (Int.tmod (lget L i) 256))) else none else none else none else none) else (some o)
theorem ref_bytes {R : Int → Vector Int 16 → Option (Vector Int 16)} {G : List Nat} (hR : Bytes (ns G) R) (h8 : G.length = 8) (hG : ∀ n ∈ G, n < 65536) : ∀ (k i : Nat), i + k = 8 → R (i : Int) (v16 (un (G.take i) ++ List.replicate (16 - 2 * i) 0)) = some (v16 (un G)) := by
  intro k
  induction k with
  | zero =>
    intro i hi
    obtain rfl : i = 8 := by omega
    rw [hR, if_neg (by decide), List.take_of_length_le (by omega)]
    simp
  | succ k ih =>
    intro i hi
    have hlt : i < 8 := by omega
    obtain ⟨n, hn⟩ : ∃ n, G[i]? = some n := ⟨_, List.getElem?_eq_getElem (by omega)⟩
    have hn6 := hG n (List.mem_of_getElem? hn)
    have w1 : wr .i64 (2 * (i : Int)) = ((2 * i : Nat) : Int) := by rw [wr_i64 (by omega) (by omega)]; omega
    have w2 : wr .i64 (((2 * i : Nat) : Int) + 1) = ((2 * i + 1 : Nat) : Int) := by rw [wr_i64 (by omega) (by omega)]; omega
    have w3 : wr .i64 ((i : Int) + 1) = ((i + 1 : Nat) : Int) := by rw [wr_i64 (by omega) (by omega)]; omega
    have hv : lget (ns G) (i : Int) = (n : Int) := by unfold lget; rw [Int.toNat_natCast]; exact ns_get G i n hn
    have hl : ((ns G).length : Int) = 8 := by rw [ns_len, h8]; rfl
    have d1 : Int.tdiv (n : Int) 256 = ((n / 256 : Nat) : Int) := by rw [Int.tdiv_eq_ediv_of_nonneg (by omega)]; omega
    have d2 : Int.tmod (n : Int) 256 = ((n % 256 : Nat) : Int) := by rw [Int.tmod_eq_emod_of_nonneg (by omega)]; omega
    rw [hR, if_pos (decide_eq_true (by omega)), hl, if_pos (by omega), w1, w2, if_pos (by omega), if_pos (by omega), if_pos (by omega), w3, hv, d1, d2, put2 G h8 i n hlt hn hn6]
    · exact ih (i + 1) (by omega)
    · rw [wr_i64 (by omega) (by omega), wr_u8 (by omega) (by omega)]
    · rw [wr_u8 (by omega) (by omega)]
theorem bytes0 (L : List Int) (b : Bool) : Bytes L fun i o => crawlwayref09_Parse.l0 (L, b) i o := fun i o => by
  show crawlwayref09_Parse.l0 (L, b) i o = _
  rw [crawlwayref09_Parse.l0.eq_def]
theorem bytes3 (q y : List Int) (b : Bool) : Bytes (q ++ y) fun i o => crawlwayref09_Parse.l3 (y, b) q i o := fun i o => by
  show crawlwayref09_Parse.l3 (y, b) q i o = _
  rw [crawlwayref09_Parse.l3.eq_def]
theorem lst_len (last : Bool) : ∀ (ps : List (List UInt8)) (x : List Nat), lst last ps = some x → x.length ≤ ps.length + 1
  | [], x, h => by cases h; simp
  | p :: r, x, h => by
    rw [lst] at h
    cases hr : Hex.read (bs p) with
    | some m =>
      rw [hr] at h
      obtain ⟨y, hy, rfl⟩ := Option.map_eq_some_iff.1 h
      have := lst_len last r y hy
      simp; omega
    | none =>
      rw [hr] at h
      simp only at h
      split at h
      · cases h; simp [q2]
      · cases h
theorem lstE_len {last : Bool} {ps : List (List UInt8)} {x : List Nat} (h : lstE last ps = some x) : x.length ≤ ps.length + 1 := by
  unfold lstE at h
  split at h
  · cases h; simp
  · exact lst_len last ps x h
theorem copy_loop (G : List Nat) (hG : G.length < 1000000) (b : Bool) : ∀ (k i : Nat), G.length - i = k → i ≤ G.length → crawlwayref09_Parse.l1 (ns G, b) (ns (G.take i)) (i : Int) = some (ns G) := by
  intro k
  induction k with
  | zero =>
    intro i hk hi
    rw [crawlwayref09_Parse.l1.eq_def]
    show (if decide ((i : Int) < ((ns G).length : Int)) = true then _ else _) = _
    rw [ns_len, if_neg (by rw [decide_eq_true_eq]; omega), List.take_of_length_le (by omega)]
  | succ k ih =>
    intro i hk hi
    obtain ⟨n, hn⟩ : ∃ n, G[i]? = some n := ⟨_, List.getElem?_eq_getElem (by omega)⟩
    have w : wr .i64 ((i : Int) + 1) = ((i + 1 : Nat) : Int) := by rw [wr_i64 (by omega) (by omega)]; omega
    have hv : lget (ns G) (i : Int) = (n : Int) := by unfold lget; rw [Int.toNat_natCast]; exact ns_get G i n hn
    have h2 := ih (i + 1) (by omega) (by omega)
    rw [List.take_add_one, hn, ns_app] at h2
    rw [crawlwayref09_Parse.l1.eq_def]
    show (if decide ((i : Int) < ((ns G).length : Int)) = true then (if (0 : Int) ≤ (i : Int) ∧ (i : Int) < ((ns G).length : Int) then if (ns (G.take i)).length.succ * 8 ≤ _ then crawlwayref09_Parse.l1 (ns G, b) (ns (G.take i) ++ [lget (ns G) (i : Int)]) (wr .i64 ((i : Int) + 1)) else none else none) else _) = _
    rw [ns_len, ns_len, if_pos (decide_eq_true (by omega)), if_pos (by omega), if_pos (by rw [List.length_take]; omega), hv, w]
    exact h2
theorem zero_loop (y : List Int) (b : Bool) (hy : y.length ≤ 8) : ∀ (k : Nat) (G : List Nat), 8 - (G.length + y.length) = k → G.length ≤ 8 → crawlwayref09_Parse.l2 (y, b) (ns G) = some (ns (G ++ List.replicate (8 - (G.length + y.length)) 0)) := by
  intro k
  induction k with
  | zero =>
    intro G hk hG
    rw [crawlwayref09_Parse.l2.eq_def]
    show (if decide (wr .i64 (((ns G).length : Int) + (y.length : Int)) < 8) = true then _ else _) = _
    rw [ns_len, wr_i64 (by omega) (by omega), if_neg (by rw [decide_eq_true_eq]; omega), hk]
    simp
  | succ k ih =>
    intro G hk hG
    have h2 := ih (G ++ [0]) (by simp; omega) (by simp; omega)
    rw [ns_app] at h2
    rw [crawlwayref09_Parse.l2.eq_def]
    show (if decide (wr .i64 (((ns G).length : Int) + (y.length : Int)) < 8) = true then (if (ns G).length.succ * 8 ≤ _ then crawlwayref09_Parse.l2 (y, b) (ns G ++ [0]) else none) else _) = _
    rw [ns_len, wr_i64 (by omega) (by omega), if_pos (decide_eq_true (by omega)), if_pos (by omega)]
    show crawlwayref09_Parse.l2 (y, b) (ns G ++ ns [0]) = _
    rw [h2, List.append_assoc, hk]
    simp only [List.length_append, List.length_cons, List.length_nil]
    rw [show 8 - (G.length + (0 + 1) + y.length) = k by omega, List.replicate_succ]
    rfl
theorem ref_parse (l : List UInt8) (hb : l.length < 100000) : crawlwayref09_Parse (bs l) = some (parseV l, (parseL l).isSome) := by
  unfold crawlwayref09_Parse parseV
  have hgap := gap_ok l (by omega)
  have hspl := spl_gap l
  cases hg : gapL l with
  | none =>
    rw [hg] at hspl
    have hspl' : spl (parts 58 l) = none := hspl
    have hgap' : crawlwayref09_gap (bs l) = some (-1) := by rw [hgap, hg]
    rw [hgap', bindM_some]
    show (if decide ((-1 : Int) < 0) = true then _ else _) = _
    rw [if_pos (by decide), list_ok l true hb, bindM_some]
    have e : lstE true (parts 58 l) = some [] ∧ l = [] ∨ lstE true (parts 58 l) = lst true (parts 58 l) ∧ l ≠ [] := by
      unfold lstE
      by_cases h0 : l = []
      · subst h0; exact .inl ⟨rfl, rfl⟩
      · exact .inr ⟨if_neg (fun e => h0 ((parts_nil_iff l).1 e)), h0⟩
    rcases e with ⟨e, h0⟩ | ⟨e, h0⟩
    · subst h0
      rw [e]
      have e2 : parseL [] = none := rfl
      rw [e2]
      show (if (!true) = true then _ else (if ((0 : Int) != 8) = true then _ else _)) = _
      rw [if_neg (by decide), if_pos (by decide), v16_zero]; rfl
    · rw [e]
      have e2 : parseL l = (lst true (parts 58 l)).bind fun x => if x.length = 8 then some x else none := by unfold parseL; rw [hspl']
      have hok : ∀ {G : List Nat}, parseL l = some G → G.length = 8 ∧ ∀ n ∈ G, n < 65536 := fun h => parseL_ok h
      rw [e2] at hok ⊢
      cases hl : lst true (parts 58 l) with
      | none =>
        show (if (!false) = true then _ else _) = _
        rw [if_pos (show (!false) = true from rfl), v16_zero]; rfl
      | some x =>
        rw [hl] at hok
        show (if (!true) = true then _ else (if (((ns x).length : Int) != 8) = true then _ else _)) = _
        rw [if_neg (by decide), ns_len]
        simp only [Option.bind_some] at hok ⊢
        by_cases h8 : x.length = 8
        · have hne : ((x.length : Int) != 8) = false := by rw [h8]; rfl
          rw [if_pos h8] at hok ⊢
          have hlt := (hok rfl).2
          rw [hne, if_neg Bool.false_ne_true, v16_zero]
          have := ref_bytes (bytes0 (ns x) true) h8 hlt 8 0 rfl
          rw [show 16 - 2 * 0 = 16 from rfl, List.take_zero, show un [] = [] from rfl, List.nil_append, show ((0 : Nat) : Int) = 0 from rfl] at this
          show (crawlwayref09_Parse.l0 (ns x, true) 0 (v16 (List.replicate 16 0)) >>= fun q10 => _) = _
          rw [this]; rfl
        · have hne : ((x.length : Int) != 8) = true := by rw [bne_iff_ne]; omega
          rw [hne, if_pos rfl, if_neg h8, v16_zero]; rfl
  | some q =>
    obtain ⟨a, b⟩ := q
    rw [hg] at hspl
    have hspl' : spl (parts 58 l) = some (parts 58 a, parts 58 b) := hspl
    have hl := gapL_eq hg
    have hlen : l.length = a.length + (b.length + 2) := by rw [hl]; simp
    have hgap' : crawlwayref09_gap (bs l) = some (a.length : Int) := by rw [hgap, hg]
    rw [hgap', bindM_some]
    have w2 : wr .i64 ((a.length : Int) + 2) = ((a.length + 2 : Nat) : Int) := by rw [wr_i64 (by omega) (by omega)]; omega
    have x1 : (bs l).extract (Int.toNat 0) (Int.toNat (a.length : Int)) = bs a := by
      rw [Int.toNat_natCast, bs_extract, hl, List.take_left' rfl]; rfl
    have x2 : (bs l).extract (Int.toNat ((a.length + 2 : Nat) : Int)) (Int.toNat ((bs l).size : Int)) = bs b := by
      rw [Int.toNat_natCast, Int.toNat_natCast, bs_extract, bs_size, List.take_of_length_le (Nat.le_refl _), hl, List.drop_append, List.drop_eq_nil_of_le (by omega), show a.length + 2 - a.length = 2 by omega]; rfl
    have hsz : (bs l).size = l.length := bs_size l
    rw [if_neg (by rw [decide_eq_true_eq]; omega), if_pos (by rw [hsz]; omega), x1, list_ok a false (by omega), bindM_some, w2, if_pos (by rw [hsz]; omega), x2, list_ok b true (by omega), bindM_some]
    have e2 : parseL l = (lstE false (parts 58 a)).bind fun x => (lstE true (parts 58 b)).bind fun y => if x.length + y.length ≤ 7 then some (x ++ (List.replicate (8 - x.length - y.length) 0 ++ y)) else none := by unfold parseL; rw [hspl']
    have hok : ∀ {G : List Nat}, parseL l = some G → G.length = 8 ∧ ∀ n ∈ G, n < 65536 := fun h => parseL_ok h
    rw [e2] at hok ⊢
    cases hx : lstE false (parts 58 a) with
    | none =>
      show (if (!false) = true then _ else _) = _
      rw [if_pos (show (!false) = true from rfl), v16_zero]; rfl
    | some x =>
      rw [hx] at hok
      cases hy : lstE true (parts 58 b) with
      | none =>
        show (if (!true) = true then _ else (if (!false) = true then _ else _)) = _
        rw [if_neg (by decide), if_pos (show (!false) = true from rfl), v16_zero]; rfl
      | some y =>
        rw [hy] at hok
        simp only [Option.bind_some] at hok ⊢
        have hxl : x.length < 1000000 := by have := lstE_len hx; have := parts_len 58 a; omega
        have hyl : y.length < 1000000 := by have := lstE_len hy; have := parts_len 58 b; omega
        show (if (!true) = true then _ else (if (!true) = true then _ else (if decide (wr .i64 (((ns x).length : Int) + ((ns y).length : Int)) > 7) = true then _ else _))) = _
        rw [if_neg (by decide), if_neg (by decide), ns_len, ns_len, wr_i64 (by omega) (by omega)]
        by_cases h7 : x.length + y.length ≤ 7
        · rw [if_neg (by rw [decide_eq_true_eq]; omega)]
          rw [if_pos h7] at hok ⊢
          obtain ⟨h8, hlt⟩ := hok rfl
          have c1 := copy_loop x hxl true x.length 0 (by omega) (by omega)
          rw [List.take_zero, show ns [] = ([] : List Int) from rfl, show ((0 : Nat) : Int) = 0 from rfl] at c1
          show (crawlwayref09_Parse.l1 (ns x, true) [] 0 >>= fun q37 => crawlwayref09_Parse.l2 (ns y, true) q37 >>= fun q55 => _) = _
          rw [c1, bindM_some, zero_loop (ns y) true (by rw [ns_len]; omega) _ x rfl (by omega), bindM_some]
          rw [show liOf (some y) = (ns y, true) from rfl, ns_len, ns_len, if_pos (by simp; omega), v16_zero]
          have b3 := bytes3 (ns (x ++ List.replicate (8 - (x.length + y.length)) 0)) (ns y) true
          have eG : ns (x ++ List.replicate (8 - (x.length + y.length)) 0) ++ ns y = ns (x ++ (List.replicate (8 - x.length - y.length) 0 ++ y)) := by
            rw [← ns_app, List.append_assoc, Nat.sub_sub]
          rw [eG] at b3
          have := ref_bytes b3 h8 hlt 8 0 rfl
          rw [show 16 - 2 * 0 = 16 from rfl, List.take_zero, show un [] = [] from rfl, List.nil_append, show ((0 : Nat) : Int) = 0 from rfl] at this
          rw [this]; rfl
        · rw [if_pos (decide_eq_true (by omega)), if_neg h7, v16_zero]; rfl
end Go.Proofs.YtkkmmpofdcccmaaGreatDoor.Col
namespace Go.Proofs.YtkkmmpofdcccmaaGreatDoor.Col
open E Go.RowKit
theorem gr_get : ∀ (l : List UInt8) (i : Nat) (a b : UInt8), l[2 * i]? = some a → l[2 * i + 1]? = some b → (gr l)[i]? = some (256 * a.toNat + b.toNat)
  | x :: y :: r, 0, a, b, ha, hb => by simp at ha hb; subst ha hb; rfl
  | x :: y :: r, i + 1, a, b, ha, hb => by
    have e1 : 2 * (i + 1) = 2 * i + 1 + 1 := by omega
    have e2 : 2 * (i + 1) + 1 = 2 * i + 1 + 1 + 1 := by omega
    rw [e1] at ha
    rw [e2] at hb
    simp only [List.getElem?_cons_succ] at ha hb
    exact gr_get r i a b ha hb
  | [x], i, a, b, ha, hb => by
    cases i with
    | zero => simp at hb
    | succ i => have : 2 * (i + 1) = (2 * i + 1) + 1 := by omega
                rw [this] at ha; simp at ha
  | [], i, a, b, ha, hb => by simp at ha
theorem ofBig2 (a b : UInt8) : endian_OfBig (ob [a, b]) = some (((256 * a.toNat + b.toNat : Nat) : Int), 0) := by
  have ha := a.toNat_lt
  have hb := b.toNat_lt
  have e1 : ior .u64 (ishl .u64 0 8) (wr .u64 (a.toNat : Int)) = (a.toNat : Int) := by
    rw [wr_u64 (by omega) (by omega), show (8 : Int) = ((8 : Nat) : Int) from rfl, show (0 : Int) = ((0 : Nat) : Int) from rfl, ishl_nat .u64 rfl 0 8 (by decide), ior_nat .u64 rfl _ _ (by decide) (by show _ < 18446744073709551616; omega)]
    simp
  have e2 : ior .u64 (ishl .u64 (a.toNat : Int) 8) (wr .u64 (b.toNat : Int)) = ((256 * a.toNat + b.toNat : Nat) : Int) := by
    rw [wr_u64 (by omega) (by omega), show (8 : Int) = ((8 : Nat) : Int) from rfl, ishl_nat .u64 rfl a.toNat 8 (by decide)]
    have e : (a.toNat * 2 ^ 8) % 2 ^ IntKind.u64.bits = a.toNat * 256 := by show (a.toNat * 256) % 18446744073709551616 = _; omega
    rw [e, ior_nat .u64 rfl _ _ (by show _ < 18446744073709551616; omega) (by show _ < 18446744073709551616; omega)]
    have h2 := Nat.two_pow_add_eq_or_of_lt (i := 8) (b := b.toNat) (by simpa using hb) a.toNat
    have e3 : 2 ^ 8 * a.toNat = a.toNat * 256 := by omega
    rw [e3] at h2
    rw [← h2, Nat.mul_comm a.toNat 256]
  have l0 : lget (ob [a, b]) 0 = (a.toNat : Int) := rfl
  have l1 : lget (ob [a, b]) 1 = (b.toNat : Int) := rfl
  have hl : ((ob [a, b]).length : Int) = 2 := rfl
  unfold endian_OfBig endian_sized
  rw [hl, if_pos (by decide), bindM_some]
  show (if (!true) = true then _ else _) = _
  rw [if_neg (by decide), endian_OfBig.l0.eq_def, hl, if_pos (by decide), if_pos (by decide), l0, e1, show wr .i64 (0 + 1) = 1 from rfl, endian_OfBig.l0.eq_def, hl, if_pos (by decide), if_pos (by decide), l1, e2, show wr .i64 (1 + 1) = 2 from rfl, endian_OfBig.l0.eq_def, hl, if_neg (by decide), bindM_some]
theorem groups_loop {m : List UInt8} (hm : m.length = 16) : ∀ (k i : Nat), i + k = 8 → colon_groups.l0 (v16 m) (i : Int) (gv ((gr m).take i)) = some (gv (gr m)) := by
  have hg : (gr m).length = 8 := by rw [gr_len, hm]
  intro k
  induction k with
  | zero =>
    intro i hi
    obtain rfl : i = 8 := by omega
    rw [colon_groups.l0.eq_def, if_neg (by decide), List.take_of_length_le (by omega)]
  | succ k ih =>
    intro i hi
    have w1 : wr .i64 (2 * (i : Int)) = ((2 * i : Nat) : Int) := by rw [wr_i64 (by omega) (by omega)]; omega
    have w2 : wr .i64 (((2 * i : Nat) : Int) + 2) = ((2 * i + 2 : Nat) : Int) := by rw [wr_i64 (by omega) (by omega)]; omega
    have w3 : wr .i64 ((i : Int) + 1) = ((i + 1 : Nat) : Int) := by rw [wr_i64 (by omega) (by omega)]; omega
    obtain ⟨a, ha⟩ : ∃ a, m[2 * i]? = some a := ⟨_, List.getElem?_eq_getElem (by omega)⟩
    obtain ⟨b, hb⟩ : ∃ b, m[2 * i + 1]? = some b := ⟨_, List.getElem?_eq_getElem (by omega)⟩
    have hn := gr_get m i a b ha hb
    have la := a.toNat_lt
    have lb := b.toNat_lt
    have hs : lsub (Vector.toList (v16 m)) ((2 * i : Nat) : Int) ((2 * i + 2 : Nat) : Int) = ob [a, b] := by
      unfold lsub
      rw [v16_toList hm, Int.toNat_natCast, Int.toNat_natCast]
      unfold ob
      rw [← List.map_take, ← List.map_drop]
      congr 1
      rw [List.take_add_one, List.take_add_one, ha, hb]
      have hl : (m.take (2 * i)).length = 2 * i := by rw [List.length_take]; omega
      simp only [Option.toList]
      rw [List.append_assoc, List.drop_left' hl]; rfl
    have hi8 : ((gr m).take i).length = i := by rw [List.length_take]; omega
    rw [colon_groups.l0.eq_def, if_pos (decide_eq_true (by omega)), w1, w2, if_pos (by omega), hs, ofBig2, bindM_some, if_pos (by omega), w3]
    show colon_groups.l0 (v16 m) _ (vset (gv ((gr m).take i)) (i : Int) (wr .u16 ((256 * a.toNat + b.toNat : Nat) : Int))) = _
    rw [wr_u16 (by omega) (by omega)]
    have h2 := gv_set (G := (gr m).take i) (by omega) (256 * a.toNat + b.toNat)
    rw [hi8] at h2
    have h3 := ih (i + 1) (by omega)
    rw [List.take_add_one, hn] at h3
    rw [h2]; exact h3
theorem groups_ok {m : List UInt8} (hm : m.length = 16) : colon_groups (v16 m) = some (gv (gr m)) := by
  unfold colon_groups
  have := groups_loop hm 8 0 rfl
  rw [List.take_zero, ← gv_zero, show ((0 : Nat) : Int) = 0 from rfl] at this
  rw [this, bindM_some]
theorem zp_get {G : List Nat} {i n : Nat} (h : G[i]? = some n) : (zp G)[i]? = some (n == 0) := by unfold zp; rw [List.getElem?_map, h]; rfl
def ii (q : Nat × Nat) : Int × Int := ((q.1 : Int), (q.2 : Int))
theorem int_zero (n : Nat) : ((n : Int) != 0) = !(n == 0) := by
  by_cases h : n = 0
  · subst h; rfl
  · have h2 : (n == 0) = false := by simp [h]
    rw [h2]
    have : ((n : Int) != 0) = true := by rw [bne_iff_ne]; omega
    rw [this]; rfl
theorem longest_loop {G : List Nat} (h8 : G.length = 8) : ∀ (k i p z now : Nat), i + k = 8 → p ≤ 8 → z ≤ 8 → now ≤ i → colon_longest.l0 (gv G) (p : Int) (z : Int) (now : Int) (i : Int) = some (ii (lgC ((zp G).drop i) i p z now)) := by
  intro k
  induction k with
  | zero =>
    intro i p z now hi hp hz hn
    obtain rfl : i = 8 := by omega
    rw [colon_longest.l0.eq_def, if_neg (by decide), List.drop_eq_nil_of_le (by rw [zp_len]; omega)]; rfl
  | succ k ih =>
    intro i p z now hi hp hz hn
    obtain ⟨n, hn'⟩ : ∃ n, G[i]? = some n := ⟨_, List.getElem?_eq_getElem (by omega)⟩
    obtain ⟨c, hc, hd⟩ := drop_get (zp G) i (by rw [zp_len]; omega)
    rw [zp_get hn'] at hc
    cases hc
    have w1 : wr .i64 ((i : Int) + 1) = ((i + 1 : Nat) : Int) := by rw [wr_i64 (by omega) (by omega)]; omega
    have w2 : wr .i64 ((now : Int) + 1) = ((now + 1 : Nat) : Int) := by rw [wr_i64 (by omega) (by omega)]; omega
    have w3 : wr .i64 (((i + 1 : Nat) : Int) - ((now + 1 : Nat) : Int)) = ((i + 1 - (now + 1) : Nat) : Int) := by rw [wr_i64 (by omega) (by omega)]; omega
    rw [colon_longest.l0.eq_def, if_pos (decide_eq_true (by omega)), if_pos (by omega), gv_get h8 i n hn', int_zero, w1, w2, w3, hd, lgC]
    cases hb : (n == 0) with
    | false =>
      rw [if_pos (show (!false) = true from rfl), if_pos (show false = false from rfl)]
      exact ih (i + 1) p z 0 (by omega) hp hz (by omega)
    | true =>
      rw [if_neg (show ¬ (!true) = true by decide), if_neg (show ¬ true = false by decide)]
      by_cases hg : now + 1 > z
      · rw [if_pos (decide_eq_true (by omega)), if_pos hg]
        exact ih (i + 1) _ _ _ (by omega) (by omega) (by omega) (by omega)
      · rw [if_neg (by rw [decide_eq_true_eq]; omega), if_neg hg]
        exact ih (i + 1) _ _ _ (by omega) hp hz (by omega)
theorem longest_ok {G : List Nat} (h8 : G.length = 8) : colon_longest (gv G) = some (ii (lg (zp G))) := by
  unfold colon_longest
  have := longest_loop h8 8 0 0 0 0 rfl (by omega) (by omega) (by omega)
  rw [List.drop_zero, lg_code (by rw [zp_len, h8])] at this
  rw [show (0 : Int) = ((0 : Nat) : Int) from rfl, this, bindM_some]
theorem row_loop (A : List Nat) (hA : ∀ n ∈ A, n < 65536) (hl : A.length ≤ 8) : ∀ (k i : Nat), A.length - i = k → i ≤ A.length → colon_row.l0 (ns A) ((A.take i).map Hex.grp) (i : Int) = some (A.map Hex.grp) := by
  intro k
  induction k with
  | zero =>
    intro i hk hi
    rw [colon_row.l0.eq_def, ns_len, if_neg (by rw [decide_eq_true_eq]; omega), List.take_of_length_le (by omega)]
  | succ k ih =>
    intro i hk hi
    obtain ⟨n, hn⟩ : ∃ n, A[i]? = some n := ⟨_, List.getElem?_eq_getElem (by omega)⟩
    have w : wr .i64 ((i : Int) + 1) = ((i + 1 : Nat) : Int) := by rw [wr_i64 (by omega) (by omega)]; omega
    have hv : lget (ns A) (i : Int) = (n : Int) := by unfold lget; rw [Int.toNat_natCast]; exact ns_get A i n hn
    have h2 := ih (i + 1) (by omega) (by omega)
    rw [List.take_add_one, hn, List.map_append] at h2
    rw [colon_row.l0.eq_def, ns_len, if_pos (decide_eq_true (by omega)), if_pos (by omega), hv, Hex.group_eq n (hA n (List.mem_of_getElem? hn)), bindM_some, if_pos (by rw [List.length_map, List.length_take]; omega), w]
    exact h2
theorem row_join : ∀ (A : List Nat), [58].intercalate (A.map g1) = rowL A
  | [] => rfl
  | [n] => by simp [List.intercalate, rowL]
  | n :: m :: r => by
    have := row_join (m :: r)
    simp only [List.intercalate, List.map_cons, List.intersperse, List.flatten_cons, rowL] at this ⊢
    rw [this]; rfl
theorem bjoin_row (A : List Nat) : bjoin (A.map Hex.grp) (⟨#[58]⟩ : ByteArray) = bs (rowL A) := by
  apply mk_inj
  rw [bs_list, ← row_join]
  unfold bjoin Lib.join
  simp only [List.map_map]
  rfl
theorem row_ok (A : List Nat) (hA : ∀ n ∈ A, n < 65536) (hl : A.length ≤ 8) : colon_row (ns A) = some (bs (rowL A)) := by
  unfold colon_row
  have h := row_loop A hA hl A.length 0 (by omega) (by omega)
  rw [List.take_zero, List.map_nil, show ((0 : Nat) : Int) = 0 from rfl] at h
  have hs := rowL_len A hA
  rw [h, bindM_some, if_pos (by rw [List.length_map]; omega), bjoin_row, if_pos (by rw [bs_size]; omega)]
theorem bs_app (l k : List UInt8) : bs l ++ bs k = bs (l ++ k) := by apply mk_inj; rw [append_list, bs_list, bs_list, bs_list]
theorem text_ok {m : List UInt8} (hm : m.length = 16) : colon_Text (v16 m) = some (bs (textL (gr m))) := by
  have hg : (gr m).length = 8 := by rw [gr_len, hm]
  have hlt := gr_lt m
  have hf := lg_fits (z := zp (gr m)) (by rw [zp_len, hg])
  have hgl : (gv (gr m)).toList = ns (gr m) := by rw [gv_toList (by omega), hg]; simp
  unfold colon_Text
  rw [groups_ok hm, bindM_some, longest_ok hg, bindM_some, hgl]
  unfold textL
  generalize lg (zp (gr m)) = q at hf
  obtain ⟨p, z⟩ := q
  simp only at hf
  show (if decide ((z : Int) < 2) = true then _ else (if (0 : Int) ≤ 0 ∧ (0 : Int) ≤ (p : Int) ∧ (p : Int) ≤ 8 then colon_row (lsub (ns (gr m)) 0 (p : Int)) >>= fun t8 => if t8.size + (⟨#[58, 58]⟩ : ByteArray).size ≤ 140737488355328 then if (0 : Int) ≤ wr .i64 ((p : Int) + (z : Int)) ∧ wr .i64 ((p : Int) + (z : Int)) ≤ 8 ∧ (8 : Int) ≤ 8 then colon_row (lsub (ns (gr m)) (wr .i64 ((p : Int) + (z : Int))) 8) >>= fun t11 => if (t8 ++ (⟨#[58, 58]⟩ : ByteArray)).size + t11.size ≤ 140737488355328 then some ((t8 ++ (⟨#[58, 58]⟩ : ByteArray)) ++ t11) else none else none else none else none)) = some (bs (if z < 2 then rowL (gr m) else rowL ((gr m).take p) ++ 58 :: 58 :: rowL ((gr m).drop (p + z))))
  by_cases h2 : z < 2
  · rw [if_pos (decide_eq_true (by omega)), if_pos h2, row_ok _ hlt (by omega)]; rfl
  · have w : wr .i64 ((p : Int) + (z : Int)) = ((p + z : Nat) : Int) := by rw [wr_i64 (by omega) (by omega)]; omega
    have s1 : lsub (ns (gr m)) 0 (p : Int) = ns ((gr m).take p) := by unfold lsub; rw [Int.toNat_natCast, ns_take]; rfl
    have s2 : lsub (ns (gr m)) ((p + z : Nat) : Int) 8 = ns ((gr m).drop (p + z)) := by
      unfold lsub; rw [Int.toNat_natCast, show Int.toNat 8 = 8 from rfl, List.take_of_length_le (by rw [ns_len]; omega), ns_drop]
    have hA : ∀ n ∈ (gr m).take p, n < 65536 := fun n hn => hlt n (List.mem_of_mem_take hn)
    have hB : ∀ n ∈ (gr m).drop (p + z), n < 65536 := fun n hn => hlt n (List.mem_of_mem_drop hn)
    have lA := rowL_len _ hA
    have lB := rowL_len _ hB
    rw [List.length_take] at lA
    rw [List.length_drop] at lB
    have h58 : (⟨#[58, 58]⟩ : ByteArray) = bs [58, 58] := rfl
    rw [if_neg (by rw [decide_eq_true_eq]; omega), if_pos (by omega), s1, row_ok _ hA (by rw [List.length_take]; omega), bindM_some, h58, if_pos (by rw [bs_size, bs_size]; simp only [List.length_cons, List.length_nil]; omega), w, if_pos (by omega), s2, row_ok _ hB (by rw [List.length_drop]; omega), bindM_some, bs_app, if_pos (by rw [bs_size, bs_size]; simp only [List.length_append, List.length_cons, List.length_nil]; omega), bs_app, if_neg h2]
    rw [List.append_assoc]; rfl
end Go.Proofs.YtkkmmpofdcccmaaGreatDoor.Col
namespace Go.Proofs.YtkkmmpofdcccmaaGreatDoor.Col
open E Go.RowKit
end Go.Proofs.YtkkmmpofdcccmaaGreatDoor.Col
namespace Go.Proofs.YtkkmmpofdcccmaaGreatDoor.AdrT
open E Go.RowKit
open Adr
def z16 : List UInt8 := List.replicate 16 0
def hasC (l : List UInt8) : Bool := l.any (· == 58)
theorem hasC_iff (l : List UInt8) : hasC l = true ↔ ∃ p r, l = p ++ 58 :: r ∧ ∀ x ∈ p, x ≠ 58 := by
  constructor
  · intro h
    rcases split_at 58 l with h2 | h2
    · unfold hasC at h
      obtain ⟨x, hx, h3⟩ := List.any_eq_true.1 h
      exact absurd (beq_iff_eq.1 h3) (h2 x hx)
    · exact h2
  · rintro ⟨p, r, rfl, _⟩
    unfold hasC; simp
theorem hasC_no {l : List UInt8} (h : hasC l = false) : ∀ x ∈ l, x ≠ 58 := fun x hx e => by
  have := List.any_eq_false.1 h x hx
  subst e; simp at this
theorem unb_ob (l : List UInt8) : unb (ob l) = l := by
  unfold unb ob
  rw [List.map_map]
  conv => rhs; rw [← List.map_id l]
  apply List.map_congr_left
  intro b _
  show UInt8.ofNat (Int.toNat ((b.toNat : Int))) = b
  rw [Int.toNat_natCast, UInt8.ofNat_toNat]
def quadA (l : List UInt8) : S_api_Addr × Int := if (quadP l).2 = 0 then (mkA 4 (fourL (unb (quadP l).1.toList)), 0) else (mkA 0 z16, ((quadP l).2 : Int))
def adrP (l : List UInt8) : S_api_Addr × Int := if hasC l = true then (match Col.parseL l with | some G => (mkA 6 (Col.un G), 0) | none => (mkA 0 z16, 5)) else quadA l
theorem six_eq (m : List UInt8) : addr_Six (Col.v16 m) = some (mkA 6 m) := rfl
theorem four_v4 {m : List UInt8} (hm : m.length = 4) : addr_Four (v4 m) = some (mkA 4 (fourL m)) := four_eq _ _ (v4_toList hm)
theorem quadP_m {l : List UInt8} (h : (quadP l).2 = 0) : ∃ m, m.length = 4 ∧ (quadP l).1 = v4 m ∧ unb (quadP l).1.toList = m ∧ qText m = l := by
  obtain ⟨m, hm, hq, ht⟩ := quadP_back h
  refine ⟨m, hm, by rw [hq], ?_, ht⟩
  rw [hq]
  show unb (v4 m).toList = m
  rw [v4_toList hm, unb_ob]
theorem addr_parse (l : List UInt8) (hl : l.length < 1000000) : addr_Parse (bs l) = some (adrP l) := by
  unfold addr_Parse adrP
  have h58 : ((58 : UInt8).toNat : Int) = 58 := rfl
  cases hc : hasC l with
  | true =>
    obtain ⟨p, r, he, hp⟩ := (hasC_iff l).1 hc
    have hcut : lines_Cut (bs l) 58 = some (bs p, bs r, true) := by
      rw [he, ← h58]; exact cut_some p r 58 hp (by rw [he] at hl; simp at hl; omega)
    rw [hcut, bindM_some, if_pos rfl, if_pos rfl, Col.colon_parse l hl, bindM_some]
    unfold Col.parseV
    cases hq : Col.parseL l with
    | none =>
      show (if ((5 : Int) != 0) = true then _ else _) = _
      rw [if_pos (by decide), zero_mkA]; rfl
    | some G =>
      show (if ((0 : Int) != 0) = true then _ else (addr_Six (Col.v16 (Col.un G)) >>= fun t7 => some (t7, 0))) = _
      rw [if_neg (by decide), six_eq, bindM_some]
  | false =>
    have hcut := cut_none l 58 (hasC_no hc)
    rw [h58] at hcut
    rw [hcut, bindM_some, if_neg Bool.false_ne_true, if_neg Bool.false_ne_true, quad_parse l hl, bindM_some]
    unfold quadA
    by_cases h0 : (quadP l).2 = 0
    · obtain ⟨m, hm, hv, hu, _⟩ := quadP_m h0
      have hb : ((viOf (quadP l)).2 != 0) = false := by
        show ((((quadP l).2 : Nat) : Int) != 0) = false
        rw [h0]; rfl
      rw [hb, if_neg Bool.false_ne_true, if_pos h0, hu]
      show (addr_Four (quadP l).1 >>= fun t11 => some (t11, 0)) = _
      rw [hv, four_v4 hm, bindM_some]
    · have hb : ((viOf (quadP l)).2 != 0) = true := by rw [bne_iff_ne]; show (((quadP l).2 : Nat) : Int) ≠ 0; omega
      rw [hb, if_pos rfl, if_neg h0, zero_mkA]; rfl
def ofL (b : List UInt8) : S_api_Addr × Int := if b.length = 4 then (mkA 4 (fourL b), 0) else if b.length = 16 then (mkA 6 b, 0) else (mkA 0 z16, 5)
def OfLoop (R : List Int → Int → S_api_Addr → Option S_api_Addr) : Prop := ∀ xs i a, R xs i a = if (decide (i < (xs.length : Int))) = true then (if (0 : Int) ≤ i ∧ i < (xs.length : Int) then if (0 : Int) ≤ i ∧ i < 16 then R xs (wr .i64 (i + 1)) ({ a with f_B := vset a.f_B i (lget xs i) }) else none else none) else (some a)
theorem of_loop {R : List Int → Int → S_api_Addr → Option S_api_Addr} (hR : OfLoop R) (V : Int) (b : List UInt8) (hb : b.length ≤ 16) : ∀ (k i : Nat), i + k = b.length → R (ob b) (i : Int) (mkA V (b.take i ++ List.replicate (16 - i) 0)) = some (mkA V (b ++ List.replicate (16 - b.length) 0)) := by
  intro k
  induction k with
  | zero =>
    intro i hi
    rw [hR, ob_length, if_neg (by rw [decide_eq_true_eq]; omega), List.take_of_length_le (by omega), show i = b.length by omega]
  | succ k ih =>
    intro i hi
    obtain ⟨c, hc⟩ : ∃ c, b[i]? = some c := ⟨_, List.getElem?_eq_getElem (by omega)⟩
    have w : wr .i64 ((i : Int) + 1) = ((i + 1 : Nat) : Int) := by rw [wr_i64 (by omega) (by omega)]; omega
    have hA : (b.take i).length = i := by rw [List.length_take]; omega
    have hs : (b.take i ++ List.replicate (16 - i) 0).set i c = b.take (i + 1) ++ List.replicate (16 - (i + 1)) 0 := by
      have : 16 - i = (16 - (i + 1)) + 1 := by omega
      rw [this, List.replicate_succ, List.take_add_one, hc]
      have e := List.set_append_right (s := b.take i) (t := 0 :: List.replicate (16 - (i + 1)) 0) i c (by omega)
      rw [e, hA, Nat.sub_self]
      simp
    have hg : lget (ob b) (i : Int) = (c.toNat : Int) := lget_ob b i c hc
    rw [hR, ob_length, if_pos (decide_eq_true (by omega)), if_pos (by omega), if_pos (by omega), w, hg]
    show R (ob b) _ (S_api_Addr.mk V (vset (vb (b.take i ++ List.replicate (16 - i) 0)) (i : Int) (c.toNat : Int))) = _
    rw [vset_vb (by simp; omega), hs]
    exact ih (i + 1) (by omega)
theorem ofl0 : OfLoop crawlwayref10_Of.l0 := fun xs i a => crawlwayref10_Of.l0.eq_def xs i a
theorem ofl1 : OfLoop crawlwayref10_Of.l1 := fun xs i a => crawlwayref10_Of.l1.eq_def xs i a
theorem ref_of (b : List UInt8) : crawlwayref10_Of (ob b) = some ((ofL b).1, decide ((ofL b).2 = 0)) := by
  unfold crawlwayref10_Of ofL
  rw [ob_length]
  have z4 : ({ ({ f_V := (0 : Int), f_B := (Vector.replicate 16 (0 : Int) : (Vector Int 16)) } : S_api_Addr) with f_V := 4 } : S_api_Addr) = mkA 4 (List.replicate 16 0) := by
    show S_api_Addr.mk _ _ = S_api_Addr.mk _ _
    rw [zero_vb]
  have z6 : ({ { ({ f_V := (0 : Int), f_B := (Vector.replicate 16 (0 : Int) : (Vector Int 16)) } : S_api_Addr) with f_V := 4 } with f_V := 6 } : S_api_Addr) = mkA 6 (List.replicate 16 0) := by
    show S_api_Addr.mk _ _ = S_api_Addr.mk _ _
    rw [zero_vb]
  rw [z6, z4, zero_mkA]
  by_cases h4 : b.length = 4
  · have e4 : ((b.length : Int) != 4) = false := by rw [h4]; rfl
    have e16 : ((b.length : Int) == 16) = false := by rw [h4]; rfl
    have := of_loop ofl1 4 b (by omega) b.length 0 (by omega)
    rw [List.take_zero, List.nil_append, show ((0 : Nat) : Int) = 0 from rfl, show 16 - 0 = 16 from rfl] at this
    rw [e4, if_neg Bool.false_ne_true, e16, if_neg Bool.false_ne_true, bindM_some, this, bindM_some, if_pos h4, h4]; rfl
  · have e4 : ((b.length : Int) != 4) = true := by rw [bne_iff_ne]; omega
    rw [e4, if_pos rfl, if_neg h4]
    by_cases h16 : b.length = 16
    · have n16 : ((b.length : Int) != 16) = false := by rw [h16]; rfl
      have e16 : ((b.length : Int) == 16) = true := by rw [h16]; rfl
      have := of_loop ofl0 6 b (by omega) b.length 0 (by omega)
      rw [List.take_zero, List.nil_append, show ((0 : Nat) : Int) = 0 from rfl, show 16 - 0 = 16 from rfl] at this
      rw [n16, if_neg Bool.false_ne_true, e16, if_pos rfl, bindM_some, this, bindM_some, if_pos h16, h16]
      show some (mkA 6 (b ++ []), true) = _
      rw [List.append_nil]; rfl
    · have n16 : ((b.length : Int) != 16) = true := by rw [bne_iff_ne]; omega
      rw [n16, if_pos rfl, if_neg h16]; rfl
theorem parts_many (l : List UInt8) : (1 < (parts 58 l).length) ↔ hasC l = true := by
  cases hc : hasC l with
  | true =>
    obtain ⟨p, r, rfl, hp⟩ := (hasC_iff l).1 hc
    rw [parts_cons 58 r p hp]
    have := parts_ne 58 r
    cases hq : parts 58 r with
    | nil => exact absurd hq this
    | cons _ _ => simp
  | false => rw [parts_none 58 l (hasC_no hc)]; simp
theorem ref_parse10 (l : List UInt8) (hl : l.length < 100000) : crawlwayref10_Parse (bs l) = some (adrP l) := by
  unfold crawlwayref10_Parse adrP
  have hp := parts_ref 58 l (by omega)
  rw [show ((58 : UInt8).toNat : Int) = 58 from rfl] at hp
  rw [hp, bindM_some, List.length_map]
  cases hc : hasC l with
  | true =>
    have hm := (parts_many l).2 hc
    rw [if_pos (decide_eq_true (by omega)), if_pos rfl, Col.ref_parse l hl, bindM_some]
    unfold Col.parseV
    cases hq : Col.parseL l with
    | none =>
      show (if (!false) = true then _ else _) = _
      rw [if_pos (show (!false) = true from rfl), zero_mkA]; rfl
    | some G =>
      show (if (!true) = true then _ else _) = _
      rw [if_neg (by decide)]; rfl
  | false =>
    have hm : ¬ 1 < (parts 58 l).length := fun h => by rw [(parts_many l).1 h] at hc; cases hc
    rw [if_neg (by rw [decide_eq_true_eq]; omega), if_neg Bool.false_ne_true, quad_parse_ref l (by omega), bindM_some]
    unfold quadA
    by_cases h0 : (quadP l).2 = 0
    · obtain ⟨m, hm, hv, hu, _⟩ := quadP_m h0
      have hb : ((viOf (quadP l)).2 != 0) = false := by
        show ((((quadP l).2 : Nat) : Int) != 0) = false
        rw [h0]; rfl
      rw [hb, if_neg Bool.false_ne_true, if_pos h0, hu]
      show (crawlwayref10_Of [vget (quadP l).1 0, vget (quadP l).1 1, vget (quadP l).1 2, vget (quadP l).1 3] >>= fun t13 => some (t13.1, 0)) = _
      rw [hv]
      match m, hm with
      | [a, b, c, d], hm =>
        have e0 : vget (v4 [a, b, c, d]) 0 = (a.toNat : Int) := vget_v4 hm 0 a rfl
        have e1 : vget (v4 [a, b, c, d]) 1 = (b.toNat : Int) := vget_v4 hm 1 b rfl
        have e2 : vget (v4 [a, b, c, d]) 2 = (c.toNat : Int) := vget_v4 hm 2 c rfl
        have e3 : vget (v4 [a, b, c, d]) 3 = (d.toNat : Int) := vget_v4 hm 3 d rfl
        rw [e0, e1, e2, e3]
        show (crawlwayref10_Of (ob [a, b, c, d]) >>= _) = _
        rw [ref_of]; rfl
    · have hb : ((viOf (quadP l)).2 != 0) = true := by rw [bne_iff_ne]; show (((quadP l).2 : Nat) : Int) ≠ 0; omega
      rw [hb, if_pos rfl, if_neg h0, zero_mkA]; rfl
def adrT (V : Int) (l : List UInt8) : List UInt8 := if rightL V l = true then (if V = 4 then qText (l.take 4) else Col.textL (Col.gr l)) else []
theorem addr_text {V : Int} {l : List UInt8} (hl : l.length = 16) : addr_Text (mkA V l) = some (bs (adrT V l)) := by
  unfold addr_Text adrT
  rw [right_code hl, bindM_some]
  cases hr : rightL V l with
  | false => rfl
  | true =>
    have h4l : (l.take 4).length = 4 := by rw [List.length_take]; omega
    rw [if_neg (by decide), if_pos rfl]
    by_cases h4 : V = 4
    · have e : ((mkA V l).f_V == 4) = true := by show (V == 4) = true; rw [h4]; rfl
      rw [e, if_pos rfl, if_pos h4]
      show (if 4 ≤ (lsub (vb l).toList 0 4).length then (quad_Text (lvec 4 (lsub (vb l).toList 0 4)) >>= fun t9 => some t9) else none) = _
      have hv : lvec 4 (lsub (vb l).toList 0 4) = v4 (l.take 4) := v4_of (take4 hl)
      rw [if_pos (take4_len hl), hv, quad_text h4l]; rfl
    · have e : ((mkA V l).f_V == 4) = false := by rw [beq_eq_false_iff_ne]; exact h4
      rw [e, if_neg Bool.false_ne_true, if_neg h4]
      show (colon_Text (Col.v16 l) >>= fun t10 => some t10) = _
      rw [Col.text_ok hl]; rfl
theorem hasC_app (p r : List UInt8) : hasC (p ++ 58 :: r) = true := by unfold hasC; simp
theorem adrP_right {h : List UInt8} (e : (adrP h).2 = 0) : ∃ V k, (adrP h).1 = mkA V k ∧ k.length = 16 ∧ rightL V k = true := by
  unfold adrP at e ⊢
  split at e
  · next hc =>
    rw [if_pos hc]
    cases hq : Col.parseL h with
    | none => rw [hq] at e; cases e
    | some G =>
      exact ⟨6, Col.un G, rfl, by rw [Col.un_len, (Col.parseL_ok hq).1], rfl⟩
  · next hc =>
    rw [if_neg hc]
    unfold quadA at e ⊢
    split at e
    · next h0 =>
      obtain ⟨m, hm, _, hu, _⟩ := quadP_m h0
      rw [if_pos h0, hu]
      have hf := fourL_len hm
      refine ⟨4, fourL m, rfl, hf, ?_⟩
      unfold rightL
      have hlow : low (fourL m) = true := (low_iff hf).2 (by
        unfold fourL
        rw [List.take_left' hm])
      rw [hlow]; rfl
    · next h0 =>
      have : ((quadP h).2 : Int) = 0 := e
      omega
theorem adrT_len {V : Int} {l : List UInt8} (hl : l.length = 16) : (adrT V l).length ≤ 42 := by
  unfold adrT
  split
  · split
    · have := qText_len (m := l.take 4) (by rw [List.length_take]; omega); omega
    · exact Col.textL_len _ (Col.gr_lt l) (by rw [Col.gr_len, hl])
  · simp
end Go.Proofs.YtkkmmpofdcccmaaGreatDoor.AdrT
namespace Go.Proofs.YtkkmmpofdcccmaaGreatDoor.Cid
open E Go.RowKit
open Adr AdrT
theorem of_ref {V b : Int} {l : List UInt8} (hl : l.length = 16) : crawlwayref11_Of (mkA V l) b = some (ofP V l b) := by
  unfold crawlwayref11_Of ofP
  rw [right_ref hl, bindM_some]
  have hw := width_le (V := V) (l := l)
  cases hr : rightL V l with
  | false => rfl
  | true =>
    rw [if_neg (show ¬ (!true) = true by decide), if_pos rfl]
    by_cases h0 : b < 0
    · have hf : ¬ fits V l b = true := fun h => by have := (fits_iff.1 h).2.1; omega
      rw [if_pos (decide_eq_true h0), if_neg hf]; rfl
    · rw [if_neg (by rw [decide_eq_true_eq]; exact h0), width_ref hl, bindM_some]
      by_cases h1 : b > (widthL V l : Int)
      · have hf : ¬ fits V l b = true := fun h => by have := (fits_iff.1 h).2.2; omega
        rw [if_pos (decide_eq_true h1), if_neg hf]; rfl
      · have hf : fits V l b = true := fits_iff.2 ⟨hr, by omega, by omega⟩
        rw [if_neg (by rw [decide_eq_true_eq]; exact h1), mask_ref hl, bindM_some, if_pos hf]
        unfold maskA
        rw [if_pos hr]; rfl
theorem whole_code {V : Int} {l : List UInt8} (hl : l.length = 16) : cidr_Whole (mkA V l) = some (ofP V l (widthL V l : Int)).1 := by
  unfold cidr_Whole
  rw [width_code hl, bindM_some, of_code hl, bindM_some]
theorem width_mfull {V b : Int} {l : List UInt8} (hl : l.length = 16) (hr : rightL V l = true) : widthL V (mfull l b) = widthL V l := by
  unfold widthL
  rw [if_pos hr, if_pos (right_mfull hl hr)]
theorem rightP_of {V b : Int} {l : List UInt8} (hl : l.length = 16) (hf : fits V l b = true) : rightP V (mfull l b) b = true := by
  obtain ⟨hr, h0, h1⟩ := fits_iff.1 hf
  exact rightP_iff.2 ⟨⟨right_mfull hl hr, h0, by rw [width_mfull hl hr]; exact h1⟩, mfull_idem l b⟩
theorem bs_app (l k : List UInt8) : bs l ++ bs k = bs (l ++ k) := by apply mk_inj; rw [append_list, bs_list, bs_list, bs_list]
theorem fmtU_bs (k : Nat) : fmtU (k : Int) = bs (Lib.decDigits k) := by apply mk_inj; rw [fmtU_list, bs_list]
def cidT (V : Int) (l : List UInt8) (b : Nat) : List UInt8 := adrT V l ++ 47 :: Lib.decDigits b
theorem ctext_code {V b : Int} {l : List UInt8} (hl : l.length = 16) : cidr_Text (mkP (mkA V l) b) = some (bs (if rightP V l b = true then cidT V l b.toNat else [])) := by
  unfold cidr_Text
  rw [cright_code hl, bindM_some]
  cases hr : rightP V l b with
  | false => rw [if_pos (show (!false) = true from rfl)]; rfl
  | true =>
    obtain ⟨⟨hrl, h0, h1⟩, _⟩ := rightP_iff.1 hr
    have hw := width_le (V := V) (l := l)
    obtain ⟨k, rfl⟩ := Int.eq_ofNat_of_zero_le h0
    have ht := adrT_len (V := V) hl
    have hd := decDigits_len k (by omega)
    have b47 : (⟨#[47]⟩ : ByteArray) = bs [47] := rfl
    rw [if_neg (show ¬ (!true) = true by decide), if_pos rfl, Int.toNat_natCast]
    show (addr_Text (mkA V l) >>= fun t4 => if t4.size + (⟨#[47]⟩ : ByteArray).size ≤ 140737488355328 then decimal_Text (wr .u64 (k : Int)) >>= fun t6 => if (t4 ++ (⟨#[47]⟩ : ByteArray)).size + t6.size ≤ 140737488355328 then some ((t4 ++ (⟨#[47]⟩ : ByteArray)) ++ t6) else none else none) = _
    rw [addr_text hl, bindM_some, b47, if_pos (by rw [bs_size, bs_size]; simp only [List.length_cons, List.length_nil]; omega), wr_u64 (by omega) (by omega), text_code k (by omega), bindM_some, fmtU_bs, bs_app, if_pos (by rw [bs_size, bs_size, List.length_append]; simp only [List.length_cons, List.length_nil]; omega), bs_app]
    unfold cidT
    rw [List.append_assoc]; rfl
def f47 : List UInt8 → Option (List UInt8 × List UInt8)
  | [] => none
  | c :: r => if c = 47 then some ([], r) else (f47 r).map fun q => (c :: q.1, q.2)
theorem f47_at (r : List UInt8) : ∀ (p : List UInt8), (∀ x ∈ p, x ≠ 47) → f47 (p ++ 47 :: r) = some (p, r)
  | [], _ => by
    show (if (47 : UInt8) = 47 then some ([], r) else _) = _
    rw [if_pos rfl]
  | c :: p, h => by
    show (if c = 47 then _ else (f47 (p ++ 47 :: r)).map _) = _
    rw [if_neg (h c (List.mem_cons_self ..)), f47_at r p fun x hx => h x (List.mem_cons_of_mem _ hx)]; rfl
theorem f47_none : ∀ (l : List UInt8), (∀ x ∈ l, x ≠ 47) → f47 l = none
  | [], _ => rfl
  | c :: r, h => by
    unfold f47
    rw [if_neg (h c (List.mem_cons_self ..)), f47_none r fun x hx => h x (List.mem_cons_of_mem _ hx)]; rfl
def wd (A : S_api_Addr) : Nat := ((addr_Width A).getD 0).toNat
def ofA (A : S_api_Addr) (b : Int) : S_api_Prefix × Int := (cidr_Of A b).getD (zP, 0)
theorem wd_mkA {V : Int} {l : List UInt8} (hl : l.length = 16) : wd (mkA V l) = widthL V l := by
  unfold wd
  rw [width_code hl]; rfl
theorem ofA_mkA {V b : Int} {l : List UInt8} (hl : l.length = 16) : ofA (mkA V l) b = ofP V l b := by
  unfold ofA
  rw [of_code hl]; rfl
def cidP (l : List UInt8) : S_api_Prefix × Int := match f47 l with
  | none => if (adrP l).2 = 0 then ofA (adrP l).1 (wd (adrP l).1 : Int) else (zP, (adrP l).2)
  | some (h, p) => if (adrP h).2 = 0 then (if (rdU p (wd (adrP h).1)).2 = 0 then ofA (adrP h).1 ((rdU p (wd (adrP h).1)).1 : Int) else (zP, ((rdU p (wd (adrP h).1)).2 : Int))) else (zP, (adrP h).2)
theorem whole_fits {V : Int} {l : List UInt8} (hr : rightL V l = true) : fits V l (widthL V l : Int) = true := fits_iff.2 ⟨hr, by omega, by omega⟩
theorem cid_parse (l : List UInt8) (hl : l.length < 100000) : cidr_Parse (bs l) = some (cidP l) := by
  unfold cidr_Parse cidP
  have h47 : ((47 : UInt8).toNat : Int) = 47 := rfl
  rcases split_at 47 l with h2 | ⟨h, r, rfl, h2⟩
  · have hcut := cut_none l 47 h2
    rw [h47] at hcut
    rw [hcut, bindM_some, f47_none l h2]
    show (addr_Parse (bs l) >>= fun t3 => _) = _
    rw [addr_parse l (by omega), bindM_some]
    by_cases h0 : (adrP l).2 = 0
    · obtain ⟨V, k, hA, hk, hr⟩ := adrP_right h0
      have e : ((adrP l).2 != 0) = false := by rw [h0]; rfl
      rw [e, if_neg Bool.false_ne_true, if_pos (show (!false) = true from rfl), hA, whole_code hk, bindM_some]
      simp only [h0, if_true]
      rw [wd_mkA hk, ofA_mkA hk]
      unfold ofP
      rw [if_pos hr, if_pos (whole_fits hr)]
    · have e : ((adrP l).2 != 0) = true := by rw [bne_iff_ne]; exact h0
      rw [e, if_pos rfl]
      simp only [h0, if_false]; rfl
  · have hlen : (h ++ 47 :: r).length = h.length + (r.length + 1) := by simp
    have hcut := cut_some h r 47 h2 (by omega)
    rw [h47] at hcut
    rw [hcut, bindM_some, f47_at r h h2]
    show (addr_Parse (bs h) >>= fun t3 => _) = _
    rw [addr_parse h (by omega), bindM_some]
    by_cases h0 : (adrP h).2 = 0
    · obtain ⟨V, k, hA, hk, hr⟩ := adrP_right h0
      have hw := width_le (V := V) (l := k)
      have e : ((adrP h).2 != 0) = false := by rw [h0]; rfl
      rw [e, if_neg Bool.false_ne_true, if_neg (show ¬ (!true) = true by decide), hA, width_code hk, bindM_some]
      simp only [h0, if_true]
      rw [hA, wd_mkA hk]
      have hrd := read_code (bs r) (widthL V k) (by rw [bs_size]; omega) (by omega)
      rw [bs_list] at hrd
      have hle := rdU_le r (widthL V k)
      rw [wr_u64 (by omega) (by omega)]
      show (decimal_Read (bs r) ((widthL V k : Nat) : Int) >>= fun t9 => _) = _
      rw [hrd, bindM_some]
      show (if ((((rdU r (widthL V k)).2 : Nat) : Int) != 0) = true then some (zP, (((rdU r (widthL V k)).2 : Nat) : Int)) else (cidr_Of (mkA V k) (wr .i64 (((rdU r (widthL V k)).1 : Nat) : Int)) >>= fun t11 => some (t11.1, t11.2))) = _
      by_cases h3 : (rdU r (widthL V k)).2 = 0
      · have e3 : ((((rdU r (widthL V k)).2 : Nat) : Int) != 0) = false := by rw [h3]; rfl
        rw [e3, if_neg Bool.false_ne_true, if_pos h3, wr_i64 (by omega) (by omega), of_code hk, bindM_some, ofA_mkA hk]
      · have e3 : ((((rdU r (widthL V k)).2 : Nat) : Int) != 0) = true := by rw [bne_iff_ne]; omega
        rw [e3, if_pos rfl, if_neg h3]
    · have e : ((adrP h).2 != 0) = true := by rw [bne_iff_ne]; exact h0
      rw [e, if_pos rfl]
      simp only [h0, if_false]; rfl
theorem cid_parse_ref (l : List UInt8) (hl : l.length < 100000) : crawlwayref11_Parse (bs l) = some (cidP l) := by
  unfold crawlwayref11_Parse cidP
  have hp := parts_ref 47 l (by omega)
  rw [show ((47 : UInt8).toNat : Int) = 47 from rfl] at hp
  rw [hp, bindM_some]
  have hne := parts_ne 47 l
  have hg0 : (0 : Int) ≤ 0 ∧ (0 : Int) < (((parts 47 l).map bs).length : Int) := by
    rw [List.length_map]
    cases hq : parts 47 l with
    | nil => exact absurd hq hne
    | cons _ _ => simp
  rw [if_pos hg0]
  rcases split_at 47 l with h2 | ⟨h, r, rfl, h2⟩
  · have e0 : lget ((parts 47 l).map bs) 0 = bs l := by rw [parts_none 47 l h2]; rfl
    have e1 : (((parts 47 l).map bs).length : Int) = 1 := by rw [parts_none 47 l h2]; rfl
    rw [e0, e1, f47_none l h2, ref_parse10 l hl, bindM_some]
    by_cases h0 : (adrP l).2 = 0
    · obtain ⟨V, k, hA, hk, hr⟩ := adrP_right h0
      have e : ((adrP l).2 != 0) = false := by rw [h0]; rfl
      rw [e, if_neg Bool.false_ne_true, if_pos (show ((1 : Int) == 1) = true from rfl), hA, width_ref hk, bindM_some, of_ref hk, bindM_some]
      simp only [h0, if_true]
      rw [wd_mkA hk, ofA_mkA hk]
    · have e : ((adrP l).2 != 0) = true := by rw [bne_iff_ne]; exact h0
      rw [e, if_pos rfl]
      simp only [h0, if_false]; rfl
  · have hlen : (h ++ 47 :: r).length = h.length + (r.length + 1) := by simp
    have e0 : lget ((parts 47 (h ++ 47 :: r)).map bs) 0 = bs h := by rw [parts_cons 47 r h h2]; rfl
    have e1 : ((((parts 47 (h ++ 47 :: r)).map bs).length : Int) == 1) = false := by
      rw [parts_cons 47 r h h2, beq_eq_false_iff_ne, List.length_map, List.length_cons]
      have := parts_ne 47 r
      cases hq : parts 47 r with
      | nil => exact absurd hq this
      | cons _ _ => simp only [List.length_cons]; omega
    have w : wr .i64 (((bs h).size : Int) + 1) = ((h.length + 1 : Nat) : Int) := by rw [bs_size, wr_i64 (by omega) (by omega)]; omega
    have x : (bs (h ++ 47 :: r)).extract (Int.toNat ((h.length + 1 : Nat) : Int)) (Int.toNat ((bs (h ++ 47 :: r)).size : Int)) = bs r := by
      rw [Int.toNat_natCast, Int.toNat_natCast, bs_extract, bs_size, List.take_of_length_le (Nat.le_refl _), List.drop_append, List.drop_eq_nil_of_le (by omega), show h.length + 1 - h.length = 1 by omega]; rfl
    rw [e0, f47_at r h h2, ref_parse10 h (by omega), bindM_some]
    by_cases h0 : (adrP h).2 = 0
    · obtain ⟨V, k, hA, hk, hr⟩ := adrP_right h0
      have hw := width_le (V := V) (l := k)
      have e : ((adrP h).2 != 0) = false := by rw [h0]; rfl
      rw [e, if_neg Bool.false_ne_true, e1, if_neg Bool.false_ne_true, if_pos hg0, w, if_pos (by rw [bs_size]; omega), hA, width_ref hk, bindM_some, x]
      simp only [h0, if_true]
      rw [hA, wd_mkA hk, wr_u64 (by omega) (by omega)]
      have hrd := read_ref (bs r) (widthL V k) (by rw [bs_size]; omega) (by omega)
      rw [bs_list] at hrd
      have hle := rdU_le r (widthL V k)
      rw [hrd, bindM_some]
      show (if ((((rdU r (widthL V k)).2 : Nat) : Int) != 0) = true then some (zP, (((rdU r (widthL V k)).2 : Nat) : Int)) else (crawlwayref11_Of (mkA V k) (wr .i64 (((rdU r (widthL V k)).1 : Nat) : Int)) >>= fun t11 => some (t11.1, t11.2))) = _
      by_cases h3 : (rdU r (widthL V k)).2 = 0
      · have e3 : ((((rdU r (widthL V k)).2 : Nat) : Int) != 0) = false := by rw [h3]; rfl
        rw [e3, if_neg Bool.false_ne_true, if_pos h3, wr_i64 (by omega) (by omega), of_ref hk, bindM_some, ofA_mkA hk]
      · have e3 : ((((rdU r (widthL V k)).2 : Nat) : Int) != 0) = true := by rw [bne_iff_ne]; omega
        rw [e3, if_pos rfl, if_neg h3]
    · have e : ((adrP h).2 != 0) = true := by rw [bne_iff_ne]; exact h0
      rw [e, if_pos rfl]
      simp only [h0, if_false]; rfl
theorem cidP_ok {l : List UInt8} (e : (cidP l).2 = 0) : ∃ V k b, (cidP l).1 = mkP (mkA V k) ((b : Nat) : Int) ∧ k.length = 16 ∧ rightP V k ((b : Nat) : Int) = true := by
  have key : ∀ (V : Int) (k : List UInt8) (b : Nat), k.length = 16 → rightL V k = true → (ofP V k (b : Int)).2 = 0 → ∃ V' k' b', (ofP V k (b : Int)).1 = mkP (mkA V' k') ((b' : Nat) : Int) ∧ k'.length = 16 ∧ rightP V' k' ((b' : Nat) : Int) = true := by
    intro V k b hk hr h
    unfold ofP at h ⊢
    rw [if_pos hr] at h ⊢
    cases hf : fits V k (b : Int) with
    | false => rw [hf] at h; cases h
    | true =>
      rw [if_pos rfl]
      exact ⟨V, mfull k (b : Int), b, rfl, mlen hk _, rightP_of hk hf⟩
  unfold cidP at e ⊢
  cases hq : f47 l with
  | none =>
    rw [hq] at e
    simp only at e ⊢
    by_cases h0 : (adrP l).2 = 0
    · obtain ⟨V, k, hA, hk, hr⟩ := adrP_right h0
      rw [if_pos h0, hA, wd_mkA hk, ofA_mkA hk] at e ⊢
      exact key V k _ hk hr e
    · rw [if_neg h0] at e; exact absurd e h0
  | some q =>
    obtain ⟨h, p⟩ := q
    rw [hq] at e
    simp only at e ⊢
    by_cases h0 : (adrP h).2 = 0
    · obtain ⟨V, k, hA, hk, hr⟩ := adrP_right h0
      rw [if_pos h0, hA, wd_mkA hk] at e ⊢
      by_cases h3 : (rdU p (widthL V k)).2 = 0
      · rw [if_pos h3, ofA_mkA hk] at e ⊢
        exact key V k _ hk hr e
      · rw [if_neg h3] at e
        have : ((rdU p (widthL V k)).2 : Int) = 0 := e
        omega
    · rw [if_neg h0] at e; exact absurd e h0
end Go.Proofs.YtkkmmpofdcccmaaGreatDoor.Cid
namespace Go.Proofs.YtkkmmpofdcccmaaGreatDoor.Host
open E Go.RowKit
open Adr AdrT
def isB : List UInt8 → Bool
  | x :: y :: _ => x == 93 && y == 58
  | _ => false
theorem isB_iff (r : List UInt8) : isB r = true ↔ ∃ r2, r = 93 :: 58 :: r2 := by
  match r with
  | [] => simp [isB]
  | [x] => simp [isB]
  | x :: y :: r => simp [isB]
def cutL : List UInt8 → Option (List UInt8 × List UInt8)
  | [] => none
  | c :: r => if isB (c :: r) = true then some ([], r.drop 1) else (cutL r).map fun q => (c :: q.1, q.2)
theorem cutL_eq : ∀ {l a b : List UInt8}, cutL l = some (a, b) → l = a ++ 93 :: 58 :: b
  | [], _, _, h => by cases h
  | c :: r, a, b, h => by
    unfold cutL at h
    split at h
    · next hc =>
      obtain ⟨r2, hr⟩ := (isB_iff _).1 hc
      cases h
      rw [hr]
      obtain ⟨_, rfl⟩ := List.cons.inj hr
      rfl
    · obtain ⟨q, hq, h⟩ := Option.map_eq_some_iff.1 h
      obtain ⟨a', b'⟩ := q
      cases h
      rw [cutL_eq hq]; rfl
theorem pre_isB (l : List UInt8) : List.isPrefixOf [93, 58] l = isB l := by
  match l with
  | [] => rfl
  | [x] => simp [List.isPrefixOf, isB]
  | x :: y :: r => simp only [List.isPrefixOf, isB, Bool.and_true]; rw [BEq.comm (a := (93 : UInt8)), BEq.comm (a := (58 : UInt8))]
theorem index_cut : ∀ (l : List UInt8), Lib.index l [93, 58] = match cutL l with | some (a, _) => (a.length : Int) | none => -1
  | [] => rfl
  | c :: r => by
    unfold Lib.index cutL
    rw [pre_isB]
    by_cases h : isB (c :: r) = true
    · rw [if_pos h, if_pos h]; rfl
    · rw [if_neg h, if_neg h, index_cut r]
      cases cutL r with
      | none => rfl
      | some q =>
        obtain ⟨a, b⟩ := q
        have : (((a.length : Nat) : Int) == -1) = false := by rw [beq_eq_false_iff_ne]; omega
        simp only [Option.map_some, List.length_cons]
        rw [this, if_neg Bool.false_ne_true]
        exact (Int.natCast_succ _).symm
theorem lib_cut (l : List UInt8) : Lib.cut l [93, 58] = match cutL l with | some (a, b) => (a, b, true) | none => (l, [], false) := by
  unfold Lib.cut
  rw [index_cut]
  cases h : cutL l with
  | none => rfl
  | some q =>
    obtain ⟨a, b⟩ := q
    have hl := cutL_eq h
    simp only
    rw [if_pos (by omega), Int.toNat_natCast]
    have e1 : l.take a.length = a := by rw [hl]; exact List.take_left' rfl
    have e2 : l.drop (a.length + ([93, 58] : List UInt8).length) = b := by
      rw [hl, List.drop_append, List.drop_eq_nil_of_le (by omega)]
      simp only [List.length_cons, List.length_nil, List.nil_append]
      rw [show a.length + (0 + 1 + 1) - a.length = 2 by omega]; rfl
    rw [e1, e2]
theorem scut_eq (l : List UInt8) : scut (bs l) (⟨#[93, 58]⟩ : ByteArray) = match cutL l with | some (a, b) => (bs a, bs b, true) | none => (bs l, bs [], false) := by
  have h := lib_cut l
  unfold scut
  rw [bs_list]
  show ((⟨(Lib.cut l [93, 58]).1.toArray⟩ : ByteArray), (⟨(Lib.cut l [93, 58]).2.1.toArray⟩ : ByteArray), (Lib.cut l [93, 58]).2.2) = _
  rw [h]
  cases cutL l with
  | none => rfl
  | some q => rfl
theorem index_colon (l : List UInt8) : decide (0 ≤ Lib.indexByte l 58) = hasC l := by
  cases hc : hasC l with
  | true =>
    obtain ⟨p, r, rfl, hp⟩ := (hasC_iff l).1 hc
    rw [index_at p r 58 hp]
    exact decide_eq_true (by omega)
  | false =>
    have := cut_none l 58 (hasC_no hc)
    have h1 := Lib.indexByte_ge l 58
    refine decide_eq_false fun h => ?_
    obtain ⟨o, ho⟩ := Int.eq_ofNat_of_zero_le h
    have := (Lib.indexByte_some ho).1
    exact hasC_no hc 58 (List.mem_of_getElem? this) rfl
def f58 : List UInt8 → Option (List UInt8 × List UInt8)
  | [] => none
  | c :: r => if c = 58 then some ([], r) else (f58 r).map fun q => (c :: q.1, q.2)
theorem f58_at (r : List UInt8) : ∀ (p : List UInt8), (∀ x ∈ p, x ≠ 58) → f58 (p ++ 58 :: r) = some (p, r)
  | [], _ => by
    show (if (58 : UInt8) = 58 then some ([], r) else _) = _
    rw [if_pos rfl]
  | c :: p, h => by
    show (if c = 58 then _ else (f58 (p ++ 58 :: r)).map _) = _
    rw [if_neg (h c (List.mem_cons_self ..)), f58_at r p fun x hx => h x (List.mem_cons_of_mem _ hx)]; rfl
theorem f58_none : ∀ (l : List UInt8), (∀ x ∈ l, x ≠ 58) → f58 l = none
  | [], _ => rfl
  | c :: r, h => by
    unfold f58
    rw [if_neg (h c (List.mem_cons_self ..)), f58_none r fun x hx => h x (List.mem_cons_of_mem _ hx)]; rfl
def six (l : List UInt8) : Bool := l.head? == some 91
def halL (l : List UInt8) : Option (List UInt8 × List UInt8) := if six l = true then (cutL (l.drop 1)).bind fun q => if hasC q.1 = true then some q else none else f58 l
theorem cutPrefix (l : List UInt8) : strings_CutPrefix (bs l) (⟨#[91]⟩ : ByteArray) = some (if six l = true then (bs (l.drop 1), true) else (bs l, false)) := by
  have hp : stringslite_HasPrefix (bs l) (⟨#[91]⟩ : ByteArray) = some (six l) := by
    unfold stringslite_HasPrefix
    cases l with
    | nil => rw [if_neg (by decide)]; rfl
    | cons x r =>
      have hsz : (bs (x :: r)).size = r.length + 1 := bs_size _
      have h1 : ((⟨#[91]⟩ : ByteArray).size : Int) = 1 := rfl
      rw [h1, hsz, if_pos (decide_eq_true (by omega)), if_pos (by omega)]
      refine congrArg some ?_
      show seq ((bs (x :: r)).extract 0 1) (bs [91]) = _
      rw [bs_extract]
      by_cases hx : x = 91
      · subst hx
        exact seq_self _
      · have hf : six (x :: r) = false := by simp [six, hx]
        rw [hf]
        cases hc : seq (bs ((List.take 1 (x :: r)).drop 0)) (bs [91]) with
        | false => rfl
        | true =>
          have := bs_inj ((seq_iff _ _).1 hc)
          simp at this
          exact absurd this hx
  unfold strings_CutPrefix stringslite_CutPrefix
  rw [hp, bindM_some]
  cases h : six l with
  | false => rfl
  | true =>
    have hne : 1 ≤ l.length := by
      cases l with
      | nil => cases h
      | cons x r => simp
    have h1 : ((⟨#[91]⟩ : ByteArray).size : Int) = 1 := rfl
    have hx : (bs l).extract (Int.toNat 1) (Int.toNat ((bs l).size : Int)) = bs (l.drop 1) := by
      rw [Int.toNat_natCast, bs_extract, bs_size, List.take_of_length_le (Nat.le_refl _)]; rfl
    rw [if_neg (by decide), h1, if_pos (by rw [bs_size]; omega), hx]; rfl
theorem halves_ok (l : List UInt8) (hl : l.length < 1000000) : ∃ a b, hostport_halves (bs l) = some (a, b, (halL l).isSome) ∧ ∀ h p, halL l = some (h, p) → a = bs h ∧ b = bs p := by
  unfold hostport_halves halL
  rw [cutPrefix, bindM_some]
  cases h6 : six l with
  | true =>
    have hd : (l.drop 1).length < 1000000 := by rw [List.length_drop]; omega
    rw [if_pos rfl]
    show ∃ a b, (if true = true then (if (bs (l.drop 1)).size < 4294967281 then if (scut (bs (l.drop 1)) (⟨#[93, 58]⟩ : ByteArray)).2.2 = true then some ((scut (bs (l.drop 1)) (⟨#[93, 58]⟩ : ByteArray)).1, (scut (bs (l.drop 1)) (⟨#[93, 58]⟩ : ByteArray)).2.1, decide (0 ≤ Lib.indexByte (scut (bs (l.drop 1)) (⟨#[93, 58]⟩ : ByteArray)).1.data.toList 58)) else some ((scut (bs (l.drop 1)) (⟨#[93, 58]⟩ : ByteArray)).1, (scut (bs (l.drop 1)) (⟨#[93, 58]⟩ : ByteArray)).2.1, false) else none) else _) = _ ∧ _
    rw [if_pos rfl, if_pos (by rw [bs_size]; omega), scut_eq]
    cases hc : cutL (l.drop 1) with
    | none =>
      exact ⟨_, _, rfl, fun h p e => by cases e⟩
    | some q =>
      obtain ⟨a, b⟩ := q
      simp only [if_true, bs_list, index_colon, Option.bind_some]
      cases hasC a with
      | true => exact ⟨_, _, rfl, fun h p e => by cases e; exact ⟨rfl, rfl⟩⟩
      | false => exact ⟨_, _, rfl, fun h p e => by cases e⟩
  | false =>
    have hb : bt (⟨#[58]⟩ : ByteArray) 0 = 58 := rfl
    rw [if_neg Bool.false_ne_true]
    show ∃ a b, (if false = true then _ else (if (0 : Int) ≤ 0 ∧ (0 : Int) < ((⟨#[58]⟩ : ByteArray).size : Int) then lines_Cut (bs l) (bt (⟨#[58]⟩ : ByteArray) 0) >>= fun t6 => some (t6.1, t6.2.1, t6.2.2) else none)) = _ ∧ _
    rw [if_neg Bool.false_ne_true, if_pos (by decide), hb]
    have h58 : ((58 : UInt8).toNat : Int) = 58 := rfl
    rcases split_at 58 l with h2 | ⟨p, r, rfl, h2⟩
    · have hcut := cut_none l 58 h2
      rw [h58] at hcut
      rw [hcut, bindM_some, if_neg Bool.false_ne_true, f58_none l h2]
      exact ⟨_, _, rfl, fun h p e => by cases e⟩
    · have hcut := cut_some p r 58 h2 (by simp at hl; omega)
      rw [h58] at hcut
      rw [hcut, bindM_some, if_neg Bool.false_ne_true, f58_at r p h2]
      exact ⟨_, _, rfl, fun h q e => by cases e; exact ⟨rfl, rfl⟩⟩
def mkE (A : S_api_Addr) (n : Int) : S_api_Endpoint := { f_A := A, f_Port := n }
def zE : S_api_Endpoint := { f_A := ({ f_V := (0 : Int), f_B := (Vector.replicate 16 (0 : Int) : (Vector Int 16)) } : S_api_Addr), f_Port := (0 : Int) }
def endQ (h p : List UInt8) : S_api_Endpoint × Int := if (adrP h).2 = 0 then (if (rdU p 65535).2 = 0 then (if (rdU p 65535).1 = 0 then (zE, 6) else (mkE (adrP h).1 ((rdU p 65535).1 : Int), 0)) else (zE, ((rdU p 65535).2 : Int))) else (zE, (adrP h).2)
def endP (l : List UInt8) : S_api_Endpoint × Int := match halL l with
  | some (h, p) => endQ h p
  | none => (zE, 5)
/-- What both do with an address and a port. -/
theorem tail_ok {P : Option (S_api_Addr × Int)} {R : Option (Int × Int)} (h p : List UInt8) (hP : P = some (adrP h)) (hR : R = some (iiOf (rdU p 65535))) :
    (P >>= fun t4 => if (t4.2 != 0) = true then (some (zE, t4.2)) else (R >>= fun t7 => if (t7.2 != 0) = true then (some (zE, t7.2)) else (if (t7.1 == 0) = true then (some (zE, 6)) else (some ({ { zE with f_A := t4.1 } with f_Port := wr .i64 t7.1 }, 0))))) = some (endQ h p) := by
  subst hP hR
  rw [bindM_some]
  unfold endQ
  have hle := rdU_le p 65535
  by_cases h1 : (adrP h).2 = 0
  · have e : ((adrP h).2 != 0) = false := by rw [h1]; rfl
    rw [e, if_neg Bool.false_ne_true, if_pos h1, bindM_some]
    show (if ((((rdU p 65535).2 : Nat) : Int) != 0) = true then _ else (if ((((rdU p 65535).1 : Nat) : Int) == 0) = true then _ else some (S_api_Endpoint.mk (adrP h).1 (wr .i64 (((rdU p 65535).1 : Nat) : Int)), (0 : Int)))) = _
    by_cases h2 : (rdU p 65535).2 = 0
    · have e2 : ((((rdU p 65535).2 : Nat) : Int) != 0) = false := by rw [h2]; rfl
      rw [e2, if_neg Bool.false_ne_true, if_pos h2]
      by_cases h3 : (rdU p 65535).1 = 0
      · rw [h3, if_pos (by rfl), if_pos rfl]
      · have e3 : ((((rdU p 65535).1 : Nat) : Int) == 0) = false := by rw [beq_eq_false_iff_ne]; omega
        rw [e3, if_neg Bool.false_ne_true, if_neg h3, wr_i64 (by omega) (by omega)]; rfl
    · have e2 : ((((rdU p 65535).2 : Nat) : Int) != 0) = true := by rw [bne_iff_ne]; omega
      rw [e2, if_pos rfl, if_neg h2]; rfl
  · have e : ((adrP h).2 != 0) = true := by rw [bne_iff_ne]; exact h1
    rw [e, if_pos rfl, if_neg h1]
theorem halL_len {l h p : List UInt8} (e : halL l = some (h, p)) : h.length ≤ l.length ∧ p.length ≤ l.length := by
  unfold halL at e
  split at e
  · obtain ⟨q, hq, e⟩ := Option.bind_eq_some_iff.1 e
    split at e
    · cases e
      have := congrArg List.length (cutL_eq hq)
      rw [List.length_drop, List.length_append, List.length_cons, List.length_cons] at this
      omega
    · cases e
  · rcases split_at 58 l with h2 | ⟨a, r, rfl, h2⟩
    · rw [f58_none l h2] at e; cases e
    · rw [f58_at r a h2] at e
      cases e
      rw [List.length_append, List.length_cons]
      omega
theorem host_parse (l : List UInt8) (hl : l.length < 100000) : hostport_Parse (bs l) = some (endP l) := by
  unfold hostport_Parse endP
  obtain ⟨a, b, hh, hab⟩ := halves_ok l (by omega)
  rw [hh, bindM_some]
  cases hq : halL l with
  | none =>
    show (if (!false) = true then _ else _) = _
    rw [if_pos (show (!false) = true from rfl)]; rfl
  | some q =>
    obtain ⟨h, p⟩ := q
    obtain ⟨rfl, rfl⟩ := hab h p hq
    have hlen := halL_len hq
    show (if (!true) = true then _ else _) = _
    rw [if_neg (by decide)]
    exact tail_ok h p (addr_parse h (by omega)) (by
      have := read_code (bs p) 65535 (by rw [bs_size]; omega) (by omega)
      rw [bs_list] at this
      exact this)
theorem u8_93 (x : UInt8) : ((x.toNat : Int) == 93) = (x == 93) := by
  by_cases h : x = 93
  · subst h; rfl
  · have h2 : x.toNat ≠ 93 := fun e => h (UInt8.toNat_inj.1 e)
    have h3 : (x == 93) = false := by simp [h]
    rw [h3, beq_eq_false_iff_ne]; omega
theorem cut_loop (l : List UInt8) (hl : l.length < 1000000) : ∀ (k i : Nat), l.length - i = k → i ≤ l.length →
    crawlwayref12_cut.l0 (bs l) (i : Int) = some (match cutL (l.drop i) with | some (a, b) => .ret (bs (l.take i ++ a), bs b, true) | none => .nx ()) := by
  intro k
  induction k with
  | zero =>
    intro i hk hi
    have w : wr .i64 ((i : Int) + 1) = ((i + 1 : Nat) : Int) := by rw [wr_i64 (by omega) (by omega)]; omega
    rw [crawlwayref12_cut.l0.eq_def, w, bs_size, if_neg (by rw [decide_eq_true_eq]; omega), List.drop_eq_nil_of_le (by omega)]; rfl
  | succ k ih =>
    intro i hk hi
    have w : wr .i64 ((i : Int) + 1) = ((i + 1 : Nat) : Int) := by rw [wr_i64 (by omega) (by omega)]; omega
    have w2 : wr .i64 ((i : Int) + 2) = ((i + 2 : Nat) : Int) := by rw [wr_i64 (by omega) (by omega)]; omega
    obtain ⟨c, hc, hd⟩ := drop_get l i (by omega)
    have hbc : bt (bs l) (i : Int) = (c.toNat : Int) := bt_at (by rw [bs_list]; exact hc)
    have hi1 := ih (i + 1) (by omega) (by omega)
    have htk : l.take (i + 1) = l.take i ++ [c] := by rw [List.take_add_one, hc]; rfl
    rw [crawlwayref12_cut.l0.eq_def, w, bs_size]
    by_cases h1 : i + 1 < l.length
    · obtain ⟨d, hdd, hd2⟩ := drop_get l (i + 1) h1
      have hbd : bt (bs l) ((i + 1 : Nat) : Int) = (d.toNat : Int) := bt_at (by rw [bs_list]; exact hdd)
      have hnot : ∀ (hB : isB (c :: d :: l.drop (i + 1 + 1)) = false), crawlwayref12_cut.l0 (bs l) ((i + 1 : Nat) : Int) = some (match cutL (c :: d :: l.drop (i + 1 + 1)) with | some (a, b) => .ret (bs (l.take i ++ a), bs b, true) | none => .nx ()) := by
        intro hB
        have e : cutL (c :: d :: l.drop (i + 1 + 1)) = (cutL (d :: l.drop (i + 1 + 1))).map fun q => (c :: q.1, q.2) := by
          conv => lhs; unfold cutL
          rw [hB, if_neg Bool.false_ne_true]
        rw [hi1, e, hd2]
        cases cutL (d :: l.drop (i + 1 + 1)) with
        | none => rfl
        | some q => obtain ⟨a, b⟩ := q; simp [htk]
      rw [if_pos (decide_eq_true (by omega)), if_pos (by omega), hbc, u8_93, hbd, Col.u8_58, w2, hd, hd2]
      by_cases hc93 : c = 93
      · subst hc93
        rw [if_pos (by rfl), if_pos (by omega)]
        by_cases hd58 : d = 58
        · subst hd58
          have x1 : (bs l).extract (Int.toNat 0) (Int.toNat (i : Int)) = bs (l.take i) := by rw [Int.toNat_natCast, bs_extract]; rfl
          have x2 : (bs l).extract (Int.toNat ((i + 2 : Nat) : Int)) (Int.toNat ((l.length : Nat) : Int)) = bs (l.drop (i + 2)) := by
            rw [Int.toNat_natCast, Int.toNat_natCast, bs_extract, List.take_of_length_le (Nat.le_refl _)]
          rw [if_pos (by rfl), if_pos (by omega), if_pos (by omega), x1, x2]
          have e : cutL (93 :: 58 :: l.drop (i + 1 + 1)) = some ([], l.drop (i + 1 + 1)) := rfl
          rw [e]
          simp
        · have hf : (d == 58) = false := by simp [hd58]
          rw [hf, if_neg Bool.false_ne_true]
          exact hnot (by simp [isB, hd58])
      · have hf : (c == 93) = false := by simp [hc93]
        rw [hf, if_neg Bool.false_ne_true]
        exact hnot (by simp [isB, hc93])
    · rw [if_neg (by rw [decide_eq_true_eq]; omega), hd, List.drop_eq_nil_of_le (show l.length ≤ i + 1 by omega)]
      rfl
theorem refcut_ok (l : List UInt8) (hl : l.length < 1000000) : crawlwayref12_cut (bs l) = some (match cutL l with | some (a, b) => (bs a, bs b, true) | none => (bs [], bs [], false)) := by
  unfold crawlwayref12_cut
  have h := cut_loop l hl l.length 0 (by omega) (by omega)
  rw [show ((0 : Nat) : Int) = 0 from rfl, List.drop_zero] at h
  rw [h, bindM_some]
  cases cutL l with
  | none => rfl
  | some q => obtain ⟨a, b⟩ := q; simp
theorem parts58 (h : List UInt8) (hl : h.length < 1000000) : crawlwayref06_Parts (bs h) 58 = some ((parts 58 h).map bs) := by
  have := parts_ref 58 h hl
  rwa [show ((58 : UInt8).toNat : Int) = 58 from rfl] at this
theorem many58 (h : List UInt8) : decide ((((parts 58 h).map bs).length : Int) > 1) = hasC h := by
  rw [List.length_map]
  cases hc : hasC h with
  | true => exact decide_eq_true (by have := (parts_many h).2 hc; omega)
  | false => exact decide_eq_false fun h2 => by have := (parts_many h).1 (by omega); rw [this] at hc; cases hc
theorem first_part (p r : List UInt8) (h : ∀ x ∈ p, x ≠ 58) : lget ((parts 58 (p ++ 58 :: r)).map bs) 0 = bs p := by
  rw [parts_cons 58 r p h]; rfl
theorem ref_read (p : List UInt8) (hp : p.length < 1000000) : crawlwayref03_Read (bs p) 65535 = some (iiOf (rdU p 65535)) := by
  have := read_ref (bs p) 65535 (by rw [bs_size]; omega) (by omega)
  rw [bs_list] at this
  exact this
/-- Ahead of a port, with no bracket. -/
theorem plain_ok (l : List UInt8) (hl : l.length < 100000) (h6 : six l = false) (b : Bool) (hb : b = false) :
    (crawlwayref06_Parts (bs l) 58 >>= fun t18 => if (0 : Int) ≤ 0 ∧ 0 < (t18.length : Int) then if (decide ((t18.length : Int) > 1)) = true then (if (0 : Int) ≤ 0 ∧ 0 < (t18.length : Int) then if (0 : Int) ≤ wr .i64 (((lget t18 0).size : Int) + 1) ∧ wr .i64 (((lget t18 0).size : Int) + 1) ≤ ((bs l).size : Int) ∧ ((bs l).size : Int) ≤ ((bs l).size : Int) then if (!(decide ((t18.length : Int) > 1))) = true then (some (zE, 5)) else (crawlwayref06_Parts (lget t18 0) 58 >>= fun t32 => if (decide ((t32.length : Int) > 1) != b) = true then (some (zE, 5)) else (crawlwayref10_Parse (lget t18 0) >>= fun t36 => if (t36.2 != 0) = true then (some (zE, t36.2)) else (crawlwayref03_Read ((bs l).extract (Int.toNat (wr .i64 (((lget t18 0).size : Int) + 1))) (Int.toNat ((bs l).size : Int))) 65535 >>= fun t39 => if (t39.2 != 0) = true then (some (zE, t39.2)) else (if (t39.1 == 0) = true then (some (zE, 6)) else (some ({ { zE with f_A := t36.1 } with f_Port := wr .i64 t39.1 }, 0)))))) else none else none) else (if (!(decide ((t18.length : Int) > 1))) = true then (some (zE, 5)) else (crawlwayref06_Parts (lget t18 0) 58 >>= fun t43 => if (decide ((t43.length : Int) > 1) != b) = true then (some (zE, 5)) else (crawlwayref10_Parse (lget t18 0) >>= fun t47 => if (t47.2 != 0) = true then (some (zE, t47.2)) else (crawlwayref03_Read (⟨#[]⟩ : ByteArray) 65535 >>= fun t50 => if (t50.2 != 0) = true then (some (zE, t50.2)) else (if (t50.1 == 0) = true then (some (zE, 6)) else (some ({ { zE with f_A := t47.1 } with f_Port := wr .i64 t50.1 }, 0))))))) else none) = some (endP l) := by
  subst hb
  have hne := parts_ne 58 l
  have h0 : (0 : Int) ≤ 0 ∧ (0 : Int) < (((parts 58 l).map bs).length : Int) := by
    rw [List.length_map]
    cases hq : parts 58 l with
    | nil => exact absurd hq hne
    | cons _ _ => simp
  unfold endP halL
  rw [h6, if_neg Bool.false_ne_true, parts58 l (by omega), bindM_some, if_pos h0, many58]
  rcases split_at 58 l with h2 | ⟨p, r, rfl, h2⟩
  · have hc : hasC l = false := by
      cases h : hasC l with
      | false => rfl
      | true =>
        obtain ⟨p, r, rfl, _⟩ := (hasC_iff l).1 h
        exact absurd rfl (h2 58 (by simp))
    rw [hc, if_neg Bool.false_ne_true, if_pos (show (!false) = true from rfl), f58_none l h2]
  · have hc : hasC (p ++ 58 :: r) = true := hasC_app p r
    have hpc : hasC p = false := by
      cases h : hasC p with
      | false => rfl
      | true =>
        obtain ⟨p', r', rfl, _⟩ := (hasC_iff p).1 h
        exact absurd rfl (h2 58 (by simp))
    have hlen : (p ++ 58 :: r).length = p.length + (r.length + 1) := by simp
    have w : wr .i64 (((bs p).size : Int) + 1) = ((p.length + 1 : Nat) : Int) := by rw [bs_size, wr_i64 (by omega) (by omega)]; omega
    have x : (bs (p ++ 58 :: r)).extract (Int.toNat ((p.length + 1 : Nat) : Int)) (Int.toNat ((bs (p ++ 58 :: r)).size : Int)) = bs r := by
      rw [Int.toNat_natCast, Int.toNat_natCast, bs_extract, bs_size, List.take_of_length_le (Nat.le_refl _), List.drop_append, List.drop_eq_nil_of_le (by omega), show p.length + 1 - p.length = 1 by omega]; rfl
    rw [hc, if_pos rfl, if_pos h0, first_part p r h2, w, if_pos (by rw [bs_size]; omega), if_neg (show ¬ (!true) = true by decide), parts58 p (by omega), bindM_some, many58, hpc, if_neg (by decide), x, f58_at r p h2]
    exact tail_ok p r (ref_parse10 p (by omega)) (ref_read r (by omega))
theorem ref_parse12 (l : List UInt8) (hl : l.length < 100000) : crawlwayref12_Parse (bs l) = some (endP l) := by
  unfold crawlwayref12_Parse
  cases l with
  | nil =>
    rw [if_neg (by decide)]
    exact plain_ok [] hl rfl false rfl
  | cons x r =>
    have hb : bt (bs (x :: r)) 0 = (x.toNat : Int) := bt_at (i := 0) (by rw [bs_list]; rfl)
    have hs : (0 : Int) ≤ 0 ∧ (0 : Int) < ((bs (x :: r)).size : Int) := by rw [bs_size, List.length_cons]; omega
    rw [if_pos (decide_eq_true hs.2), if_pos hs, hb]
    by_cases hx : x = 91
    · subst hx
      have e91 : (((91 : UInt8).toNat : Int) == 91) = true := rfl
      have hx1 : (bs (91 :: r)).extract (Int.toNat 1) (Int.toNat ((bs (91 :: r)).size : Int)) = bs r := by
        rw [Int.toNat_natCast, bs_extract, bs_size, List.take_of_length_le (Nat.le_refl _)]; rfl
      have h6 : six (91 :: r) = true := rfl
      simp only [List.length_cons] at hl
      rw [e91, if_pos rfl, if_pos (by rw [bs_size, List.length_cons]; omega), hx1, refcut_ok r (by omega), bindM_some]
      unfold endP halL
      rw [h6, if_pos rfl]
      show _ = some (match (cutL r).bind fun q => if hasC q.1 = true then some q else none with | some (h, p) => endQ h p | none => (zE, 5))
      cases hc : cutL r with
      | none => rw [if_pos (show (!false) = true from rfl)]; rfl
      | some q =>
        obtain ⟨a, b⟩ := q
        have hlen := congrArg List.length (cutL_eq hc)
        rw [List.length_append, List.length_cons, List.length_cons] at hlen
        simp only [Option.bind_some]
        rw [if_neg (show ¬ (!true) = true by decide), parts58 a (by omega), bindM_some, many58]
        cases ha : hasC a with
        | false =>
          rw [if_pos (by decide)]
          simp only [Bool.false_eq_true, if_false]; rfl
        | true =>
          rw [if_neg (by decide)]
          simp only [if_true]
          exact tail_ok a b (ref_parse10 a (by omega)) (ref_read b (by omega))
    · have e91 : ((x.toNat : Int) == 91) = false := by
        rw [beq_eq_false_iff_ne]
        intro e
        exact hx (UInt8.toNat_inj.1 (by show x.toNat = 91; omega))
      have h6 : six (x :: r) = false := by simp [six, hx]
      rw [e91, if_neg Bool.false_ne_true]
      exact plain_ok (x :: r) hl h6 false rfl
end Go.Proofs.YtkkmmpofdcccmaaGreatDoor.Host
namespace Go.Proofs.YtkkmmpofdcccmaaGreatDoor.Host
open E Go.RowKit
open Adr AdrT
def rightE (V : Int) (l : List UInt8) (n : Int) : Bool := rightL V l && (decide (1 ≤ n) && decide (n ≤ 65535))
theorem right_code12 {V n : Int} {l : List UInt8} (hl : l.length = 16) : hostport_Right (mkE (mkA V l) n) = some (rightE V l n) := by
  unfold hostport_Right rightE
  show (addr_Right (mkA V l) >>= fun t2 => if t2 = true then (if decide (n ≥ 1) = true then some (decide (n ≤ 65535)) else some false) else some false) = _
  rw [right_code hl, bindM_some]
  cases rightL V l with
  | false => rfl
  | true =>
    rw [if_pos rfl]
    by_cases h : 1 ≤ n
    · rw [if_pos (decide_eq_true h), decide_eq_true h]; rfl
    · rw [if_neg (by rw [decide_eq_true_eq]; exact h), decide_eq_false h]; rfl
theorem rightE_iff {V n : Int} {l : List UInt8} (h : rightE V l n = true) : rightL V l = true ∧ ∃ k : Nat, n = (k : Int) ∧ 1 ≤ k ∧ k ≤ 65535 := by
  unfold rightE at h
  simp only [Bool.and_eq_true, decide_eq_true_eq] at h
  exact ⟨h.1, n.toNat, by omega, by omega, by omega⟩
def hostL (V : Int) (l : List UInt8) (k : Nat) : List UInt8 := if V = 4 then adrT V l ++ 58 :: Lib.decDigits k else 91 :: (adrT V l ++ 93 :: 58 :: Lib.decDigits k)
theorem dig5 (k : Nat) (h : k ≤ 65535) : (Lib.decDigits k).length ≤ 20 := decDigits_len k (by omega)
theorem bs_app (l k : List UInt8) : bs l ++ bs k = bs (l ++ k) := by apply mk_inj; rw [append_list, bs_list, bs_list, bs_list]
theorem fmtU_bs (k : Nat) : fmtU (k : Int) = bs (Lib.decDigits k) := by apply mk_inj; rw [fmtU_list, bs_list]
theorem text_code12 {V n : Int} {l : List UInt8} (hl : l.length = 16) : hostport_Text (mkE (mkA V l) n) = some (bs (if rightE V l n = true then hostL V l n.toNat else [])) := by
  unfold hostport_Text
  rw [right_code12 hl, bindM_some]
  cases hr : rightE V l n with
  | false => rw [if_pos (show (!false) = true from rfl)]; rfl
  | true =>
    obtain ⟨hrl, k, rfl, h1, h2⟩ := rightE_iff hr
    have ht := adrT_len (V := V) hl
    have hd := dig5 k h2
    have b91 : (⟨#[91]⟩ : ByteArray) = bs [91] := rfl
    have b9358 : (⟨#[93, 58]⟩ : ByteArray) = bs [93, 58] := rfl
    have b58 : (⟨#[58]⟩ : ByteArray) = bs [58] := rfl
    rw [if_neg (show ¬ (!true) = true by decide), if_pos rfl, Int.toNat_natCast]
    show (decimal_Text (wr .u64 (k : Int)) >>= fun t4 => addr_Width (mkA V l) >>= fun t5 => if (decide (t5 > 32)) = true then (addr_Text (mkA V l) >>= fun t7 => if (⟨#[91]⟩ : ByteArray).size + t7.size ≤ 140737488355328 then if ((⟨#[91]⟩ : ByteArray) ++ t7).size + (⟨#[93, 58]⟩ : ByteArray).size ≤ 140737488355328 then if (((⟨#[91]⟩ : ByteArray) ++ t7) ++ (⟨#[93, 58]⟩ : ByteArray)).size + t4.size ≤ 140737488355328 then some ((((⟨#[91]⟩ : ByteArray) ++ t7) ++ (⟨#[93, 58]⟩ : ByteArray)) ++ t4) else none else none else none) else (addr_Text (mkA V l) >>= fun t11 => if t11.size + (⟨#[58]⟩ : ByteArray).size ≤ 140737488355328 then if (t11 ++ (⟨#[58]⟩ : ByteArray)).size + t4.size ≤ 140737488355328 then some ((t11 ++ (⟨#[58]⟩ : ByteArray)) ++ t4) else none else none)) = _
    rw [wr_u64 (by omega) (by omega), text_code k (by omega), bindM_some, width_code hl, bindM_some, addr_text hl, bindM_some, bindM_some, fmtU_bs, b91, b9358, b58]
    unfold hostL widthL
    rw [if_pos hrl]
    by_cases h4 : V = 4
    · rw [if_pos h4, if_pos h4, if_neg (by decide), if_pos (by rw [bs_size, bs_size]; simp only [List.length_cons, List.length_nil]; omega), bs_app, if_pos (by rw [bs_size, bs_size, List.length_append]; simp only [List.length_cons, List.length_nil]; omega), bs_app, List.append_assoc]; rfl
    · rw [if_neg h4, if_neg h4, if_pos (by decide), if_pos (by rw [bs_size, bs_size]; simp only [List.length_cons, List.length_nil]; omega), bs_app, if_pos (by rw [bs_size, bs_size, List.length_append]; simp only [List.length_cons, List.length_nil]; omega), bs_app, if_pos (by rw [bs_size, bs_size, List.length_append, List.length_append]; simp only [List.length_cons, List.length_nil]; omega), bs_app, List.append_assoc, List.append_assoc]; rfl
theorem endQ_ok {h p : List UInt8} (e : (endQ h p).2 = 0) : ∃ V l k, (endQ h p).1 = mkE (mkA V l) ((k : Nat) : Int) ∧ l.length = 16 ∧ rightL V l = true ∧ 1 ≤ k ∧ k ≤ 65535 := by
  unfold endQ at e ⊢
  split at e
  · next h1 =>
    rw [if_pos h1]
    split at e
    · next h2 =>
      rw [if_pos h2]
      split at e
      · cases e
      · next h3 =>
        rw [if_neg h3]
        obtain ⟨V, l, hA, hl, hr⟩ := adrP_right h1
        exact ⟨V, l, (rdU p 65535).1, by rw [hA], hl, hr, by omega, rdU_le p 65535⟩
    · next h2 =>
      have : ((rdU p 65535).2 : Int) = 0 := e
      omega
  · next h1 => exact absurd e h1
end Go.Proofs.YtkkmmpofdcccmaaGreatDoor.Host
namespace Go.Proofs.YtkkmmpofdcccmaaGreatDoor.Fld
open E Go.RowKit
def zF : S_api_Field := { f_Word := (0 : Int), f_Key := (Vector.replicate 32 (0 : Int) : (Vector Int 32)), f_N := (0 : Int), f_End := ({ f_A := ({ f_V := (0 : Int), f_B := (Vector.replicate 16 (0 : Int) : (Vector Int 16)) } : S_api_Addr), f_Port := (0 : Int) } : S_api_Endpoint), f_P := ({ f_A := ({ f_V := (0 : Int), f_B := (Vector.replicate 16 (0 : Int) : (Vector Int 16)) } : S_api_Addr), f_Bits := (0 : Int) } : S_api_Prefix) }
def onW (w : Int) : S_api_Field := { zF with f_Word := w }
def mkPr (k v : ByteArray) : S_pairline_Pair := { f_Key := k, f_Value := v }
def yes : ByteArray := ⟨#[116, 114, 117, 101]⟩
/-- The kinds of words. -/
inductive Cls (w : Int) : Prop
  | key (hs : field_shapeOf w = some .s0) (hk : crawlwayref37_key w = some true)
  | ended (hw : w = 9)
  | allowed (hw : w = 12)
  | counted (most lo : Nat) (hs : field_shapeOf w = some (.s3 (most : Int) (lo : Int))) (hk : crawlwayref37_key w = some false) (h9 : w ≠ 9) (h12 : w ≠ 12) (hf : crawlwayref37_flag w = some false) (hm : crawlwayref37_most w = some (most : Int)) (hl : (w ≠ 13 ∧ lo = 0) ∨ (w = 13 ∧ lo = 1)) (hmm : most < 18446744073709551616)
  | said (hs : field_shapeOf w = some .s4) (hk : crawlwayref37_key w = some false) (h9 : w ≠ 9) (h12 : w ≠ 12) (hf : crawlwayref37_flag w = some true)
theorem cls (w : Int) (h1 : 1 ≤ w) (h2 : w ≤ 16) : Cls w := by
  have h : w = 1 ∨ w = 2 ∨ w = 3 ∨ w = 4 ∨ w = 5 ∨ w = 6 ∨ w = 7 ∨ w = 8 ∨ w = 9 ∨ w = 10 ∨ w = 11 ∨ w = 12 ∨ w = 13 ∨ w = 14 ∨ w = 15 ∨ w = 16 := by omega
  rcases h with rfl | rfl | rfl | rfl | rfl | rfl | rfl | rfl | rfl | rfl | rfl | rfl | rfl | rfl | rfl | rfl
  · exact .key rfl rfl
  · exact .counted 65535 0 rfl rfl (by decide) (by decide) rfl rfl (.inl ⟨by decide, rfl⟩) (by decide)
  · exact .counted 4294967295 0 rfl rfl (by decide) (by decide) rfl rfl (.inl ⟨by decide, rfl⟩) (by decide)
  · exact .said rfl rfl (by decide) (by decide) rfl
  · exact .key rfl rfl
  · exact .said rfl rfl (by decide) (by decide) rfl
  · exact .said rfl rfl (by decide) (by decide) rfl
  · exact .key rfl rfl
  · exact .ended rfl
  · exact .counted 65535 0 rfl rfl (by decide) (by decide) rfl rfl (.inl ⟨by decide, rfl⟩) (by decide)
  · exact .said rfl rfl (by decide) (by decide) rfl
  · exact .allowed rfl
  · exact .counted 1 1 rfl rfl (by decide) (by decide) rfl rfl (.inr ⟨rfl, rfl⟩) (by decide)
  · exact .counted 18446744073709551615 0 rfl rfl (by decide) (by decide) rfl rfl (.inl ⟨by decide, rfl⟩) (by decide)
  · exact .counted 18446744073709551615 0 rfl rfl (by decide) (by decide) rfl rfl (.inl ⟨by decide, rfl⟩) (by decide)
  · exact .counted 20 0 rfl rfl (by decide) (by decide) rfl rfl (.inl ⟨by decide, rfl⟩) (by decide)
def outR {α : Type} (w : Int) (P : α × Int) (f : S_api_Field → α → S_api_Field) : S_api_Field × Int := if P.2 = 0 then (f (onW w) P.1, 0) else (zF, P.2)
theorem ite_out {α : Type} {w : Int} {P : α × Int} {f : S_api_Field → α → S_api_Field} : (if (P.2 != 0) = true then some (zF, P.2) else some (f (onW w) P.1, (0 : Int))) = some (outR w P f) := by
  unfold outR
  by_cases h : P.2 = 0
  · rw [if_pos h, if_neg (by simp [h])]
  · rw [if_neg h, if_pos (by simpa using h)]
section
variable {k v : ByteArray} {w : Int} (hw : field_Word k = some w) (hr : crawlwayref37_Word k = some w) (h0 : w ≠ 0)
include hw h0 in
theorem code_key {P : Vector Int 32 × Int} (hs : field_shapeOf w = some .s0) (hP : keys_ParseHex v = some P) : field_Read (mkPr k v) = some (outR w P fun f x => { f with f_Key := x }) := by
  unfold field_Read
  show (field_Word k >>= _) = _
  rw [hw, bindM_some, if_neg (show ¬ (w == (0 : Int)) = true by simpa using h0)]
  show (field_shapeOf w >>= _) = _
  rw [hs, bindM_some]
  show (field_keyed_1 v (onW w) >>= _) = _
  unfold field_keyed_1
  rw [hP, bindM_some, bindM_some]
  exact ite_out (f := fun f x => { f with f_Key := x })
include hw h0 in
theorem code_ended {P : S_api_Endpoint × Int} (hs : field_shapeOf w = some .s1) (hP : hostport_Parse v = some P) : field_Read (mkPr k v) = some (outR w P fun f x => { f with f_End := x }) := by
  unfold field_Read
  show (field_Word k >>= _) = _
  rw [hw, bindM_some, if_neg (show ¬ (w == (0 : Int)) = true by simpa using h0)]
  show (field_shapeOf w >>= _) = _
  rw [hs, bindM_some]
  show (field_ended_1 v (onW w) >>= _) = _
  unfold field_ended_1
  rw [hP, bindM_some, bindM_some]
  exact ite_out (f := fun f x => { f with f_End := x })
include hw h0 in
theorem code_allowed {P : S_api_Prefix × Int} (hs : field_shapeOf w = some .s2) (hP : cidr_Parse v = some P) : field_Read (mkPr k v) = some (outR w P fun f x => { f with f_P := x }) := by
  unfold field_Read
  show (field_Word k >>= _) = _
  rw [hw, bindM_some, if_neg (show ¬ (w == (0 : Int)) = true by simpa using h0)]
  show (field_shapeOf w >>= _) = _
  rw [hs, bindM_some]
  show (field_allowed_1 v (onW w) >>= _) = _
  unfold field_allowed_1
  rw [hP, bindM_some, bindM_some]
  exact ite_out (f := fun f x => { f with f_P := x })
def sayP (v : ByteArray) : Unit × Int := ((), if seq v yes = true then 0 else 5)
include hw h0 in
theorem code_said (hs : field_shapeOf w = some .s4) : field_Read (mkPr k v) = some (outR w (sayP v) fun f x => f) := by
  unfold field_Read
  show (field_Word k >>= _) = _
  rw [hw, bindM_some, if_neg (show ¬ (w == (0 : Int)) = true by simpa using h0)]
  show (field_shapeOf w >>= _) = _
  rw [hs, bindM_some]
  show (field_said_1 v (onW w) >>= _) = _
  unfold field_said_1
  show ((if (!seq v yes) = true then _ else _) >>= _) = _
  cases hq : seq v yes with
  | true =>
    rw [if_neg (by decide), bindM_some]
    unfold outR sayP; rw [hq]; rfl
  | false =>
    rw [if_pos (by rfl), bindM_some]
    unfold outR sayP; rw [hq]; rfl
def cntP (R : Int × Int) (lo : Int) : Int × Int := if R.2 = 0 ∧ R.1 < lo then (R.1, 6) else R
theorem cntP_six {R : Int × Int} {lo : Int} (h0 : R.2 = 0) (hl : R.1 < lo) : cntP R lo = (R.1, 6) := if_pos ⟨h0, hl⟩
theorem cntP_same {R : Int × Int} {lo : Int} (h : ¬ R.2 = 0 ∨ ¬ R.1 < lo) : cntP R lo = R := if_neg (fun hh => h.elim (fun g => g hh.1) fun g => g hh.2)
include hw h0 in
theorem code_counted {R : Int × Int} {most lo : Int} (hs : field_shapeOf w = some (.s3 most lo)) (hP : decimal_Read v most = some R) : field_Read (mkPr k v) = some (outR w (cntP R lo) fun f x => { f with f_N := x }) := by
  unfold field_Read
  show (field_Word k >>= _) = _
  rw [hw, bindM_some, if_neg (show ¬ (w == (0 : Int)) = true by simpa using h0)]
  show (field_shapeOf w >>= _) = _
  rw [hs, bindM_some]
  show (field_counted_1 v (onW w) most lo >>= _) = _
  unfold field_counted_1
  rw [hP, bindM_some]
  by_cases hz : R.2 = 0
  · rw [if_pos (show (R.2 == (0 : Int)) = true by simpa using hz)]
    by_cases hl : R.1 < lo
    · rw [if_pos (decide_eq_true hl), bindM_some, cntP_six hz hl]
      exact ite_out (P := (R.1, (6 : Int))) (f := fun f x => { f with f_N := x })
    · rw [if_neg (by simpa using hl), bindM_some, cntP_same (.inr hl)]
      exact ite_out (f := fun f x => { f with f_N := x })
  · rw [if_neg (show ¬ (R.2 == (0 : Int)) = true by simpa using hz), bindM_some, cntP_same (.inl hz)]
    exact ite_out (f := fun f x => { f with f_N := x })
include hr h0 in
theorem ref_key {P : Vector Int 32 × Int} (hs : crawlwayref37_key w = some true) (hP : crawlwayref07_ParseHex v = some P) : crawlwayref37_Read (mkPr k v) = some (outR w P fun f x => { f with f_Key := x }) := by
  unfold crawlwayref37_Read
  show (crawlwayref37_Word k >>= _) = _
  rw [hr, bindM_some, if_neg (show ¬ (w == (0 : Int)) = true by simpa using h0), hs, bindM_some, if_pos rfl]
  show (crawlwayref07_ParseHex v >>= _) = _
  rw [hP, bindM_some]
  exact ite_out (f := fun f x => { f with f_Key := x })
include hr h0 in
theorem ref_ended {P : S_api_Endpoint × Int} (hs : w = 9) (hP : crawlwayref12_Parse v = some P) : crawlwayref37_Read (mkPr k v) = some (outR w P fun f x => { f with f_End := x }) := by
  subst hs
  unfold crawlwayref37_Read
  show (crawlwayref37_Word k >>= _) = _
  rw [hr, bindM_some, if_neg (by decide), show crawlwayref37_key 9 = some false from rfl, bindM_some, if_neg (by decide), if_pos (by rfl)]
  show (crawlwayref12_Parse v >>= _) = _
  rw [hP, bindM_some]
  exact ite_out (f := fun f x => { f with f_End := x })
include hr h0 in
theorem ref_allowed {P : S_api_Prefix × Int} (hs : w = 12) (hP : crawlwayref11_Parse v = some P) : crawlwayref37_Read (mkPr k v) = some (outR w P fun f x => { f with f_P := x }) := by
  subst hs
  unfold crawlwayref37_Read
  show (crawlwayref37_Word k >>= _) = _
  rw [hr, bindM_some, if_neg (by decide), show crawlwayref37_key 12 = some false from rfl, bindM_some, if_neg (by decide), if_neg (by decide), if_pos (by rfl)]
  show (crawlwayref11_Parse v >>= _) = _
  rw [hP, bindM_some]
  exact ite_out (f := fun f x => { f with f_P := x })
include hr h0 in
theorem ref_said (hk : crawlwayref37_key w = some false) (h9 : w ≠ 9) (h12 : w ≠ 12) (hf : crawlwayref37_flag w = some true) : crawlwayref37_Read (mkPr k v) = some (outR w (sayP v) fun f x => f) := by
  unfold crawlwayref37_Read
  show (crawlwayref37_Word k >>= _) = _
  rw [hr, bindM_some, if_neg (show ¬ (w == (0 : Int)) = true by simpa using h0), hk, bindM_some, if_neg (by decide), if_neg (by simpa using h9), if_neg (by simpa using h12), hf, bindM_some, if_pos rfl]
  show (if (!seq v yes) = true then _ else _) = _
  cases hq : seq v yes with
  | true =>
    rw [if_neg (by decide), if_neg (by decide)]
    unfold outR sayP; rw [hq]; rfl
  | false =>
    rw [if_pos (by rfl), if_pos (by rfl)]
    unfold outR sayP; rw [hq]; rfl
include hr h0 in
theorem ref_counted {R : Int × Int} {most lo : Int} (hk : crawlwayref37_key w = some false) (h9 : w ≠ 9) (h12 : w ≠ 12) (hf : crawlwayref37_flag w = some false) (hm : crawlwayref37_most w = some most) (hP : crawlwayref03_Read v most = some R) (hn : 0 ≤ R.1) (hl : (w ≠ 13 ∧ lo = 0) ∨ (w = 13 ∧ lo = 1)) : crawlwayref37_Read (mkPr k v) = some (outR w (cntP R lo) fun f x => { f with f_N := x }) := by
  unfold crawlwayref37_Read
  show (crawlwayref37_Word k >>= _) = _
  rw [hr, bindM_some, if_neg (show ¬ (w == (0 : Int)) = true by simpa using h0), hk, bindM_some, if_neg (by decide), if_neg (by simpa using h9), if_neg (by simpa using h12), hf, bindM_some, if_neg (by decide), hm, bindM_some]
  show (crawlwayref03_Read v most >>= _) = _
  rw [hP, bindM_some]
  by_cases hz : R.2 = 0
  · rw [if_pos (show (R.2 == (0 : Int)) = true by simpa using hz)]
    rcases hl with ⟨h13, rfl⟩ | ⟨h13, rfl⟩
    · rw [if_neg (show ¬ (w == (13 : Int)) = true by simpa using h13), cntP_same (.inr (by omega))]
      exact ite_out (f := fun f x => { f with f_N := x })
    · rw [if_pos (show (w == (13 : Int)) = true by simpa using h13)]
      by_cases h1 : R.1 = 0
      · rw [if_pos (show (R.1 == (0 : Int)) = true by simpa using h1), cntP_six hz (by omega)]
        exact ite_out (P := (R.1, (6 : Int))) (f := fun f x => { f with f_N := x })
      · rw [if_neg (show ¬ (R.1 == (0 : Int)) = true by simpa using h1), cntP_same (.inr (by omega))]
        exact ite_out (f := fun f x => { f with f_N := x })
  · rw [if_neg (show ¬ (R.2 == (0 : Int)) = true by simpa using hz), cntP_same (.inl hz)]
    exact ite_out (f := fun f x => { f with f_N := x })
end
end Go.Proofs.YtkkmmpofdcccmaaGreatDoor.Fld
namespace Go.Proofs.YtkkmmpofdcccmaaGreatDoor.Fld
open E Go.RowKit
open Adr AdrT
theorem hexP (s : ByteArray) (hs : s.size < 1000000) : ∃ P, keys_ParseHex s = some P ∧ crawlwayref07_ParseHex s = some P ∧ (P.2 = 0 → ∃ T, keys_Hex P.1 = some T) := by
  obtain ⟨D, hD, hR, hk⟩ : ∃ D, hexes_Decode s = some D ∧ crawlwayref05_Decode s = some D ∧ (D.2 = 0 → ∃ k, D.1 = ob k ∧ k.length < 1000000) := by
    refine ⟨_, Hex.decode_eq s hs, Hex.refDecode_eq s hs, ?_⟩
    cases hd : Hex.dec s with
    | none => intro h; cases h
    | some k => intro _; have := Hex.dec_length s k hd; exact ⟨k, rfl, by omega⟩
  refine ⟨Key.par D, ?_, ?_, fun h0 => ?_⟩
  · unfold keys_ParseHex; rw [hD, bindM_some]; exact Key.parse_of D Key.keysOf_eq
  · unfold crawlwayref07_ParseHex; rw [hR, bindM_some]; exact Key.parse_ref D
  · obtain ⟨h1, h2⟩ := Key.par_zero D h0
    obtain ⟨k, hk1, hk2⟩ := hk h1
    refine ⟨Hex.str (Hex.encL k), ?_⟩
    unfold keys_Hex
    rw [h2, hk1, Hex.encode_eq _ hk2, bindM_some]
theorem endP_ok {l : List UInt8} (h0 : (Host.endP l).2 = 0) : ∃ V m k, (Host.endP l).1 = Host.mkE (mkA V m) ((k : Nat) : Int) ∧ m.length = 16 ∧ rightL V m = true ∧ 1 ≤ k ∧ k ≤ 65535 := by
  unfold Host.endP at h0 ⊢
  cases hq : Host.halL l with
  | none => rw [hq] at h0; cases h0
  | some q =>
    obtain ⟨h', p⟩ := q
    rw [hq] at h0
    exact Host.endQ_ok h0
theorem rightE_of {V : Int} {m : List UInt8} {k : Nat} (hr : rightL V m = true) (h1 : 1 ≤ k) (h2 : k ≤ 65535) : Host.rightE V m (k : Int) = true := by
  unfold Host.rightE
  rw [hr, decide_eq_true (show (1 : Int) ≤ (k : Int) by omega), decide_eq_true (show (k : Int) ≤ 65535 by omega)]; rfl
theorem name_ne : ∀ n : Fin 17, 1 ≤ n.1 → seq (lget NL (n.1 : Int)) (⟨#[]⟩ : ByteArray) = false := by decide +kernel
theorem name_of {w : Int} (h1 : 1 ≤ w) (h2 : w ≤ 16) : field_Name w = some (lget NL w) ∧ seq (lget NL w) (⟨#[]⟩ : ByteArray) = false ∧ fr (lget NL w) NL 0 = w := by
  obtain ⟨n, rfl⟩ := Int.eq_ofNat_of_zero_le (by omega : 0 ≤ w)
  exact ⟨name_in n (by omega) (by omega), name_ne ⟨n, by omega⟩ (by show 1 ≤ n; omega), back_fin ⟨n, by omega⟩ (by show 1 ≤ n; omega)⟩
theorem fr_range (s : ByteArray) : ∀ (l : List ByteArray) (i : Int), 0 ≤ i → fr s l i = 0 ∨ (i ≤ fr s l i ∧ fr s l i < i + l.length)
  | [], i, _ => .inl rfl
  | a :: r, i, h => by
    rw [fr_cons, List.length_cons]
    by_cases hs : s = a
    · rw [if_pos hs]; right; omega
    · rw [if_neg hs]
      rcases fr_range s r (i + 1) (by omega) with h1 | h1
      · exact .inl h1
      · right; omega
theorem fr_bound (s : ByteArray) : 0 ≤ fr s NL 0 ∧ fr s NL 0 ≤ 16 := by
  have := fr_range s NL 0 (by omega)
  rw [NL_len] at this
  omega
section
variable (x : S_api_Field) (h1 : 1 ≤ x.f_Word) (h2 : x.f_Word ≤ 16)
include h1 h2
theorem right_key {T : ByteArray} (hs : field_shapeOf x.f_Word = some .s0) (hT : keys_Hex x.f_Key = some T) : field_Right x = some (decide ({ x with f_Key := Key.zk } = onW x.f_Word)) := by
  obtain ⟨n1, n2, _⟩ := name_of h1 h2
  unfold field_Right
  rw [n1, bindM_some, n2, if_neg Bool.false_ne_true, hs, bindM_some]
  show (field_keyed_2 x >>= _) = _
  unfold field_keyed_2
  rw [hT, bindM_some, bindM_some, if_pos rfl]
  unfold field_keyed_3
  rw [bindM_some]; rfl
theorem right_ended {T : ByteArray} {b : Bool} (hs : field_shapeOf x.f_Word = some .s1) (hT : hostport_Text x.f_End = some T) (hb : hostport_Right x.f_End = some b) : field_Right x = some (b && decide ({ x with f_End := zF.f_End } = onW x.f_Word)) := by
  obtain ⟨n1, n2, _⟩ := name_of h1 h2
  unfold field_Right
  rw [n1, bindM_some, n2, if_neg Bool.false_ne_true, hs, bindM_some]
  show (field_ended_2 x >>= _) = _
  unfold field_ended_2
  rw [hT, bindM_some, hb, bindM_some, bindM_some]
  cases b with
  | false => rw [if_neg Bool.false_ne_true]; rfl
  | true =>
    rw [if_pos rfl]
    unfold field_ended_3
    rw [bindM_some]; rfl
theorem right_allowed {T : ByteArray} {b : Bool} (hs : field_shapeOf x.f_Word = some .s2) (hT : cidr_Text x.f_P = some T) (hb : cidr_Right x.f_P = some b) : field_Right x = some (b && decide ({ x with f_P := zF.f_P } = onW x.f_Word)) := by
  obtain ⟨n1, n2, _⟩ := name_of h1 h2
  unfold field_Right
  rw [n1, bindM_some, n2, if_neg Bool.false_ne_true, hs, bindM_some]
  show (field_allowed_2 x >>= _) = _
  unfold field_allowed_2
  rw [hT, bindM_some, hb, bindM_some, bindM_some]
  cases b with
  | false => rw [if_neg Bool.false_ne_true]; rfl
  | true =>
    rw [if_pos rfl]
    unfold field_allowed_3
    rw [bindM_some]; rfl
theorem right_counted {T : ByteArray} {most lo : Int} (hs : field_shapeOf x.f_Word = some (.s3 most lo)) (hT : decimal_Text x.f_N = some T) : field_Right x = some ((decide (x.f_N ≥ lo) && decide (x.f_N ≤ most)) && decide ({ x with f_N := 0 } = onW x.f_Word)) := by
  obtain ⟨n1, n2, _⟩ := name_of h1 h2
  unfold field_Right
  rw [n1, bindM_some, n2, if_neg Bool.false_ne_true, hs, bindM_some]
  show (field_counted_2 x lo most >>= _) = _
  unfold field_counted_2
  rw [hT, bindM_some]
  cases hl : decide (x.f_N ≥ lo) with
  | false => rw [if_neg Bool.false_ne_true, bindM_some]; rfl
  | true =>
    rw [if_pos rfl, bindM_some]
    cases hm : decide (x.f_N ≤ most) with
    | false => rw [if_neg Bool.false_ne_true]; rfl
    | true =>
      rw [if_pos rfl]
      unfold field_counted_3
      rw [bindM_some]; rfl
theorem right_said (hs : field_shapeOf x.f_Word = some .s4) : field_Right x = some (decide (x = onW x.f_Word)) := by
  obtain ⟨n1, n2, _⟩ := name_of h1 h2
  unfold field_Right
  rw [n1, bindM_some, n2, if_neg Bool.false_ne_true, hs, bindM_some]
  show (field_said_2 x >>= _) = _
  unfold field_said_2
  rw [bindM_some, if_pos rfl]
  unfold field_said_3
  rw [bindM_some]; rfl
end
theorem alive37 : crawlwaylaw37_alive = some true := by
  have w3 : fr (⟨#[102, 119, 109, 97, 114, 107]⟩ : ByteArray) NL 0 = 3 := by decide +kernel
  have w16 : fr (⟨#[101, 114, 114, 110, 111]⟩ : ByteArray) NL 0 = 16 := by decide +kernel
  have n1 := name_in 1 (by decide) (by decide)
  rw [show ((1 : Nat) : Int) = 1 from rfl] at n1
  have hr := read_code (⟨#[48, 120, 53]⟩ : ByteArray) 4294967295 (by decide) (by decide)
  rw [show ((4294967295 : Nat) : Int) = 4294967295 from rfl] at hr
  have e2 : iiOf (rdU [48, 120, 53] 4294967295) = (0, 5) := by decide +kernel
  simp only [] at hr
  rw [e2] at hr
  have hw : field_Word (⟨#[102, 119, 109, 97, 114, 107]⟩ : ByteArray) = some 3 := by rw [word_code, w3]
  have hR := code_counted hw (by decide) (most := 4294967295) (lo := 0) rfl hr
  unfold crawlwaylaw37_alive
  show (field_Read (mkPr _ _) >>= _) = _
  rw [hR, bindM_some, cntP_same (.inl (by decide))]
  show (if ((5 : Int) == 5) = true then _ else _) = _
  rw [if_pos (by rfl), word_code, bindM_some, w16, if_pos (by rfl), n1, bindM_some, show lget NL 1 = (⟨#[112, 114, 105, 118, 97, 116, 101, 95, 107, 101, 121]⟩ : ByteArray) from by decide +kernel, seq_self]
theorem alive_then : (crawlwaylaw37_alive >>= fun t => some t) = some true := by rw [alive37]; rfl
theorem reads_of {k v : ByteArray} {A : S_api_Field × Int} (hv : ¬ 300 < v.size) (hA : field_Read (mkPr k v) = some A) (hB : crawlwayref37_Read (mkPr k v) = some A) (hR : A.2 = 0 → field_Right A.1 = some true) : crawlwaylaw37_FieldReads k v = some true := by
  unfold crawlwaylaw37_FieldReads
  rw [if_neg (by rw [decide_eq_true_eq]; omega)]
  show (field_Read (mkPr k v) >>= fun t3 => crawlwayref37_Read (mkPr k v) >>= _) = _
  rw [hA, bindM_some, hB, bindM_some, if_pos (decide_eq_true rfl), if_pos (beq_self_eq_true _)]
  by_cases h : A.2 = 0
  · rw [if_neg (by simp [h]), hR h, bindM_some, if_pos rfl]; exact alive_then
  · rw [if_pos (by simpa using h)]; exact alive_then
theorem outR_ok {α : Type} {w : Int} {P : α × Int} {f : S_api_Field → α → S_api_Field} (h : (outR w P f).2 = 0) : P.2 = 0 ∧ (outR w P f).1 = f (onW w) P.1 := by
  unfold outR at h ⊢
  by_cases h0 : P.2 = 0
  · rw [if_pos h0]; exact ⟨h0, rfl⟩
  · rw [if_neg h0] at h; exact absurd h h0
set_option maxHeartbeats 3200000 in
theorem FieldReads_pure (a0 : ByteArray) (w0 : a0.size ≤ maxLen) (a1 : ByteArray) (w1 : a1.size ≤ maxLen) : crawlwaylaw37_FieldReads a0 a1 = some true := by
  by_cases hv : 300 < a1.size
  · unfold crawlwaylaw37_FieldReads
    rw [if_pos (decide_eq_true (by omega))]; exact alive_then
  · have hw := word_code a0
    have hr := word_ref a0
    obtain ⟨b1, b2⟩ := fr_bound a0
    generalize fr a0 NL 0 = w at hw hr b1 b2
    by_cases h0 : w = 0
    · subst h0
      refine reads_of (A := (zF, 12)) hv ?_ ?_ (fun h => by cases h)
      · unfold field_Read
        show (field_Word a0 >>= _) = _
        rw [hw, bindM_some, if_pos (by rfl)]; rfl
      · unfold crawlwayref37_Read
        show (crawlwayref37_Word a0 >>= _) = _
        rw [hr, bindM_some, if_pos (by rfl), if_pos (by rfl)]; rfl
    · have he := eq_bs a1
      have hlen : a1.data.toList.length = a1.size := size_toList a1
      rcases cls w (by omega) b2 with ⟨hs, hk⟩ | hw9 | hw12 | ⟨most, lo, hs, hk, h9, h12, hf, hm, hl, hmm⟩ | ⟨hs, hk, h9, h12, hf⟩
      · obtain ⟨P, hP, hQ, hT⟩ := hexP a1 (by omega)
        refine reads_of hv (code_key hw h0 hs hP) (ref_key hr h0 hk hQ) fun h => ?_
        obtain ⟨hz, hE⟩ := outR_ok h
        obtain ⟨T, hT⟩ := hT hz
        rw [hE]
        refine (right_key ({ onW w with f_Key := P.1 }) (show 1 ≤ w by omega) b2 hs hT).trans ?_
        exact congrArg some (decide_eq_true rfl)
      · generalize a1.data.toList = l at he hlen
        subst he
        subst hw9
        refine reads_of hv (code_ended hw h0 (show field_shapeOf 9 = some .s1 from rfl) (Host.host_parse l (by omega))) (ref_ended hr h0 rfl (Host.ref_parse12 l (by omega))) fun h => ?_
        obtain ⟨hz, hE⟩ := outR_ok h
        obtain ⟨V, m, k, hM, hm, hrl, h1, h2⟩ := endP_ok hz
        rw [hE, hM]
        refine (right_ended ({ onW 9 with f_End := Host.mkE (mkA V m) ((k : Nat) : Int) }) (show (1 : Int) ≤ 9 by decide) (show (9 : Int) ≤ 16 by decide) (show field_shapeOf 9 = some .s1 from rfl) (Host.text_code12 hm) (Host.right_code12 hm)).trans ?_
        rw [rightE_of hrl h1 h2, Bool.true_and]
        exact congrArg some (decide_eq_true rfl)
      · generalize a1.data.toList = l at he hlen
        subst he
        subst hw12
        refine reads_of hv (code_allowed hw h0 (show field_shapeOf 12 = some .s2 from rfl) (Cid.cid_parse l (by omega))) (ref_allowed hr h0 rfl (Cid.cid_parse_ref l (by omega))) fun h => ?_
        obtain ⟨hz, hE⟩ := outR_ok h
        obtain ⟨V, m, k, hM, hm, hrl⟩ := Cid.cidP_ok hz
        rw [hE, hM]
        refine (right_allowed ({ onW 12 with f_P := Cid.mkP (mkA V m) ((k : Nat) : Int) }) (show (1 : Int) ≤ 12 by decide) (show (12 : Int) ≤ 16 by decide) (show field_shapeOf 12 = some .s2 from rfl) (Cid.ctext_code hm) (Cid.cright_code hm)).trans ?_
        rw [hrl, Bool.true_and]
        exact congrArg some (decide_eq_true rfl)
      · have hc := read_code a1 most (by omega) hmm
        have hd := read_ref a1 most (by omega) hmm
        have hlo : (w ≠ 13 ∧ (lo : Int) = 0) ∨ (w = 13 ∧ (lo : Int) = 1) := hl.imp (fun h => ⟨h.1, by omega⟩) fun h => ⟨h.1, by omega⟩
        refine reads_of hv (code_counted hw h0 hs hc) (ref_counted hr h0 hk h9 h12 hf hm hd (by unfold iiOf; omega) hlo) fun h => ?_
        obtain ⟨hz, hE⟩ := outR_ok h
        have hz2 : (rdU a1.data.toList most).2 = 0 ∧ ¬ ((rdU a1.data.toList most).1 : Int) < lo := by
          unfold cntP at hz
          split at hz
          · cases hz
          · next hc => have : ((rdU a1.data.toList most).2 : Int) = 0 := hz; exact ⟨by omega, fun hlt => hc ⟨this, hlt⟩⟩
        have hle := (rdU_back hz2.1).2
        rw [hE, cntP_same (.inr hz2.2)]
        refine (right_counted ({ onW w with f_N := ((rdU a1.data.toList most).1 : Int) }) (show 1 ≤ w by omega) b2 hs (text_code _ (by omega))).trans ?_
        show some ((decide (((rdU a1.data.toList most).1 : Int) ≥ lo) && decide (((rdU a1.data.toList most).1 : Int) ≤ most)) && _) = _
        rw [decide_eq_true (show ((rdU a1.data.toList most).1 : Int) ≥ lo by omega), decide_eq_true (show ((rdU a1.data.toList most).1 : Int) ≤ most by omega), Bool.true_and, Bool.true_and]
        exact congrArg some (decide_eq_true rfl)
      · refine reads_of hv (code_said hw h0 hs) (ref_said hr h0 hk h9 h12 hf) fun h => ?_
        obtain ⟨hz, hE⟩ := outR_ok h
        rw [hE]
        refine (right_said (onW w) (show 1 ≤ w by omega) b2 hs).trans ?_
        exact congrArg some (decide_eq_true rfl)
end Go.Proofs.YtkkmmpofdcccmaaGreatDoor.Fld
