/- Layer 5: numbers of 16 bits, by the program. -/
import Derived.Test.YtecolkjlpklaaaaDoorHexV
set_option linter.unusedVariables false
set_option linter.unusedSimpArgs false
namespace Go.Proofs.YtecolkjlpklaaaaDoor.Hex
open E Go.RowKit

/-! ### numbers -/
theorem small_eq (c : Nat) (hc : c < 256) : hexes_small c = some ((small c : Nat) : Int) := by
  unfold hexes_small small
  by_cases h1 : 65 ≤ c
  · by_cases h2 : c ≤ 70
    · rw [if_pos (by simp; omega), if_pos (by simp; omega), if_pos ⟨h1, h2⟩]
      rw [show (32 : Int) = ((32 : Nat) : Int) from rfl, ior_nat .u8 rfl c 32 hc (by decide)]
    · rw [if_pos (by simp; omega), if_neg (by simp; omega), if_neg (by omega)]
  · rw [if_neg (by simp; omega), if_neg (by omega)]
theorem enc_digit : ∀ n : Fin 16, Utf8.encode (bt (⟨#[48, 49, 50, 51, 52, 53, 54, 55, 56, 57, 97, 98, 99, 100, 101, 102]⟩ : ByteArray) (n.1 : Int)) = dig n.1 := by decide +kernel
theorem group_l0 (n : Nat) : ∀ o : ByteArray, n < 65536 → o.size + n ≤ 100000 → hexes_Group.l0 n o = some (gl n o) := by
  induction n using Nat.strongRecOn with
  | _ n ih =>
    intro o hn ho
    rw [hexes_Group.l0.eq_def]
    have e1 : iand .u16 (n : Int) 15 = ((n % 16 : Nat) : Int) := by
      rw [show (15 : Int) = ((15 : Nat) : Int) from rfl, iand_nat .u16 rfl n 15 hn (by decide), Nat.and_two_pow_sub_one_eq_mod n 4]
    have e2 : ishr .u16 (n : Int) 4 = ((n / 16 : Nat) : Int) := ishr_nat .u16 n 4 (by decide)
    have e3 := enc_digit ⟨n % 16, by omega⟩
    simp only at e3
    have hd : (dig (n % 16)).size = 1 := rfl
    simp only [e1, e2, e3, hd, tab_size]
    rw [if_pos (by omega), if_pos (by omega)]
    unfold gl
    by_cases h : n < 16
    · rw [if_pos (by simp; omega), if_pos h, Nat.mod_eq_of_lt h]
    · rw [if_neg (by simp; omega), if_neg h]
      exact ih _ (by omega) _ (by omega) (by rw [ByteArray.size_append, hd]; omega)
theorem group_eq (n : Nat) (h : n < 65536) : hexes_Group n = some (grp n) := by
  unfold hexes_Group
  have := group_l0 n ⟨#[]⟩ h (by show 0 + n ≤ _; omega)
  rw [this, bindM_some, gl_eq, show (⟨#[]⟩ : ByteArray) = ByteArray.empty from rfl, ByteArray.append_empty]
/-- Reading a number: from place i on, n being what was read. -/
theorem read_l0 (s : ByteArray) (hs : s.size ≤ 4) (f : Nat) : ∀ (i n : Nat), i + f = s.size → n < 16 ^ i →
    hexes_ReadGroup.l0 s n i = some (match rd (s.data.toList.drop i) n with | some m => .nx (m : Int) | none => .ret (0, 5)) := by
  induction f with
  | zero =>
    intro i n hi hn
    rw [hexes_ReadGroup.l0.eq_def, if_neg (by simp; omega), List.drop_eq_nil_of_le (by simp; omega), rd_nil]
  | succ f ih =>
    intro i n hi hn
    have hlt : i < s.size := by omega
    obtain ⟨c, hc⟩ : ∃ c, s.data.toList[i]? = some c := ⟨_, ba_get s i hlt⟩
    have hdrop : s.data.toList.drop i = c :: s.data.toList.drop (i + 1) := by
      have hl : i < s.data.toList.length := by simpa using hlt
      rw [List.drop_eq_getElem_cons hl]
      congr 1
      rw [List.getElem?_eq_getElem hl] at hc
      exact Option.some.inj hc
    have hb : bt s i = c.toNat := by rw [bt_nat, hc]; rfl
    have hcl := c.toNat_lt
    have hv1 : -1 ≤ val c.toNat true := (val_lt ⟨c.toNat, hcl⟩ true).1
    have hv2 : val c.toNat true < 16 := (val_lt ⟨c.toNat, hcl⟩ true).2
    have hpow : (16 : Nat) ^ i ≤ 16 ^ 3 := Nat.pow_le_pow_right (by decide) (by omega)
    have e0 : wr .i64 ((i : Int) + 1) = ((i + 1 : Nat) : Int) := by rw [wr_i64 (by omega) (by omega)]; omega
    rw [hexes_ReadGroup.l0.eq_def, if_pos (by simp; omega), if_pos (by omega), hb, small_eq _ hcl, hdrop, rd_cons]
    simp only [bindM_some, value_eq, small_value _ hcl, e0]
    by_cases hneg : val c.toNat true < 0
    · rw [if_pos (by simp; omega), if_pos hneg]
    · rw [if_neg (by simp; omega), if_neg hneg]
      obtain ⟨v, hv⟩ : ∃ v : Nat, val c.toNat true = v := ⟨(val c.toNat true).toNat, by omega⟩
      have e1 : wr .u16 (val c.toNat true) = (v : Int) := by rw [hv, wr_u16 (by omega) (by omega)]
      have e2 : ishl .u16 (n : Int) 4 = ((n * 16 : Nat) : Int) := by
        rw [show (4 : Int) = ((4 : Nat) : Int) from rfl, ishl_nat .u16 rfl n 4 (by decide)]
        rw [Nat.mod_eq_of_lt (by show n * 2 ^ 4 < 2 ^ 16; omega)]
      have e3 : ior .u16 ((n * 16 : Nat) : Int) (v : Int) = ((16 * n + v : Nat) : Int) := by
        rw [ior_nat .u16 rfl _ _ (by show n * 16 < 2 ^ 16; omega) (by show v < 2 ^ 16; omega)]
        rw [show n * 16 = n <<< 4 by rw [Nat.shiftLeft_eq], ← Nat.shiftLeft_add_eq_or_of_lt (by omega : v < 2 ^ 4), Nat.shiftLeft_eq]
        congr 1; omega
      rw [e1, e2, e3, ih (i + 1) (16 * n + v) (by omega) (by rw [Nat.pow_succ]; omega), hv]
      simp
theorem read_eq (s : ByteArray) : hexes_ReadGroup s = some (match read s with | some n => ((n : Int), 0) | none => (0, 5)) := by
  unfold hexes_ReadGroup read
  by_cases h1 : s.size < 1
  · rw [if_pos (by simp; omega), if_pos (.inl h1)]
  · by_cases h2 : s.size > 4
    · rw [if_neg (by simp; omega), if_pos (by simp; omega), if_pos (.inr h2)]
    · rw [if_neg (by simp; omega), if_neg (by simp; omega), if_neg (by omega)]
      have := read_l0 s (by omega) s.size 0 0 (by omega) (by simp)
      rw [show ((0 : Nat) : Int) = 0 from rfl, List.drop_zero] at this
      rw [this]
      simp only [bindM_some]
      cases rd s.data.toList 0 <;> rfl
theorem read_lt (s : ByteArray) (n : Nat) (h : read s = some n) : n < 65536 := by
  unfold read at h
  split at h
  · cases h
  · have := rd_lt _ _ _ h
    have hl : s.data.toList.length ≤ 4 := by simp; omega
    have : (16 : Nat) ^ s.data.toList.length ≤ 16 ^ 4 := Nat.pow_le_pow_right (by decide) hl
    omega
end Go.Proofs.YtecolkjlpklaaaaDoor.Hex
