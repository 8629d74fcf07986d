/- Decimal numerals: what a text of digits spells, and which text spells a number. -/
import Derived.Lib.Itoa
import Derived.Lib.ItoaNum
import Derived.Lib.ParseIntB
import Derived.Test.YtkkmmpofdcccmaaGreatDoorG
namespace Go.Proofs.YtkkmmpofdcccmaaGreatDoor
open E

theorem head_app {α : Type} {xs ys : List α} (h : xs ≠ []) : (xs ++ ys).head? = xs.head? := by
  cases xs with
  | nil => exact absurd rfl h
  | cons a r => rfl
def dig (c : UInt8) : Bool := decide (48 ≤ c.toNat) && decide (c.toNat ≤ 57)
theorem dig_iff {c : UInt8} : dig c = true ↔ 48 ≤ c.toNat ∧ c.toNat ≤ 57 := by simp [dig]
def spell (acc : Nat) : List UInt8 → Nat
  | [] => acc
  | c :: r => spell (acc * 10 + (c.toNat - 48)) r
theorem spell_le : ∀ (l : List UInt8) (acc : Nat), acc ≤ spell acc l
  | [], acc => Nat.le_refl _
  | c :: r, acc => by
    have := spell_le r (acc * 10 + (c.toNat - 48))
    unfold spell; omega
theorem spell_mono : ∀ (l : List UInt8) (a b : Nat), a ≤ b → spell a l ≤ spell b l
  | [], a, b, h => h
  | c :: r, a, b, h => by
    unfold spell
    exact spell_mono r _ _ (by omega)
theorem spell_snoc : ∀ (l : List UInt8) (acc : Nat) (c : UInt8), spell acc (l ++ [c]) = spell acc l * 10 + (c.toNat - 48)
  | [], acc, c => rfl
  | b :: r, acc, c => by
    rw [List.cons_append]
    unfold spell
    exact spell_snoc r _ c
theorem parseM : ∀ (l : List UInt8) (acc : Nat), l.all dig = true → acc ≤ 18446744073709551615 →
    Lib.parseUintM (2 ^ 64 - 1) acc l = if spell acc l ≤ 18446744073709551615 then .ok (spell acc l) else .range
  | [], acc, _, ha => by
    unfold Lib.parseUintM spell
    rw [if_pos ha]
  | c :: r, acc, h, ha => by
    rw [List.all_cons, Bool.and_eq_true] at h
    have hc := dig_iff.1 h.1
    have hs := spell_le r (acc * 10 + (c.toNat - 48))
    unfold Lib.parseUintM spell
    rw [if_pos hc]
    by_cases h1 : 1844674407370955162 ≤ acc
    · rw [if_pos h1, if_neg (by omega)]
    · rw [if_neg h1]
      by_cases h2 : 2 ^ 64 - 1 < acc * 10 + (c.toNat - 48)
      · rw [if_pos h2, if_neg (by omega)]
      · rw [if_neg h2]
        exact parseM r _ h.2 (by omega)
theorem parB {l : List UInt8} (hl : l ≠ []) (h : l.all dig = true) : Lib.parseUintB 64 l = if spell 0 l ≤ 18446744073709551615 then .ok (spell 0 l) else .range := by
  unfold Lib.parseUintB
  rw [if_neg hl]
  exact parseM l 0 h (by omega)
theorem decDigits_small {n : Nat} (h : n < 10) : Lib.decDigits n = [UInt8.ofNat (48 + n)] := Lib.decDigits_one h
theorem decDigits_big {n : Nat} (h : ¬ n < 10) : Lib.decDigits n = Lib.decDigits (n / 10) ++ [UInt8.ofNat (48 + n % 10)] := by
  rw [Lib.decDigits, dif_neg h]
theorem u8_dig (d : Nat) (h : d < 10) : (UInt8.ofNat (48 + d)).toNat = 48 + d := by
  rw [UInt8.toNat_ofNat']
  omega
theorem decDigits_dig (n : Nat) : (Lib.decDigits n).all dig = true := by
  induction n using Nat.strongRecOn with
  | _ n ih =>
    by_cases h : n < 10
    · rw [decDigits_small h, List.all_cons, List.all_nil, Bool.and_true, dig_iff, u8_dig n h]; omega
    · rw [decDigits_big h, List.all_append, ih (n / 10) (by omega), List.all_cons, List.all_nil, Bool.and_true, Bool.true_and, dig_iff, u8_dig _ (by omega)]; omega
theorem decDigits_spell (n : Nat) : spell 0 (Lib.decDigits n) = n := by
  induction n using Nat.strongRecOn with
  | _ n ih =>
    by_cases h : n < 10
    · rw [decDigits_small h]
      show 0 * 10 + ((UInt8.ofNat (48 + n)).toNat - 48) = n
      rw [u8_dig n h]; omega
    · rw [decDigits_big h, spell_snoc, ih (n / 10) (by omega), u8_dig _ (by omega)]; omega
theorem decDigits_ne (n : Nat) : Lib.decDigits n ≠ [] := by
  by_cases h : n < 10
  · rw [decDigits_small h]; simp
  · rw [decDigits_big h]; simp
theorem decDigits_head (n : Nat) (hn : 0 < n) : (Lib.decDigits n).head? ≠ some 48 := by
  induction n using Nat.strongRecOn with
  | _ n ih =>
    by_cases h : n < 10
    · rw [decDigits_small h]
      intro e
      have e1 : UInt8.ofNat (48 + n) = 48 := by simpa using e
      have e2 := u8_dig n h
      rw [e1] at e2
      have : (48 : UInt8).toNat = 48 := rfl
      omega
    · rw [decDigits_big h, head_app (decDigits_ne _)]
      exact ih _ (by omega) (by omega)
theorem decDigits_zero : Lib.decDigits 0 = [48] := by rw [decDigits_small (by omega)]; rfl
theorem spell_pos : ∀ (l : List UInt8) (acc : Nat), 0 < acc → 0 < spell acc l := fun l acc h => Nat.lt_of_lt_of_le h (spell_le l acc)
/-- A text of digits that doesn't begin with 0, unless it is 0, is its number's own. -/
theorem spell_decDigits {l : List UInt8} (hl : l ≠ []) (hd : l.all dig = true) (hz : 1 < l.length → l.head? ≠ some 48) : Lib.decDigits (spell 0 l) = l := by
  have key : ∀ (k : Nat) (l : List UInt8), l.length = k → l ≠ [] → l.all dig = true → (1 < l.length → l.head? ≠ some 48) → Lib.decDigits (spell 0 l) = l := by
    intro k
    induction k with
    | zero => intro l h1 h2; exact absurd (List.eq_nil_of_length_eq_zero h1) h2
    | succ k ih =>
      intro l h1 h2 h3 h4
      obtain ⟨r, c, rfl⟩ : ∃ r c, l = r ++ [c] := ⟨l.dropLast, l.getLast h2, (List.dropLast_concat_getLast h2).symm⟩
      rw [List.all_append, Bool.and_eq_true, List.all_cons, List.all_nil, Bool.and_true] at h3
      have hc := dig_iff.1 h3.2
      have hcu : UInt8.ofNat (48 + (c.toNat - 48)) = c := by
        rw [show 48 + (c.toNat - 48) = c.toNat by omega]; exact UInt8.ofNat_toNat
      rw [spell_snoc]
      by_cases hr : r = []
      · subst hr
        show Lib.decDigits (0 * 10 + (c.toNat - 48)) = [c]
        rw [decDigits_small (by omega), show 0 * 10 + (c.toNat - 48) = c.toNat - 48 by omega, hcu]
      · have hlen : 1 < (r ++ [c]).length := by
          have : 0 < r.length := List.length_pos_iff.2 hr
          simp; omega
        have hhead := h4 hlen
        rw [head_app hr] at hhead
        have hpos : 0 < spell 0 r := by
          cases r with
          | nil => exact absurd rfl hr
          | cons b r' =>
            rw [List.all_cons, Bool.and_eq_true] at h3
            have hb := dig_iff.1 h3.1.1
            unfold spell
            refine spell_pos _ _ ?_
            have : b.toNat ≠ 48 := by
              intro e
              refine hhead ?_
              show some b = some 48
              congr 1
              exact UInt8.toNat.inj e
            omega
        rw [decDigits_big (by omega), show (spell 0 r * 10 + (c.toNat - 48)) / 10 = spell 0 r by omega, show (spell 0 r * 10 + (c.toNat - 48)) % 10 = c.toNat - 48 by omega, hcu]
        rw [ih r (by simp at h1; omega) hr h3.1 fun _ => hhead]
  exact key l.length l rfl hl hd hz
end Go.Proofs.YtkkmmpofdcccmaaGreatDoor
