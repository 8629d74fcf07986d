/- Texts of this claim, those in one that belong together; printed by a program of this project. -/
import Derived.Lib.Itoa
import Derived.Lib.ItoaNum
import Derived.Lib.ParseIntB
import Derived.Lib.IndexLaws
import Derived.Lib.Bytealg
import Derived.Lib.IndexMore
import Derived.Test.YtkkmmpofdcccmaaGreatDoorKFieldPairs3
set_option linter.unusedVariables false
set_option linter.unusedSimpArgs false
namespace Go.Proofs.YtkkmmpofdcccmaaGreatDoor
open E
theorem head_app {α : Type} {xs ys : List α} (h : xs ≠ []) : (xs ++ ys).head? = xs.head? := by
  cases xs with
  | nil => exact absurd rfl h
  | cons a r => rfl
def dig (c : UInt8) : Bool := decide (48 ≤ c.toNat) && decide (c.toNat ≤ 57)
theorem dig_iff {c : UInt8} : dig c = true ↔ 48 ≤ c.toNat ∧ c.toNat ≤ 57 := by simp [dig]
def spell (acc : Nat) : List UInt8 → Nat
  | [] => acc
  | c :: r => spell (acc * 10 + (c.toNat - 48)) r
theorem spell_le : ∀ (l : List UInt8) (acc : Nat), acc ≤ spell acc l
  | [], acc => Nat.le_refl _
  | c :: r, acc => by
    have := spell_le r (acc * 10 + (c.toNat - 48))
    unfold spell; omega
theorem spell_snoc : ∀ (l : List UInt8) (acc : Nat) (c : UInt8), spell acc (l ++ [c]) = spell acc l * 10 + (c.toNat - 48)
  | [], acc, c => rfl
  | b :: r, acc, c => by
    rw [List.cons_append]
    unfold spell
    exact spell_snoc r _ c
theorem parseM : ∀ (l : List UInt8) (acc : Nat), l.all dig = true → acc ≤ 18446744073709551615 →
    Lib.parseUintM (2 ^ 64 - 1) acc l = if spell acc l ≤ 18446744073709551615 then .ok (spell acc l) else .range
  | [], acc, _, ha => by
    unfold Lib.parseUintM spell
    rw [if_pos ha]
  | c :: r, acc, h, ha => by
    rw [List.all_cons, Bool.and_eq_true] at h
    have hc := dig_iff.1 h.1
    have hs := spell_le r (acc * 10 + (c.toNat - 48))
    unfold Lib.parseUintM spell
    rw [if_pos hc]
    by_cases h1 : 1844674407370955162 ≤ acc
    · rw [if_pos h1, if_neg (by omega)]
    · rw [if_neg h1]
      by_cases h2 : 2 ^ 64 - 1 < acc * 10 + (c.toNat - 48)
      · rw [if_pos h2, if_neg (by omega)]
      · rw [if_neg h2]
        exact parseM r _ h.2 (by omega)
theorem parB {l : List UInt8} (hl : l ≠ []) (h : l.all dig = true) : Lib.parseUintB 64 l = if spell 0 l ≤ 18446744073709551615 then .ok (spell 0 l) else .range := by
  unfold Lib.parseUintB
  rw [if_neg hl]
  exact parseM l 0 h (by omega)
theorem decDigits_small {n : Nat} (h : n < 10) : Lib.decDigits n = [UInt8.ofNat (48 + n)] := Lib.decDigits_one h
theorem decDigits_big {n : Nat} (h : ¬ n < 10) : Lib.decDigits n = Lib.decDigits (n / 10) ++ [UInt8.ofNat (48 + n % 10)] := by
  rw [Lib.decDigits, dif_neg h]
theorem u8_dig (d : Nat) (h : d < 10) : (UInt8.ofNat (48 + d)).toNat = 48 + d := by
  rw [UInt8.toNat_ofNat']
  omega
theorem decDigits_dig (n : Nat) : (Lib.decDigits n).all dig = true := by
  induction n using Nat.strongRecOn with
  | _ n ih =>
    by_cases h : n < 10
    · rw [decDigits_small h, List.all_cons, List.all_nil, Bool.and_true, dig_iff, u8_dig n h]; omega
    · rw [decDigits_big h, List.all_append, ih (n / 10) (by omega), List.all_cons, List.all_nil, Bool.and_true, Bool.true_and, dig_iff, u8_dig _ (by omega)]; omega
theorem decDigits_spell (n : Nat) : spell 0 (Lib.decDigits n) = n := by
  induction n using Nat.strongRecOn with
  | _ n ih =>
    by_cases h : n < 10
    · rw [decDigits_small h]
      show 0 * 10 + ((UInt8.ofNat (48 + n)).toNat - 48) = n
      rw [u8_dig n h]; omega
    · rw [decDigits_big h, spell_snoc, ih (n / 10) (by omega), u8_dig _ (by omega)]; omega
theorem decDigits_ne (n : Nat) : Lib.decDigits n ≠ [] := by
  by_cases h : n < 10
  · rw [decDigits_small h]; simp
  · rw [decDigits_big h]; simp
theorem decDigits_head (n : Nat) (hn : 0 < n) : (Lib.decDigits n).head? ≠ some 48 := by
  induction n using Nat.strongRecOn with
  | _ n ih =>
    by_cases h : n < 10
    · rw [decDigits_small h]
      intro e
      have e1 : UInt8.ofNat (48 + n) = 48 := by simpa using e
      have e2 := u8_dig n h
      rw [e1] at e2
      have : (48 : UInt8).toNat = 48 := rfl
      omega
    · rw [decDigits_big h, head_app (decDigits_ne _)]
      exact ih _ (by omega) (by omega)
theorem decDigits_zero : Lib.decDigits 0 = [48] := by rw [decDigits_small (by omega)]; rfl
theorem spell_pos : ∀ (l : List UInt8) (acc : Nat), 0 < acc → 0 < spell acc l := fun l acc h => Nat.lt_of_lt_of_le h (spell_le l acc)
/-- A text of digits that doesn't begin with 0, unless it is 0, is its number's own. -/
theorem spell_decDigits {l : List UInt8} (hl : l ≠ []) (hd : l.all dig = true) (hz : 1 < l.length → l.head? ≠ some 48) : Lib.decDigits (spell 0 l) = l := by
  have key : ∀ (k : Nat) (l : List UInt8), l.length = k → l ≠ [] → l.all dig = true → (1 < l.length → l.head? ≠ some 48) → Lib.decDigits (spell 0 l) = l := by
    intro k
    induction k with
    | zero => intro l h1 h2; exact absurd (List.eq_nil_of_length_eq_zero h1) h2
    | succ k ih =>
      intro l h1 h2 h3 h4
      obtain ⟨r, c, rfl⟩ : ∃ r c, l = r ++ [c] := ⟨l.dropLast, l.getLast h2, (List.dropLast_concat_getLast h2).symm⟩
      rw [List.all_append, Bool.and_eq_true, List.all_cons, List.all_nil, Bool.and_true] at h3
      have hc := dig_iff.1 h3.2
      have hcu : UInt8.ofNat (48 + (c.toNat - 48)) = c := by
        rw [show 48 + (c.toNat - 48) = c.toNat by omega]; exact UInt8.ofNat_toNat
      rw [spell_snoc]
      by_cases hr : r = []
      · subst hr
        show Lib.decDigits (0 * 10 + (c.toNat - 48)) = [c]
        rw [decDigits_small (by omega), show 0 * 10 + (c.toNat - 48) = c.toNat - 48 by omega, hcu]
      · have hlen : 1 < (r ++ [c]).length := by
          have : 0 < r.length := List.length_pos_iff.2 hr
          simp; omega
        have hhead := h4 hlen
        rw [head_app hr] at hhead
        have hpos : 0 < spell 0 r := by
          cases r with
          | nil => exact absurd rfl hr
          | cons b r' =>
            rw [List.all_cons, Bool.and_eq_true] at h3
            have hb := dig_iff.1 h3.1.1
            unfold spell
            refine spell_pos _ _ ?_
            have : b.toNat ≠ 48 := by
              intro e
              refine hhead ?_
              show some b = some 48
              congr 1
              exact UInt8.toNat.inj e
            omega
        rw [decDigits_big (by omega), show (spell 0 r * 10 + (c.toNat - 48)) / 10 = spell 0 r by omega, show (spell 0 r * 10 + (c.toNat - 48)) % 10 = c.toNat - 48 by omega, hcu]
        rw [ih r (by simp at h1; omega) hr h3.1 fun _ => hhead]
  exact key l.length l rfl hl hd hz
end Go.Proofs.YtkkmmpofdcccmaaGreatDoor
namespace Go.Proofs.YtkkmmpofdcccmaaGreatDoor
open E
theorem size_toList (s : ByteArray) : s.data.toList.length = s.size := by
  show s.data.toList.length = s.data.size
  simp
theorem mk_inj {a b : ByteArray} (h : a.data.toList = b.data.toList) : a = b := by
  cases a with | mk a => cases b with | mk b =>
  simp at h; subst h; rfl
theorem fmtU_list (n : Nat) : (fmtU (n : Int)).data.toList = Lib.decDigits n := by simp [fmtU]
theorem decDigits_len (n : Nat) (h : n < 18446744073709551616) : (Lib.decDigits n).length ≤ 20 := by
  have key : ∀ (k n : Nat), n < 10 ^ (k + 1) → (Lib.decDigits n).length ≤ k + 1 := by
    intro k
    induction k with
    | zero => intro n h; rw [decDigits_small (by omega)]; simp
    | succ k ih =>
      intro n h
      by_cases h1 : n < 10
      · rw [decDigits_small h1]; simp
      · rw [decDigits_big h1, List.length_append]
        have := ih (n / 10) (by rw [Nat.pow_succ] at h; omega)
        simp; omega
  exact key 19 n (by omega)
theorem fmtU_size (n : Nat) (h : n < 18446744073709551616) : (fmtU (n : Int)).size ≤ 20 := by
  rw [← size_toList, fmtU_list]; exact decDigits_len n h
theorem append_list (a b : ByteArray) : (a ++ b).data.toList = a.data.toList ++ b.data.toList := by simp [ByteArray.data_append]
theorem text_ref (n : Nat) (h : n < 18446744073709551616) : crawlwayref03_Text (n : Int) = some (fmtU n) := by
  induction n using Nat.strongRecOn with
  | _ n ih =>
    have hd : wr .u8 (wr .u64 (48 + Int.tmod (n : Int) 10)) = ((48 + n % 10 : Nat) : Int) := by
      have e1 : Int.tmod (n : Int) 10 = ((n % 10 : Nat) : Int) := by rw [Int.tmod_eq_emod_of_nonneg (by omega)]; omega
      rw [e1, wr_u64 (by omega) (by omega), wr_u8 (by omega) (by omega)]; omega
    have hl : ((⟨(unb ([wr .u8 (wr .u64 (48 + (Int.tmod (n : Int) 10)))])).toArray⟩ : ByteArray)).data.toList = [UInt8.ofNat (48 + n % 10)] := by
      rw [hd]; rfl
    rw [crawlwayref03_Text.eq_def]
    by_cases h1 : n < 10
    · rw [if_pos (decide_eq_true (by omega))]
      congr 1
      apply mk_inj
      rw [hl, fmtU_list, decDigits_small h1]
      rw [Nat.mod_eq_of_lt h1]
    · rw [if_neg (by rw [decide_eq_true_eq]; omega)]
      have e2 : wr .u64 (Int.tdiv (n : Int) 10) = ((n / 10 : Nat) : Int) := by
        have : Int.tdiv (n : Int) 10 = ((n / 10 : Nat) : Int) := by rw [Int.tdiv_eq_ediv_of_nonneg (by omega)]; omega
        rw [this, wr_u64 (by omega) (by omega)]
      rw [e2, ih (n / 10) (by omega) (by omega), bindM_some]
      have hsz := fmtU_size (n / 10) (by omega)
      rw [if_pos]
      · congr 1
        apply mk_inj
        rw [append_list, hl, fmtU_list, fmtU_list, decDigits_big h1]
      · have : ((⟨(unb ([wr .u8 (wr .u64 (48 + (Int.tmod (n : Int) 10)))])).toArray⟩ : ByteArray)).size = 1 := by rw [← size_toList, hl]; rfl
        rw [this]; omega
theorem text_code (n : Nat) (h : n < 18446744073709551616) : decimal_Text (n : Int) = some (fmtU n) := by
  unfold decimal_Text
  rw [if_pos (by omega)]
def pfx (l : List UInt8) : Nat := (l.takeWhile dig).length
theorem pfx_cons_yes {c : UInt8} {r : List UInt8} (h : dig c = true) : pfx (c :: r) = pfx r + 1 := by simp [pfx, List.takeWhile_cons, h]
theorem pfx_cons_no {c : UInt8} {r : List UInt8} (h : dig c = false) : pfx (c :: r) = 0 := by simp [pfx, List.takeWhile_cons, h]
theorem pfx_le (l : List UInt8) : pfx l ≤ l.length := (List.takeWhile_prefix dig).length_le
theorem pfx_all : ∀ {l : List UInt8}, pfx l = l.length ↔ l.all dig = true
  | [] => by simp [pfx]
  | c :: r => by
    cases h : dig c
    · rw [pfx_cons_no h]; simp [h]
    · rw [pfx_cons_yes h, List.length_cons, List.all_cons, h, Bool.true_and, ← pfx_all (l := r)]; omega
theorem bt_at {s : ByteArray} {i : Nat} {c : UInt8} (h : s.data.toList[i]? = some c) : bt s (i : Int) = (c.toNat : Int) := by
  rw [bt_nat, h]; rfl
theorem get_bang {s : ByteArray} {i : Nat} {c : UInt8} (h : s.data.toList[i]? = some c) : s.get! i = c := by
  have hi : i < s.data.size := by
    have := (List.getElem?_eq_some_iff.1 h).1
    simpa using this
  have e : s.data[i]? = some c := by simpa using h
  show s.data[i]! = c
  rw [getElem!_def, e]
theorem dcode_small {s : ByteArray} {i : Nat} {c : UInt8} (h : s.data.toList[i]? = some c) (hc : c.toNat < 128) : Utf8.decode s i = (c.toNat, 1) := by
  unfold Utf8.decode
  simp only [Nat.add_zero, get_bang h]
  rw [if_pos hc]
theorem dcode_great {s : ByteArray} {i : Nat} {c : UInt8} (h : s.data.toList[i]? = some c) (hc : 128 ≤ c.toNat) : 128 ≤ (Utf8.decode s i).1 := by
  unfold Utf8.decode
  simp only [Nat.add_zero, get_bang h]
  rw [if_neg (by omega)]
  repeat' split
  all_goals (first | (simp only [Utf8.runeError]; omega) | skip)
  all_goals (simp only [ge_iff_le, Bool.and_eq_true, decide_eq_true_eq] at *; omega)
theorem prefix_code_from (s : ByteArray) : ∀ (k i : Nat), s.size - i = k → i ≤ s.size → decimal_Prefix.l0 s i = some (if pfx (s.data.toList.drop i) < s.size - i then .ret ((i + pfx (s.data.toList.drop i) : Nat) : Int) else .nx ()) := by
  intro k
  induction k with
  | zero =>
    intro i hk hi
    have : s.data.toList.drop i = [] := List.drop_eq_nil_of_le (by rw [size_toList]; omega)
    have hz : decide (i < s.size) = false := decide_eq_false (by omega)
    have hr : ¬ pfx (s.data.toList.drop i) < s.size - i := by omega
    rw [decimal_Prefix.l0.eq_def, hz, if_neg hr]; rfl
  | succ k ih =>
    intro i hk hi
    obtain ⟨c, hc, hd⟩ := drop_get s.data.toList i (by rw [size_toList]; omega)
    have hz : decide (i < s.size) = true := decide_eq_true (by omega)
    rw [decimal_Prefix.l0.eq_def, if_pos hz, hd]
    cases hdg : dig c
    · have hR : (if pfx (c :: s.data.toList.drop (i + 1)) < s.size - i then (Ctl.ret ((i + pfx (c :: s.data.toList.drop (i + 1)) : Nat) : Int) : Ctl Int Unit) else .nx ()) = .ret (i : Int) := by
        have h0 : 0 < s.size - i := by omega
        rw [pfx_cons_no hdg, if_pos h0]; rfl
      rw [hR]
      have hn : ¬ (48 ≤ c.toNat ∧ c.toNat ≤ 57) := fun h => by rw [dig_iff.2 h] at hdg; cases hdg
      have hv : dcode s i < 48 ∨ dcode s i > 57 := by
        by_cases h1 : c.toNat < 128
        · have : dcode s i = (c.toNat : Int) := by show ((Utf8.decode s i).1 : Int) = _; rw [dcode_small hc h1]
          omega
        · have := dcode_great hc (by omega)
          right; show ((Utf8.decode s i).1 : Int) > 57; omega
      by_cases h2 : dcode s i < 48
      · rw [if_pos (decide_eq_true h2)]
      · have h6 : dcode s i > 57 := by omega
        rw [if_neg (by rw [decide_eq_true_eq]; exact h2), if_pos (decide_eq_true h6)]
    · have hy := dig_iff.1 hdg
      have hdc := dcode_small hc (by omega)
      have h3 : dcode s i = (c.toNat : Int) := by show ((Utf8.decode s i).1 : Int) = _; rw [hdc]
      have h4 : dstep s i = i + 1 := by show i + (Utf8.decode s i).2 = _; rw [hdc]
      have h6 : decide (dcode s i < 48) = false := decide_eq_false (by omega)
      have h7 : decide (dcode s i > 57) = false := decide_eq_false (by omega)
      rw [h6, h7, h4, ih (i + 1) (by omega) (by omega), pfx_cons_yes hdg]
      simp only [Bool.false_eq_true, if_false]
      congr 1
      by_cases h5 : pfx (s.data.toList.drop (i + 1)) < s.size - (i + 1)
      · rw [if_pos h5, if_pos (by omega)]; congr 2; omega
      · rw [if_neg h5, if_neg (by omega)]
theorem prefix_code (s : ByteArray) : decimal_Prefix s = some ((pfx s.data.toList : Nat) : Int) := by
  unfold decimal_Prefix
  rw [prefix_code_from s _ 0 rfl (by omega), bindM_some, List.drop_zero]
  have := pfx_le s.data.toList
  rw [size_toList] at this
  by_cases h : pfx s.data.toList < s.size - 0
  · rw [if_pos h]; simp
  · rw [if_neg h]; show some _ = some _; congr 2; omega
/-- What reading a text comes to: the number, and 0, or 0 and the error's number. -/
def rdU (l : List UInt8) (most : Nat) : Nat × Nat :=
  if l = [] ∨ l.all dig = false ∨ (1 < l.length ∧ l.head? = some 48) then (0, 5)
  else if spell 0 l ≤ most then (spell 0 l, 0) else (0, 6)
def iiOf (p : Nat × Nat) : Int × Int := ((p.1 : Int), (p.2 : Int))
theorem bt_head {s : ByteArray} (h : 0 < s.size) : (bt s 0 == 48) = true ↔ s.data.toList.head? = some 48 := by
  obtain ⟨c, hc, _⟩ := drop_get s.data.toList 0 (by rw [size_toList]; exact h)
  have hb := bt_at hc
  rw [show ((0 : Nat) : Int) = 0 from rfl] at hb
  rw [hb, List.head?_eq_getElem?, hc]
  constructor
  · intro e
    have : (c.toNat : Int) = 48 := by simpa using e
    congr 1; apply UInt8.toNat.inj; show c.toNat = 48; omega
  · intro e
    cases e; rfl
theorem size_ne {s : ByteArray} : s.data.toList = [] ↔ s.size = 0 := by
  rw [← size_toList]; exact List.length_eq_zero_iff.symm
theorem not_all {l : List UInt8} (h : pfx l < l.length) : l.all dig = false := by
  cases e : l.all dig
  · rfl
  · have := pfx_all.2 e; omega
theorem read_code (s : ByteArray) (most : Nat) (hs : s.size ≤ 281474976710656) (hm : most < 18446744073709551616) : decimal_Read s (most : Int) = some (iiOf (rdU s.data.toList most)) := by
  unfold decimal_Read rdU
  have hlen := size_toList s
  by_cases h0 : s.data.toList = []
  · have : s = ⟨#[]⟩ := mk_inj h0
    rw [if_pos ((seq_iff _ _).2 this), if_pos (.inl h0)]; rfl
  · have hne : ¬ (seq s (⟨#[]⟩ : ByteArray)) = true := fun h => h0 (by rw [(seq_iff _ _).1 h])
    have hpos : 0 < s.size := Nat.pos_of_ne_zero fun h => h0 (size_ne.2 h)
    rw [if_neg hne, prefix_code, bindM_some]
    by_cases h1 : pfx s.data.toList < s.size
    · rw [if_pos (decide_eq_true (by omega)), if_pos (.inr (.inl (not_all (by omega))))]; rfl
    · rw [if_neg (by rw [decide_eq_true_eq]; omega)]
      have hall : s.data.toList.all dig = true := pfx_all.1 (by have := pfx_le s.data.toList; omega)
      have hpar : parU s = if spell 0 s.data.toList ≤ 18446744073709551615 then ((spell 0 s.data.toList : Int), false) else (18446744073709551615, true) := by
        unfold parU
        rw [parB h0 hall]
        by_cases h : spell 0 s.data.toList ≤ 18446744073709551615
        · rw [if_pos h, if_pos h]
        · rw [if_neg h, if_neg h]
      have tail : (if s.size ≤ 281474976710656 then (if (!!((parU s).2)) = true then some ((0 : Int), (6 : Int)) else (if (decide ((parU s).1 > (most : Int))) = true then some (0, 6) else some ((parU s).1, 0))) else none) =
          some (iiOf (if spell 0 s.data.toList ≤ most then (spell 0 s.data.toList, 0) else (0, 6))) := by
        rw [if_pos hs, hpar]
        by_cases h : spell 0 s.data.toList ≤ 18446744073709551615
        · rw [if_pos h, if_neg (by simp)]
          by_cases h2 : spell 0 s.data.toList ≤ most
          · rw [if_neg (by rw [decide_eq_true_eq]; show ¬ ((spell 0 s.data.toList : Int) > (most : Int)); omega), if_pos h2]; rfl
          · rw [if_pos (decide_eq_true (show ((spell 0 s.data.toList : Int) > (most : Int)) by omega)), if_neg h2]; rfl
        · rw [if_neg h, if_pos (by simp), if_neg (by omega)]; rfl
      by_cases h2 : 1 < s.size
      · rw [if_pos (decide_eq_true (by omega)), if_pos (by omega)]
        by_cases h3 : s.data.toList.head? = some 48
        · rw [if_pos ((bt_head hpos).2 h3), if_pos (.inr (.inr ⟨by omega, h3⟩))]; rfl
        · have hc : ¬ (s.data.toList = [] ∨ s.data.toList.all dig = false ∨ (1 < s.data.toList.length ∧ s.data.toList.head? = some 48)) := by
            rintro (h | h | h)
            · exact h0 h
            · rw [hall] at h; cases h
            · exact h3 h.2
          rw [if_neg (fun h => h3 ((bt_head hpos).1 h)), tail, if_neg hc]
      · have hc : ¬ (s.data.toList = [] ∨ s.data.toList.all dig = false ∨ (1 < s.data.toList.length ∧ s.data.toList.head? = some 48)) := by
          rintro (h | h | h)
          · exact h0 h
          · rw [hall] at h; cases h
          · omega
        rw [if_neg (by rw [decide_eq_true_eq]; omega), tail, if_neg hc]
theorem rdU_text (n most : Nat) : rdU (Lib.decDigits n) most = if n ≤ most then (n, 0) else (0, 6) := by
  unfold rdU
  rw [decDigits_spell, if_neg]
  rintro (h | h | h)
  · exact decDigits_ne n h
  · rw [decDigits_dig] at h; cases h
  · by_cases hn : n = 0
    · subst hn; rw [decDigits_zero] at h; simp at h
    · exact decDigits_head n (by omega) h.2
theorem rdU_back {l : List UInt8} {most : Nat} (h : (rdU l most).2 = 0) : Lib.decDigits (rdU l most).1 = l ∧ (rdU l most).1 ≤ most := by
  unfold rdU at h ⊢
  by_cases h1 : l = [] ∨ l.all dig = false ∨ (1 < l.length ∧ l.head? = some 48)
  · rw [if_pos h1] at h; cases h
  · rw [if_neg h1] at h ⊢
    by_cases h2 : spell 0 l ≤ most
    · rw [if_pos h2]
      refine ⟨spell_decDigits (fun e => h1 (.inl e)) ?_ fun hl he => h1 (.inr (.inr ⟨hl, he⟩)), h2⟩
      cases e : l.all dig
      · exact absurd (.inr (.inl e)) h1
      · rfl
    · rw [if_neg h2] at h; cases h
end Go.Proofs.YtkkmmpofdcccmaaGreatDoor
namespace Go.Proofs.YtkkmmpofdcccmaaGreatDoor
open E Go.RowKit
def bs (l : List UInt8) : ByteArray := ⟨l.toArray⟩
theorem bs_list (l : List UInt8) : (bs l).data.toList = l := by simp [bs]
theorem bs_size (l : List UInt8) : (bs l).size = l.length := by
  show (bs l).data.size = _
  simp [bs]
theorem eq_bs (s : ByteArray) : s = bs s.data.toList := by apply mk_inj; rw [bs_list]
theorem bs_inj {l k : List UInt8} (h : bs l = bs k) : l = k := by rw [← bs_list l, h, bs_list]
theorem bs_extract (l : List UInt8) (i j : Nat) : (bs l).extract i j = bs ((l.take j).drop i) := by
  apply mk_inj
  rw [bs_list]
  simp [bs, ByteArray.data_extract, List.drop_take]
def parts (c : UInt8) : List UInt8 → List (List UInt8)
  | [] => [[]]
  | x :: r => if x = c then [] :: parts c r else (x :: (parts c r).headD []) :: (parts c r).tail
theorem parts_ne (c : UInt8) : ∀ (l : List UInt8), parts c l ≠ []
  | [] => by simp [parts]
  | x :: r => by unfold parts; split <;> simp
theorem parts_none (c : UInt8) : ∀ (l : List UInt8), (∀ x ∈ l, x ≠ c) → parts c l = [l]
  | [], _ => rfl
  | x :: r, h => by
    unfold parts
    rw [if_neg (h x (List.mem_cons_self ..)), parts_none c r fun y hy => h y (List.mem_cons_of_mem _ hy)]; rfl
theorem parts_cons (c : UInt8) (r : List UInt8) : ∀ (p : List UInt8), (∀ x ∈ p, x ≠ c) → parts c (p ++ c :: r) = p :: parts c r
  | [], _ => by
    show (if c = c then [] :: parts c r else (c :: (parts c r).headD []) :: (parts c r).tail) = _
    rw [if_pos rfl]
  | x :: p, h => by
    show parts c (x :: (p ++ c :: r)) = _
    rw [parts, if_neg (h x (List.mem_cons_self ..)), parts_cons c r p fun y hy => h y (List.mem_cons_of_mem _ hy)]; rfl
theorem u8_back (c : UInt8) : Nat.toUInt8 (Int.toNat (c.toNat : Int)) = c := by
  rw [Int.toNat_natCast]; exact UInt8.ofNat_toNat
/-- A cut at the first such byte. -/
theorem cut_none (l : List UInt8) (c : UInt8) (h : ∀ x ∈ l, x ≠ c) : lines_Cut (bs l) (c.toNat : Int) = some (bs l, ⟨#[]⟩, false) := by
  unfold lines_Cut
  rw [u8_back, bs_list]
  have hi : Lib.indexByte l c = -1 := by
    have h1 := Lib.indexByte_ge l c
    by_cases h2 : Lib.indexByte l c = -1
    · exact h2
    · obtain ⟨o, ho⟩ := Int.eq_ofNat_of_zero_le (show 0 ≤ Lib.indexByte l c by omega)
      have := (Lib.indexByte_some ho).1
      exact absurd rfl (h c (List.mem_of_getElem? this))
  rw [hi, if_pos (by decide)]
theorem index_at (p r : List UInt8) (c : UInt8) (h : ∀ x ∈ p, x ≠ c) : Lib.indexByte (p ++ c :: r) c = (p.length : Int) := by
  have h1 := Lib.indexByte_ge (p ++ c :: r) c
  have hc : (p ++ c :: r)[p.length]? = some c := by rw [List.getElem?_append_right (Nat.le_refl _), Nat.sub_self]; rfl
  by_cases h2 : Lib.indexByte (p ++ c :: r) c = -1
  · exact absurd hc (Lib.indexByte_none h2 p.length)
  · obtain ⟨o, ho⟩ := Int.eq_ofNat_of_zero_le (show 0 ≤ Lib.indexByte (p ++ c :: r) c by omega)
    obtain ⟨ha, hb⟩ := Lib.indexByte_some ho
    have h3 : ¬ p.length < o := fun hlt => hb p.length hlt hc
    have h4 : ¬ o < p.length := fun hlt => by
      rw [List.getElem?_append_left hlt] at ha
      exact h c (List.mem_of_getElem? ha) rfl
    rw [ho]; omega
theorem cut_some (p r : List UInt8) (c : UInt8) (h : ∀ x ∈ p, x ≠ c) (hl : p.length + r.length < 1000000) : lines_Cut (bs (p ++ c :: r)) (c.toNat : Int) = some (bs p, bs r, true) := by
  unfold lines_Cut
  rw [u8_back, bs_list, index_at p r c h, bs_size]
  have hlen : (p ++ c :: r).length = p.length + (r.length + 1) := by simp
  have e1 : wr .i64 ((p.length : Int) + 1) = ((p.length + 1 : Nat) : Int) := by rw [wr_i64 (by omega) (by omega)]; omega
  have g1 : (0 : Int) ≤ 0 ∧ (0 : Int) ≤ (p.length : Int) ∧ (p.length : Int) ≤ ((p ++ c :: r).length : Int) := by omega
  have g2 : (0 : Int) ≤ ((p.length + 1 : Nat) : Int) ∧ ((p.length + 1 : Nat) : Int) ≤ ((p ++ c :: r).length : Int) ∧ ((p ++ c :: r).length : Int) ≤ ((p ++ c :: r).length : Int) := by omega
  rw [if_neg (by rw [decide_eq_true_eq]; omega), e1, if_pos g1, if_pos g2]
  refine congrArg some ?_
  simp only [Int.toNat_natCast, bs_extract, show (0 : Int).toNat = 0 from rfl, List.drop_zero]
  have t1 : (p ++ c :: r).take p.length = p := List.take_left' rfl
  have t2 : ((p ++ c :: r).take (p ++ c :: r).length).drop (p.length + 1) = r := by
    rw [List.take_of_length_le (Nat.le_refl _), List.drop_append, List.drop_eq_nil_of_le (by omega), show p.length + 1 - p.length = 1 by omega]; rfl
  rw [t1, t2]
theorem split_at (c : UInt8) : ∀ (l : List UInt8), (∀ x ∈ l, x ≠ c) ∨ ∃ p r, l = p ++ c :: r ∧ ∀ x ∈ p, x ≠ c
  | [] => .inl fun x h => by cases h
  | x :: l => by
    by_cases hx : x = c
    · exact .inr ⟨[], l, by rw [hx]; rfl, fun y h => by cases h⟩
    · rcases split_at c l with h | ⟨p, r, rfl, h⟩
      · refine .inl fun y hy => ?_
        rcases List.mem_cons.1 hy with rfl | hy
        · exact hx
        · exact h y hy
      · refine .inr ⟨x :: p, r, rfl, fun y hy => ?_⟩
        rcases List.mem_cons.1 hy with rfl | hy
        · exact hx
        · exact h y hy
theorem parts_loop (c : UInt8) : ∀ (k : Nat) (l : List UInt8) (acc : List ByteArray), l.length ≤ k → acc.length + l.length < 1000000 →
    lines_Parts.l0 (c.toNat : Int) (bs l) acc = some (acc ++ (parts c l).map bs) := by
  intro k
  induction k with
  | zero =>
    intro l acc hk hb
    obtain rfl : l = [] := List.eq_nil_of_length_eq_zero (by omega)
    rw [lines_Parts.l0.eq_def, cut_none [] c (fun x h => by cases h), bindM_some, if_pos (by simp at hb; omega)]; rfl
  | succ k ih =>
    intro l acc hk hb
    rcases split_at c l with h | ⟨p, r, rfl, h⟩
    · rw [lines_Parts.l0.eq_def, cut_none l c h, bindM_some, if_pos (by omega), parts_none c l h]; rfl
    · have hlen : (p ++ c :: r).length = p.length + (r.length + 1) := by simp
      rw [lines_Parts.l0.eq_def, cut_some p r c h (by omega), bindM_some, if_pos (by omega), parts_cons c r p h]
      show lines_Parts.l0 (c.toNat : Int) (bs r) (acc ++ [bs p]) = _
      rw [ih r (acc ++ [bs p]) (by omega) (by simp; omega)]
      simp
theorem parts_code (c : UInt8) (l : List UInt8) (h : l.length < 1000000) : lines_Parts (bs l) (c.toNat : Int) = some ((parts c l).map bs) := by
  unfold lines_Parts
  rw [parts_loop c l.length l [] (Nat.le_refl _) (by simp; omega)]; rfl
end Go.Proofs.YtkkmmpofdcccmaaGreatDoor
namespace Go.Proofs.YtkkmmpofdcccmaaGreatDoor
open E Go.RowKit
theorem set_step {α : Type} (A l : List α) (i : Nat) (x : α) (hA : A.length = l.length) (hx : A[i]? = some x) : (A.take i ++ l.drop i).set i x = A.take (i + 1) ++ l.drop (i + 1) := by
  have hi : i < A.length := (List.getElem?_eq_some_iff.1 hx).1
  apply List.ext_getElem?
  intro j
  have h1 : (A.take i).length = i := by simp; omega
  have h2 : (A.take (i + 1)).length = i + 1 := by simp; omega
  rw [List.getElem?_set]
  by_cases hj : i = j
  · subst hj
    have hl : i < (A.take i ++ l.drop i).length := by simp; omega
    rw [if_pos rfl, if_pos hl, List.getElem?_append_left (by omega), List.getElem?_take, if_pos (by omega), hx]
  · rw [if_neg hj]
    by_cases hlt : j < i
    · rw [List.getElem?_append_left (by omega), List.getElem?_append_left (by omega), List.getElem?_take, List.getElem?_take, if_pos hlt, if_pos (by omega)]
    · rw [List.getElem?_append_right (by omega), List.getElem?_append_right (by omega), List.getElem?_drop, List.getElem?_drop, h1, h2]
      congr 1; omega
theorem q_size (n : Nat) (h : n < 256) : (fmtU (n : Int)).size ≤ 3 := by
  have key : ∀ n : Nat, n < 256 → (Lib.decDigits n).length ≤ 3 := by
    intro n hn
    by_cases h1 : n < 10
    · rw [decDigits_small h1]; simp
    · rw [decDigits_big h1, List.length_append]
      by_cases h2 : n / 10 < 10
      · rw [decDigits_small h2]; simp
      · rw [decDigits_big h2, decDigits_small (by omega), List.length_append]; simp
  have := key n h
  rw [← size_toList, fmtU_list]
  omega
def qT (m : List UInt8) : List ByteArray := m.map fun b => fmtU (b.toNat : Int)
def v4 (m : List UInt8) : Vector Int 4 := lvec 4 (ob m)
theorem v4_toList {m : List UInt8} (hm : m.length = 4) : (v4 m).toList = ob m := by
  unfold v4
  rw [lvec_toList 4 _ (by rw [ob_length]; omega), List.take_of_length_le (by rw [ob_length]; omega)]
theorem v4_of {v : Vector Int 4} {m : List UInt8} (h : v.toList = ob m) : v = v4 m := by
  have hl : m.length = 4 := by have := congrArg List.length h; rw [ob_length] at this; simpa using this.symm
  apply Vector.toList_inj.1
  rw [v4_toList hl, h]
theorem vget_v4 {m : List UInt8} (hm : m.length = 4) (i : Nat) (c : UInt8) (hc : m[i]? = some c) : vget (v4 m) (i : Int) = (c.toNat : Int) := by
  unfold vget
  rw [v4_toList hm, Int.toNat_natCast, List.getD_eq_getElem?_getD]
  unfold ob
  rw [List.getElem?_map, hc]; rfl
theorem vset_v4 {m : List UInt8} (hm : m.length = 4) (i : Nat) (c : UInt8) : vset (v4 m) (i : Int) (c.toNat : Int) = v4 (m.set i c) := by
  apply Vector.toList_inj.1
  rw [vset_toList, v4_toList hm, v4_toList (by simpa using hm), Int.toNat_natCast]
  unfold ob
  rw [List.map_set]
def vs4 (xs : List ByteArray) : Vector ByteArray 4 := lvec 4 xs
theorem vs4_toList {xs : List ByteArray} (h : xs.length = 4) : (vs4 xs).toList = xs := by
  unfold vs4
  rw [lvec_toList 4 _ (by omega), List.take_of_length_le (by omega)]
theorem vset_vs4 {xs : List ByteArray} (h : xs.length = 4) (i : Nat) (t : ByteArray) : vset (vs4 xs) (i : Int) t = vs4 (xs.set i t) := by
  apply Vector.toList_inj.1
  rw [vset_toList, vs4_toList h, vs4_toList (by simpa using h), Int.toNat_natCast]
theorem quad_loop {m : List UInt8} (hm : m.length = 4) : ∀ (k i : Nat), i + k = 4 →
    quad_Text.l0 (v4 m) (i : Int) (vs4 ((qT m).take i ++ (List.replicate 4 (⟨#[]⟩ : ByteArray)).drop i)) = some (vs4 (qT m)) := by
  have hql : (qT m).length = 4 := by simp [qT, hm]
  intro k
  induction k with
  | zero =>
    intro i hi
    have hz : decide ((i : Int) < 4) = false := decide_eq_false (by omega)
    rw [quad_Text.l0.eq_def, hz, if_neg Bool.false_ne_true, List.drop_eq_nil_of_le (by simp; omega), List.append_nil, List.take_of_length_le (by omega)]
  | succ k ih =>
    intro i hi
    have hz : decide ((i : Int) < 4) = true := decide_eq_true (by omega)
    have hc : m[i]? = some m[i] := List.getElem?_eq_getElem (by omega)
    generalize m[i] = c at hc
    have hcl := c.toNat_lt
    have hg : (0 : Int) ≤ (i : Int) ∧ (i : Int) < 4 := by omega
    have hA : ((qT m).take i ++ (List.replicate 4 (⟨#[]⟩ : ByteArray)).drop i).length = 4 := by simp; omega
    have hstep := set_step (qT m) (List.replicate 4 (⟨#[]⟩ : ByteArray)) i (fmtU (c.toNat : Int)) (by simp; omega) (by unfold qT; rw [List.getElem?_map, hc]; rfl)
    rw [quad_Text.l0.eq_def, hz, if_pos rfl, if_pos hg, vget_v4 hm i c hc, wr_u64 (by omega) (by omega), text_code _ (by omega), bindM_some, if_pos hg, vset_vs4 hA, hstep, wr_i64 (by omega) (by omega), show ((i : Int) + 1) = ((i + 1 : Nat) : Int) by omega]
    exact ih (i + 1) (by omega)
/-- The text. -/
def qText (m : List UInt8) : List UInt8 := match m with
  | [a, b, c, d] => Lib.decDigits a.toNat ++ 46 :: (Lib.decDigits b.toNat ++ 46 :: (Lib.decDigits c.toNat ++ 46 :: Lib.decDigits d.toNat))
  | _ => []
theorem digits3 (n : Nat) (h : n < 256) : (Lib.decDigits n).length ≤ 3 := by
  have := q_size n h
  rw [← size_toList, fmtU_list] at this
  exact this
theorem qText_len {m : List UInt8} (hm : m.length = 4) : (qText m).length ≤ 15 := by
  match m, hm with
  | [a, b, c, d], _ =>
    have h1 := digits3 a.toNat a.toNat_lt
    have h2 := digits3 b.toNat b.toNat_lt
    have h3 := digits3 c.toNat c.toNat_lt
    have h4 := digits3 d.toNat d.toNat_lt
    simp only [qText, List.length_append, List.length_cons]
    omega
theorem bjoin_qT {m : List UInt8} (hm : m.length = 4) : bjoin (qT m) ⟨#[46]⟩ = bs (qText m) := by
  match m, hm with
  | [a, b, c, d], _ =>
    apply mk_inj
    rw [bs_list]
    show (bjoin [fmtU (a.toNat : Int), fmtU (b.toNat : Int), fmtU (c.toNat : Int), fmtU (d.toNat : Int)] ⟨#[46]⟩).data.toList = _
    unfold bjoin Lib.join
    simp only [List.map_cons, List.map_nil, fmtU_list]
    simp [List.intercalate, List.intersperse, qText]
theorem quad_text {m : List UInt8} (hm : m.length = 4) : quad_Text (v4 m) = some (bs (qText m)) := by
  have hql : (qT m).length = 4 := by simp [qT, hm]
  unfold quad_Text
  have h := quad_loop hm 4 0 rfl
  rw [List.take_zero, List.nil_append, List.drop_zero, show ((0 : Nat) : Int) = 0 from rfl] at h
  have hz : (Vector.replicate 4 (⟨#[]⟩ : ByteArray) : Vector ByteArray 4) = vs4 (List.replicate 4 (⟨#[]⟩ : ByteArray)) := by
    apply Vector.toList_inj.1; rw [vs4_toList (by simp)]; rfl
  have hsz := qText_len hm
  rw [hz, h, bindM_some, vs4_toList hql, if_pos (by omega), bjoin_qT hm, if_pos (by rw [bs_size]; omega)]
theorem refQuad_loop {m : List UInt8} (hm : m.length = 4) : crawlwayref08_Text (v4 m) = some (bs (qText m)) := by
  match m, hm with
  | [a, b, c, d], hm =>
    have ha := a.toNat_lt
    have hb := b.toNat_lt
    have hc := c.toNat_lt
    have hd := d.toNat_lt
    have g0 : vget (v4 [a, b, c, d]) 0 = (a.toNat : Int) := vget_v4 hm 0 a rfl
    have g1 : vget (v4 [a, b, c, d]) 1 = (b.toNat : Int) := vget_v4 hm 1 b rfl
    have g2 : vget (v4 [a, b, c, d]) 2 = (c.toNat : Int) := vget_v4 hm 2 c rfl
    have g3 : vget (v4 [a, b, c, d]) 3 = (d.toNat : Int) := vget_v4 hm 3 d rfl
    have s0 := q_size a.toNat ha
    have s1 := q_size b.toNat hb
    have s2 := q_size c.toNat hc
    have s3 := q_size d.toNat hd
    have hdot : (⟨#[46]⟩ : ByteArray).size = 1 := rfl
    have w1 : wr .i64 ((1 : Int) + 1) = 2 := by rw [wr_i64 (by omega) (by omega)]; rfl
    have w2 : wr .i64 ((2 : Int) + 1) = 3 := by rw [wr_i64 (by omega) (by omega)]; rfl
    have w3 : wr .i64 ((3 : Int) + 1) = 4 := by rw [wr_i64 (by omega) (by omega)]; rfl
    have d1 : decide ((1 : Int) < 4) = true := rfl
    have d2 : decide ((2 : Int) < 4) = true := rfl
    have d3 : decide ((3 : Int) < 4) = true := rfl
    have d4 : decide ((4 : Int) < 4) = false := rfl
    have i1 : (0 : Int) ≤ 1 ∧ (1 : Int) < 4 := by omega
    have i2 : (0 : Int) ≤ 2 ∧ (2 : Int) < 4 := by omega
    have i3 : (0 : Int) ≤ 3 ∧ (3 : Int) < 4 := by omega
    unfold crawlwayref08_Text
    rw [g0, wr_u64 (by omega) (by omega), text_ref _ (by omega), bindM_some]
    rw [crawlwayref08_Text.l0.eq_def, d1, if_pos rfl, if_pos (by omega), if_pos i1, g1, wr_u64 (by omega) (by omega), text_ref _ (by omega), bindM_some, if_pos (by rw [ByteArray.size_append]; omega), w1]
    rw [crawlwayref08_Text.l0.eq_def, d2, if_pos rfl, if_pos (by simp only [ByteArray.size_append]; omega), if_pos i2, g2, wr_u64 (by omega) (by omega), text_ref _ (by omega), bindM_some, if_pos (by simp only [ByteArray.size_append]; omega), w2]
    rw [crawlwayref08_Text.l0.eq_def, d3, if_pos rfl, if_pos (by simp only [ByteArray.size_append]; omega), if_pos i3, g3, wr_u64 (by omega) (by omega), text_ref _ (by omega), bindM_some, if_pos (by simp only [ByteArray.size_append]; omega), w3]
    rw [crawlwayref08_Text.l0.eq_def, d4, if_neg Bool.false_ne_true, bindM_some]
    refine congrArg some ?_
    apply mk_inj
    rw [bs_list]
    simp only [append_list, fmtU_list, qText]
    simp
def pqs : List (List UInt8) → List UInt8 → Nat × List UInt8
  | [], acc => (0, acc)
  | p :: r, acc => if (rdU p 255).2 = 0 then pqs r (acc ++ [UInt8.ofNat (rdU p 255).1]) else ((rdU p 255).2, acc)
theorem rdU_le (l : List UInt8) (most : Nat) : (rdU l most).1 ≤ most := by
  unfold rdU; split
  · exact Nat.zero_le _
  · split
    · assumption
    · exact Nat.zero_le _
def quadP (l : List UInt8) : Vector Int 4 × Nat :=
  if (parts 46 l).length = 4 then (if (pqs (parts 46 l) []).1 = 0 then (v4 (pqs (parts 46 l) []).2, 0) else (Vector.replicate 4 0, (pqs (parts 46 l) []).1)) else (Vector.replicate 4 0, 5)
def viOf (p : Vector Int 4 × Nat) : Vector Int 4 × Int := (p.1, (p.2 : Int))
theorem pad_set (acc : List UInt8) (i : Nat) (c : UInt8) (hi : acc.length = i) (h4 : i < 4) : (acc ++ List.replicate (4 - i) 0).set i c = (acc ++ [c]) ++ List.replicate (4 - (i + 1)) 0 := by
  subst hi
  rw [List.set_append_right _ _ (Nat.le_refl _), Nat.sub_self, show 4 - acc.length = (4 - (acc.length + 1)) + 1 by omega, List.replicate_succ]
  simp
theorem quadParse_loop (ps : List (List UInt8)) (hps : ps.length = 4) (hsz : ∀ p ∈ ps, p.length < 1000000) : ∀ (k i : Nat) (acc : List UInt8), i + k = 4 → acc.length = i →
    quad_Parse.l0 (ps.map bs) (i : Int) (v4 (acc ++ List.replicate (4 - i) 0)) =
      some (if (pqs (ps.drop i) acc).1 = 0 then .nx (v4 (pqs (ps.drop i) acc).2) else .ret (Vector.replicate 4 0, ((pqs (ps.drop i) acc).1 : Int))) := by
  intro k
  induction k with
  | zero =>
    intro i acc hi ha
    have : i = 4 := by omega
    subst this
    rw [quad_Parse.l0.eq_def, if_neg (by rw [decide_eq_true_eq, List.length_map]; omega), List.drop_eq_nil_of_le (by omega)]
    show _ = some (if (0 : Nat) = 0 then _ else _)
    rw [if_pos rfl]
    show some (Ctl.nx (v4 (acc ++ []))) = _
    rw [List.append_nil]; rfl
  | succ k ih =>
    intro i acc hi ha
    have hp : ps[i]? = some ps[i] := List.getElem?_eq_getElem (by omega)
    have hdrop : ps.drop i = ps[i] :: ps.drop (i + 1) := List.drop_eq_getElem_cons (by omega)
    generalize ps[i] = p at hp hdrop
    have hmem := List.mem_of_getElem? hp
    have hpl := hsz p hmem
    have hl : lget (ps.map bs) (i : Int) = bs p := by
      unfold lget
      rw [Int.toNat_natCast, List.getD_eq_getElem?_getD, List.getElem?_map, hp]; rfl
    have g : (0 : Int) ≤ (i : Int) ∧ (i : Int) < ((ps.map bs).length : Int) := by rw [List.length_map]; omega
    have hr := read_code (bs p) 255 (by rw [bs_size]; omega) (by omega)
    rw [bs_list, show ((255 : Nat) : Int) = 255 from rfl] at hr
    rw [quad_Parse.l0.eq_def, if_pos (decide_eq_true g.2), if_pos g, hl, hr, bindM_some, hdrop]
    unfold pqs
    have hle := rdU_le p 255
    by_cases h0 : (rdU p 255).2 = 0
    · have hb : ((iiOf (rdU p 255)).2 != 0) = false := by simp [iiOf, h0]
      have e8 : wr .u8 (iiOf (rdU p 255)).1 = ((UInt8.ofNat (rdU p 255).1).toNat : Int) := by
        show wr .u8 ((rdU p 255).1 : Int) = _
        rw [wr_u8 (by omega) (by omega), UInt8.toNat_ofNat', Nat.mod_eq_of_lt (by omega)]
      have g4 : (0 : Int) ≤ (i : Int) ∧ (i : Int) < 4 := by omega
      rw [hb, if_neg Bool.false_ne_true, if_pos g4, e8, vset_v4 (by simp; omega), pad_set acc i _ ha (by omega), wr_i64 (by omega) (by omega), show ((i : Int) + 1) = ((i + 1 : Nat) : Int) by omega, if_pos h0]
      exact ih (i + 1) _ (by omega) (by simp; omega)
    · have hb : ((iiOf (rdU p 255)).2 != 0) = true := by rw [bne_iff_ne]; show ((rdU p 255).2 : Int) ≠ 0; omega
      rw [hb, if_pos rfl, if_neg h0, if_neg h0]; rfl
theorem part_short (c : UInt8) : ∀ (l p : List UInt8), p ∈ parts c l → p.length ≤ l.length := by
  intro l
  induction l with
  | nil => intro p hp; simp [parts] at hp; subst hp; exact Nat.le_refl _
  | cons x r ih =>
    intro p hp
    have hne := parts_ne c r
    unfold parts at hp
    split at hp
    · rcases List.mem_cons.1 hp with rfl | hp
      · exact Nat.zero_le _
      · exact Nat.le_trans (ih p hp) (by simp)
    · cases hq : parts c r with
      | nil => exact absurd hq hne
      | cons a b =>
        rw [hq] at hp ih
        rcases List.mem_cons.1 hp with rfl | hp
        · have := ih a (List.mem_cons_self ..)
          simp; omega
        · have := ih p (List.mem_cons_of_mem _ hp)
          simp; omega
theorem zero_v4 : (Vector.replicate 4 (0 : Int) : Vector Int 4) = v4 (List.replicate 4 0) := v4_of rfl
theorem quad_parse (l : List UInt8) (h : l.length < 1000000) : quad_Parse (bs l) = some (viOf (quadP l)) := by
  unfold quad_Parse quadP
  have hp := parts_code 46 l h
  rw [show (((46 : UInt8).toNat : Nat) : Int) = 46 from rfl] at hp
  rw [hp, bindM_some, List.length_map]
  by_cases h4 : (parts 46 l).length = 4
  · have hne : (((parts 46 l).length : Int) != 4) = false := by rw [h4]; rfl
    have hl := quadParse_loop (parts 46 l) h4 (fun p hp => Nat.lt_of_le_of_lt (part_short 46 l p hp) h) 4 0 [] rfl rfl
    rw [List.nil_append, show 4 - 0 = 4 from rfl, ← zero_v4, show ((0 : Nat) : Int) = 0 from rfl, List.drop_zero] at hl
    rw [hne, if_neg Bool.false_ne_true, hl, bindM_some, if_pos h4]
    by_cases h0 : (pqs (parts 46 l) []).1 = 0
    · rw [if_pos h0, if_pos h0]; rfl
    · rw [if_neg h0, if_neg h0]; rfl
  · have hne : (((parts 46 l).length : Int) != 4) = true := by rw [bne_iff_ne]; omega
    rw [hne, if_pos rfl, if_neg h4]; rfl
/-- The parts, with the byte between, are the text. -/
theorem parts_join (c : UInt8) : ∀ (l : List UInt8), [c].intercalate (parts c l) = l := by
  have key : ∀ (l : List UInt8), ∃ p r, parts c l = p :: r ∧ p ++ (r.map ([c] ++ ·)).flatten = l := by
    intro l
    induction l with
    | nil => exact ⟨[], [], rfl, rfl⟩
    | cons x l ih =>
      obtain ⟨p, r, h1, h2⟩ := ih
      by_cases hx : x = c
      · subst hx
        refine ⟨[], p :: r, ?_, ?_⟩
        · rw [parts, if_pos rfl, h1]
        · rw [← h2]; simp
      · refine ⟨x :: p, r, ?_, ?_⟩
        · rw [parts, if_neg hx, h1]; rfl
        · rw [← h2]; simp
  intro l
  obtain ⟨p, r, h1, h2⟩ := key l
  rw [h1]
  have : ∀ (r : List (List UInt8)) (p : List UInt8), [c].intercalate (p :: r) = p ++ (r.map ([c] ++ ·)).flatten := by
    intro r
    induction r with
    | nil => intro p; simp [List.intercalate]
    | cons q r ih =>
      intro p
      have := ih q
      simp only [List.intercalate, List.intersperse] at this ⊢
      simp [this]
  rw [this, h2]
theorem pqs_ok : ∀ (ps : List (List UInt8)) (acc : List UInt8), (pqs ps acc).1 = 0 → ∃ m, (pqs ps acc).2 = acc ++ m ∧ m.length = ps.length ∧ ps = m.map fun b => Lib.decDigits b.toNat
  | [], acc, _ => ⟨[], by simp [pqs], rfl, rfl⟩
  | p :: r, acc, h => by
    unfold pqs at h ⊢
    by_cases h0 : (rdU p 255).2 = 0
    · rw [if_pos h0] at h ⊢
      obtain ⟨m, h1, h2, h3⟩ := pqs_ok r _ h
      obtain ⟨b1, b2⟩ := rdU_back h0
      refine ⟨UInt8.ofNat (rdU p 255).1 :: m, by rw [h1]; simp, by simp [h2], ?_⟩
      rw [List.map_cons, ← h3, UInt8.toNat_ofNat', Nat.mod_eq_of_lt (by omega), b1]
    · rw [if_neg h0] at h
      exact absurd h h0
theorem pqs_digits : ∀ (m : List UInt8) (acc : List UInt8), pqs (m.map fun b => Lib.decDigits b.toNat) acc = (0, acc ++ m)
  | [], acc => by simp [pqs]
  | b :: m, acc => by
    have hb := b.toNat_lt
    have hr : rdU (Lib.decDigits b.toNat) 255 = (b.toNat, 0) := by rw [rdU_text, if_pos (by omega)]
    rw [List.map_cons, pqs, hr]
    show (if (0 : Nat) = 0 then _ else _) = _
    rw [if_pos rfl, show (b.toNat, 0).1 = b.toNat from rfl, UInt8.ofNat_toNat, pqs_digits m]
    simp
theorem dec_nodot (n : Nat) : ∀ x ∈ Lib.decDigits n, x ≠ 46 := fun x hx => by
  have := dig_iff.1 (List.all_eq_true.1 (decDigits_dig n) x hx)
  intro e; subst e
  have : (46 : UInt8).toNat = 46 := rfl
  omega
theorem parts_qText {m : List UInt8} (hm : m.length = 4) : parts 46 (qText m) = m.map fun b => Lib.decDigits b.toNat := by
  match m, hm with
  | [a, b, c, d], _ =>
    show parts 46 (Lib.decDigits a.toNat ++ 46 :: (Lib.decDigits b.toNat ++ 46 :: (Lib.decDigits c.toNat ++ 46 :: Lib.decDigits d.toNat))) = _
    rw [parts_cons _ _ _ (dec_nodot _), parts_cons _ _ _ (dec_nodot _), parts_cons _ _ _ (dec_nodot _), parts_none _ _ (dec_nodot _)]; rfl
theorem quadP_text {m : List UInt8} (hm : m.length = 4) : quadP (qText m) = (v4 m, 0) := by
  unfold quadP
  rw [parts_qText hm, pqs_digits, if_pos (by simp [hm])]
  show (if (0 : Nat) = 0 then _ else _) = _
  rw [if_pos rfl]; rfl
theorem quadP_back {l : List UInt8} (h : (quadP l).2 = 0) : ∃ m, m.length = 4 ∧ quadP l = (v4 m, 0) ∧ qText m = l := by
  unfold quadP at h ⊢
  by_cases h4 : (parts 46 l).length = 4
  · rw [if_pos h4] at h ⊢
    by_cases h0 : (pqs (parts 46 l) []).1 = 0
    · rw [if_pos h0]
      obtain ⟨m, h1, h2, h3⟩ := pqs_ok _ _ h0
      have hm : m.length = 4 := by omega
      refine ⟨m, hm, by rw [h1]; rfl, ?_⟩
      rw [← parts_join 46 l, h3]
      match m, hm with
      | [a, b, c, d], _ =>
        simp [List.intercalate, List.intersperse, qText]
    · rw [if_neg h0] at h; exact absurd h h0
  · rw [if_neg h4] at h; cases h
end Go.Proofs.YtkkmmpofdcccmaaGreatDoor
namespace Go.Proofs.YtkkmmpofdcccmaaGreatDoor.Hex
open Go.Lib (indexByte)
def dgs : ByteArray := ByteArray.mk #[48, 49, 50, 51, 52, 53, 54, 55, 56, 57, 97, 98, 99, 100, 101, 102]
def dgl : List UInt8 := [48, 49, 50, 51, 52, 53, 54, 55, 56, 57, 97, 98, 99, 100, 101, 102]
/-- The digit of a number below 16. -/
def dg (n : Nat) : UInt8 := dgl.getD n 0
def dig (n : Nat) : ByteArray := ByteArray.mk #[dg n]
theorem dig_eq : ∀ n : Fin 16, dgs.extract n.1 (n.1 + 1) = dig n.1 := by decide +kernel
theorem dig_extract (n : Nat) (h : n < 16) : dgs.extract n (n + 1) = dig n := dig_eq ⟨n, h⟩
/-- The reference's Value from place i on. -/
def vf (c : Nat) (great : Bool) : Nat → Nat → Int
  | 0, _ => -1
  | f + 1, i => if (dg i).toNat = c ∨ great = true ∧ i > 9 ∧ (dg i).toNat = (c + 32) % 256 then (i : Int) else vf c great f (i + 1)
def val (c : Nat) (great : Bool) : Int := vf c great 16 0
def small (c : Nat) : Nat := if 65 ≤ c ∧ c ≤ 70 then c ||| 32 else c
def idx (c : Nat) : Int := indexByte dgl c.toUInt8
theorem idx_val : ∀ c : Fin 256, idx c.1 = val c.1 false := by decide +kernel
theorem idx_small : ∀ c : Fin 256, idx (small c.1) = val c.1 true := by decide +kernel
theorem val_lt : ∀ c : Fin 256, ∀ g : Bool, -1 ≤ val c.1 g ∧ val c.1 g < 16 := by decide +kernel
theorem val_dg : ∀ n : Fin 16, ∀ g : Bool, val (dg n.1).toNat g = n.1 := by decide +kernel
/-- A number's text. -/
def grp (n : Nat) : ByteArray := if n < 16 then dig n else grp (n / 16) ++ dig (n % 16)
def gl (n : Nat) (o : ByteArray) : ByteArray := if n < 16 then dig n ++ o else gl (n / 16) (dig (n % 16) ++ o)
theorem gl_eq (n : Nat) : ∀ o, gl n o = grp n ++ o := by
  induction n using Nat.strongRecOn with
  | _ n ih =>
    intro o
    unfold gl grp
    split
    · rfl
    · rw [ih _ (by omega), ByteArray.append_assoc]
/-- A text's number. -/
def rd (l : List UInt8) : Nat → Option Nat := l.foldr (fun c k n => if val c.toNat true < 0 then none else k (16 * n + (val c.toNat true).toNat)) some
theorem rd_nil (n : Nat) : rd [] n = some n := rfl
theorem rd_cons (c : UInt8) (l : List UInt8) (n : Nat) : rd (c :: l) n = if val c.toNat true < 0 then none else rd l (16 * n + (val c.toNat true).toNat) := rfl
def read (s : ByteArray) : Option Nat := if s.size < 1 ∨ s.size > 4 then none else rd s.data.toList 0
theorem rd_lt (l : List UInt8) : ∀ n m, rd l n = some m → m < (n + 1) * 16 ^ l.length := by
  induction l with
  | nil => intro n m h; simp [rd_nil] at h; simp; omega
  | cons c l ih =>
    intro n m h
    rw [rd_cons] at h
    split at h
    · cases h
    · have hv : val c.toNat true < 16 := (val_lt ⟨c.toNat, c.toNat_lt⟩ true).2
      have := ih _ _ h
      simp only [List.length_cons, Nat.pow_succ]
      have h2 : (val c.toNat true).toNat < 16 := by omega
      calc m < (16 * n + (val c.toNat true).toNat + 1) * 16 ^ l.length := this
        _ ≤ (16 * n + 16) * 16 ^ l.length := Nat.mul_le_mul_right _ (by omega)
        _ = _ := by rw [show 16 * n + 16 = (n + 1) * 16 by omega, Nat.mul_assoc, Nat.mul_comm 16]
theorem rd_append (l k : List UInt8) (n : Nat) : rd (l ++ k) n = (rd l n).bind (rd k) := by
  induction l generalizing n with
  | nil => simp [rd_nil]
  | cons c l ih =>
    simp only [List.cons_append, rd_cons]
    split
    · rfl
    · exact ih _
theorem rd_grp (n : Nat) : rd (grp n).data.toList 0 = some n := by
  induction n using Nat.strongRecOn with
  | _ n ih =>
    unfold grp
    split
    · next h =>
      have := val_dg ⟨n, h⟩ true
      simp only at this
      simp only [dig, rd_cons, rd_nil, this]
      simp
    · next h =>
      have hv := val_dg ⟨n % 16, by omega⟩ true
      simp only at hv
      simp only [ByteArray.data_append, Array.toList_append, rd_append, ih _ (show n / 16 < n by omega), dig, Option.bind_some, rd_cons, rd_nil, hv]
      rw [if_neg (by omega)]
      congr 1
      omega
theorem grp_size (n : Nat) : 1 ≤ (grp n).size ∧ ∀ k, n < 16 ^ (k + 1) → (grp n).size ≤ k + 1 := by
  induction n using Nat.strongRecOn with
  | _ n ih =>
    unfold grp
    split
    · exact ⟨by simp [dig, ByteArray.size], fun k _ => by simp [dig, ByteArray.size]⟩
    · next h =>
      have ih' := ih _ (show n / 16 < n by omega)
      rw [ByteArray.size_append]
      have hd : (dig (n % 16)).size = 1 := rfl
      refine ⟨by omega, fun k hk => ?_⟩
      cases k with
      | zero => simp at hk; omega
      | succ k =>
        have := ih'.2 k (by rw [Nat.pow_succ] at hk; omega)
        omega
theorem read_grp (n : Nat) (h : n < 65536) : read (grp n) = some n := by
  unfold read
  rw [if_neg (by have h1 := grp_size n; have := h1.2 3 (by simpa using h); omega)]
  exact rd_grp n
end Go.Proofs.YtkkmmpofdcccmaaGreatDoor.Hex
namespace Go.Proofs.YtkkmmpofdcccmaaGreatDoor.Hex
open E Go.RowKit
theorem tab_size : (⟨#[48, 49, 50, 51, 52, 53, 54, 55, 56, 57, 97, 98, 99, 100, 101, 102]⟩ : ByteArray).size = 16 := rfl
theorem tab_bt (n : Nat) (h : n < 16) : bt (⟨#[48, 49, 50, 51, 52, 53, 54, 55, 56, 57, 97, 98, 99, 100, 101, 102]⟩ : ByteArray) n = (dg n).toNat := by
  have : ∀ n : Fin 16, bt (⟨#[48, 49, 50, 51, 52, 53, 54, 55, 56, 57, 97, 98, 99, 100, 101, 102]⟩ : ByteArray) (n.1 : Int) = (dg n.1).toNat := by decide +kernel
  exact this ⟨n, h⟩
theorem value_eq (c : Nat) : hexes_value c = some (wr .u16 (idx c), decide (idx c ≥ 0)) := rfl
/-- One step of reading a digit, whoever reads. -/
theorem small_value (c : Nat) (hc : c < 256) : idx (small c) = val c true := idx_small ⟨c, hc⟩
theorem value_val (c : Nat) (hc : c < 256) : idx c = val c false := idx_val ⟨c, hc⟩
end Go.Proofs.YtkkmmpofdcccmaaGreatDoor.Hex
namespace Go.Proofs.YtkkmmpofdcccmaaGreatDoor.Hex
open E Go.RowKit
theorem small_eq (c : Nat) (hc : c < 256) : hexes_small c = some ((small c : Nat) : Int) := by
  unfold hexes_small small
  by_cases h1 : 65 ≤ c
  · by_cases h2 : c ≤ 70
    · rw [if_pos (by simp; omega), if_pos (by simp; omega), if_pos ⟨h1, h2⟩]
      rw [show (32 : Int) = ((32 : Nat) : Int) from rfl, ior_nat .u8 rfl c 32 hc (by decide)]
    · rw [if_pos (by simp; omega), if_neg (by simp; omega), if_neg (by omega)]
  · rw [if_neg (by simp; omega), if_neg (by omega)]
theorem enc_digit : ∀ n : Fin 16, Utf8.encode (bt (⟨#[48, 49, 50, 51, 52, 53, 54, 55, 56, 57, 97, 98, 99, 100, 101, 102]⟩ : ByteArray) (n.1 : Int)) = dig n.1 := by decide +kernel
theorem group_l0 (n : Nat) : ∀ o : ByteArray, n < 65536 → o.size + n ≤ 100000 → hexes_Group.l0 n o = some (gl n o) := by
  induction n using Nat.strongRecOn with
  | _ n ih =>
    intro o hn ho
    rw [hexes_Group.l0.eq_def]
    have e1 : iand .u16 (n : Int) 15 = ((n % 16 : Nat) : Int) := by
      rw [show (15 : Int) = ((15 : Nat) : Int) from rfl, iand_nat .u16 rfl n 15 hn (by decide), Nat.and_two_pow_sub_one_eq_mod n 4]
    have e2 : ishr .u16 (n : Int) 4 = ((n / 16 : Nat) : Int) := ishr_nat .u16 n 4 (by decide)
    have e3 := enc_digit ⟨n % 16, by omega⟩
    simp only at e3
    have hd : (dig (n % 16)).size = 1 := rfl
    simp only [e1, e2, e3, hd, tab_size]
    rw [if_pos (by omega), if_pos (by omega)]
    unfold gl
    by_cases h : n < 16
    · rw [if_pos (by simp; omega), if_pos h, Nat.mod_eq_of_lt h]
    · rw [if_neg (by simp; omega), if_neg h]
      exact ih _ (by omega) _ (by omega) (by rw [ByteArray.size_append, hd]; omega)
theorem group_eq (n : Nat) (h : n < 65536) : hexes_Group n = some (grp n) := by
  unfold hexes_Group
  have := group_l0 n ⟨#[]⟩ h (by show 0 + n ≤ _; omega)
  rw [this, bindM_some, gl_eq, show (⟨#[]⟩ : ByteArray) = ByteArray.empty from rfl, ByteArray.append_empty]
/-- Reading a number: from place i on, n being what was read. -/
theorem read_l0 (s : ByteArray) (hs : s.size ≤ 4) (f : Nat) : ∀ (i n : Nat), i + f = s.size → n < 16 ^ i →
    hexes_ReadGroup.l0 s n i = some (match rd (s.data.toList.drop i) n with | some m => .nx (m : Int) | none => .ret (0, 5)) := by
  induction f with
  | zero =>
    intro i n hi hn
    rw [hexes_ReadGroup.l0.eq_def, if_neg (by simp; omega), List.drop_eq_nil_of_le (by simp; omega), rd_nil]
  | succ f ih =>
    intro i n hi hn
    have hlt : i < s.size := by omega
    obtain ⟨c, hc⟩ : ∃ c, s.data.toList[i]? = some c := ⟨_, ba_get s i hlt⟩
    have hdrop : s.data.toList.drop i = c :: s.data.toList.drop (i + 1) := by
      have hl : i < s.data.toList.length := by simpa using hlt
      rw [List.drop_eq_getElem_cons hl]
      congr 1
      rw [List.getElem?_eq_getElem hl] at hc
      exact Option.some.inj hc
    have hb : bt s i = c.toNat := by rw [bt_nat, hc]; rfl
    have hcl := c.toNat_lt
    have hv1 : -1 ≤ val c.toNat true := (val_lt ⟨c.toNat, hcl⟩ true).1
    have hv2 : val c.toNat true < 16 := (val_lt ⟨c.toNat, hcl⟩ true).2
    have hpow : (16 : Nat) ^ i ≤ 16 ^ 3 := Nat.pow_le_pow_right (by decide) (by omega)
    have e0 : wr .i64 ((i : Int) + 1) = ((i + 1 : Nat) : Int) := by rw [wr_i64 (by omega) (by omega)]; omega
    rw [hexes_ReadGroup.l0.eq_def, if_pos (by simp; omega), if_pos (by omega), hb, small_eq _ hcl, hdrop, rd_cons]
    simp only [bindM_some, value_eq, small_value _ hcl, e0]
    by_cases hneg : val c.toNat true < 0
    · rw [if_pos (by simp; omega), if_pos hneg]
    · rw [if_neg (by simp; omega), if_neg hneg]
      obtain ⟨v, hv⟩ : ∃ v : Nat, val c.toNat true = v := ⟨(val c.toNat true).toNat, by omega⟩
      have e1 : wr .u16 (val c.toNat true) = (v : Int) := by rw [hv, wr_u16 (by omega) (by omega)]
      have e2 : ishl .u16 (n : Int) 4 = ((n * 16 : Nat) : Int) := by
        rw [show (4 : Int) = ((4 : Nat) : Int) from rfl, ishl_nat .u16 rfl n 4 (by decide)]
        rw [Nat.mod_eq_of_lt (by show n * 2 ^ 4 < 2 ^ 16; omega)]
      have e3 : ior .u16 ((n * 16 : Nat) : Int) (v : Int) = ((16 * n + v : Nat) : Int) := by
        rw [ior_nat .u16 rfl _ _ (by show n * 16 < 2 ^ 16; omega) (by show v < 2 ^ 16; omega)]
        rw [show n * 16 = n <<< 4 by rw [Nat.shiftLeft_eq], ← Nat.shiftLeft_add_eq_or_of_lt (by omega : v < 2 ^ 4), Nat.shiftLeft_eq]
        congr 1; omega
      rw [e1, e2, e3, ih (i + 1) (16 * n + v) (by omega) (by rw [Nat.pow_succ]; omega), hv]
      simp
theorem read_eq (s : ByteArray) : hexes_ReadGroup s = some (match read s with | some n => ((n : Int), 0) | none => (0, 5)) := by
  unfold hexes_ReadGroup read
  by_cases h1 : s.size < 1
  · rw [if_pos (by simp; omega), if_pos (.inl h1)]
  · by_cases h2 : s.size > 4
    · rw [if_neg (by simp; omega), if_pos (by simp; omega), if_pos (.inr h2)]
    · rw [if_neg (by simp; omega), if_neg (by simp; omega), if_neg (by omega)]
      have := read_l0 s (by omega) s.size 0 0 (by omega) (by simp)
      rw [show ((0 : Nat) : Int) = 0 from rfl, List.drop_zero] at this
      rw [this]
      simp only [bindM_some]
      cases rd s.data.toList 0 <;> rfl
theorem read_lt (s : ByteArray) (n : Nat) (h : read s = some n) : n < 65536 := by
  unfold read at h
  split at h
  · cases h
  · have := rd_lt _ _ _ h
    have hl : s.data.toList.length ≤ 4 := by simp; omega
    have : (16 : Nat) ^ s.data.toList.length ≤ 16 ^ 4 := Nat.pow_le_pow_right (by decide) hl
    omega
end Go.Proofs.YtkkmmpofdcccmaaGreatDoor.Hex
namespace Go.Proofs.YtkkmmpofdcccmaaGreatDoor.Hex
open E Go.RowKit
theorem digit_eq (n : Nat) (h : n < 16) : crawlwayref05_digit n = some (dig n) := by
  unfold crawlwayref05_digit
  rw [wr_i64 (by omega) (by omega), if_pos (by rw [tab_size]; omega)]
  rw [show ((n : Int) + 1).toNat = n + 1 by omega, Int.toNat_natCast]
  exact congrArg some (dig_extract n h)
end Go.Proofs.YtkkmmpofdcccmaaGreatDoor.Hex
namespace Go.Proofs.YtkkmmpofdcccmaaGreatDoor.Hex
open E Go.RowKit
theorem refGroup_eq (n : Nat) : n < 65536 → crawlwayref05_Group n = some (grp n) := by
  induction n using Nat.strongRecOn with
  | _ n ih =>
    intro h
    rw [crawlwayref05_Group.eq_def]
    unfold grp
    by_cases hn : n < 16
    · rw [if_pos (by simp; omega), if_pos hn, digit_eq n hn]; rfl
    · have e1 : wr .i64 (Int.tdiv (n : Int) 16) = ((n / 16 : Nat) : Int) := by
        rw [Int.tdiv_eq_ediv_of_nonneg (by omega), wr_i64 (by omega) (by omega)]; omega
      have e2 : Int.tmod (n : Int) 16 = ((n % 16 : Nat) : Int) := by rw [Int.tmod_eq_emod_of_nonneg (by omega)]; omega
      have hd : (dig (n % 16)).size = 1 := rfl
      have hs := (grp_size (n / 16)).2 3 (by omega)
      rw [if_neg (by simp; omega), if_neg hn, e1, ih _ (by omega) (by omega), e2]
      simp only [bindM_some, digit_eq (n % 16) (by omega), hd]
      rw [if_pos (by omega)]
end Go.Proofs.YtkkmmpofdcccmaaGreatDoor.Hex
namespace Go.Proofs.YtkkmmpofdcccmaaGreatDoor.Hex
open E Go.RowKit
def encL (l : List UInt8) : List UInt8 := l.flatMap fun b => [dg (b.toNat / 16), dg (b.toNat % 16)]
theorem encL_cons (b : UInt8) (l : List UInt8) : encL (b :: l) = dg (b.toNat / 16) :: dg (b.toNat % 16) :: encL l := rfl
theorem encL_length (l : List UInt8) : (encL l).length = 2 * l.length := by
  induction l with
  | nil => rfl
  | cons b l ih => rw [encL_cons]; simp; omega
def str (l : List UInt8) : ByteArray := ⟨l.toArray⟩
theorem str_size (l : List UInt8) : (str l).size = l.length := by simp [str, ByteArray.size]
theorem str_append (l k : List UInt8) : str (l ++ k) = str l ++ str k := by
  apply ByteArray.ext; simp [str, ByteArray.data_append]
theorem str_push (l : List UInt8) (b : UInt8) : (str l).push b = str (l ++ [b]) := by
  apply ByteArray.ext; simp [str, ByteArray.push]
theorem str_toList (s : ByteArray) : str s.data.toList = s := by cases s; rfl
theorem str_inj {l k : List UInt8} (h : str l = str k) : l = k := by
  have := congrArg (fun s : ByteArray => s.data.toList) h; simpa [str] using this
theorem tab_push (n : Nat) (h : n < 16) : UInt8.ofNat (Int.toNat (bt (⟨#[48, 49, 50, 51, 52, 53, 54, 55, 56, 57, 97, 98, 99, 100, 101, 102]⟩ : ByteArray) n)) = dg n := by
  rw [tab_bt n h, Int.toNat_natCast, UInt8.ofNat_toNat]
theorem encode_l0 (l : List UInt8) (hl : l.length < 1000000) (f : Nat) : ∀ (i : Nat) (o : List UInt8), i + f = l.length → o.length ≤ 2 * i →
    hexes_Encode.l0 (ob l) i (str o) = some (str (o ++ encL (l.drop i))) := by
  induction f with
  | zero =>
    intro i o hi ho
    have c1 : decide ((i : Int) < ((ob l).length : Int)) = false := by rw [ob_length]; simp; omega
    rw [hexes_Encode.l0.eq_def, List.drop_eq_nil_of_le (by omega)]
    simp only [c1, ↓reduceIte, Bool.false_eq_true, encL, List.flatMap_nil, List.append_nil]
  | succ f ih =>
    intro i o hi ho
    obtain ⟨b, hb, hd⟩ := drop_get l i (by omega)
    have hbl := b.toNat_lt
    have e1 := lget_ob l i b hb
    have c1 : decide ((i : Int) < ((ob l).length : Int)) = true := by rw [ob_length]; simp; omega
    have c2 : (0 : Int) ≤ (i : Int) ∧ (i : Int) < ((ob l).length : Int) := by rw [ob_length]; omega
    have e2 : ishr .u8 (b.toNat : Int) 4 = ((b.toNat / 16 : Nat) : Int) := ishr_nat .u8 b.toNat 4 (by decide)
    have e3 : iand .u8 (b.toNat : Int) 15 = ((b.toNat % 16 : Nat) : Int) := by
      rw [show (15 : Int) = ((15 : Nat) : Int) from rfl, iand_nat .u8 rfl b.toNat 15 hbl (by decide), Nat.and_two_pow_sub_one_eq_mod b.toNat 4]
    have e4 : wr .i64 ((i : Int) + 1) = ((i + 1 : Nat) : Int) := by rw [wr_i64 (by omega) (by omega)]; omega
    have t1 := tab_bt (b.toNat / 16) (by omega)
    have t2 := tab_bt (b.toNat % 16) (by omega)
    have p1 := tab_push (b.toNat / 16) (by omega)
    have p2 := tab_push (b.toNat % 16) (by omega)
    have d1 := (dg (b.toNat / 16)).toNat_lt
    have d2 := (dg (b.toNat % 16)).toNat_lt
    rw [hexes_Encode.l0.eq_def]
    simp only [c1, c2, e1, e2, e3, e4, p1, p2, ↓reduceIte, and_self, tab_size, str_push, str_size]
    rw [if_pos, if_pos, if_pos, if_pos, if_pos, if_pos, ih (i + 1) _ (by omega) (by simp; omega), hd, encL_cons]
    all_goals first | omega | (rw [t1]; omega) | (rw [t2]; omega) | (simp; omega) | simp
theorem encode_eq (l : List UInt8) (hl : l.length < 1000000) : hexes_Encode (ob l) = some (str (encL l)) := by
  unfold hexes_Encode
  have := encode_l0 l hl l.length 0 [] (by omega) (by simp)
  rw [show ((0 : Nat) : Int) = 0 from rfl, List.drop_zero, List.nil_append, show str [] = ByteArray.empty from rfl] at this
  rw [this, bindM_some]
theorem dig_str (n : Nat) : dig n = str [dg n] := rfl
theorem refEncode_l0 (l : List UInt8) (hl : l.length < 1000000) (f : Nat) : ∀ (i : Nat) (o : List UInt8), i + f = l.length → o.length ≤ 2 * i →
    crawlwayref05_Encode.l0 (ob l) (str o) i = some (str (o ++ encL (l.drop i))) := by
  induction f with
  | zero =>
    intro i o hi ho
    have c1 : decide ((i : Int) < ((ob l).length : Int)) = false := by rw [ob_length]; simp; omega
    rw [crawlwayref05_Encode.l0.eq_def, List.drop_eq_nil_of_le (by omega)]
    simp only [c1, ↓reduceIte, Bool.false_eq_true, encL, List.flatMap_nil, List.append_nil]
  | succ f ih =>
    intro i o hi ho
    obtain ⟨b, hb, hd⟩ := drop_get l i (by omega)
    have hbl := b.toNat_lt
    have e1 := lget_ob l i b hb
    have c1 : decide ((i : Int) < ((ob l).length : Int)) = true := by rw [ob_length]; simp; omega
    have c2 : (0 : Int) ≤ (i : Int) ∧ (i : Int) < ((ob l).length : Int) := by rw [ob_length]; omega
    have e2 : wr .i64 (b.toNat : Int) = (b.toNat : Int) := wr_i64 (by omega) (by omega)
    have e3 : wr .i64 (Int.tdiv (b.toNat : Int) 16) = ((b.toNat / 16 : Nat) : Int) := by
      rw [Int.tdiv_eq_ediv_of_nonneg (by omega), wr_i64 (by omega) (by omega)]; omega
    have e5 : Int.tmod (b.toNat : Int) 16 = ((b.toNat % 16 : Nat) : Int) := by rw [Int.tmod_eq_emod_of_nonneg (by omega)]; omega
    have e4 : wr .i64 ((i : Int) + 1) = ((i + 1 : Nat) : Int) := by rw [wr_i64 (by omega) (by omega)]; omega
    rw [crawlwayref05_Encode.l0.eq_def]
    simp only [c1, c2, e1, e2, e3, e4, e5, ↓reduceIte, and_self, digit_eq (b.toNat / 16) (by omega), digit_eq (b.toNat % 16) (by omega), bindM_some, dig_str, ← str_append, str_size]
    rw [if_pos, if_pos, ih (i + 1) _ (by omega) (by simp; omega), hd, encL_cons]
    all_goals first | omega | (simp; omega) | simp
theorem refEncode_eq (l : List UInt8) (hl : l.length < 1000000) : crawlwayref05_Encode (ob l) = some (str (encL l)) := by
  unfold crawlwayref05_Encode
  have := refEncode_l0 l hl l.length 0 [] (by omega) (by simp)
  rw [show ((0 : Nat) : Int) = 0 from rfl, List.drop_zero, List.nil_append, show str [] = (⟨#[]⟩ : ByteArray) from rfl] at this
  rw [this, bindM_some]
/-- The bytes of a text of an even number of signs. -/
def decL : List UInt8 → Option (List UInt8)
  | a :: b :: l => if val a.toNat false < 0 ∨ val b.toNat false < 0 then none else (decL l).map fun k => UInt8.ofNat (16 * (val a.toNat false).toNat + (val b.toNat false).toNat) :: k
  | _ => some []
theorem decL_nil : decL [] = some [] := rfl
theorem decL_cons (a b : UInt8) (l : List UInt8) : decL (a :: b :: l) = if val a.toNat false < 0 ∨ val b.toNat false < 0 then none else (decL l).map fun k => UInt8.ofNat (16 * (val a.toNat false).toNat + (val b.toNat false).toNat) :: k := rfl
theorem decode_l0 (s : ByteArray) (hs : s.size < 1000000) (f : Nat) : ∀ (i : Nat) (o : List UInt8), i + 2 * f = s.size → o.length ≤ i →
    hexes_Decode.l0 s (ob o) i = some (match decL (s.data.toList.drop i) with | some k => .nx (ob (o ++ k)) | none => .ret ([], 5)) := by
  induction f with
  | zero =>
    intro i o hi ho
    have c1 : decide ((i : Int) < (s.size : Int)) = false := by simp; omega
    rw [hexes_Decode.l0.eq_def, List.drop_eq_nil_of_le (by simp; omega)]
    simp only [c1, ↓reduceIte, Bool.false_eq_true, decL_nil, List.append_nil]
  | succ f ih =>
    intro i o hi ho
    obtain ⟨a, ha, hda⟩ := drop_get s.data.toList i (by simp; omega)
    obtain ⟨b, hb, hdb⟩ := drop_get s.data.toList (i + 1) (by simp; omega)
    have hal := a.toNat_lt
    have hbl := b.toNat_lt
    have ea : bt s i = a.toNat := by rw [bt_nat, ha]; rfl
    have e4 : wr .i64 ((i : Int) + 1) = ((i + 1 : Nat) : Int) := by rw [wr_i64 (by omega) (by omega)]; omega
    have e5 : wr .i64 ((i : Int) + 2) = ((i + 2 : Nat) : Int) := by rw [wr_i64 (by omega) (by omega)]; omega
    have eb : bt s ((i + 1 : Nat) : Int) = b.toNat := by rw [bt_nat, hb]; rfl
    have c1 : decide ((i : Int) < (s.size : Int)) = true := by simp; omega
    have c2 : (0 : Int) ≤ (i : Int) ∧ (i : Int) < (s.size : Int) := by omega
    have c3 : (0 : Int) ≤ ((i + 1 : Nat) : Int) ∧ ((i + 1 : Nat) : Int) < (s.size : Int) := by omega
    have va1 : -1 ≤ val a.toNat false := (val_lt ⟨a.toNat, hal⟩ false).1
    have va2 : val a.toNat false < 16 := (val_lt ⟨a.toNat, hal⟩ false).2
    have vb1 : -1 ≤ val b.toNat false := (val_lt ⟨b.toNat, hbl⟩ false).1
    have vb2 : val b.toNat false < 16 := (val_lt ⟨b.toNat, hbl⟩ false).2
    rw [hexes_Decode.l0.eq_def, hda, hdb, decL_cons]
    simp only [c1, c2, c3, ea, e4, e5, eb, value_eq, value_val _ hal, value_val _ hbl, ↓reduceIte, and_self, bindM_some, decide_true]
    by_cases h1 : val a.toNat false < 0
    · have g1 : (!decide (val a.toNat false ≥ 0)) = true := by simp; omega
      simp only [g1, ↓reduceIte, h1, true_or]
    · by_cases h2 : val b.toNat false < 0
      · have g1 : (!decide (val a.toNat false ≥ 0)) = false := by simp; omega
        have g2 : (!decide (val b.toNat false ≥ 0)) = true := by simp; omega
        simp only [g1, g2, ↓reduceIte, h2, or_true, Bool.false_eq_true]
      · have g1 : (!decide (val a.toNat false ≥ 0)) = false := by simp; omega
        have g2 : (!decide (val b.toNat false ≥ 0)) = false := by simp; omega
        obtain ⟨u, hu⟩ : ∃ u : Nat, val a.toNat false = u := ⟨(val a.toNat false).toNat, by omega⟩
        obtain ⟨v, hv⟩ : ∃ v : Nat, val b.toNat false = v := ⟨(val b.toNat false).toNat, by omega⟩
        rw [hu] at va2
        rw [hv] at vb2
        have m1 : wr .u16 (u : Int) = u := wr_u16 (by omega) (by omega)
        have m2 : wr .u16 (v : Int) = v := wr_u16 (by omega) (by omega)
        have m3 : ishl .u16 (u : Int) 4 = ((u * 16 : Nat) : Int) := by
          rw [show (4 : Int) = ((4 : Nat) : Int) from rfl, ishl_nat .u16 rfl u 4 (by decide), Nat.mod_eq_of_lt (by show u * 2 ^ 4 < 2 ^ 16; omega)]
        have m4 : ior .u16 ((u * 16 : Nat) : Int) (v : Int) = ((16 * u + v : Nat) : Int) := by
          rw [ior_nat .u16 rfl _ _ (by show u * 16 < 2 ^ 16; omega) (by show v < 2 ^ 16; omega)]
          rw [show u * 16 = u <<< 4 by rw [Nat.shiftLeft_eq], ← Nat.shiftLeft_add_eq_or_of_lt (by omega : v < 2 ^ 4), Nat.shiftLeft_eq]
          congr 1; omega
        have m5 : wr .u8 ((16 * u + v : Nat) : Int) = ((16 * u + v : Nat) : Int) := wr_u8 (by omega) (by omega)
        have hob : ob o ++ [((16 * u + v : Nat) : Int)] = ob (o ++ [UInt8.ofNat (16 * u + v)]) := by
          rw [ob_append]; congr 1
          simp only [ob, List.map_cons, List.map_nil, UInt8.toNat_ofNat']
          rw [Nat.mod_eq_of_lt (by omega)]
        have hg1 : ¬ ((u : Int) < 0 ∨ (v : Int) < 0) := by omega
        simp only [g1, g2, hu, hv, m1, m2, m3, m4, m5, ↓reduceIte, Bool.false_eq_true, ob_length, hob, hg1, Int.toNat_natCast]
        simp only [hu, hv] at g1 g2
        simp only [g1, g2, ↓reduceIte, Bool.false_eq_true]
        rw [if_pos (by omega), ih (i + 2) _ (by omega) (by simp; omega)]
        cases decL (s.data.toList.drop (i + 1 + 1)) with
        | none => rfl
        | some k => simp
def dec (s : ByteArray) : Option (List UInt8) := if s.size % 2 ≠ 0 then none else decL s.data.toList
theorem odd_c (n : Nat) : (Int.tmod (n : Int) 2 != 0) = decide (n % 2 ≠ 0) := by
  rw [Int.tmod_eq_emod_of_nonneg (by omega)]
  by_cases h : n % 2 = 0
  · have : ((n : Int) % 2) = 0 := by omega
    simp [h, this]
  · have : ((n : Int) % 2) = 1 := by omega
    simp [this]; omega
theorem decode_eq (s : ByteArray) (hs : s.size < 1000000) : hexes_Decode s = some (match dec s with | some k => (ob k, 0) | none => ([], 5)) := by
  unfold hexes_Decode dec
  rw [odd_c]
  by_cases h : s.size % 2 = 0
  · have := decode_l0 s hs (s.size / 2) 0 [] (by omega) (by simp)
    rw [show ((0 : Nat) : Int) = 0 from rfl, List.drop_zero, show ob [] = ([] : List Int) from rfl] at this
    simp only [h, ne_eq, not_true_eq_false, decide_false, ↓reduceIte, Bool.false_eq_true, this, bindM_some, List.nil_append]
    cases decL s.data.toList <;> rfl
  · simp [h]
theorem decL_encL (l : List UInt8) : decL (encL l) = some l := by
  induction l with
  | nil => rfl
  | cons b l ih =>
    have hb := b.toNat_lt
    have h1 := val_dg ⟨b.toNat / 16, by omega⟩ false
    have h2 := val_dg ⟨b.toNat % 16, by omega⟩ false
    simp only at h1 h2
    rw [encL_cons, decL_cons, ih, h1, h2, if_neg (by omega)]
    simp only [Option.map_some, Int.toNat_natCast]
    rw [show 16 * (b.toNat / 16) + b.toNat % 16 = b.toNat by omega, UInt8.ofNat_toNat]
theorem dec_enc (l : List UInt8) : dec (str (encL l)) = some l := by
  unfold dec
  rw [if_neg (by rw [str_size, encL_length]; omega)]
  exact decL_encL l
end Go.Proofs.YtkkmmpofdcccmaaGreatDoor.Hex
namespace Go.Proofs.YtkkmmpofdcccmaaGreatDoor.Key
open E Go.RowKit
open Hex (str str_size str_append str_push str_toList str_inj)
theorem vget_nat {m : Nat} (v : Vector Int m) (i : Nat) (h : i < m) : vget v (i : Int) = v[i] := by
  unfold vget; rw [Int.toNat_natCast]; simp [List.getD_eq_getElem?_getD, h]
def IsB {m : Nat} (v : Vector Int m) : Prop := ∀ n ∈ v.toList, (Lit.int .u8 n).wf = true
theorem IsB.ob {m : Nat} {v : Vector Int m} (h : IsB v) : ∃ l : List UInt8, v.toList = ob l ∧ l.length = m := by
  obtain ⟨l, hl⟩ := exists_ob v.toList h
  refine ⟨l, hl, ?_⟩
  have := congrArg List.length hl
  rw [ob_length, Vector.length_toList] at this
  exact this.symm
theorem IsB.get {m : Nat} {v : Vector Int m} (h : IsB v) (i : Nat) (hi : i < m) : ∃ b : Fin 256, vget v (i : Int) = (b.1 : Int) := by
  have := wf_u8 (h (v[i]) (by simp))
  rw [vget_nat v i hi]
  exact ⟨⟨v[i].toNat, by omega⟩, by simp only; omega⟩
theorem unb_ob (l : List UInt8) : unb (ob l) = l := by
  unfold unb ob
  rw [List.map_map]
  conv => rhs; rw [← List.map_id l]
  apply List.map_congr_left
  intro b _
  simp [Function.comp]
end Go.Proofs.YtkkmmpofdcccmaaGreatDoor.Key
namespace Go.Proofs.YtkkmmpofdcccmaaGreatDoor.Key
open E Go.RowKit
open Hex (str str_size str_append str_push str_toList str_inj)
abbrev zk : Vector Int 32 := (Vector.replicate 32 (0 : Int) : Vector Int 32)
theorem lvec_vec (v : Vector Int 32) : lvec 32 v.toList = v := by
  rw [← Vector.toList_inj, lvec_toList _ _ (by simp), List.take_of_length_le (by simp)]
def ofR (xs : List Int) : Vector Int 32 × Int := if xs.length < 32 then (zk, 3) else if xs.length > 32 then (zk, 4) else (lvec 32 xs, 0)
theorem keysOf_eq (xs : List Int) : keys_Of xs = some (ofR xs) := by
  unfold keys_Of ofR
  by_cases h1 : xs.length < 32
  · rw [if_pos (decide_eq_true (by omega)), if_pos h1]
  · by_cases h2 : xs.length > 32
    · rw [if_neg (by simp; omega), if_pos (decide_eq_true (by omega)), if_neg h1, if_pos h2]
    · rw [if_neg (by simp; omega), if_neg (by simp; omega), if_pos (by omega), if_neg h1, if_neg h2]
theorem bytes_l0 (v : Vector Int 32) (f : Nat) : ∀ i : Nat, i + f = 32 → crawlwayref07_Bytes.l0 v (v.toList.take i) i = some v.toList := by
  induction f with
  | zero =>
    intro i hi
    obtain rfl : i = 32 := by omega
    rw [crawlwayref07_Bytes.l0.eq_def, if_neg (by decide), List.take_of_length_le (by simp)]
  | succ f ih =>
    intro i hi
    have e1 : wr .i64 ((i : Int) + 1) = ((i + 1 : Nat) : Int) := by rw [wr_i64 (by omega) (by omega)]; omega
    have e2 : v.toList.take i ++ [vget v (i : Int)] = v.toList.take (i + 1) := by
      rw [vget_nat v i (by omega), List.take_add_one]
      simp [show i < 32 by omega]
    rw [crawlwayref07_Bytes.l0.eq_def, if_pos (decide_eq_true (by omega)), if_pos (by omega), if_pos (by simp; omega), e1, e2, ih (i + 1) (by omega)]
theorem bytes_eq (v : Vector Int 32) : crawlwayref07_Bytes v = some v.toList := by
  unfold crawlwayref07_Bytes
  have := bytes_l0 v 32 0 rfl
  rw [show ((0 : Nat) : Int) = 0 from rfl, List.take_zero] at this
  rw [this, bindM_some]
def par (D : List Int × Int) : Vector Int 32 × Int := if D.2 ≠ 0 then (zk, D.2) else ofR D.1
theorem parse_of (D : List Int × Int) (hO : ∀ xs, keys_Of xs = some (ofR xs)) : (if (D.2 != 0) = true then (some (zk, D.2)) else (keys_Of D.1 >>= fun t6 => some (t6.1, t6.2))) = some (par D) := by
  unfold par
  by_cases h : D.2 = 0
  · rw [if_neg (by simp [h]), if_neg (by simp [h]), keysOf_eq, bindM_some]
  · rw [if_pos (by simpa using h), if_pos h]
theorem ofR_vec (v : Vector Int 32) : ofR v.toList = (v, 0) := by
  unfold ofR
  rw [if_neg (by simp), if_neg (by simp), lvec_vec]
end Go.Proofs.YtkkmmpofdcccmaaGreatDoor.Key
namespace Go.Proofs.YtkkmmpofdcccmaaGreatDoor.Fld
open E Go.RowKit
def NL : List ByteArray := Vector.toList gval_field_names
theorem names_ref : crawlwayref37_Names = some NL := rfl
theorem NL_len : NL.length = 17 := by unfold NL; simp
def fw (s : ByteArray) : List ByteArray → Int → Int
  | [], _ => -1
  | a :: r, i => if s = a then i else fw s r (i + 1)
def fr (s : ByteArray) : List ByteArray → Int → Int
  | [], _ => 0
  | a :: r, i => if s = a then i else fr s r (i + 1)
theorem fw_cons (s a : ByteArray) (r : List ByteArray) (i : Int) : fw s (a :: r) i = if s = a then i else fw s r (i + 1) := rfl
theorem fw_fr (s : ByteArray) : ∀ (l : List ByteArray) (i : Int), 0 ≤ i → (if fw s l i < 0 then 0 else fw s l i) = fr s l i
  | [], i, _ => rfl
  | a :: r, i, h => by
    unfold fw fr
    by_cases hs : s = a
    · rw [if_pos hs, if_pos hs, if_neg (by omega)]
    · rw [if_neg hs, if_neg hs]; exact fw_fr s r (i + 1) (by omega)
theorem lget_at (l : List ByteArray) (i : Nat) (h : i < l.length) : lget l (i : Int) = l[i] := by
  unfold lget
  rw [Int.toNat_natCast, List.getD_eq_getElem?_getD, List.getElem?_eq_getElem h]; rfl
theorem drop_at (l : List ByteArray) (i : Nat) (h : i < l.length) : l.drop i = lget l (i : Int) :: l.drop (i + 1) := by
  rw [lget_at l i h]; exact List.drop_eq_getElem_cons h
theorem seq_dec (a b : ByteArray) : seq a b = decide (a = b) := by rw [Bool.eq_iff_iff, seq_iff, decide_eq_true_eq]
theorem index_l0 (l : List ByteArray) (hl : l.length < 1000) (s : ByteArray) : ∀ (k i : Nat), i + k = l.length → slices_Index_string.l0 l s (i : Int) = some (if fw s (l.drop i) i < 0 then .nx () else .ret (fw s (l.drop i) i))
  | 0, i, h => by
    rw [slices_Index_string.l0.eq_def, decide_eq_false (by omega), if_neg Bool.false_ne_true, List.drop_eq_nil_of_le (by omega)]; rfl
  | k + 1, i, h => by
    have ih := index_l0 l hl s k (i + 1) (by omega)
    rw [slices_Index_string.l0.eq_def, decide_eq_true (by omega : (i : Int) < (l.length : Int)), if_pos rfl, if_pos (by omega), drop_at l i (by omega), seq_dec, wr_i64 (by omega) (by omega), show ((i : Int) + 1) = ((i + 1 : Nat) : Int) by omega, ih, fw_cons]
    by_cases hs : s = lget l (i : Int)
    · rw [if_pos (decide_eq_true hs), if_pos hs, if_neg (by omega)]
    · rw [if_neg (by rw [decide_eq_true_eq]; exact hs), if_neg hs]
      rw [show ((i + 1 : Nat) : Int) = (i : Int) + 1 by omega]
theorem word_code (s : ByteArray) : field_Word s = some (fr s NL 0) := by
  have h := index_l0 NL (by rw [NL_len]; omega) s NL.length 0 (by omega)
  rw [List.drop_zero, show ((0 : Nat) : Int) = 0 from rfl] at h
  unfold field_Word slices_Index_string
  show ((slices_Index_string.l0 NL s 0 >>= fun q1 => match q1 with | .ret r' => some r' | .nx sq1 => (some (-1))) >>= fun t1 => some (if t1 < 0 then 0 else t1)) = _
  rw [h, bindM_some, ← fw_fr s NL 0 (by omega)]
  by_cases h0 : fw s NL 0 < 0
  · rw [if_pos h0, if_pos h0]; rfl
  · rw [if_neg h0, if_neg h0]
    show some (if fw s NL 0 < 0 then 0 else fw s NL 0) = _
    rw [if_neg h0]
theorem name_in (n : Nat) (h1 : 1 ≤ n) (h2 : n ≤ 16) : field_Name (n : Int) = some (lget NL (n : Int)) := by
  unfold field_Name
  rw [if_neg (by rw [decide_eq_true_eq]; omega), if_neg (by rw [decide_eq_true_eq]; omega), if_pos (by omega)]; rfl
theorem name_out (x : Int) (h : ¬ (1 ≤ x ∧ x ≤ 16)) : field_Name x = some ⟨#[]⟩ := by
  unfold field_Name
  by_cases h1 : x < 1
  · rw [if_pos (decide_eq_true h1)]
  · rw [if_neg (by rw [decide_eq_true_eq]; exact h1), if_pos (decide_eq_true (by omega))]
theorem back_fin : ∀ n : Fin 17, 1 ≤ n.1 → fr (lget NL (n.1 : Int)) NL 0 = (n.1 : Int) := by decide +kernel
end Go.Proofs.YtkkmmpofdcccmaaGreatDoor.Fld
namespace Go.Proofs.YtkkmmpofdcccmaaGreatDoor.Adr
open E Go.RowKit
def vb (l : List UInt8) : Vector Int 16 := lvec 16 (ob l)
theorem vb_toList {l : List UInt8} (h : l.length = 16) : (vb l).toList = ob l := by
  unfold vb
  rw [lvec_toList 16 (ob l) (by rw [ob_length]; omega), List.take_of_length_le (by rw [ob_length]; omega)]
theorem vb_of {v : Vector Int 16} {l : List UInt8} (h : v.toList = ob l) : v = vb l := by
  have hl : l.length = 16 := by have := congrArg List.length h; rw [ob_length] at this; simpa using this.symm
  apply Vector.toList_inj.1
  rw [vb_toList hl, h]
theorem vb_inj {l k : List UInt8} (hl : l.length = 16) (hk : k.length = 16) : vb l = vb k ↔ l = k := by
  constructor
  · intro h
    have := congrArg Vector.toList h
    rw [vb_toList hl, vb_toList hk] at this
    exact ob_inj this
  · intro h; rw [h]
def mkA (V : Int) (l : List UInt8) : S_api_Addr := { f_V := V, f_B := vb l }
theorem exists_mkA (a : S_api_Addr) (h : ok_api_Addr a) : ∃ V l, a = mkA V l ∧ l.length = 16 ∧ (Lit.int .i64 V).wf = true := by
  obtain ⟨l, hl⟩ := exists_ob a.f_B.toList h.2
  have hlen : l.length = 16 := by have := congrArg List.length hl; rw [ob_length] at this; simpa using this.symm
  refine ⟨a.f_V, l, ?_, hlen, h.1⟩
  cases a with | mk V B =>
  show S_api_Addr.mk V B = S_api_Addr.mk V (vb l)
  have hB : B = vb l := vb_of hl
  rw [hB]
theorem mkA_inj {V W : Int} {l k : List UInt8} (hl : l.length = 16) (hk : k.length = 16) : mkA V l = mkA W k ↔ V = W ∧ l = k := by
  unfold mkA
  rw [S_api_Addr.mk.injEq, vb_inj hl hk]
def bg (l : List UInt8) (i : Nat) : Nat := (l.getD i 0).toNat
theorem bg_lt (l : List UInt8) (i : Nat) : bg l i < 256 := (l.getD i 0).toNat_lt
theorem bg_get {l : List UInt8} {i : Nat} {c : UInt8} (h : l[i]? = some c) : bg l i = c.toNat := by
  unfold bg; rw [List.getD_eq_getElem?_getD, h]; rfl
theorem vget_vb {l : List UInt8} (hl : l.length = 16) (i : Nat) (hi : i < 16) : vget (vb l) (i : Int) = (bg l i : Int) := by
  unfold vget
  rw [vb_toList hl, Int.toNat_natCast]
  have hc : l[i]? = some l[i] := List.getElem?_eq_getElem (by omega)
  rw [bg_get hc, List.getD_eq_getElem?_getD]
  unfold ob
  rw [List.getElem?_map, hc]; rfl
theorem vset_vb {l : List UInt8} (hl : l.length = 16) (i : Nat) (c : UInt8) : vset (vb l) (i : Int) (c.toNat : Int) = vb (l.set i c) := by
  apply Vector.toList_inj.1
  rw [vset_toList, vb_toList hl, vb_toList (by simpa using hl), Int.toNat_natCast]
  unfold ob
  rw [List.map_set]
theorem zero_vb : (Vector.replicate 16 (0 : Int) : Vector Int 16) = vb (List.replicate 16 0) := by
  apply vb_of
  rfl
theorem zero_mkA : ({ f_V := (0 : Int), f_B := (Vector.replicate 16 (0 : Int) : (Vector Int 16)) } : S_api_Addr) = mkA 0 (List.replicate 16 0) := by
  unfold mkA; rw [zero_vb]
theorem ob_take (l : List UInt8) (n : Nat) : (ob l).take n = ob (l.take n) := by unfold ob; rw [List.map_take]
theorem lsub_ob (l : List UInt8) (n : Nat) : lsub (ob l) 0 (n : Int) = ob (l.take n) := by
  unfold lsub
  rw [Int.toNat_natCast, show (0 : Int).toNat = 0 from rfl, List.drop_zero, ob_take]
def fourL (m : List UInt8) : List UInt8 := m ++ List.replicate 12 0
theorem fourL_len {m : List UInt8} (h : m.length = 4) : (fourL m).length = 16 := by simp [fourL, h]
theorem four_eq (v : Vector Int 4) (m : List UInt8) (h : v.toList = ob m) : addr_Four v = some (mkA 4 (fourL m)) := by
  have hm : m.length = 4 := by have := congrArg List.length h; rw [ob_length] at this; simpa using this.symm
  unfold addr_Four mkA
  refine congrArg some ?_
  show S_api_Addr.mk 4 _ = S_api_Addr.mk 4 _
  congr 1
  apply vb_of
  show (vcopy (Vector.replicate 16 (0 : Int)) (Int.toNat 0) (List.take (Int.toNat (16 - 0)) v.toList)).toList = _
  rw [h, show Int.toNat (16 - 0) = 16 from rfl, List.take_of_length_le (by rw [ob_length]; omega), show Int.toNat 0 = 0 from rfl, vcopy_toList _ _ _ (by rw [ob_length]; omega)]
  rw [List.take_zero, List.nil_append, Nat.zero_add, ob_length, hm]
  unfold fourL
  rw [ob_append]; rfl
theorem take4 {l : List UInt8} (hl : l.length = 16) : (lvec 4 (lsub (vb l).toList 0 4)).toList = ob (l.take 4) := by
  have e : lsub (vb l).toList 0 4 = ob (l.take 4) := by rw [vb_toList hl]; exact lsub_ob l 4
  rw [e, lvec_toList 4 _ (by rw [ob_length]; simp; omega), List.take_of_length_le (by rw [ob_length]; simp; omega)]
theorem take4_len {l : List UInt8} (hl : l.length = 16) : 4 ≤ (lsub (vb l).toList 0 4).length := by
  have e : lsub (vb l).toList 0 4 = ob (l.take 4) := by rw [vb_toList hl]; exact lsub_ob l 4
  rw [e, ob_length]; simp; omega
def low (l : List UInt8) : Bool := (l.drop 4).all (· == 0)
def rightL (V : Int) (l : List UInt8) : Bool := V == 6 || (V == 4 && low l)
theorem all_zero : ∀ (k : List UInt8), k.all (· == 0) = true ↔ k = List.replicate k.length 0
  | [] => by simp
  | c :: r => by
    rw [List.all_cons, Bool.and_eq_true, all_zero r, List.length_cons, List.replicate_succ, List.cons.injEq, beq_iff_eq]
theorem low_iff {l : List UInt8} (hl : l.length = 16) : low l = true ↔ l = fourL (l.take 4) := by
  unfold low fourL
  rw [all_zero]
  have h12 : (l.drop 4).length = 12 := by simp; omega
  rw [h12]
  constructor
  · intro h
    rw [← h]; exact (List.take_append_drop 4 l).symm
  · intro h
    have h1 : l.drop 4 = (l.take 4 ++ List.replicate 12 0).drop 4 := congrArg (List.drop 4) h
    rw [h1]
    exact List.drop_left' (by simp; omega)
theorem right_code {V : Int} {l : List UInt8} (hl : l.length = 16) : addr_Right (mkA V l) = some (rightL V l) := by
  unfold addr_Right rightL
  show (if (V == 6) = true then some true else (if (V == 4) = true then (if 4 ≤ (lsub (vb l).toList 0 4).length then addr_Four (lvec 4 (lsub (vb l).toList 0 4)) >>= fun t8 => some (decide (mkA V l = t8)) else none) else some false)) = _
  cases h6 : (V == 6)
  · cases h4 : (V == 4)
    · rfl
    · have hV : V = 4 := by simpa using h4
      rw [if_neg Bool.false_ne_true, if_pos rfl, if_pos (take4_len hl), four_eq _ _ (take4 hl), bindM_some]
      congr 1
      rw [Bool.false_or, Bool.true_and, Bool.eq_iff_iff, decide_eq_true_eq, mkA_inj hl (fourL_len (by simp; omega)), low_iff hl]
      exact ⟨fun h => h.2, fun h => ⟨hV, h⟩⟩
  · rfl
theorem right_loop {V : Int} {l : List UInt8} (hl : l.length = 16) : ∀ (k i : Nat), i + k = 16 → crawlwayref10_Right.l0 (mkA V l) (i : Int) = some (if (l.drop i).all (· == 0) = true then .nx () else .ret false) := by
  intro k
  induction k with
  | zero =>
    intro i hi
    have hz : decide ((i : Int) < 16) = false := decide_eq_false (by omega)
    rw [crawlwayref10_Right.l0.eq_def, hz, List.drop_eq_nil_of_le (by omega)]; rfl
  | succ k ih =>
    intro i hi
    have hz : decide ((i : Int) < 16) = true := decide_eq_true (by omega)
    obtain ⟨c, hc, hd⟩ := drop_get l i (by omega)
    have hg : (0 : Int) ≤ (i : Int) ∧ (i : Int) < 16 := by omega
    rw [crawlwayref10_Right.l0.eq_def, hz, if_pos rfl, if_pos hg, hd, List.all_cons]
    show (if (vget (vb l) (i : Int) != 0) = true then _ else _) = _
    rw [vget_vb hl i (by omega), bg_get hc]
    by_cases h0 : c = 0
    · subst h0
      have e1 : (((0 : UInt8).toNat : Int) != 0) = false := rfl
      rw [e1, if_neg Bool.false_ne_true, wr_i64 (by omega) (by omega), show ((i : Int) + 1) = ((i + 1 : Nat) : Int) by omega, ih (i + 1) (by omega)]
      rw [show ((0 : UInt8) == 0) = true from rfl, Bool.true_and]
    · have hne : c.toNat ≠ 0 := fun e => h0 (UInt8.toNat.inj e)
      have e1 : ((c.toNat : Int) != 0) = true := by rw [bne_iff_ne]; omega
      have e2 : (c == 0) = false := by rw [beq_eq_false_iff_ne]; exact h0
      rw [e1, if_pos rfl, e2, Bool.false_and]; rfl
theorem right_ref {V : Int} {l : List UInt8} (hl : l.length = 16) : crawlwayref10_Right (mkA V l) = some (rightL V l) := by
  unfold crawlwayref10_Right rightL
  have h := right_loop (V := V) hl 12 4 rfl
  rw [show ((4 : Nat) : Int) = 4 from rfl] at h
  rw [h]
  show (if (V == 6) = true then some true else _) = _
  cases h6 : (V == 6)
  · rw [if_neg Bool.false_ne_true, bindM_some]
    unfold low
    by_cases hz : (l.drop 4).all (· == 0) = true
    · rw [if_pos hz, hz]
      show some (V == 4) = _
      rw [Bool.false_or, Bool.and_true]
    · rw [if_neg hz]
      have : (l.drop 4).all (· == 0) = false := by simpa using hz
      rw [this, Bool.and_false]; rfl
  · rfl
def widthL (V : Int) (l : List UInt8) : Nat := if rightL V l = true then (if V = 4 then 32 else 128) else 0
theorem width_code {V : Int} {l : List UInt8} (hl : l.length = 16) : addr_Width (mkA V l) = some ((widthL V l : Nat) : Int) := by
  unfold addr_Width widthL
  rw [right_code hl, bindM_some]
  cases rightL V l
  · rfl
  · show (if (V == 4) = true then some (32 : Int) else some 128) = _
    by_cases h : V = 4
    · rw [if_pos (by simpa using h), if_pos rfl, if_pos h]; rfl
    · rw [if_neg (by simpa using h), if_pos rfl, if_neg h]; rfl
theorem right_cases {V : Int} {l : List UInt8} (h : rightL V l = true) : V = 6 ∨ (V = 4 ∧ low l = true) := by
  unfold rightL at h
  rw [Bool.or_eq_true, Bool.and_eq_true, beq_iff_eq, beq_iff_eq] at h
  exact h
theorem width_le {V : Int} {l : List UInt8} : widthL V l ≤ 128 := by
  unfold widthL; split <;> (try split) <;> omega
end Go.Proofs.YtkkmmpofdcccmaaGreatDoor.Adr
namespace Go.Proofs.YtkkmmpofdcccmaaGreatDoor.Adr
open E Go.RowKit
theorem width_ref {V : Int} {l : List UInt8} (hl : l.length = 16) : crawlwayref10_Width (mkA V l) = some ((widthL V l : Nat) : Int) := by
  unfold crawlwayref10_Width widthL
  rw [right_ref hl, bindM_some]
  cases rightL V l
  · rfl
  · show (if (V == 4) = true then some (32 : Int) else some 128) = _
    by_cases h : V = 4
    · rw [if_pos (by simpa using h), if_pos rfl, if_pos h]; rfl
    · rw [if_neg (by simpa using h), if_pos rfl, if_neg h]; rfl
def mb (b : UInt8) (k : Nat) : UInt8 := UInt8.ofNat (b.toNat - b.toNat % 2 ^ (8 - k))
theorem mb_fin : ∀ (b : Fin 256) (k : Fin 9), iand .u8 ((b.val : Nat) : Int) (ishl .u8 255 ((8 - k.val : Nat) : Int)) = ((b.val - b.val % 2 ^ (8 - k.val) : Nat) : Int) := by decide +kernel
theorem mb_toNat (b : UInt8) (k : Nat) : (mb b k).toNat = b.toNat - b.toNat % 2 ^ (8 - k) := by
  unfold mb
  have := b.toNat_lt
  rw [UInt8.toNat_ofNat', Nat.mod_eq_of_lt (by omega)]
theorem mb_code (b : UInt8) (k : Nat) (hk : k ≤ 8) : iand .u8 (b.toNat : Int) (ishl .u8 255 ((8 - k : Nat) : Int)) = ((mb b k).toNat : Int) := by
  rw [mb_toNat]
  exact mb_fin ⟨b.toNat, b.toNat_lt⟩ ⟨k, by omega⟩
theorem mb_zero (b : UInt8) : mb b 0 = 0 := by
  apply UInt8.toNat.inj
  have := b.toNat_lt
  rw [mb_toNat, show 2 ^ (8 - 0) = 256 from rfl, Nat.mod_eq_of_lt (by omega), Nat.sub_self]; rfl
theorem mb_of_zero (k : Nat) : mb 0 k = 0 := by
  apply UInt8.toNat.inj
  rw [mb_toNat, show (0 : UInt8).toNat = 0 from rfl, Nat.zero_mod]
theorem mb_step_fin : ∀ (b : Fin 256) (k : Fin 8), b.val - b.val % 2 ^ (8 - (k.val + 1)) = b.val - b.val % 2 ^ (8 - k.val) + (b.val / 2 ^ (7 - k.val) % 2) * (128 / 2 ^ k.val) := by decide +kernel
theorem mb_step (b : UInt8) (k : Nat) (hk : k < 8) : (mb b (k + 1)).toNat = (mb b k).toNat + (b.toNat / 2 ^ (7 - k) % 2) * (128 / 2 ^ k) := by
  rw [mb_toNat, mb_toNat]
  exact mb_step_fin ⟨b.toNat, b.toNat_lt⟩ ⟨k, hk⟩
/-- How many of a byte's first bits stay. -/
def lft (bits : Int) (q : Nat) : Nat := (min (max (bits - 8 * (q : Int)) 0) 8).toNat
theorem lft_le (bits : Int) (q : Nat) : lft bits q ≤ 8 := by unfold lft; omega
def mfull (l : List UInt8) (bits : Int) : List UInt8 := l.mapIdx fun q b => mb b (lft bits q)
theorem mfull_len (l : List UInt8) (bits : Int) : (mfull l bits).length = l.length := by simp [mfull]
theorem mfull_get (l : List UInt8) (bits : Int) (i : Nat) : (mfull l bits)[i]? = (l[i]?).map fun b => mb b (lft bits i) := by
  unfold mfull; rw [List.getElem?_mapIdx]
theorem set_step {α : Type} (A l : List α) (i : Nat) (x : α) (hA : A.length = l.length) (hx : A[i]? = some x) : (A.take i ++ l.drop i).set i x = A.take (i + 1) ++ l.drop (i + 1) := by
  have hi : i < A.length := (List.getElem?_eq_some_iff.1 hx).1
  apply List.ext_getElem?
  intro j
  have h1 : (A.take i).length = i := by simp; omega
  have h2 : (A.take (i + 1)).length = i + 1 := by simp; omega
  rw [List.getElem?_set]
  by_cases hj : i = j
  · subst hj
    have hl : i < (A.take i ++ l.drop i).length := by simp; omega
    rw [if_pos rfl, if_pos hl, List.getElem?_append_left (by omega), List.getElem?_take, if_pos (by omega), hx]
  · rw [if_neg hj]
    by_cases hlt : j < i
    · rw [List.getElem?_append_left (by omega), List.getElem?_append_left (by omega), List.getElem?_take, List.getElem?_take, if_pos hlt, if_pos (by omega)]
    · rw [List.getElem?_append_right (by omega), List.getElem?_append_right (by omega), List.getElem?_drop, List.getElem?_drop, h1, h2]
      congr 1; omega
theorem lft_code (bits : Int) (hb : -9223372036854775808 ≤ bits ∧ bits < 9223372036854775808) (i : Nat) (hi : i < 16) (h0 : ¬ bits < 0) :
    (if 8 < (if wr .i64 (bits - (wr .i64 (8 * (i : Int)))) < 0 then 0 else wr .i64 (bits - (wr .i64 (8 * (i : Int))))) then 8 else (if wr .i64 (bits - (wr .i64 (8 * (i : Int)))) < 0 then 0 else wr .i64 (bits - (wr .i64 (8 * (i : Int)))))) = ((lft bits i : Nat) : Int) := by
  have e1 : wr .i64 (8 * (i : Int)) = 8 * (i : Int) := wr_i64 (by omega) (by omega)
  rw [e1, wr_i64 (by omega) (by omega)]
  unfold lft
  by_cases h1 : bits - 8 * (i : Int) < 0
  · rw [if_pos h1]; split <;> omega
  · rw [if_neg h1]; split <;> omega
theorem mask_loop (V bits : Int) (l : List UInt8) (hl : l.length = 16) (hb : -9223372036854775808 ≤ bits ∧ bits < 9223372036854775808) : ∀ (k i : Nat), i + k = 16 →
    addr_Mask.l0 bits (i : Int) (mkA V ((mfull l bits).take i ++ l.drop i)) = some (mkA V (mfull l bits)) := by
  have hml := mfull_len l bits
  intro k
  induction k with
  | zero =>
    intro i hi
    have hz : decide ((i : Int) < 16) = false := decide_eq_false (by omega)
    rw [addr_Mask.l0.eq_def, hz, if_neg Bool.false_ne_true, List.drop_eq_nil_of_le (by omega), List.append_nil, List.take_of_length_le (by omega)]
  | succ k ih =>
    intro i hi
    have hz : decide ((i : Int) < 16) = true := decide_eq_true (by omega)
    have hc : l[i]? = some l[i] := List.getElem?_eq_getElem (by omega)
    generalize hcc : l[i] = c at hc
    have hAlen : ((mfull l bits).take i ++ l.drop i).length = 16 := by simp; omega
    have hAi : ((mfull l bits).take i ++ l.drop i)[i]? = some c := by
      rw [List.getElem?_append_right (by simp; omega), List.getElem?_drop]
      have : i + (i - ((mfull l bits).take i).length) = i := by simp; omega
      rw [this, hc]
    have hg : (0 : Int) ≤ (i : Int) ∧ (i : Int) < 16 := by omega
    have hv : vget (vb ((mfull l bits).take i ++ l.drop i)) (i : Int) = (c.toNat : Int) := by rw [vget_vb hAlen i (by omega), bg_get hAi]
    have hstep := set_step (mfull l bits) l i (mb c (lft bits i)) hml (by rw [mfull_get, hc]; rfl)
    have hle := lft_le bits i
    have hset : ∀ s : Int, s = ((8 - lft bits i : Nat) : Int) → ({ mkA V ((mfull l bits).take i ++ l.drop i) with f_B := vset (vb ((mfull l bits).take i ++ l.drop i)) (i : Int) (iand .u8 (vget (vb ((mfull l bits).take i ++ l.drop i)) (i : Int)) (ishl .u8 255 s)) } : S_api_Addr) =
        mkA V ((mfull l bits).take (i + 1) ++ l.drop (i + 1)) := fun s hs => by
      rw [hs, hv, mb_code c _ hle, vset_vb hAlen, hstep]; rfl
    have e8 : wr .u64 (wr .i64 (8 - ((lft bits i : Nat) : Int))) = ((8 - lft bits i : Nat) : Int) := by
      rw [wr_i64 (by omega) (by omega), wr_u64 (by omega) (by omega)]; omega
    have hn : (0 : Int) ≤ ((8 - lft bits i : Nat) : Int) := by omega
    have hi1 : wr .i64 ((i : Int) + 1) = ((i + 1 : Nat) : Int) := by rw [wr_i64 (by omega) (by omega)]; omega
    rw [addr_Mask.l0.eq_def, hz, if_pos rfl]
    by_cases h0 : bits < 0
    · have hl0 : lft bits i = 0 := by unfold lft; omega
      have e80 : wr .u64 (wr .i64 (8 - 0)) = ((8 - lft bits i : Nat) : Int) := by rw [hl0]; rfl
      rw [if_pos (decide_eq_true h0), if_pos hg, e80, if_pos hn, if_pos hg, hi1]
      have := hset _ rfl
      rw [show (mkA V ((mfull l bits).take i ++ l.drop i)).f_B = vb ((mfull l bits).take i ++ l.drop i) from rfl, this]
      exact ih (i + 1) (by omega)
    · rw [if_neg (by rw [decide_eq_true_eq]; exact h0), if_pos hg, lft_code bits hb i (by omega) h0, e8, if_pos hn, if_pos hg, hi1]
      have := hset _ rfl
      rw [show (mkA V ((mfull l bits).take i ++ l.drop i)).f_B = vb ((mfull l bits).take i ++ l.drop i) from rfl, this]
      exact ih (i + 1) (by omega)
def maskA (V : Int) (l : List UInt8) (bits : Int) : S_api_Addr := if rightL V l = true then mkA V (mfull l bits) else mkA 0 (List.replicate 16 0)
theorem mask_code {V bits : Int} {l : List UInt8} (hl : l.length = 16) (hb : -9223372036854775808 ≤ bits ∧ bits < 9223372036854775808) : addr_Mask (mkA V l) bits = some (maskA V l bits) := by
  unfold addr_Mask maskA
  rw [right_code hl, bindM_some]
  cases rightL V l
  · show some _ = _
    rw [zero_mkA]; rfl
  · have h := mask_loop V bits l hl hb 16 0 rfl
    rw [List.take_zero, List.nil_append, List.drop_zero, show ((0 : Nat) : Int) = 0 from rfl] at h
    show (addr_Mask.l0 bits 0 (mkA V l) >>= fun q5 => some q5) = _
    rw [h]; rfl
def bit (l : List UInt8) (i : Nat) : Nat := bg l (i / 8) / 2 ^ (7 - i % 8) % 2
theorem digit_loop (i : Nat) (hi : i < 9223372036854775808) : ∀ (k n : Nat), n < 256 → i % 8 + k ≤ 7 → crawlwayref10_digit.l0 (i : Int) (n : Int) ((i % 8 + k : Nat) : Int) = some ((n / 2 ^ k : Nat) : Int) := by
  intro k
  have hm : Int.tmod (i : Int) 8 = ((i % 8 : Nat) : Int) := by rw [Int.tmod_eq_emod_of_nonneg (by omega)]; omega
  induction k with
  | zero =>
    intro n hn hk
    rw [crawlwayref10_digit.l0.eq_def, hm, if_neg (by rw [decide_eq_true_eq]; omega), Nat.pow_zero, Nat.div_one]
  | succ k ih =>
    intro n hn hk
    have e1 : wr .i64 (Int.tdiv (n : Int) 2) = ((n / 2 : Nat) : Int) := by
      have : Int.tdiv (n : Int) 2 = ((n / 2 : Nat) : Int) := by rw [Int.tdiv_eq_ediv_of_nonneg (by omega)]; omega
      rw [this, wr_i64 (by omega) (by omega)]
    have e2 : wr .i64 (((i % 8 + (k + 1) : Nat) : Int) - 1) = ((i % 8 + k : Nat) : Int) := by rw [wr_i64 (by omega) (by omega)]; omega
    rw [crawlwayref10_digit.l0.eq_def, hm, if_pos (decide_eq_true (by omega)), e1, e2, ih (n / 2) (by omega) (by omega), Nat.div_div_eq_div_mul]
    rw [Nat.pow_succ, Nat.mul_comm]
theorem digit_ref {V : Int} {l : List UInt8} (hl : l.length = 16) (i : Nat) (hi : i < 128) : crawlwayref10_digit (mkA V l) (i : Int) = some ((bit l i : Nat) : Int) := by
  have hd : wr .i64 (Int.tdiv (i : Int) 8) = ((i / 8 : Nat) : Int) := by
    have : Int.tdiv (i : Int) 8 = ((i / 8 : Nat) : Int) := by rw [Int.tdiv_eq_ediv_of_nonneg (by omega)]; omega
    rw [this, wr_i64 (by omega) (by omega)]
  have hb := bg_lt l (i / 8)
  unfold crawlwayref10_digit
  rw [hd, if_pos (by omega)]
  show (crawlwayref10_digit.l0 (i : Int) (wr .i64 (vget (vb l) ((i / 8 : Nat) : Int))) 7 >>= fun q3 => some (Int.tmod q3 2)) = _
  rw [vget_vb hl _ (by omega), wr_i64 (by omega) (by omega)]
  have h := digit_loop i (by omega) (7 - i % 8) (bg l (i / 8)) hb (by omega)
  rw [show i % 8 + (7 - i % 8) = 7 by omega, show ((7 : Nat) : Int) = 7 from rfl] at h
  rw [h, bindM_some]
  unfold bit
  refine congrArg some ?_
  have := Int.tmod_eq_emod_of_nonneg (a := ((bg l (i / 8) / 2 ^ (7 - i % 8) : Nat) : Int)) (b := 2) (Int.natCast_nonneg _)
  rw [this]; exact (Int.natCast_emod _ 2).symm
theorem bit_lt (l : List UInt8) (i : Nat) : bit l i < 2 := Nat.mod_lt _ (by omega)
def lftN (t q : Nat) : Nat := min (t - 8 * q) 8
def refm (l : List UInt8) (t : Nat) : List UInt8 := l.mapIdx fun q b => mb b (lftN t q)
theorem refm_len (l : List UInt8) (t : Nat) : (refm l t).length = l.length := by simp [refm]
theorem refm_get (l : List UInt8) (t i : Nat) : (refm l t)[i]? = (l[i]?).map fun b => mb b (lftN t i) := by
  unfold refm; rw [List.getElem?_mapIdx]
theorem refm_step (l : List UInt8) (hl : l.length = 16) (i : Nat) (hi : i < 128) : refm l (i + 1) = (refm l i).set (i / 8) (mb (l.getD (i / 8) 0) (i % 8 + 1)) := by
  apply List.ext_getElem?
  intro j
  rw [List.getElem?_set, refm_get, refm_get]
  by_cases hj : i / 8 = j
  · subst hj
    have hlt : i / 8 < (refm l i).length := by rw [refm_len]; omega
    have hc : l[i / 8]? = some l[i / 8] := List.getElem?_eq_getElem (by omega)
    have e : lftN (i + 1) (i / 8) = i % 8 + 1 := by unfold lftN; omega
    rw [if_pos rfl, if_pos hlt, hc, List.getD_eq_getElem?_getD, hc, e]; rfl
  · rw [if_neg hj]
    have : lftN (i + 1) j = lftN i j := by unfold lftN; omega
    rw [this]
theorem refMask_l1 (i : Nat) (hi : i < 9223372036854775808) : ∀ (k j n : Nat), n < 256 → j + k = i % 8 → crawlwayref10_Mask.l1 (i : Int) (n : Int) (j : Int) = some ((n / 2 ^ k : Nat) : Int) := by
  intro k
  have hm : Int.tmod (i : Int) 8 = ((i % 8 : Nat) : Int) := by rw [Int.tmod_eq_emod_of_nonneg (by omega)]; omega
  induction k with
  | zero =>
    intro j n hn hk
    rw [crawlwayref10_Mask.l1.eq_def, hm, if_neg (by rw [decide_eq_true_eq]; omega), Nat.pow_zero, Nat.div_one]
  | succ k ih =>
    intro j n hn hk
    have e1 : wr .i64 (Int.tdiv (n : Int) 2) = ((n / 2 : Nat) : Int) := by
      have : Int.tdiv (n : Int) 2 = ((n / 2 : Nat) : Int) := by rw [Int.tdiv_eq_ediv_of_nonneg (by omega)]; omega
      rw [this, wr_i64 (by omega) (by omega)]
    have e2 : wr .i64 ((j : Int) + 1) = ((j + 1 : Nat) : Int) := by rw [wr_i64 (by omega) (by omega)]; omega
    rw [crawlwayref10_Mask.l1.eq_def, hm, if_pos (decide_eq_true (by omega)), e1, e2, ih (j + 1) (n / 2) (by omega) (by omega), Nat.div_div_eq_div_mul]
    rw [Nat.pow_succ, Nat.mul_comm]
theorem refMask_loop (V bits : Int) (l : List UInt8) (hl : l.length = 16) (w : Nat) (hw : w ≤ 128) : ∀ (k i : Nat), i + k = min w bits.toNat →
    crawlwayref10_Mask.l0 (mkA V l) bits (w : Int) (i : Int) (mkA V (refm l i)) = some (mkA V (refm l (min w bits.toNat))) := by
  intro k
  induction k with
  | zero =>
    intro i hi
    rw [crawlwayref10_Mask.l0.eq_def]
    by_cases h1 : i < w
    · have hb : decide ((i : Int) < bits) = false := decide_eq_false (by omega)
      rw [if_pos (decide_eq_true (by omega)), hb, if_neg Bool.false_ne_true, show i = min w bits.toNat by omega]
    · rw [if_neg (by rw [decide_eq_true_eq]; omega), show i = min w bits.toNat by omega]
  | succ k ih =>
    intro i hi
    have hi128 : i < 128 := by omega
    have hd : wr .i64 (Int.tdiv (i : Int) 8) = ((i / 8 : Nat) : Int) := by
      have : Int.tdiv (i : Int) 8 = ((i / 8 : Nat) : Int) := by rw [Int.tdiv_eq_ediv_of_nonneg (by omega)]; omega
      rw [this, wr_i64 (by omega) (by omega)]
    have hi1 : wr .i64 ((i : Int) + 1) = ((i + 1 : Nat) : Int) := by rw [wr_i64 (by omega) (by omega)]; omega
    have hl1 := refMask_l1 i (by omega) (i % 8) 0 128 (by omega) (by omega)
    rw [show ((128 : Nat) : Int) = 128 from rfl, show ((0 : Nat) : Int) = 0 from rfl] at hl1
    have hc : l[i / 8]? = some l[i / 8] := List.getElem?_eq_getElem (by omega)
    generalize hcc : l[i / 8] = c at hc
    have hgd : l.getD (i / 8) 0 = c := by rw [List.getD_eq_getElem?_getD, hc]; rfl
    have hbit : bit l i = c.toNat / 2 ^ (7 - i % 8) % 2 := by unfold bit; rw [bg_get hc]
    have hst := mb_step c (i % 8) (by omega)
    have hlt := (mb c (i % 8 + 1)).toNat_lt
    have hrl : (refm l i).length = 16 := by rw [refm_len]; exact hl
    have hri : (refm l i)[i / 8]? = some (mb c (i % 8)) := by
      have e : lftN i (i / 8) = i % 8 := by unfold lftN; omega
      rw [refm_get, hc, e]; rfl
    have hstep := refm_step l hl i hi128
    rw [hgd] at hstep
    rw [crawlwayref10_Mask.l0.eq_def, if_pos (decide_eq_true (by omega)), if_pos (decide_eq_true (by omega)), digit_ref hl i hi128, bindM_some, hl1, bindM_some, hd, hi1]
    by_cases hb : bit l i = 1
    · have hbb : (((bit l i : Nat) : Int) == 1) = true := by rw [hb]; rfl
      rw [hbb, if_pos rfl, if_pos (by omega), if_pos (by omega)]
      have hset : ({ mkA V (refm l i) with f_B := vset (mkA V (refm l i)).f_B ((i / 8 : Nat) : Int) (wr .u8 ((vget (mkA V (refm l i)).f_B ((i / 8 : Nat) : Int)) + (wr .u8 ((128 / 2 ^ (i % 8) : Nat) : Int)))) } : S_api_Addr) = mkA V (refm l (i + 1)) := by
        show S_api_Addr.mk V (vset (vb (refm l i)) ((i / 8 : Nat) : Int) (wr .u8 ((vget (vb (refm l i)) ((i / 8 : Nat) : Int)) + (wr .u8 ((128 / 2 ^ (i % 8) : Nat) : Int))))) = _
        have hq : 128 / 2 ^ (i % 8) < 256 := Nat.lt_of_le_of_lt (Nat.div_le_self _ _) (by omega)
        have e6 : wr .u8 ((128 / 2 ^ (i % 8) : Nat) : Int) = ((128 / 2 ^ (i % 8) : Nat) : Int) := by
          generalize 128 / 2 ^ (i % 8) = z at hq
          exact wr_u8 (by omega) (by omega)
        rw [vget_vb hrl _ (by omega), bg_get hri, e6]
        have e5 : wr .u8 (((mb c (i % 8)).toNat : Int) + ((128 / 2 ^ (i % 8) : Nat) : Int)) = ((mb c (i % 8 + 1)).toNat : Int) := by
          rw [hst, ← hbit, hb, Nat.one_mul] at hlt
          rw [hst, ← hbit, hb, Nat.one_mul]
          generalize 128 / 2 ^ (i % 8) = z at hlt
          rw [wr_u8 (by omega) (by omega)]; omega
        rw [e5, vset_vb hrl, ← hstep]; rfl
      rw [hset]
      exact ih (i + 1) (by omega)
    · have h0 : bit l i = 0 := by have := bit_lt l i; omega
      have hbb : (((bit l i : Nat) : Int) == 1) = false := by rw [h0]; rfl
      rw [hbb, if_neg Bool.false_ne_true]
      have : refm l (i + 1) = refm l i := by
        rw [hstep]
        have e6 : mb c (i % 8 + 1) = mb c (i % 8) := by
          apply UInt8.toNat.inj
          rw [hst, ← hbit, h0]; omega
        rw [e6]
        apply List.ext_getElem?
        intro j
        rw [List.getElem?_set]
        by_cases hj : i / 8 = j
        · subst hj; rw [if_pos rfl, if_pos (by omega), hri]
        · rw [if_neg hj]
      rw [← this]
      exact ih (i + 1) (by omega)
theorem refm_zero (l : List UInt8) (hl : l.length = 16) : refm l 0 = List.replicate 16 0 := by
  apply List.ext_getElem?
  intro j
  rw [refm_get]
  by_cases hj : j < 16
  · have hc : l[j]? = some l[j] := List.getElem?_eq_getElem (by omega)
    rw [hc, List.getElem?_replicate, if_pos hj]
    have e : lftN 0 j = 0 := by unfold lftN; omega
    rw [e]
    exact congrArg some (mb_zero _)
  · rw [List.getElem?_eq_none (by omega), List.getElem?_eq_none (by simp; omega)]; rfl
theorem refm_full {V bits : Int} {l : List UInt8} (hl : l.length = 16) (hr : rightL V l = true) : refm l (min (widthL V l) bits.toNat) = mfull l bits := by
  apply List.ext_getElem?
  intro j
  rw [refm_get, mfull_get]
  by_cases hj : j < 16
  · have hc : l[j]? = some l[j] := List.getElem?_eq_getElem (by omega)
    rw [hc]
    show some _ = some _
    congr 1
    rcases right_cases hr with h6 | ⟨h4, hlow⟩
    · have hw : widthL V l = 128 := by unfold widthL; rw [if_pos hr, if_neg (by omega)]
      have : lftN (min (widthL V l) bits.toNat) j = lft bits j := by rw [hw]; unfold lftN lft; omega
      rw [this]
    · have hw : widthL V l = 32 := by unfold widthL; rw [if_pos hr, if_pos h4]
      by_cases hj4 : j < 4
      · have : lftN (min (widthL V l) bits.toNat) j = lft bits j := by rw [hw]; unfold lftN lft; omega
        rw [this]
      · have hz : l[j] = 0 := by
          have h1 := (low_iff hl).1 hlow
          have h2 : l[j]? = some 0 := by
            rw [h1]; unfold fourL
            rw [List.getElem?_append_right (by simp; omega), List.getElem?_replicate, if_pos (by simp; omega)]
          rw [hc] at h2; exact Option.some.inj h2
        rw [hz]
        exact (mb_of_zero _).trans (mb_of_zero _).symm
  · rw [List.getElem?_eq_none (by omega)]; rfl
theorem mask_ref {V bits : Int} {l : List UInt8} (hl : l.length = 16) : crawlwayref10_Mask (mkA V l) bits = some (maskA V l bits) := by
  unfold crawlwayref10_Mask maskA
  rw [right_ref hl, bindM_some]
  cases hr : rightL V l
  · show some _ = _
    rw [zero_mkA]; rfl
  · have h := refMask_loop V bits l hl (widthL V l) width_le (min (widthL V l) bits.toNat) 0 (by omega)
    rw [refm_zero l hl, show ((0 : Nat) : Int) = 0 from rfl, refm_full hl hr] at h
    show (crawlwayref10_Width (mkA V l) >>= fun t6 => crawlwayref10_Mask.l0 (mkA V l) bits t6 0 (S_api_Addr.mk V (Vector.replicate 16 (0 : Int))) >>= fun q7 => some q7) = _
    rw [width_ref hl, bindM_some, zero_vb]
    show (crawlwayref10_Mask.l0 (mkA V l) bits _ 0 (mkA V (List.replicate 16 0)) >>= fun q7 => some q7) = _
    rw [h]; rfl
end Go.Proofs.YtkkmmpofdcccmaaGreatDoor.Adr
namespace Go.Proofs.YtkkmmpofdcccmaaGreatDoor.Cid
open E Go.RowKit
open Adr
def mkP (A : S_api_Addr) (b : Int) : S_api_Prefix := { f_A := A, f_Bits := b }
def zP : S_api_Prefix := { f_A := ({ f_V := (0 : Int), f_B := (Vector.replicate 16 (0 : Int) : (Vector Int 16)) } : S_api_Addr), f_Bits := (0 : Int) }
theorem exists_mkP (a : S_api_Prefix) (h : ok_api_Prefix a) : ∃ V l b, a = mkP (mkA V l) b ∧ l.length = 16 ∧ (Lit.int .i64 b).wf = true := by
  obtain ⟨V, l, hA, hl, _⟩ := exists_mkA a.f_A h.1
  refine ⟨V, l, a.f_Bits, ?_, hl, h.2⟩
  cases a with | mk A n =>
  simp only at hA
  subst hA; rfl
theorem mkP_inj {V W : Int} {l k : List UInt8} {b c : Int} (hl : l.length = 16) (hk : k.length = 16) : mkP (mkA V l) b = mkP (mkA W k) c ↔ (V = W ∧ l = k) ∧ b = c := by
  unfold mkP
  rw [S_api_Prefix.mk.injEq, mkA_inj hl hk]
def fits (V : Int) (l : List UInt8) (b : Int) : Bool := rightL V l && (decide (0 ≤ b) && decide (b ≤ (widthL V l : Int)))
theorem fits_iff {V : Int} {l : List UInt8} {b : Int} : fits V l b = true ↔ rightL V l = true ∧ 0 ≤ b ∧ b ≤ (widthL V l : Int) := by
  unfold fits
  simp only [Bool.and_eq_true, decide_eq_true_eq]
def ofP (V : Int) (l : List UInt8) (b : Int) : S_api_Prefix × Int := if rightL V l = true then (if fits V l b = true then (mkP (mkA V (mfull l b)) b, 0) else (zP, 6)) else (zP, 1)
theorem of_code {V b : Int} {l : List UInt8} (hl : l.length = 16) : cidr_Of (mkA V l) b = some (ofP V l b) := by
  unfold cidr_Of ofP
  rw [right_code hl, bindM_some]
  have hw := width_le (V := V) (l := l)
  cases hr : rightL V l with
  | false => rfl
  | true =>
    rw [if_neg (show ¬ (!true) = true by decide), if_pos rfl]
    by_cases h0 : b < 0
    · have hf : ¬ fits V l b = true := fun h => by have := (fits_iff.1 h).2.1; omega
      rw [if_pos (decide_eq_true h0), if_neg hf]; rfl
    · rw [if_neg (by rw [decide_eq_true_eq]; exact h0), width_code hl, bindM_some]
      by_cases h1 : b > (widthL V l : Int)
      · have hf : ¬ fits V l b = true := fun h => by have := (fits_iff.1 h).2.2; omega
        rw [if_pos (decide_eq_true h1), if_neg hf]; rfl
      · have hf : fits V l b = true := fits_iff.2 ⟨hr, by omega, by omega⟩
        rw [if_neg (by rw [decide_eq_true_eq]; exact h1), mask_code hl (by omega), bindM_some, if_pos hf]
        unfold maskA
        rw [if_pos hr]; rfl
def rightP (V : Int) (l : List UInt8) (b : Int) : Bool := fits V l b && decide (mfull l b = l)
theorem rightP_iff {V : Int} {l : List UInt8} {b : Int} : rightP V l b = true ↔ (rightL V l = true ∧ 0 ≤ b ∧ b ≤ (widthL V l : Int)) ∧ mfull l b = l := by
  unfold rightP
  rw [Bool.and_eq_true, fits_iff, decide_eq_true_eq]
theorem mlen {l : List UInt8} (hl : l.length = 16) (b : Int) : (mfull l b).length = 16 := by rw [mfull_len, hl]
theorem cright_code {V b : Int} {l : List UInt8} (hl : l.length = 16) : cidr_Right (mkP (mkA V l) b) = some (rightP V l b) := by
  unfold cidr_Right
  show (cidr_Of (mkA V l) b >>= fun t2 => if (t2.2 == 0) = true then some (decide (t2.1 = mkP (mkA V l) b)) else some false) = _
  rw [of_code hl, bindM_some]
  unfold ofP rightP
  cases hr : rightL V l with
  | false =>
    have hf : fits V l b = false := by unfold fits; rw [hr]; rfl
    rw [hf]; rfl
  | true =>
    rw [if_pos rfl]
    cases hf : fits V l b with
    | false => rfl
    | true =>
      rw [if_pos rfl]
      show (if ((0 : Int) == 0) = true then some (decide (mkP (mkA V (mfull l b)) b = mkP (mkA V l) b)) else some false) = _
      rw [if_pos (by rfl), Bool.true_and]
      refine congrArg some ?_
      rw [decide_eq_decide, mkP_inj (mlen hl b) hl]
      exact ⟨fun h => h.1.2, fun h => ⟨⟨rfl, h⟩, rfl⟩⟩
theorem cright_ref {V b : Int} {l : List UInt8} (hl : l.length = 16) : crawlwayref11_Right (mkP (mkA V l) b) = some (rightP V l b) := by
  unfold crawlwayref11_Right rightP
  show (crawlwayref10_Right (mkA V l) >>= fun t2 => if (!t2) = true then some false else (if decide (b < 0) = true then some false else (crawlwayref10_Width (mkA V l) >>= fun t5 => if decide (b > t5) = true then some false else (crawlwayref10_Mask (mkA V l) b >>= fun t7 => some (decide (mkA V l = t7)))))) = _
  rw [right_ref hl, bindM_some]
  cases hr : rightL V l with
  | false =>
    have hf : fits V l b = false := by unfold fits; rw [hr]; rfl
    rw [hf]; rfl
  | true =>
    rw [if_neg (show ¬ (!true) = true by decide)]
    by_cases h0 : b < 0
    · have hf : fits V l b = false := by cases h : fits V l b with | false => rfl | true => have := (fits_iff.1 h).2.1; omega
      rw [if_pos (decide_eq_true h0), hf]; rfl
    · rw [if_neg (by rw [decide_eq_true_eq]; exact h0), width_ref hl, bindM_some]
      by_cases h1 : b > (widthL V l : Int)
      · have hf : fits V l b = false := by cases h : fits V l b with | false => rfl | true => have := (fits_iff.1 h).2.2; omega
        rw [if_pos (decide_eq_true h1), hf]; rfl
      · have hf : fits V l b = true := fits_iff.2 ⟨hr, by omega, by omega⟩
        rw [if_neg (by rw [decide_eq_true_eq]; exact h1), mask_ref hl, bindM_some, hf, Bool.true_and]
        unfold maskA
        rw [if_pos hr]
        refine congrArg some ?_
        rw [decide_eq_decide, mkA_inj hl (mlen hl b)]
        exact ⟨fun h => h.2.symm, fun h => ⟨rfl, h.symm⟩⟩
end Go.Proofs.YtkkmmpofdcccmaaGreatDoor.Cid
namespace Go.Proofs.YtkkmmpofdcccmaaGreatDoor.Col
open E Go.RowKit
def un : List Nat → List UInt8
  | [] => []
  | n :: r => UInt8.ofNat (n / 256) :: UInt8.ofNat (n % 256) :: un r
def gr : List UInt8 → List Nat
  | a :: b :: r => (256 * a.toNat + b.toNat) :: gr r
  | [_] => []
  | [] => []
theorem u8_of (b : UInt8) (n : Nat) (h : n = b.toNat) : UInt8.ofNat n = b := by subst h; exact UInt8.ofNat_toNat
theorem un_gr : ∀ (l : List UInt8), l.length % 2 = 0 → un (gr l) = l
  | [], _ => rfl
  | [_], h => by simp at h
  | a :: b :: r, h => by
    have ha := a.toNat_lt
    have hb := b.toNat_lt
    rw [gr, un, un_gr r (by simp at h; omega), u8_of a _ (by omega), u8_of b _ (by omega)]
theorem gr_lt : ∀ (l : List UInt8), ∀ n ∈ gr l, n < 65536
  | [], n, h => by cases h
  | [_], n, h => by cases h
  | a :: b :: r, n, h => by
    rcases List.mem_cons.1 h with rfl | h
    · have ha := a.toNat_lt
      have hb := b.toNat_lt
      omega
    · exact gr_lt r n h
theorem gr_len : ∀ (l : List UInt8), (gr l).length = l.length / 2
  | [] => rfl
  | [_] => by simp [gr]
  | a :: b :: r => by simp only [gr, List.length_cons, gr_len r]; omega
theorem un_len : ∀ (G : List Nat), (un G).length = 2 * G.length
  | [] => rfl
  | n :: G => by simp only [un, List.length_cons, un_len G]; omega
theorem un_app : ∀ (A B : List Nat), un (A ++ B) = un A ++ un B
  | [], _ => rfl
  | n :: A, B => by simp [un, un_app A B]
def runz : List Bool → Nat
  | true :: r => runz r + 1
  | _ => 0
def lgC : List Bool → Nat → Nat → Nat → Nat → Nat × Nat
  | [], _, p, z, _ => (p, z)
  | b :: r, i, p, z, now => if b = false then lgC r (i + 1) p z 0 else if now + 1 > z then lgC r (i + 1) (i + 1 - (now + 1)) (now + 1) (now + 1) else lgC r (i + 1) p z (now + 1)
def lgR : List Bool → Nat → Nat → Nat → Nat × Nat
  | [], _, p, z => (p, z)
  | b :: r, i, p, z => if runz (b :: r) > z then lgR r (i + 1) i (runz (b :: r)) else lgR r (i + 1) p z
theorem lg_same8 : ∀ a b c d e f g h : Bool, lgC [a, b, c, d, e, f, g, h] 0 0 0 0 = lgR [a, b, c, d, e, f, g, h] 0 0 0 := by decide +kernel
theorem lg_fits8 : ∀ a b c d e f g h : Bool, (lgR [a, b, c, d, e, f, g, h] 0 0 0).1 + (lgR [a, b, c, d, e, f, g, h] 0 0 0).2 ≤ 8 := by decide +kernel
theorem lg_zero8 : ∀ a b c d e f g h : Bool, ([a, b, c, d, e, f, g, h].drop (lgR [a, b, c, d, e, f, g, h] 0 0 0).1).take (lgR [a, b, c, d, e, f, g, h] 0 0 0).2 = List.replicate (lgR [a, b, c, d, e, f, g, h] 0 0 0).2 true := by decide +kernel
theorem eight {α : Type} {z : List α} (h : z.length = 8) : ∃ a b c d e f g k, z = [a, b, c, d, e, f, g, k] := by
  match z, h with
  | [a, b, c, d, e, f, g, k], _ => exact ⟨a, b, c, d, e, f, g, k, rfl⟩
def lg (z : List Bool) : Nat × Nat := lgR z 0 0 0
theorem lg_code {z : List Bool} (h : z.length = 8) : lgC z 0 0 0 0 = lg z := by
  obtain ⟨a, b, c, d, e, f, g, k, rfl⟩ := eight h; exact lg_same8 ..
theorem lg_fits {z : List Bool} (h : z.length = 8) : (lg z).1 + (lg z).2 ≤ 8 := by
  obtain ⟨a, b, c, d, e, f, g, k, rfl⟩ := eight h; exact lg_fits8 ..
theorem lg_zero {z : List Bool} (h : z.length = 8) : (z.drop (lg z).1).take (lg z).2 = List.replicate (lg z).2 true := by
  obtain ⟨a, b, c, d, e, f, g, k, rfl⟩ := eight h; exact lg_zero8 ..
def g1 (n : Nat) : List UInt8 := (Hex.grp n).data.toList
def rowL : List Nat → List UInt8
  | [] => []
  | [n] => g1 n
  | n :: m :: r => g1 n ++ 58 :: rowL (m :: r)
def zp (G : List Nat) : List Bool := G.map fun n => n == 0
def textL (G : List Nat) : List UInt8 := if (lg (zp G)).2 < 2 then rowL G else rowL (G.take (lg (zp G)).1) ++ 58 :: 58 :: rowL (G.drop ((lg (zp G)).1 + (lg (zp G)).2))
theorem zp_len (G : List Nat) : (zp G).length = G.length := by simp [zp]
theorem dg_hex : ∀ n : Fin 16, 48 ≤ (Hex.dg n.1).toNat ∧ Hex.dg n.1 ≠ 58 ∧ Hex.dg n.1 ≠ 46 := by decide +kernel
theorem g1_chars (n : Nat) : ∀ x ∈ g1 n, x ≠ 58 ∧ x ≠ 46 := by
  induction n using Nat.strongRecOn with
  | _ n ih =>
    intro x hx
    unfold g1 Hex.grp at hx
    split at hx
    · next h =>
      simp only [Hex.dig, List.mem_singleton] at hx
      subst hx
      exact (dg_hex ⟨n, h⟩).2
    · next h =>
      rw [append_list] at hx
      rcases List.mem_append.1 hx with hx | hx
      · exact ih _ (show n / 16 < n by omega) x hx
      · simp only [Hex.dig, List.mem_singleton] at hx
        subst hx
        exact (dg_hex ⟨n % 16, by omega⟩).2
theorem g1_len (n : Nat) (h : n < 65536) : 1 ≤ (g1 n).length ∧ (g1 n).length ≤ 4 := by
  have := Hex.grp_size n
  unfold g1
  rw [size_toList]
  exact ⟨this.1, this.2 3 (by simpa using h)⟩
theorem g1_ne (n : Nat) : g1 n ≠ [] := by
  have := (Hex.grp_size n).1
  intro e
  have h2 : (g1 n).length = 0 := by rw [e]; rfl
  unfold g1 at h2
  rw [size_toList] at h2
  omega
theorem rowL_len : ∀ (G : List Nat), (∀ n ∈ G, n < 65536) → (rowL G).length ≤ 5 * G.length
  | [], _ => Nat.zero_le _
  | [n], h => by
    have := (g1_len n (h n (List.mem_cons_self ..))).2
    simp only [rowL, List.length_cons, List.length_nil]; omega
  | n :: m :: r, h => by
    have h1 := (g1_len n (h n (List.mem_cons_self ..))).2
    have h2 := rowL_len (m :: r) fun k hk => h k (List.mem_cons_of_mem _ hk)
    simp only [rowL, List.length_append, List.length_cons] at h2 ⊢; omega
theorem textL_len (G : List Nat) (h : ∀ n ∈ G, n < 65536) (h8 : G.length = 8) : (textL G).length ≤ 42 := by
  unfold textL
  split
  · have := rowL_len G h; omega
  · have h1 := rowL_len (G.take (lg (zp G)).1) fun n hn => h n (List.mem_of_mem_take hn)
    have h2 := rowL_len (G.drop ((lg (zp G)).1 + (lg (zp G)).2)) fun n hn => h n (List.mem_of_mem_drop hn)
    have hf := lg_fits (z := zp G) (by rw [zp_len, h8])
    simp only [List.length_append, List.length_cons, List.length_take, List.length_drop] at h1 h2 ⊢; omega
def spl : List (List UInt8) → Option (List (List UInt8) × List (List UInt8))
  | [] => none
  | p :: r => if r.head? = some [] ∧ 2 ≤ r.length then some ([p], r.tail) else (spl r).map fun q => (p :: q.1, q.2)
def q2 (v : Vector Int 4) : List Nat := [256 * (vget v 0).toNat + (vget v 1).toNat, 256 * (vget v 2).toNat + (vget v 3).toNat]
def lst (last : Bool) : List (List UInt8) → Option (List Nat)
  | [] => some []
  | p :: r => match Hex.read (bs p) with
    | some n => (lst last r).map (n :: ·)
    | none => if (quadP p).2 = 0 ∧ last = true ∧ r = [] then some (q2 (quadP p).1) else none
def lstE (last : Bool) (ps : List (List UInt8)) : Option (List Nat) := if ps = [[]] then some [] else lst last ps
def parseL (l : List UInt8) : Option (List Nat) := match spl (parts 58 l) with
  | none => (lst true (parts 58 l)).bind fun x => if x.length = 8 then some x else none
  | some (a, b) => (lstE false a).bind fun x => (lstE true b).bind fun y => if x.length + y.length ≤ 7 then some (x ++ (List.replicate (8 - x.length - y.length) 0 ++ y)) else none
theorem parts_colon (r : List UInt8) : parts 58 (58 :: r) = [] :: parts 58 r := by rw [parts, if_pos rfl]
theorem parts_head (r : List UInt8) : ((parts 58 r).head? = some [] ∧ 2 ≤ (parts 58 r).length) ↔ ∃ r2, r = 58 :: r2 := by
  cases r with
  | nil => simp [parts]
  | cons x r =>
    by_cases hx : x = 58
    · subst hx
      rw [parts_colon]
      have := parts_ne 58 r
      cases hp : parts 58 r with
      | nil => exact absurd hp this
      | cons a b => simp
    · rw [parts, if_neg hx]
      simp [hx]
theorem read_nil : Hex.read (bs []) = none := rfl
theorem quad_nil : (quadP []).2 = 5 := rfl
theorem lst_nil (last : Bool) (r : List (List UInt8)) (h : r ≠ [] ∨ True) : lst last ([] :: r) = none := by
  unfold lst
  rw [read_nil, quad_nil]
  simp
theorem parts_nil_iff (l : List UInt8) : parts 58 l = [[]] ↔ l = [] := by
  constructor
  · intro h
    cases l with
    | nil => rfl
    | cons x r =>
      have hne := parts_ne 58 r
      by_cases hx : x = 58
      · subst hx
        rw [parts_colon] at h
        cases h2 : parts 58 r with
        | nil => exact absurd h2 hne
        | cons a b => rw [h2] at h; simp at h
      · rw [parts, if_neg hx] at h; simp at h
  · intro h; subst h; rfl
theorem lst_grp (last : Bool) : ∀ (G : List Nat), (∀ n ∈ G, n < 65536) → lst last (G.map g1) = some G
  | [], _ => rfl
  | n :: G, h => by
    rw [List.map_cons, lst]
    have hb : bs (g1 n) = Hex.grp n := (eq_bs _).symm
    rw [hb, Hex.read_grp n (h n (List.mem_cons_self ..))]
    show (lst last (G.map g1)).map _ = _
    rw [lst_grp last G fun m hm => h m (List.mem_cons_of_mem _ hm)]; rfl
theorem parts_row : ∀ (G : List Nat), G ≠ [] → parts 58 (rowL G) = G.map g1
  | [], h => absurd rfl h
  | [n], _ => parts_none _ _ fun x hx => (g1_chars n x hx).1
  | n :: m :: r, _ => by
    rw [rowL, parts_cons _ _ _ fun x hx => (g1_chars n x hx).1, parts_row (m :: r) (by simp)]; rfl
theorem parts_row_app : ∀ (G : List Nat) (r : List UInt8), parts 58 (rowL G ++ 58 :: r) = (if G = [] then [[]] else G.map g1) ++ parts 58 r
  | [], r => parts_colon r
  | [n], r => by rw [rowL, parts_cons _ _ _ fun x hx => (g1_chars n x hx).1]; rfl
  | n :: m :: s, r => by
    rw [rowL, List.append_assoc]
    show parts 58 (g1 n ++ 58 :: (rowL (m :: s) ++ 58 :: r)) = _
    rw [parts_cons _ _ _ fun x hx => (g1_chars n x hx).1, parts_row_app (m :: s) r]; rfl
theorem spl_full : ∀ (G : List Nat), spl (G.map g1) = none
  | [] => rfl
  | n :: G => by
    rw [List.map_cons, spl, if_neg, spl_full G]; rfl
    rintro ⟨h, _⟩
    cases G with
    | nil => cases h
    | cons m r => simp at h; exact g1_ne m h
theorem spl_app : ∀ (A : List (List UInt8)) (B : List (List UInt8)), A ≠ [] → (∀ p ∈ A.tail, p ≠ []) → B ≠ [] → spl (A ++ [] :: B) = some (A, B)
  | [], _, h, _, _ => absurd rfl h
  | [p], B, _, _, hB => by
    show spl (p :: [] :: B) = _
    rw [spl, if_pos]; rfl
    refine ⟨rfl, ?_⟩
    cases B with
    | nil => exact absurd rfl hB
    | cons x y => simp
  | p :: q :: A, B, _, h, hB => by
    show spl (p :: ((q :: A) ++ [] :: B)) = _
    rw [spl, if_neg, spl_app (q :: A) B (by simp) (fun x hx => h x (List.mem_cons_of_mem _ hx)) hB]; rfl
    rintro ⟨h1, _⟩
    simp at h1
    exact h q (List.mem_cons_self ..) h1
theorem zeros_of {G : List Nat} {p z : Nat} (h : ((zp G).drop p).take z = List.replicate z true) : (G.drop p).take z = List.replicate z 0 := by
  unfold zp at h
  rw [← List.map_drop, ← List.map_take] at h
  generalize (G.drop p).take z = D at h
  have hl : D.length = z := by have := congrArg List.length h; simpa using this
  apply List.eq_replicate_iff.2
  refine ⟨hl, fun n hn => ?_⟩
  have : (n == 0) ∈ List.replicate z true := by rw [← h]; exact List.mem_map.2 ⟨n, hn, rfl⟩
  have := List.eq_of_mem_replicate this
  simpa using this
theorem split3 {α : Type} (G : List α) (p z : Nat) : G = G.take p ++ ((G.drop p).take z ++ G.drop (p + z)) := by
  rw [← List.drop_drop, List.take_append_drop, List.take_append_drop]
theorem lstE_row (last : Bool) (G : List Nat) (h : ∀ n ∈ G, n < 65536) : lstE last (if G = [] then [[]] else G.map g1) = some G := by
  unfold lstE
  cases G with
  | nil => rfl
  | cons n r =>
    have e1 : (if n :: r = [] then ([[]] : List (List UInt8)) else (n :: r).map g1) = (n :: r).map g1 := if_neg (by simp)
    rw [e1, if_neg, lst_grp last _ h]
    intro e
    rw [List.map_cons] at e
    exact g1_ne n (List.cons.inj e).1
theorem parse_text (G : List Nat) (h : ∀ n ∈ G, n < 65536) (h8 : G.length = 8) : parseL (textL G) = some G := by
  unfold textL
  split
  · unfold parseL
    have hne : G ≠ [] := by intro e; subst e; simp at h8
    rw [parts_row G hne, spl_full, lst_grp true G h]
    show (if G.length = 8 then some G else none) = _
    rw [if_pos h8]
  · next h2 =>
    have hz := lg_zero (z := zp G) (by rw [zp_len, h8])
    have hf := lg_fits (z := zp G) (by rw [zp_len, h8])
    generalize hq : lg (zp G) = q at h2 hz hf
    obtain ⟨p, z⟩ := q
    simp only at h2 hz hf ⊢
    have hzz := zeros_of hz
    have hG := split3 G p z
    have hA : ∀ n ∈ G.take p, n < 65536 := fun n hn => h n (List.mem_of_mem_take hn)
    have hB : ∀ n ∈ G.drop (p + z), n < 65536 := fun n hn => h n (List.mem_of_mem_drop hn)
    have hAl : (G.take p).length = p := by rw [List.length_take]; omega
    have hBl : (G.drop (p + z)).length = 8 - (p + z) := by rw [List.length_drop, h8]
    rw [hzz] at hG
    generalize G.take p = A at *
    generalize G.drop (p + z) = B at *
    unfold parseL
    rw [parts_row_app A, parts_colon]
    have e2 : parts 58 (rowL B) = if B = [] then [[]] else B.map g1 := by
      cases B with
      | nil => rfl
      | cons n r => rw [if_neg (by simp), parts_row _ (by simp)]
    rw [e2, spl_app _ _ (by split <;> simp_all) (by
      intro x hx
      split at hx
      · cases hx
      · rw [← List.map_tail] at hx
        obtain ⟨n, _, rfl⟩ := List.mem_map.1 hx
        exact g1_ne n) (by split <;> simp_all)]
    show (lstE false (if A = [] then [[]] else A.map g1)).bind _ = _
    rw [lstE_row false A hA]
    show (lstE true (if B = [] then [[]] else B.map g1)).bind _ = _
    rw [lstE_row true B hB]
    show (if A.length + B.length ≤ 7 then _ else none) = _
    rw [if_pos (by omega), show 8 - A.length - B.length = z by omega, ← hG]
end Go.Proofs.YtkkmmpofdcccmaaGreatDoor.Col
namespace Go.Proofs.YtkkmmpofdcccmaaGreatDoor.Col
open E Go.RowKit
def ns (G : List Nat) : List Int := G.map fun n : Nat => (n : Int)
theorem ns_len (G : List Nat) : (ns G).length = G.length := by simp [ns]
def gv (G : List Nat) : Vector Int 8 := lvec 8 (ns (G ++ List.replicate (8 - G.length) 0))
theorem gv_toList {G : List Nat} (h : G.length ≤ 8) : (gv G).toList = ns (G ++ List.replicate (8 - G.length) 0) := by
  have hl : (ns (G ++ List.replicate (8 - G.length) 0)).length = 8 := by rw [ns_len]; simp; omega
  unfold gv
  rw [lvec_toList 8 _ (by omega), List.take_of_length_le (by omega)]
theorem gv_of {v : Vector Int 8} {G : List Nat} (h : v.toList = ns G) : v = gv G := by
  have hl : G.length = 8 := by have := congrArg List.length h; rw [ns_len] at this; simpa using this.symm
  apply Vector.toList_inj.1
  rw [gv_toList (by omega), h, hl]; simp
theorem gv_set {G : List Nat} (h : G.length < 8) (n : Nat) : vset (gv G) (G.length : Int) (n : Int) = gv (G ++ [n]) := by
  apply Vector.toList_inj.1
  rw [vset_toList, gv_toList (by omega), gv_toList (by simp; omega), Int.toNat_natCast]
  unfold ns
  rw [← List.map_set, List.set_append_right _ _ (Nat.le_refl _), Nat.sub_self, show 8 - G.length = (8 - (G.length + 1)) + 1 by omega, List.replicate_succ]
  simp
theorem gv_zero : (Vector.replicate 8 (0 : Int) : Vector Int 8) = gv [] := by
  apply Vector.toList_inj.1; rw [gv_toList (by simp)]; rfl
theorem ns_get (G : List Nat) (i : Nat) (n : Nat) (h : G[i]? = some n) : (ns G).getD i default = (n : Int) := by
  unfold ns; rw [List.getD_eq_getElem?_getD, List.getElem?_map, h]; rfl
theorem gv_get {G : List Nat} (h8 : G.length = 8) (i : Nat) (n : Nat) (h : G[i]? = some n) : vget (gv G) (i : Int) = (n : Int) := by
  unfold vget
  rw [gv_toList (by omega), h8, Int.toNat_natCast, show 8 - 8 = 0 from rfl, List.replicate_zero, List.append_nil]
  exact ns_get G i n h
def rd (acc : List Nat) (gp : Int) : S_colon_reader := { f_g := gv acc, f_n := (acc.length : Int), f_gap := gp }
def Res (r : Option (Bool × S_colon_reader)) (o : Option (List Nat × Int)) : Prop := match o with
  | some (G, gp) => r = some (true, rd G gp)
  | none => ∃ s', r = some (false, s')
def addG (acc l : List Nat) (gp : Int) : Option (List Nat × Int) := if acc.length + l.length ≤ 8 then some (acc ++ l, gp) else none
theorem put_full {acc : List Nat} (h : acc.length = 8) (gp : Int) (x : Int) : colon_reader_put (rd acc gp) x = some (false, rd acc gp) := by
  unfold colon_reader_put
  have e : ((rd acc gp).f_n == 8) = true := by show ((acc.length : Int) == 8) = true; rw [h]; rfl
  rw [e, if_pos rfl]
theorem put_ok {acc : List Nat} (h : acc.length < 8) (gp : Int) (n : Nat) : colon_reader_put (rd acc gp) (n : Int) = some (true, rd (acc ++ [n]) gp) := by
  unfold colon_reader_put
  have e : ((rd acc gp).f_n == 8) = false := by
    show ((acc.length : Int) == 8) = false
    rw [beq_eq_false_iff_ne]; omega
  have hb : (0 : Int) ≤ (rd acc gp).f_n ∧ (rd acc gp).f_n < 8 := by show (0 : Int) ≤ (acc.length : Int) ∧ (acc.length : Int) < 8; omega
  rw [e, if_neg Bool.false_ne_true, if_pos hb]
  refine congrArg some (congrArg (Prod.mk true) ?_)
  show S_colon_reader.mk (vset (gv acc) (acc.length : Int) (n : Int)) (wr .i64 ((acc.length : Int) + 1)) gp = S_colon_reader.mk (gv (acc ++ [n])) ((acc ++ [n]).length : Int) gp
  rw [gv_set h, wr_i64 (by omega) (by omega)]
  congr 1
  simp
theorem or16 (a b : Nat) (ha : a < 256) (hb : b < 256) : ior .u16 (ishl .u16 (wr .u16 (a : Int)) 8) (wr .u16 (b : Int)) = ((256 * a + b : Nat) : Int) := by
  rw [wr_u16 (by omega) (by omega), wr_u16 (by omega) (by omega), show (8 : Int) = ((8 : Nat) : Int) from rfl, ishl_nat .u16 rfl a 8 (by decide)]
  have e : (a * 2 ^ 8) % 2 ^ IntKind.u16.bits = a * 256 := by show (a * 256) % 65536 = _; omega
  rw [e, ior_nat .u16 rfl _ _ (by show _ < 65536; omega) (by show _ < 65536; omega)]
  have h2 := Nat.two_pow_add_eq_or_of_lt (i := 8) (b := b) (by simpa using hb) a
  have e3 : 2 ^ 8 * a = a * 256 := by omega
  rw [e3] at h2
  rw [← h2, Nat.mul_comm a 256]
theorem tail_ok {acc : List Nat} (h : acc.length ≤ 8) (gp : Int) (p : List UInt8) (hp : p.length < 1000000) : Res (colon_reader_tail (rd acc gp) (bs p)) ((lst true [p]).bind fun x => addG acc x gp) := by
  unfold colon_reader_tail
  rw [Hex.read_eq, bindM_some]
  unfold lst
  cases hr : Hex.read (bs p) with
  | some n =>
    show Res (if ((0 : Int) == 0) = true then _ else _) (((lst true []).map (n :: ·)).bind _)
    rw [if_pos (by rfl)]
    show Res _ (addG acc [n] gp)
    unfold addG
    by_cases h8 : acc.length = 8
    · rw [put_full h8, if_neg (by simp; omega)]
      exact ⟨_, rfl⟩
    · rw [put_ok (by omega), if_pos (by simp; omega)]
      rfl
  | none =>
    show Res (if ((5 : Int) == 0) = true then _ else _) _
    rw [if_neg (by decide), quad_parse p hp, bindM_some]
    by_cases h0 : (quadP p).2 = 0
    · obtain ⟨m, hm, hq, _⟩ := quadP_back h0
      simp only [h0, and_self, if_pos, Option.bind_some]
      match m, hm with
      | [a, b, c, d], hm =>
        have ha := a.toNat_lt
        have hb := b.toNat_lt
        have hc := c.toNat_lt
        have hd := d.toNat_lt
        rw [hq]
        have e0 : vget (v4 [a, b, c, d]) 0 = (a.toNat : Int) := vget_v4 hm 0 a rfl
        have e1 : vget (v4 [a, b, c, d]) 1 = (b.toNat : Int) := vget_v4 hm 1 b rfl
        have e2 : vget (v4 [a, b, c, d]) 2 = (c.toNat : Int) := vget_v4 hm 2 c rfl
        have e3 : vget (v4 [a, b, c, d]) 3 = (d.toNat : Int) := vget_v4 hm 3 d rfl
        have eq : q2 (v4 [a, b, c, d]) = [256 * a.toNat + b.toNat, 256 * c.toNat + d.toNat] := by unfold q2; rw [e0, e1, e2, e3]; rfl
        show Res (if ((0 : Int) == 0) = true then (colon_reader_put (rd acc gp) (ior .u16 (ishl .u16 (wr .u16 (vget (v4 [a, b, c, d]) 0)) 8) (wr .u16 (vget (v4 [a, b, c, d]) 1))) >>= fun t7 => if t7.1 = true then (colon_reader_put t7.2 (ior .u16 (ishl .u16 (wr .u16 (vget (v4 [a, b, c, d]) 2)) 8) (wr .u16 (vget (v4 [a, b, c, d]) 3))) >>= fun t9 => some (t9.1, t9.2)) else (some (false, t7.2))) else _) (addG acc (q2 (v4 [a, b, c, d])) gp)
        rw [if_pos (by rfl), e0, e1, e2, e3, or16 _ _ ha hb, or16 _ _ hc hd, eq]
        unfold addG
        by_cases h8 : acc.length = 8
        · rw [put_full h8, bindM_some, if_neg Bool.false_ne_true, if_neg (by simp; omega)]
          exact ⟨_, rfl⟩
        · rw [put_ok (by omega), bindM_some, if_pos rfl]
          by_cases h7 : acc.length = 7
          · rw [put_full (by simp; omega), bindM_some, if_neg (by simp; omega)]
            exact ⟨_, rfl⟩
          · rw [put_ok (by simp; omega), bindM_some, if_pos (by simp; omega)]
            show _ = some (true, rd (acc ++ [_, _]) gp)
            rw [List.append_assoc]; rfl
    · have hb : ((viOf (quadP p)).2 == 0) = false := by rw [beq_eq_false_iff_ne]; show (((quadP p).2 : Nat) : Int) ≠ 0; omega
      rw [hb, if_neg Bool.false_ne_true]
      simp only [h0, false_and, if_false, Option.bind_none]
      exact ⟨_, rfl⟩
def isC : List UInt8 → Bool
  | x :: _ => x == 58
  | [] => false
def isCC : List UInt8 → Bool
  | x :: y :: _ => x == 58 && y == 58
  | _ => false
theorem isC_iff (r : List UInt8) : isC r = true ↔ ∃ r2, r = 58 :: r2 := by
  cases r with
  | nil => simp [isC]
  | cons x r => simp [isC]
theorem isCC_iff (r : List UInt8) : isCC r = true ↔ ∃ r2, r = 58 :: 58 :: r2 := by
  match r with
  | [] => simp [isCC]
  | [x] => simp [isCC]
  | x :: y :: r => simp [isCC]
theorem pre1 (r : List UInt8) : strings_HasPrefix (bs r) (⟨#[58]⟩ : ByteArray) = some (isC r) := by
  unfold strings_HasPrefix stringslite_HasPrefix
  cases r with
  | nil => rw [if_neg (by decide)]; rfl
  | cons x r =>
    have hsz : (bs (x :: r)).size = r.length + 1 := bs_size _
    have h1 : ((⟨#[58]⟩ : ByteArray).size : Int) = 1 := rfl
    rw [h1, hsz, if_pos (decide_eq_true (by omega)), if_pos (by omega), bindM_some]
    refine congrArg some ?_
    show seq ((bs (x :: r)).extract 0 1) (bs [58]) = _
    rw [bs_extract]
    by_cases hx : x = 58
    · subst hx
      exact seq_self _
    · have hf : isC (x :: r) = false := by simp [isC, hx]
      rw [hf]
      cases hc : seq (bs ((List.take 1 (x :: r)).drop 0)) (bs [58]) with
      | false => rfl
      | true =>
        have := bs_inj ((seq_iff _ _).1 hc)
        simp at this
        exact absurd this hx
theorem pre2 (r : List UInt8) : strings_HasPrefix (bs r) (⟨#[58, 58]⟩ : ByteArray) = some (isCC r) := by
  unfold strings_HasPrefix stringslite_HasPrefix
  match r with
  | [] => rw [if_neg (by decide)]; rfl
  | [x] =>
    have hsz : (bs [x]).size = 1 := bs_size _
    have h1 : ((⟨#[58, 58]⟩ : ByteArray).size : Int) = 2 := rfl
    rw [h1, hsz, if_neg (by decide)]; rfl
  | x :: y :: r =>
    have hsz : (bs (x :: y :: r)).size = r.length + 2 := bs_size _
    have h1 : ((⟨#[58, 58]⟩ : ByteArray).size : Int) = 2 := rfl
    rw [h1, hsz, if_pos (decide_eq_true (by omega)), if_pos (by omega), bindM_some]
    refine congrArg some ?_
    show seq ((bs (x :: y :: r)).extract 0 2) (bs [58, 58]) = _
    rw [bs_extract]
    by_cases hx : x = 58 ∧ y = 58
    · obtain ⟨rfl, rfl⟩ := hx
      exact seq_self _
    · have hf : isCC (x :: y :: r) = false := by
        cases hc : isCC (x :: y :: r) with
        | false => rfl
        | true => simp [isCC] at hc; exact absurd hc hx
      rw [hf]
      cases hc : seq (bs ((List.take 2 (x :: y :: r)).drop 0)) (bs [58, 58]) with
      | false => rfl
      | true =>
        have := bs_inj ((seq_iff _ _).1 hc)
        simp at this
        exact absurd this hx
/-- The two loops of (*reader).read are alike. -/
def Loop (R : ByteArray → S_colon_reader → Option (Bool × S_colon_reader)) : Prop := ∀ s st, R s st = (lines_Cut s 58 >>= fun t8 => if (!t8.2.2) = true then (colon_reader_tail st t8.1 >>= fun t10 => some (t10.1, t10.2)) else (hexes_ReadGroup t8.1 >>= fun t11 => if (t11.2 != 0) = true then (some (false, st)) else (colon_reader_put st t11.1 >>= fun t13 => if (!t13.1) = true then (some (false, t13.2)) else (strings_HasPrefix t8.2.1 (⟨#[58]⟩ : ByteArray) >>= fun t15 => if (!t15) = true then (R t8.2.1 t13.2) else (if (decide (t13.2.f_gap ≥ 0)) = true then (some (false, t13.2)) else (if (0 : Int) ≤ 1 ∧ 1 ≤ (t8.2.1.size : Int) ∧ (t8.2.1.size : Int) ≤ (t8.2.1.size : Int) then if (seq (t8.2.1.extract (Int.toNat 1) (Int.toNat (t8.2.1.size : Int))) (⟨#[]⟩ : ByteArray)) = true then (some (true, { t13.2 with f_gap := t13.2.f_n })) else (R (t8.2.1.extract (Int.toNat 1) (Int.toNat (t8.2.1.size : Int))) ({ t13.2 with f_gap := t13.2.f_n })) else none))))))
theorem loop0 : Loop colon_reader_read.l0 := fun s st => colon_reader_read.l0.eq_def s st
theorem loop1 : Loop colon_reader_read.l1 := fun s st => colon_reader_read.l1.eq_def s st
theorem seq_nil (l : List UInt8) : seq (bs l) (⟨#[]⟩ : ByteArray) = true ↔ l = [] := by
  rw [seq_iff]
  exact ⟨fun h => bs_inj (k := []) h, fun h => by rw [h]; rfl⟩
theorem res_pair {r : Option (Bool × S_colon_reader)} {o : Option (List Nat × Int)} (h : Res r o) : Res (r >>= fun t => some (t.1, t.2)) o := by
  unfold Res at *
  cases o with
  | none => obtain ⟨s', h⟩ := h; rw [h]; exact ⟨s', rfl⟩
  | some q => obtain ⟨G, gp⟩ := q; simp only at h ⊢; rw [h]; rfl
theorem res_id {r : Option (Bool × S_colon_reader)} {o : Option (List Nat × Int)} (h : Res r o) : Res (r >>= fun t => some t) o := by
  cases r <;> exact h
/-- A round of the loop: a text with a colon in it. -/
theorem round {R : ByteArray → S_colon_reader → Option (Bool × S_colon_reader)} (hR : Loop R) {acc : List Nat} (gp : Int) (p r : List UInt8) (hp : ∀ x ∈ p, x ≠ 58) (hl : p.length + r.length < 1000000) :
    (Hex.read (bs p) = none ∨ acc.length = 8 → ∃ s', R (bs (p ++ 58 :: r)) (rd acc gp) = some (false, s')) ∧
    (∀ n, Hex.read (bs p) = some n → acc.length < 8 → (∀ r2, r ≠ 58 :: r2) → R (bs (p ++ 58 :: r)) (rd acc gp) = R (bs r) (rd (acc ++ [n]) gp)) ∧
    (∀ n r2, Hex.read (bs p) = some n → acc.length < 8 → r = 58 :: r2 → 0 ≤ gp → ∃ s', R (bs (p ++ 58 :: r)) (rd acc gp) = some (false, s')) ∧
    (∀ n r2, Hex.read (bs p) = some n → acc.length < 8 → r = 58 :: r2 → gp < 0 → R (bs (p ++ 58 :: r)) (rd acc gp) = if r2 = [] then some (true, rd (acc ++ [n]) ((acc ++ [n]).length : Int)) else R (bs r2) (rd (acc ++ [n]) ((acc ++ [n]).length : Int))) := by
  have h58 : ((58 : UInt8).toNat : Int) = 58 := rfl
  have hcut := cut_some p r 58 hp hl
  rw [h58] at hcut
  have h1 : ∀ (r2 : List UInt8), r = 58 :: r2 → (bs r).extract (Int.toNat 1) (Int.toNat ((bs r).size : Int)) = bs r2 := by
    intro r2 e
    rw [Int.toNat_natCast, bs_extract, bs_size, List.take_of_length_le (Nat.le_refl _), e]; rfl
  have h2 : ∀ (r2 : List UInt8), r = 58 :: r2 → (0 : Int) ≤ 1 ∧ 1 ≤ ((bs r).size : Int) ∧ ((bs r).size : Int) ≤ ((bs r).size : Int) := by
    intro r2 e
    rw [bs_size, e, List.length_cons]; omega
  refine ⟨fun h => ?_, fun n hn h8 hr => ?_, fun n r2 hn h8 hr hg => ?_, fun n r2 hn h8 hr hg => ?_⟩
  · rw [hR, hcut, bindM_some]
    show ∃ s', (if (!true) = true then _ else _) = _
    rw [if_neg (by decide), Hex.read_eq, bindM_some]
    cases hq : Hex.read (bs p) with
    | none =>
      show ∃ s', (if ((5 : Int) != 0) = true then _ else _) = _
      rw [if_pos (by decide)]
      exact ⟨_, rfl⟩
    | some n =>
      show ∃ s', (if ((0 : Int) != 0) = true then _ else _) = _
      have h8 : acc.length = 8 := by rcases h with h | h; rw [h] at hq; cases hq; exact h
      rw [if_neg (by decide), put_full h8, bindM_some]
      exact ⟨_, rfl⟩
  · rw [hR, hcut, bindM_some]
    show (if (!true) = true then _ else _) = _
    rw [if_neg (by decide), Hex.read_eq, bindM_some, hn]
    show (if ((0 : Int) != 0) = true then _ else _) = _
    rw [if_neg (by decide), put_ok h8, bindM_some]
    show (if (!true) = true then _ else _) = _
    have hf : isC r = false := by
      cases hc : isC r with
      | false => rfl
      | true => obtain ⟨r2, h⟩ := (isC_iff r).1 hc; exact absurd h (hr r2)
    rw [if_neg (by decide), pre1, bindM_some, hf]
    rfl
  · rw [hR, hcut, bindM_some]
    show ∃ s', (if (!true) = true then _ else _) = _
    rw [if_neg (by decide), Hex.read_eq, bindM_some, hn]
    show ∃ s', (if ((0 : Int) != 0) = true then _ else _) = _
    rw [if_neg (by decide), put_ok h8, bindM_some]
    show ∃ s', (if (!true) = true then _ else _) = _
    rw [if_neg (by decide), pre1, bindM_some, (isC_iff r).2 ⟨r2, hr⟩]
    show ∃ s', (if (!true) = true then _ else (if decide (gp ≥ 0) = true then _ else _)) = _
    rw [if_neg (by decide), if_pos (decide_eq_true hg)]
    exact ⟨_, rfl⟩
  · rw [hR, hcut, bindM_some]
    show (if (!true) = true then _ else _) = _
    rw [if_neg (by decide), Hex.read_eq, bindM_some, hn]
    show (if ((0 : Int) != 0) = true then _ else _) = _
    rw [if_neg (by decide), put_ok h8, bindM_some]
    show (if (!true) = true then _ else _) = _
    rw [if_neg (by decide), pre1, bindM_some, (isC_iff r).2 ⟨r2, hr⟩]
    show (if (!true) = true then _ else (if decide (gp ≥ 0) = true then _ else (if _ then (if seq ((bs r).extract (Int.toNat 1) (Int.toNat ((bs r).size : Int))) _ = true then _ else _) else _))) = _
    rw [if_neg (by decide), if_neg (by rw [decide_eq_true_eq]; omega), if_pos (h2 r2 hr), h1 r2 hr]
    by_cases h0 : r2 = []
    · subst h0
      rw [if_pos rfl, if_pos ((seq_nil []).2 rfl)]; rfl
    · rw [if_neg h0, if_neg]; rfl
      intro e
      exact h0 ((seq_nil r2).1 e)
/-- The loop behind a gap. -/
theorem run_gap {R : ByteArray → S_colon_reader → Option (Bool × S_colon_reader)} (hR : Loop R) (gp : Int) (hg : 0 ≤ gp) : ∀ (k : Nat) (l : List UInt8) (acc : List Nat), l.length ≤ k → l.length < 1000000 → acc.length ≤ 8 →
    Res (R (bs l) (rd acc gp)) ((lst true (parts 58 l)).bind fun x => addG acc x gp) := by
  intro k
  induction k with
  | zero =>
    intro l acc hk hb h8
    obtain rfl : l = [] := List.eq_nil_of_length_eq_zero (by omega)
    have hc := cut_none [] 58 (fun x h => by cases h)
    rw [show ((58 : UInt8).toNat : Int) = 58 from rfl] at hc
    rw [hR, hc, bindM_some]
    exact res_pair (tail_ok h8 gp [] (by simp))
  | succ k ih =>
    intro l acc hk hb h8
    rcases split_at 58 l with h | ⟨p, r, rfl, h⟩
    · have hc := cut_none l 58 h
      rw [show ((58 : UInt8).toNat : Int) = 58 from rfl] at hc
      rw [hR, hc, bindM_some, parts_none _ _ h]
      exact res_pair (tail_ok h8 gp l hb)
    · have hlen : (p ++ 58 :: r).length = p.length + (r.length + 1) := by simp
      obtain ⟨c1, c2, c3, _⟩ := round hR (acc := acc) gp p r h (by omega)
      have hne := parts_ne 58 r
      rw [parts_cons 58 r p h]
      cases hr : Hex.read (bs p) with
      | none =>
        have e : lst true (p :: parts 58 r) = none := by
          unfold lst
          rw [hr]
          simp [hne]
        rw [e]; exact c1 (.inl hr)
      | some n =>
        have e : lst true (p :: parts 58 r) = (lst true (parts 58 r)).map (n :: ·) := by
          rw [lst, hr]
        rw [e]
        have hk2 : ∀ (o : Option (List Nat)), ((o.map (n :: ·)).bind fun x => addG acc x gp) = if acc.length = 8 then none else o.bind fun x => addG (acc ++ [n]) x gp := by
          intro o
          cases o with
          | none => simp
          | some x =>
            simp only [Option.map_some, Option.bind_some]
            unfold addG
            by_cases ha : acc.length = 8
            · rw [if_pos ha, if_neg (by simp; omega)]
            · rw [if_neg ha]
              by_cases hb : acc.length + (n :: x).length ≤ 8
              · rw [if_pos hb, if_pos (by simp at hb ⊢; omega)]; simp
              · rw [if_neg hb, if_neg (by simp at hb ⊢; omega)]
        rw [hk2]
        by_cases ha : acc.length = 8
        · rw [if_pos ha]; exact c1 (.inr ha)
        · rw [if_neg ha]
          by_cases hrc : ∃ r2, r = 58 :: r2
          · obtain ⟨r2, hr2⟩ := hrc
            have e3 : lst true (parts 58 r) = none := by rw [hr2, parts_colon]; exact lst_nil _ _ (.inr trivial)
            rw [e3]
            exact c3 n r2 hr (by omega) hr2 hg
          · rw [c2 n hr (by omega) fun r2 e => hrc ⟨r2, e⟩]
            exact ih r (acc ++ [n]) (by omega) (by omega) (by simp; omega)
def after (acc : List Nat) (ps : List (List UInt8)) : Option (List Nat × Int) := match spl ps with
  | none => (lst true ps).bind fun x => addG acc x (-1)
  | some (a, b) => (lst false a).bind fun x => (lstE true b).bind fun y => if acc.length + x.length + y.length ≤ 8 then some (acc ++ x ++ y, ((acc.length + x.length : Nat) : Int)) else none
theorem spl_head {p : List UInt8} {ps : List (List UInt8)} {a b : List (List UInt8)} (h : spl (p :: ps) = some (a, b)) : ∃ r, a = p :: r := by
  rw [spl] at h
  split at h
  · cases h; exact ⟨[], rfl⟩
  · cases hs : spl ps with
    | none => rw [hs] at h; cases h
    | some q => rw [hs] at h; cases h; exact ⟨q.1, rfl⟩
theorem after_none {acc : List Nat} {p : List UInt8} {ps : List (List UInt8)} (hne : ps ≠ []) (h : Hex.read (bs p) = none) : after acc (p :: ps) = none := by
  unfold after
  cases hs : spl (p :: ps) with
  | none =>
    have e : lst true (p :: ps) = none := by
      unfold lst
      rw [h]; simp [hne]
    simp only [e]; rfl
  | some q =>
    obtain ⟨a, b⟩ := q
    obtain ⟨r, rfl⟩ := spl_head hs
    have e : lst false (p :: r) = none := by
      unfold lst
      rw [h]; simp
    simp only [e]; rfl
theorem after_some {acc : List Nat} {p : List UInt8} {ps : List (List UInt8)} {n : Nat} (h : Hex.read (bs p) = some n) (hc : ¬ (ps.head? = some [] ∧ 2 ≤ ps.length)) : after acc (p :: ps) = if acc.length = 8 then none else after (acc ++ [n]) ps := by
  have e0 : spl (p :: ps) = (spl ps).map fun q => (p :: q.1, q.2) := by rw [spl, if_neg hc]
  have el : ∀ b t, lst b (p :: t) = (lst b t).map (n :: ·) := fun b t => by rw [lst, h]
  unfold after
  rw [e0]
  cases hs : spl ps with
  | none =>
    simp only [Option.map_none, el]
    cases hl : lst true ps with
    | none => simp
    | some x =>
      simp only [Option.map_some, Option.bind_some]
      unfold addG
      by_cases ha : acc.length = 8
      · rw [if_pos ha, if_neg (by simp; omega)]
      · rw [if_neg ha]
        by_cases hb : acc.length + (n :: x).length ≤ 8
        · rw [if_pos hb, if_pos (by simp at hb ⊢; omega)]; simp
        · rw [if_neg hb, if_neg (by simp at hb ⊢; omega)]
  | some q =>
    obtain ⟨a, b⟩ := q
    simp only [Option.map_some, el]
    cases hl : lst false a with
    | none => simp
    | some x =>
      simp only [Option.map_some, Option.bind_some]
      cases hl2 : lstE true b with
      | none => simp
      | some y =>
        simp only [Option.bind_some]
        by_cases ha : acc.length = 8
        · rw [if_pos ha, if_neg (by simp; omega)]
        · rw [if_neg ha]
          by_cases hb : acc.length + (n :: x).length + y.length ≤ 8
          · rw [if_pos hb, if_pos (by simp at hb ⊢; omega)]
            simp only [List.append_assoc, List.cons_append, List.nil_append, List.length_cons, List.length_append, List.length_nil]
            refine congrArg some (congrArg (Prod.mk _) ?_)
            omega
          · rw [if_neg hb, if_neg (by simp at hb ⊢; omega)]
theorem after_gap {acc : List Nat} (h8 : acc.length ≤ 8) {p : List UInt8} {r2 : List UInt8} {n : Nat} (h : Hex.read (bs p) = some n) : after acc (p :: [] :: parts 58 r2) = if acc.length = 8 then none else if r2 = [] then some (acc ++ [n], ((acc ++ [n]).length : Int)) else (lst true (parts 58 r2)).bind fun y => addG (acc ++ [n]) y ((acc ++ [n]).length : Int) := by
  have hne := parts_ne 58 r2
  have e0 : spl (p :: [] :: parts 58 r2) = some ([p], parts 58 r2) := by
    rw [spl, if_pos]; rfl
    refine ⟨rfl, ?_⟩
    cases hp : parts 58 r2 with
    | nil => exact absurd hp hne
    | cons a b => simp
  have el : lst false [p] = some [n] := by rw [lst, h]; rfl
  unfold after
  simp only [e0, el, Option.bind_some]
  unfold lstE
  by_cases h0 : r2 = []
  · subst h0
    have e : parts 58 [] = [[]] := rfl
    simp only [e, if_true, Option.bind_some]
    by_cases ha : acc.length = 8
    · rw [if_pos ha, if_neg (by simp; omega)]
    · rw [if_neg ha]
      rw [if_pos (by simp; omega)]; simp
  · rw [if_neg (fun e => h0 ((parts_nil_iff r2).1 e)), if_neg h0]
    cases hl : lst true (parts 58 r2) with
    | none => simp
    | some y =>
      simp only [Option.bind_some]
      unfold addG
      by_cases ha : acc.length = 8
      · rw [if_pos ha, if_neg (by simp; omega)]
      · rw [if_neg ha]
        by_cases hb : acc.length + [n].length + y.length ≤ 8
        · rw [if_pos hb, if_pos (by simp at hb ⊢; omega)]; simp
        · rw [if_neg hb, if_neg (by simp at hb ⊢; omega)]
/-- The loop ahead of a gap. -/
theorem run_all {R : ByteArray → S_colon_reader → Option (Bool × S_colon_reader)} (hR : Loop R) : ∀ (k : Nat) (l : List UInt8) (acc : List Nat), l.length ≤ k → l.length < 1000000 → acc.length ≤ 8 →
    Res (R (bs l) (rd acc (-1))) (after acc (parts 58 l)) := by
  intro k
  induction k with
  | zero =>
    intro l acc hk hb h8
    obtain rfl : l = [] := List.eq_nil_of_length_eq_zero (by omega)
    have hc := cut_none [] 58 (fun x h => by cases h)
    rw [show ((58 : UInt8).toNat : Int) = 58 from rfl] at hc
    rw [hR, hc, bindM_some]
    exact res_pair (tail_ok h8 (-1) [] (by simp))
  | succ k ih =>
    intro l acc hk hb h8
    rcases split_at 58 l with h | ⟨p, r, rfl, h⟩
    · have hc := cut_none l 58 h
      rw [show ((58 : UInt8).toNat : Int) = 58 from rfl] at hc
      rw [hR, hc, bindM_some, parts_none _ _ h]
      exact res_pair (tail_ok h8 (-1) l hb)
    · have hlen : (p ++ 58 :: r).length = p.length + (r.length + 1) := by simp
      obtain ⟨c1, c2, _, c4⟩ := round hR (acc := acc) (-1) p r h (by omega)
      have hne := parts_ne 58 r
      rw [parts_cons 58 r p h]
      cases hr : Hex.read (bs p) with
      | none => rw [after_none hne hr]; exact c1 (.inl hr)
      | some n =>
        by_cases hrc : ∃ r2, r = 58 :: r2
        · obtain ⟨r2, hr2⟩ := hrc
          subst hr2
          rw [parts_colon, after_gap h8 hr]
          by_cases ha : acc.length = 8
          · rw [if_pos ha]; exact c1 (.inr ha)
          · rw [if_neg ha, c4 n r2 hr (by omega) rfl (by omega)]
            by_cases h0 : r2 = []
            · rw [if_pos h0, if_pos h0]; rfl
            · rw [if_neg h0, if_neg h0]
              exact run_gap hR _ (by omega) r2.length r2 (acc ++ [n]) (Nat.le_refl _) (by simp only [List.length_append, List.length_cons] at hb; omega) (by simp; omega)
        · rw [after_some hr (fun hc => hrc ((parts_head r).1 hc))]
          by_cases ha : acc.length = 8
          · rw [if_pos ha]; exact c1 (.inr ha)
          · rw [if_neg ha, c2 n hr (by omega) fun r2 e => hrc ⟨r2, e⟩]
            exact ih r (acc ++ [n]) (by omega) (by omega) (by simp; omega)
def readL (l : List UInt8) : Option (List Nat × Int) := if isCC l = true then (if l.drop 2 = [] then some ([], 0) else (lst true (parts 58 (l.drop 2))).bind fun x => addG [] x 0) else after [] (parts 58 l)
theorem read_ok (l : List UInt8) (hb : l.length < 1000000) : Res (colon_reader_read (rd [] (-1)) (bs l)) (readL l) := by
  unfold colon_reader_read readL
  rw [pre2, bindM_some]
  by_cases hc : isCC l = true
  · obtain ⟨r, rfl⟩ := (isCC_iff l).1 hc
    have hg : (0 : Int) ≤ 2 ∧ 2 ≤ ((bs (58 :: 58 :: r)).size : Int) ∧ ((bs (58 :: 58 :: r)).size : Int) ≤ ((bs (58 :: 58 :: r)).size : Int) := by
      rw [bs_size, List.length_cons, List.length_cons]; omega
    have hx : (bs (58 :: 58 :: r)).extract (Int.toNat 2) (Int.toNat ((bs (58 :: 58 :: r)).size : Int)) = bs r := by
      rw [Int.toNat_natCast, bs_extract, bs_size, List.take_of_length_le (Nat.le_refl _)]; rfl
    rw [if_pos hc, if_pos hc, if_pos hg, hx]
    show Res (if seq (bs r) (⟨#[]⟩ : ByteArray) = true then _ else _) (if r = [] then _ else _)
    by_cases h0 : r = []
    · subst h0
      rw [if_pos rfl, if_pos ((seq_nil []).2 rfl)]; rfl
    · rw [if_neg h0, if_neg (fun e => h0 ((seq_nil r).1 e))]
      exact res_id (run_gap loop0 0 (by omega) r.length r [] (Nat.le_refl _) (by simp only [List.length_cons] at hb; omega) (by simp))
  · rw [if_neg hc, if_neg hc]
    exact res_id (run_all loop1 l.length l [] (Nat.le_refl _) hb (by simp))
def fin (q : List Nat × Int) : Option (List Nat) := if q.2 < 0 then (if q.1.length = 8 then some q.1 else none) else if q.1.length = 8 then none else some (q.1.take q.2.toNat ++ (List.replicate (8 - q.1.length) 0 ++ q.1.drop q.2.toNat))
theorem addG_some {acc l : List Nat} {gp : Int} {q : List Nat × Int} (h : addG acc l gp = some q) : q.1.length ≤ 8 ∧ q.2 = gp := by
  unfold addG at h
  split at h
  · cases h; simp; omega
  · cases h
theorem readL_ok {l : List UInt8} {q : List Nat × Int} (h : readL l = some q) : q.1.length ≤ 8 ∧ q.2 ≤ q.1.length := by
  unfold readL at h
  split at h
  · split at h
    · cases h; simp
    · obtain ⟨x, _, h⟩ := Option.bind_eq_some_iff.1 h
      have := addG_some h
      omega
  · unfold after at h
    split at h
    · obtain ⟨x, _, h⟩ := Option.bind_eq_some_iff.1 h
      have := addG_some h
      omega
    · obtain ⟨x, _, h⟩ := Option.bind_eq_some_iff.1 h
      obtain ⟨y, _, h⟩ := Option.bind_eq_some_iff.1 h
      split at h
      · cases h; simp at *; omega
      · cases h
theorem spl_ne : ∀ {ps : List (List UInt8)} {a b : List (List UInt8)}, spl ps = some (a, b) → a ≠ []
  | [], _, _, h => by cases h
  | p :: r, a, b, h => by
    obtain ⟨t, rfl⟩ := spl_head h
    simp
theorem spl_colons {l : List UInt8} {b : List (List UInt8)} (h : spl (parts 58 l) = some ([[]], b)) : isCC l = true := by
  have hne := parts_ne 58 l
  cases hp : parts 58 l with
  | nil => exact absurd hp hne
  | cons p r =>
    rw [hp, spl] at h
    split at h
    · next hc =>
      simp only [Option.some.injEq, Prod.mk.injEq, List.cons.injEq, and_true] at h
      obtain ⟨rfl, _⟩ := h
      obtain ⟨l2, rfl⟩ := (parts_head l).1 ⟨by rw [hp]; rfl, by rw [hp]; simp; omega⟩
      rw [parts_colon] at hp
      obtain rfl := (List.cons.inj hp).2
      obtain ⟨l3, rfl⟩ := (parts_head l2).1 hc
      rfl
    · cases hs : spl r with
      | none => rw [hs] at h; cases h
      | some q =>
        rw [hs] at h
        simp only [Option.map_some, Option.some.injEq, Prod.mk.injEq, List.cons.injEq] at h
        obtain ⟨a, b'⟩ := q
        exact absurd h.1.2 (spl_ne hs)
theorem parse_read (l : List UInt8) : parseL l = (readL l).bind fin := by
  unfold readL
  by_cases hc : isCC l = true
  · obtain ⟨r, rfl⟩ := (isCC_iff l).1 hc
    rw [if_pos hc]
    have hne := parts_ne 58 r
    have e0 : spl (parts 58 (58 :: 58 :: r)) = some ([[]], parts 58 r) := by
      rw [parts_colon, parts_colon, spl, if_pos]; rfl
      refine ⟨rfl, ?_⟩
      cases hp : parts 58 r with
      | nil => exact absurd hp hne
      | cons a b => simp
    have e1 : lstE false [[]] = some [] := rfl
    unfold parseL
    simp only [e0, e1, Option.bind_some]
    show _ = (if r = [] then _ else (lst true (parts 58 r)).bind _ : Option (List Nat × Int)).bind fin
    by_cases h0 : r = []
    · subst h0; rfl
    · rw [if_neg h0]
      unfold lstE
      rw [if_neg (fun e => h0 ((parts_nil_iff r).1 e))]
      cases hl : lst true (parts 58 r) with
      | none => rfl
      | some y =>
        simp only [Option.bind_some]
        unfold addG
        by_cases h7 : y.length ≤ 7
        · rw [if_pos (by simp; omega), if_pos (by simp; omega)]
          show _ = fin (y, 0)
          unfold fin
          simp only [Int.lt_irrefl, if_false]
          rw [if_neg (by omega)]
          simp
        · rw [if_neg (by simp; omega)]
          by_cases h8 : y.length = 8
          · rw [if_pos (by simp; omega)]
            show _ = fin (y, 0)
            unfold fin
            simp only [Int.lt_irrefl, if_false]
            rw [if_pos h8]
          · rw [if_neg (by simp; omega)]; rfl
  · rw [if_neg hc]
    unfold parseL after
    cases hs : spl (parts 58 l) with
    | none =>
      simp only
      cases hl : lst true (parts 58 l) with
      | none => rfl
      | some x =>
        simp only [Option.bind_some]
        unfold addG
        by_cases h8 : x.length = 8
        · rw [if_pos h8, if_pos (by simp; omega)]
          show _ = fin (x, -1)
          unfold fin
          rw [if_pos (by show (-1 : Int) < 0; omega), if_pos h8]
        · rw [if_neg h8]
          by_cases h9 : x.length ≤ 8
          · rw [if_pos (by simp; omega)]
            show _ = fin (x, -1)
            unfold fin
            rw [if_pos (by show (-1 : Int) < 0; omega), if_neg h8]
          · rw [if_neg (by simp; omega)]; rfl
    | some q =>
      obtain ⟨a, b⟩ := q
      simp only
      have ea : lstE false a = lst false a := by
        unfold lstE
        rw [if_neg]
        intro e; subst e
        exact hc (spl_colons hs)
      rw [ea]
      cases hl : lst false a with
      | none => rfl
      | some x =>
        simp only [Option.bind_some]
        cases hl2 : lstE true b with
        | none => rfl
        | some y =>
          simp only [Option.bind_some, List.nil_append, List.length_nil, Nat.zero_add]
          by_cases h8 : x.length + y.length ≤ 8
          · rw [if_pos h8]
            show _ = fin (x ++ y, ((x.length : Nat) : Int))
            unfold fin
            simp only [Int.toNat_natCast, List.take_left', List.drop_left', List.length_append]
            rw [if_neg (show ¬ ((x.length : Nat) : Int) < 0 by omega)]
            by_cases h7 : x.length + y.length ≤ 7
            · rw [if_pos h7, if_neg (by omega), Nat.sub_sub]
            · rw [if_neg h7, if_pos (by omega)]
          · rw [if_neg h8, if_neg (by omega)]; rfl
theorem ns_take (G : List Nat) (k : Nat) : (ns G).take k = ns (G.take k) := by unfold ns; rw [List.map_take]
theorem ns_drop (G : List Nat) (k : Nat) : (ns G).drop k = ns (G.drop k) := by unfold ns; rw [List.map_drop]
theorem ns_app (G H : List Nat) : ns (G ++ H) = ns G ++ ns H := by unfold ns; rw [List.map_append]
theorem spread_ok {G : List Nat} {gp : Int} (h8 : G.length ≤ 8) (hg : gp ≤ G.length) (hg1 : -1 ≤ gp) : ∃ v, colon_reader_spread (rd G gp) = some (v, (fin (G, gp)).isSome, rd G gp) ∧ ∀ K, fin (G, gp) = some K → v = gv K ∧ K.length = 8 := by
  unfold colon_reader_spread fin
  show ∃ v, (if decide (gp < 0) = true then some (gv G, ((G.length : Int) == 8), rd G gp) else if ((G.length : Int) == 8) = true then some (gv G, false, rd G gp) else _) = _ ∧ _
  by_cases hn : gp < 0
  · rw [if_pos (decide_eq_true hn)]
    simp only [hn, if_true]
    by_cases h : G.length = 8
    · rw [if_pos h]
      exact ⟨gv G, by rw [h]; rfl, fun K hK => by cases hK; exact ⟨rfl, h⟩⟩
    · rw [if_neg h]
      have e : ((G.length : Int) == 8) = false := by rw [beq_eq_false_iff_ne]; omega
      exact ⟨gv G, by rw [e]; rfl, fun K hK => by cases hK⟩
  · rw [if_neg (by rw [decide_eq_true_eq]; exact hn)]
    simp only [hn, if_false]
    by_cases h : G.length = 8
    · rw [if_pos h]
      have e : ((G.length : Int) == 8) = true := by rw [h]; rfl
      exact ⟨gv G, by rw [e]; rfl, fun K hK => by cases hK⟩
    · rw [if_neg h]
      have e : ((G.length : Int) == 8) = false := by rw [beq_eq_false_iff_ne]; omega
      rw [e, if_neg Bool.false_ne_true]
      obtain ⟨g, rfl⟩ := Int.eq_ofNat_of_zero_le (show 0 ≤ gp by omega)
      have hgl : g ≤ G.length := by omega
      have w1 : wr .i64 (8 - (G.length : Int)) = ((8 - G.length : Nat) : Int) := by rw [wr_i64 (by omega) (by omega)]; omega
      have w2 : wr .i64 (((8 - G.length : Nat) : Int) + (g : Int)) = ((8 - G.length + g : Nat) : Int) := by rw [wr_i64 (by omega) (by omega)]; omega
      show ∃ v, (if (0 : Int) ≤ 0 ∧ (0 : Int) ≤ (g : Int) ∧ (g : Int) ≤ 8 then if (0 : Int) ≤ wr .i64 (wr .i64 (8 - (G.length : Int)) + (g : Int)) ∧ wr .i64 (wr .i64 (8 - (G.length : Int)) + (g : Int)) ≤ 8 ∧ (8 : Int) ≤ 8 then if (0 : Int) ≤ (g : Int) ∧ (g : Int) ≤ (G.length : Int) ∧ (G.length : Int) ≤ 8 then some (vcopy (vcopy (Vector.replicate 8 (0 : Int) : Vector Int 8) (Int.toNat 0) (List.take (Int.toNat (8 - 0)) (lsub (Vector.toList (gv G)) 0 (g : Int)))) (Int.toNat (wr .i64 (wr .i64 (8 - (G.length : Int)) + (g : Int)))) (List.take (Int.toNat (8 - wr .i64 (wr .i64 (8 - (G.length : Int)) + (g : Int)))) (lsub (Vector.toList (gv G)) (g : Int) (G.length : Int))), true, rd G (g : Int)) else none else none else none) = _ ∧ _
      rw [w1, w2, if_pos (by omega), if_pos (by omega), if_pos (by omega)]
      have t1 : List.take (Int.toNat (8 - 0)) (lsub (Vector.toList (gv G)) 0 (g : Int)) = ns (G.take g) := by
        unfold lsub
        rw [gv_toList h8, Int.toNat_natCast, ns_take, List.take_append_of_le_length hgl]
        show List.take 8 (ns (G.take g)) = _
        exact List.take_of_length_le (by rw [ns_len, List.length_take]; omega)
      have t2 : List.take (Int.toNat (8 - ((8 - G.length + g : Nat) : Int))) (lsub (Vector.toList (gv G)) (g : Int) (G.length : Int)) = ns (G.drop g) := by
        unfold lsub
        rw [gv_toList h8, Int.toNat_natCast, Int.toNat_natCast, ns_take, List.take_left' rfl, ns_drop]
        exact List.take_of_length_le (by rw [ns_len, List.length_drop]; omega)
      rw [t1, t2, Int.toNat_natCast]
      refine ⟨_, rfl, fun K hK => ?_⟩
      cases hK
      have hz : (Vector.replicate 8 (0 : Int) : Vector Int 8).toList = ns (List.replicate 8 0) := by simp [ns]
      have c1 : (vcopy (Vector.replicate 8 (0 : Int) : Vector Int 8) (Int.toNat 0) (ns (G.take g))).toList = ns (G.take g ++ List.replicate (8 - g) 0) := by
        rw [vcopy_toList _ _ _ (by rw [ns_len, List.length_take]; show 0 + _ ≤ 8; omega), hz, ns_len, List.length_take, Nat.min_eq_left hgl, ns_drop, ns_app]
        show [] ++ ns (G.take g) ++ ns ((List.replicate 8 0).drop (0 + g)) = _
        rw [List.nil_append, List.drop_replicate, Nat.zero_add]
      constructor
      · apply gv_of
        rw [vcopy_toList _ _ _ (by rw [ns_len, List.length_drop]; omega), c1, ns_len, List.length_drop, ns_take, ns_drop, ← ns_app, ← ns_app]
        congr 1
        have hA : (G.take g).length = g := by rw [List.length_take]; omega
        have e5 : (G.take g ++ List.replicate (8 - g) 0).drop (8 - G.length + g + (G.length - g)) = [] := List.drop_eq_nil_of_le (by simp; omega)
        rw [e5, List.append_nil, List.take_append, List.take_of_length_le (by omega), hA, List.take_replicate]
        rw [show min (8 - G.length + g - g) (8 - g) = 8 - G.length by omega, Int.toNat_natCast, List.append_assoc]
      · simp; omega
def v16 (m : List UInt8) : Vector Int 16 := lvec 16 (ob m)
theorem v16_toList {m : List UInt8} (h : m.length = 16) : (v16 m).toList = ob m := by
  unfold v16
  rw [lvec_toList 16 _ (by rw [ob_length]; omega), List.take_of_length_le (by rw [ob_length]; omega)]
theorem v16_of {v : Vector Int 16} {m : List UInt8} (h : v.toList = ob m) : v = v16 m := by
  have hl : m.length = 16 := by have := congrArg List.length h; rw [ob_length] at this; simpa using this.symm
  apply Vector.toList_inj.1
  rw [v16_toList hl, h]
theorem v16_zero : (Vector.replicate 16 (0 : Int) : Vector Int 16) = v16 (List.replicate 16 0) := v16_of rfl
theorem v16_set {m : List UInt8} (h : m.length = 16) (i : Nat) (c : UInt8) : vset (v16 m) (i : Int) (c.toNat : Int) = v16 (m.set i c) := by
  apply Vector.toList_inj.1
  rw [vset_toList, v16_toList h, v16_toList (by simpa using h), Int.toNat_natCast]
  unfold ob
  rw [List.map_set]
theorem v16_get {m : List UInt8} (h : m.length = 16) (i : Nat) (c : UInt8) (hc : m[i]? = some c) : vget (v16 m) (i : Int) = (c.toNat : Int) := by
  unfold vget
  rw [v16_toList h, Int.toNat_natCast, List.getD_eq_getElem?_getD]
  unfold ob
  rw [List.getElem?_map, hc]; rfl
theorem set2 (A : List UInt8) (k : Nat) (x y : UInt8) : ((A ++ List.replicate (k + 2) 0).set A.length x).set (A.length + 1) y = A ++ (x :: y :: List.replicate k 0) := by
  rw [List.set_append_right _ _ (Nat.le_refl _), Nat.sub_self, List.replicate_succ, List.replicate_succ, List.set_cons_zero, List.set_append_right _ _ (by omega), show A.length + 1 - A.length = 1 by omega]
  rfl
theorem un_step (G : List Nat) (i n : Nat) (h : G[i]? = some n) : un (G.take (i + 1)) = un (G.take i) ++ [UInt8.ofNat (n / 256), UInt8.ofNat (n % 256)] := by
  rw [List.take_add_one, h, un_app]; rfl
theorem put2 (G : List Nat) (h8 : G.length = 8) (i n : Nat) (hi : i < 8) (h : G[i]? = some n) (hn : n < 65536) (x y : Int) (hx : x = ((n / 256 : Nat) : Int)) (hy : y = ((n % 256 : Nat) : Int)) :
    vset (vset (v16 (un (G.take i) ++ List.replicate (16 - 2 * i) 0)) ((2 * i : Nat) : Int) x) ((2 * i + 1 : Nat) : Int) y = v16 (un (G.take (i + 1)) ++ List.replicate (16 - 2 * (i + 1)) 0) := by
  have hA : (un (G.take i)).length = 2 * i := by rw [un_len, List.length_take]; omega
  have e1 : ((UInt8.ofNat (n / 256)).toNat : Int) = ((n / 256 : Nat) : Int) := by rw [UInt8.toNat_ofNat', Nat.mod_eq_of_lt (by omega)]
  have e2 : ((UInt8.ofNat (n % 256)).toNat : Int) = ((n % 256 : Nat) : Int) := by rw [UInt8.toNat_ofNat', Nat.mod_eq_of_lt (by omega)]
  subst hx hy
  rw [← e1, ← e2, v16_set (by simp [hA]; omega), v16_set (by simp [hA]; omega), un_step G i n h, show 16 - 2 * i = (16 - 2 * (i + 1)) + 2 by omega]
  have := set2 (un (G.take i)) (16 - 2 * (i + 1)) (UInt8.ofNat (n / 256)) (UInt8.ofNat (n % 256))
  rw [hA] at this
  rw [this, List.append_assoc]; rfl
theorem bytes_loop {G : List Nat} (h8 : G.length = 8) (hG : ∀ n ∈ G, n < 65536) (b : Bool) (st : S_colon_reader) : ∀ (k i : Nat), i + k = 8 → colon_Parse.l0 (gv G, b, st) (i : Int) (v16 (un (G.take i) ++ List.replicate (16 - 2 * i) 0)) = some (v16 (un G)) := by
  intro k
  induction k with
  | zero =>
    intro i hi
    obtain rfl : i = 8 := by omega
    rw [colon_Parse.l0.eq_def, if_neg (by decide), List.take_of_length_le (by omega)]
    simp
  | succ k ih =>
    intro i hi
    have hlt : i < 8 := by omega
    obtain ⟨n, hn⟩ : ∃ n, G[i]? = some n := ⟨_, List.getElem?_eq_getElem (by omega)⟩
    have hn6 := hG n (List.mem_of_getElem? hn)
    have w1 : wr .i64 (2 * (i : Int)) = ((2 * i : Nat) : Int) := by rw [wr_i64 (by omega) (by omega)]; omega
    have w2 : wr .i64 (((2 * i : Nat) : Int) + 1) = ((2 * i + 1 : Nat) : Int) := by rw [wr_i64 (by omega) (by omega)]; omega
    have w3 : wr .i64 ((i : Int) + 1) = ((i + 1 : Nat) : Int) := by rw [wr_i64 (by omega) (by omega)]; omega
    have hv : vget (gv G) (i : Int) = (n : Int) := gv_get h8 i n hn
    rw [colon_Parse.l0.eq_def, if_pos (decide_eq_true (by omega)), if_pos (by omega), w1, w2, if_pos (by omega), if_pos (by omega), w3]
    show colon_Parse.l0 (gv G, b, st) _ (vset (vset _ _ (wr .u8 (ishr .u16 (vget (gv G) (i : Int)) 8))) _ (wr .u8 (vget (gv G) (i : Int)))) = _
    rw [hv, put2 G h8 i n hlt hn hn6]
    · exact ih (i + 1) (by omega)
    · rw [show (8 : Int) = ((8 : Nat) : Int) from rfl, ishr_nat .u16 n 8 (by decide), wr_u8 (by omega) (by show ((n / 256 : Nat) : Int) < 256; omega)]
    · rw [wr_u8_mod]; omega
theorem lst_lt (last : Bool) : ∀ (ps : List (List UInt8)) (x : List Nat), lst last ps = some x → ∀ n ∈ x, n < 65536
  | [], x, h, n, hn => by cases h; cases hn
  | p :: r, x, h, n, hn => by
    rw [lst] at h
    cases hr : Hex.read (bs p) with
    | some m =>
      rw [hr] at h
      obtain ⟨y, hy, rfl⟩ := Option.map_eq_some_iff.1 h
      rcases List.mem_cons.1 hn with rfl | hn
      · exact Hex.read_lt _ _ hr
      · exact lst_lt last r y hy n hn
    | none =>
      rw [hr] at h
      simp only at h
      split at h
      · next hq =>
        cases h
        obtain ⟨m, hm, hq2, _⟩ := quadP_back hq.1
        match m, hm with
        | [a, b, c, d], hm =>
          have ha := a.toNat_lt
          have hb := b.toNat_lt
          have hc := c.toNat_lt
          have hd := d.toNat_lt
          have e0 : vget (v4 [a, b, c, d]) 0 = (a.toNat : Int) := vget_v4 hm 0 a rfl
          have e1 : vget (v4 [a, b, c, d]) 1 = (b.toNat : Int) := vget_v4 hm 1 b rfl
          have e2 : vget (v4 [a, b, c, d]) 2 = (c.toNat : Int) := vget_v4 hm 2 c rfl
          have e3 : vget (v4 [a, b, c, d]) 3 = (d.toNat : Int) := vget_v4 hm 3 d rfl
          rw [hq2] at hn
          unfold q2 at hn
          simp only [e0, e1, e2, e3, Int.toNat_natCast, List.mem_cons, List.not_mem_nil, or_false] at hn
          omega
      · cases h
theorem lstE_lt {last : Bool} {ps : List (List UInt8)} {x : List Nat} (h : lstE last ps = some x) : ∀ n ∈ x, n < 65536 := by
  unfold lstE at h
  split at h
  · cases h; intro n hn; cases hn
  · exact lst_lt last ps x h
theorem parseL_ok {l : List UInt8} {G : List Nat} (h : parseL l = some G) : G.length = 8 ∧ ∀ n ∈ G, n < 65536 := by
  unfold parseL at h
  split at h
  · obtain ⟨x, hx, h⟩ := Option.bind_eq_some_iff.1 h
    split at h
    · next h8 => cases h; exact ⟨h8, lst_lt _ _ _ hx⟩
    · cases h
  · obtain ⟨x, hx, h⟩ := Option.bind_eq_some_iff.1 h
    obtain ⟨y, hy, h⟩ := Option.bind_eq_some_iff.1 h
    split at h
    · cases h
      refine ⟨by simp; omega, fun n hn => ?_⟩
      rcases List.mem_append.1 hn with hn | hn
      · exact lstE_lt hx n hn
      · rcases List.mem_append.1 hn with hn | hn
        · have := List.eq_of_mem_replicate hn; omega
        · exact lstE_lt hy n hn
    · cases h
def parseV (l : List UInt8) : Vector Int 16 := v16 (match parseL l with | some G => un G | none => List.replicate 16 0)
theorem colon_parse (l : List UInt8) (hb : l.length < 1000000) : colon_Parse (bs l) = some (parseV l, if (parseL l).isSome then 0 else 5) := by
  unfold colon_Parse parseV
  have h0 : ({ ({ f_g := (Vector.replicate 8 (0 : Int) : (Vector Int 8)), f_n := (0 : Int), f_gap := (0 : Int) } : S_colon_reader) with f_gap := (-1) } : S_colon_reader) = rd [] (-1) := by
    show S_colon_reader.mk _ _ _ = S_colon_reader.mk _ _ _
    rw [gv_zero]; rfl
  rw [h0, parse_read]
  have hr := read_ok l hb
  cases hq : readL l with
  | none =>
    rw [hq] at hr
    obtain ⟨s', hr⟩ := hr
    rw [hr, bindM_some]
    show (if (!false) = true then _ else _) = _
    rw [if_pos (show (!false) = true from rfl), v16_zero]; rfl
  | some q =>
    obtain ⟨G, gp⟩ := q
    rw [hq] at hr
    have hr' : colon_reader_read (rd [] (-1)) (bs l) = some (true, rd G gp) := hr
    rw [hr', bindM_some]
    show (if (!true) = true then _ else _) = _
    obtain ⟨h8, hg⟩ := readL_ok hq
    have hg1 : -1 ≤ gp := by
      unfold readL at hq
      split at hq
      · split at hq
        · cases hq; omega
        · obtain ⟨x, _, hq⟩ := Option.bind_eq_some_iff.1 hq
          have := (addG_some hq).2
          simp only at this; omega
      · unfold after at hq
        split at hq
        · obtain ⟨x, _, hq⟩ := Option.bind_eq_some_iff.1 hq
          have := (addG_some hq).2
          simp only at this; omega
        · obtain ⟨x, _, hq⟩ := Option.bind_eq_some_iff.1 hq
          obtain ⟨y, _, hq⟩ := Option.bind_eq_some_iff.1 hq
          split at hq
          · cases hq; omega
          · cases hq
    obtain ⟨v, hv, hK⟩ := spread_ok h8 hg hg1
    rw [if_neg (by decide)]
    show (colon_reader_spread (rd G gp) >>= fun t5 => _) = _
    rw [hv, bindM_some]
    show (if (!(fin (G, gp)).isSome) = true then _ else _) = some (v16 (match fin (G, gp) with | some K => un K | none => List.replicate 16 0), if (fin (G, gp)).isSome = true then 0 else 5)
    cases hf : fin (G, gp) with
    | none =>
      rw [if_pos (show (!(none : Option (List Nat)).isSome) = true from rfl), v16_zero]; rfl
    | some K =>
      obtain ⟨hv2, hK8⟩ := hK K hf
      have hlt : ∀ n ∈ K, n < 65536 := (parseL_ok (l := l) (G := K) (by rw [parse_read, hq]; exact hf)).2
      rw [if_neg (show ¬ (!(some K).isSome) = true from Bool.false_ne_true), v16_zero, hv2]
      have := bytes_loop hK8 hlt true (rd G gp) 8 0 rfl
      rw [show 16 - 2 * 0 = 16 from rfl, List.take_zero, show un [] = [] from rfl, List.nil_append, show ((0 : Nat) : Int) = 0 from rfl] at this
      show (colon_Parse.l0 (gv K, true, rd G gp) 0 (v16 (List.replicate 16 0)) >>= fun q9 => _) = _
      rw [this]; rfl
end Go.Proofs.YtkkmmpofdcccmaaGreatDoor.Col
namespace Go.Proofs.YtkkmmpofdcccmaaGreatDoor.Col
open E Go.RowKit
/-- The two loops of Parse that write bytes are alike. -/
def Bytes (L : List Int) (R : Int → Vector Int 16 → Option (Vector Int 16)) : Prop := ∀ i o, R i o = if (decide (i < 8)) = true then (if (0 : Int) ≤ i ∧ i < (L.length : Int) then if (0 : Int) ≤ wr .i64 (2 * i) ∧ wr .i64 (2 * i) < 16 then if (0 : Int) ≤ i ∧ i < (L.length : Int) then if (0 : Int) ≤ wr .i64 ((wr .i64 (2 * i)) + 1) ∧ wr .i64 ((wr .i64 (2 * i)) + 1) < 16 then R (wr .i64 (i + 1)) (vset (vset o (wr .i64 (2 * i)) (wr .u8 (wr .i64 (Int.tdiv (lget L i) 256)))) (wr .i64 ((wr .i64 (2 * i)) + 1)) (wr .u8 (Int.tmod (lget L i) 256))) else none else none else none else none) else (some o)
end Go.Proofs.YtkkmmpofdcccmaaGreatDoor.Col
namespace Go.Proofs.YtkkmmpofdcccmaaGreatDoor.Col
open E Go.RowKit
theorem gr_get : ∀ (l : List UInt8) (i : Nat) (a b : UInt8), l[2 * i]? = some a → l[2 * i + 1]? = some b → (gr l)[i]? = some (256 * a.toNat + b.toNat)
  | x :: y :: r, 0, a, b, ha, hb => by simp at ha hb; subst ha hb; rfl
  | x :: y :: r, i + 1, a, b, ha, hb => by
    have e1 : 2 * (i + 1) = 2 * i + 1 + 1 := by omega
    have e2 : 2 * (i + 1) + 1 = 2 * i + 1 + 1 + 1 := by omega
    rw [e1] at ha
    rw [e2] at hb
    simp only [List.getElem?_cons_succ] at ha hb
    exact gr_get r i a b ha hb
  | [x], i, a, b, ha, hb => by
    cases i with
    | zero => simp at hb
    | succ i => have : 2 * (i + 1) = (2 * i + 1) + 1 := by omega
                rw [this] at ha; simp at ha
  | [], i, a, b, ha, hb => by simp at ha
theorem ofBig2 (a b : UInt8) : endian_OfBig (ob [a, b]) = some (((256 * a.toNat + b.toNat : Nat) : Int), 0) := by
  have ha := a.toNat_lt
  have hb := b.toNat_lt
  have e1 : ior .u64 (ishl .u64 0 8) (wr .u64 (a.toNat : Int)) = (a.toNat : Int) := by
    rw [wr_u64 (by omega) (by omega), show (8 : Int) = ((8 : Nat) : Int) from rfl, show (0 : Int) = ((0 : Nat) : Int) from rfl, ishl_nat .u64 rfl 0 8 (by decide), ior_nat .u64 rfl _ _ (by decide) (by show _ < 18446744073709551616; omega)]
    simp
  have e2 : ior .u64 (ishl .u64 (a.toNat : Int) 8) (wr .u64 (b.toNat : Int)) = ((256 * a.toNat + b.toNat : Nat) : Int) := by
    rw [wr_u64 (by omega) (by omega), show (8 : Int) = ((8 : Nat) : Int) from rfl, ishl_nat .u64 rfl a.toNat 8 (by decide)]
    have e : (a.toNat * 2 ^ 8) % 2 ^ IntKind.u64.bits = a.toNat * 256 := by show (a.toNat * 256) % 18446744073709551616 = _; omega
    rw [e, ior_nat .u64 rfl _ _ (by show _ < 18446744073709551616; omega) (by show _ < 18446744073709551616; omega)]
    have h2 := Nat.two_pow_add_eq_or_of_lt (i := 8) (b := b.toNat) (by simpa using hb) a.toNat
    have e3 : 2 ^ 8 * a.toNat = a.toNat * 256 := by omega
    rw [e3] at h2
    rw [← h2, Nat.mul_comm a.toNat 256]
  have l0 : lget (ob [a, b]) 0 = (a.toNat : Int) := rfl
  have l1 : lget (ob [a, b]) 1 = (b.toNat : Int) := rfl
  have hl : ((ob [a, b]).length : Int) = 2 := rfl
  unfold endian_OfBig endian_sized
  rw [hl, if_pos (by decide), bindM_some]
  show (if (!true) = true then _ else _) = _
  rw [if_neg (by decide), endian_OfBig.l0.eq_def, hl, if_pos (by decide), if_pos (by decide), l0, e1, show wr .i64 (0 + 1) = 1 from rfl, endian_OfBig.l0.eq_def, hl, if_pos (by decide), if_pos (by decide), l1, e2, show wr .i64 (1 + 1) = 2 from rfl, endian_OfBig.l0.eq_def, hl, if_neg (by decide), bindM_some]
theorem groups_loop {m : List UInt8} (hm : m.length = 16) : ∀ (k i : Nat), i + k = 8 → colon_groups.l0 (v16 m) (i : Int) (gv ((gr m).take i)) = some (gv (gr m)) := by
  have hg : (gr m).length = 8 := by rw [gr_len, hm]
  intro k
  induction k with
  | zero =>
    intro i hi
    obtain rfl : i = 8 := by omega
    rw [colon_groups.l0.eq_def, if_neg (by decide), List.take_of_length_le (by omega)]
  | succ k ih =>
    intro i hi
    have w1 : wr .i64 (2 * (i : Int)) = ((2 * i : Nat) : Int) := by rw [wr_i64 (by omega) (by omega)]; omega
    have w2 : wr .i64 (((2 * i : Nat) : Int) + 2) = ((2 * i + 2 : Nat) : Int) := by rw [wr_i64 (by omega) (by omega)]; omega
    have w3 : wr .i64 ((i : Int) + 1) = ((i + 1 : Nat) : Int) := by rw [wr_i64 (by omega) (by omega)]; omega
    obtain ⟨a, ha⟩ : ∃ a, m[2 * i]? = some a := ⟨_, List.getElem?_eq_getElem (by omega)⟩
    obtain ⟨b, hb⟩ : ∃ b, m[2 * i + 1]? = some b := ⟨_, List.getElem?_eq_getElem (by omega)⟩
    have hn := gr_get m i a b ha hb
    have la := a.toNat_lt
    have lb := b.toNat_lt
    have hs : lsub (Vector.toList (v16 m)) ((2 * i : Nat) : Int) ((2 * i + 2 : Nat) : Int) = ob [a, b] := by
      unfold lsub
      rw [v16_toList hm, Int.toNat_natCast, Int.toNat_natCast]
      unfold ob
      rw [← List.map_take, ← List.map_drop]
      congr 1
      rw [List.take_add_one, List.take_add_one, ha, hb]
      have hl : (m.take (2 * i)).length = 2 * i := by rw [List.length_take]; omega
      simp only [Option.toList]
      rw [List.append_assoc, List.drop_left' hl]; rfl
    have hi8 : ((gr m).take i).length = i := by rw [List.length_take]; omega
    rw [colon_groups.l0.eq_def, if_pos (decide_eq_true (by omega)), w1, w2, if_pos (by omega), hs, ofBig2, bindM_some, if_pos (by omega), w3]
    show colon_groups.l0 (v16 m) _ (vset (gv ((gr m).take i)) (i : Int) (wr .u16 ((256 * a.toNat + b.toNat : Nat) : Int))) = _
    rw [wr_u16 (by omega) (by omega)]
    have h2 := gv_set (G := (gr m).take i) (by omega) (256 * a.toNat + b.toNat)
    rw [hi8] at h2
    have h3 := ih (i + 1) (by omega)
    rw [List.take_add_one, hn] at h3
    rw [h2]; exact h3
theorem groups_ok {m : List UInt8} (hm : m.length = 16) : colon_groups (v16 m) = some (gv (gr m)) := by
  unfold colon_groups
  have := groups_loop hm 8 0 rfl
  rw [List.take_zero, ← gv_zero, show ((0 : Nat) : Int) = 0 from rfl] at this
  rw [this, bindM_some]
theorem zp_get {G : List Nat} {i n : Nat} (h : G[i]? = some n) : (zp G)[i]? = some (n == 0) := by unfold zp; rw [List.getElem?_map, h]; rfl
def ii (q : Nat × Nat) : Int × Int := ((q.1 : Int), (q.2 : Int))
theorem int_zero (n : Nat) : ((n : Int) != 0) = !(n == 0) := by
  by_cases h : n = 0
  · subst h; rfl
  · have h2 : (n == 0) = false := by simp [h]
    rw [h2]
    have : ((n : Int) != 0) = true := by rw [bne_iff_ne]; omega
    rw [this]; rfl
theorem longest_loop {G : List Nat} (h8 : G.length = 8) : ∀ (k i p z now : Nat), i + k = 8 → p ≤ 8 → z ≤ 8 → now ≤ i → colon_longest.l0 (gv G) (p : Int) (z : Int) (now : Int) (i : Int) = some (ii (lgC ((zp G).drop i) i p z now)) := by
  intro k
  induction k with
  | zero =>
    intro i p z now hi hp hz hn
    obtain rfl : i = 8 := by omega
    rw [colon_longest.l0.eq_def, if_neg (by decide), List.drop_eq_nil_of_le (by rw [zp_len]; omega)]; rfl
  | succ k ih =>
    intro i p z now hi hp hz hn
    obtain ⟨n, hn'⟩ : ∃ n, G[i]? = some n := ⟨_, List.getElem?_eq_getElem (by omega)⟩
    obtain ⟨c, hc, hd⟩ := drop_get (zp G) i (by rw [zp_len]; omega)
    rw [zp_get hn'] at hc
    cases hc
    have w1 : wr .i64 ((i : Int) + 1) = ((i + 1 : Nat) : Int) := by rw [wr_i64 (by omega) (by omega)]; omega
    have w2 : wr .i64 ((now : Int) + 1) = ((now + 1 : Nat) : Int) := by rw [wr_i64 (by omega) (by omega)]; omega
    have w3 : wr .i64 (((i + 1 : Nat) : Int) - ((now + 1 : Nat) : Int)) = ((i + 1 - (now + 1) : Nat) : Int) := by rw [wr_i64 (by omega) (by omega)]; omega
    rw [colon_longest.l0.eq_def, if_pos (decide_eq_true (by omega)), if_pos (by omega), gv_get h8 i n hn', int_zero, w1, w2, w3, hd, lgC]
    cases hb : (n == 0) with
    | false =>
      rw [if_pos (show (!false) = true from rfl), if_pos (show false = false from rfl)]
      exact ih (i + 1) p z 0 (by omega) hp hz (by omega)
    | true =>
      rw [if_neg (show ¬ (!true) = true by decide), if_neg (show ¬ true = false by decide)]
      by_cases hg : now + 1 > z
      · rw [if_pos (decide_eq_true (by omega)), if_pos hg]
        exact ih (i + 1) _ _ _ (by omega) (by omega) (by omega) (by omega)
      · rw [if_neg (by rw [decide_eq_true_eq]; omega), if_neg hg]
        exact ih (i + 1) _ _ _ (by omega) hp hz (by omega)
theorem longest_ok {G : List Nat} (h8 : G.length = 8) : colon_longest (gv G) = some (ii (lg (zp G))) := by
  unfold colon_longest
  have := longest_loop h8 8 0 0 0 0 rfl (by omega) (by omega) (by omega)
  rw [List.drop_zero, lg_code (by rw [zp_len, h8])] at this
  rw [show (0 : Int) = ((0 : Nat) : Int) from rfl, this, bindM_some]
theorem row_loop (A : List Nat) (hA : ∀ n ∈ A, n < 65536) (hl : A.length ≤ 8) : ∀ (k i : Nat), A.length - i = k → i ≤ A.length → colon_row.l0 (ns A) ((A.take i).map Hex.grp) (i : Int) = some (A.map Hex.grp) := by
  intro k
  induction k with
  | zero =>
    intro i hk hi
    rw [colon_row.l0.eq_def, ns_len, if_neg (by rw [decide_eq_true_eq]; omega), List.take_of_length_le (by omega)]
  | succ k ih =>
    intro i hk hi
    obtain ⟨n, hn⟩ : ∃ n, A[i]? = some n := ⟨_, List.getElem?_eq_getElem (by omega)⟩
    have w : wr .i64 ((i : Int) + 1) = ((i + 1 : Nat) : Int) := by rw [wr_i64 (by omega) (by omega)]; omega
    have hv : lget (ns A) (i : Int) = (n : Int) := by unfold lget; rw [Int.toNat_natCast]; exact ns_get A i n hn
    have h2 := ih (i + 1) (by omega) (by omega)
    rw [List.take_add_one, hn, List.map_append] at h2
    rw [colon_row.l0.eq_def, ns_len, if_pos (decide_eq_true (by omega)), if_pos (by omega), hv, Hex.group_eq n (hA n (List.mem_of_getElem? hn)), bindM_some, if_pos (by rw [List.length_map, List.length_take]; omega), w]
    exact h2
theorem row_join : ∀ (A : List Nat), [58].intercalate (A.map g1) = rowL A
  | [] => rfl
  | [n] => by simp [List.intercalate, rowL]
  | n :: m :: r => by
    have := row_join (m :: r)
    simp only [List.intercalate, List.map_cons, List.intersperse, List.flatten_cons, rowL] at this ⊢
    rw [this]; rfl
theorem bjoin_row (A : List Nat) : bjoin (A.map Hex.grp) (⟨#[58]⟩ : ByteArray) = bs (rowL A) := by
  apply mk_inj
  rw [bs_list, ← row_join]
  unfold bjoin Lib.join
  simp only [List.map_map]
  rfl
theorem row_ok (A : List Nat) (hA : ∀ n ∈ A, n < 65536) (hl : A.length ≤ 8) : colon_row (ns A) = some (bs (rowL A)) := by
  unfold colon_row
  have h := row_loop A hA hl A.length 0 (by omega) (by omega)
  rw [List.take_zero, List.map_nil, show ((0 : Nat) : Int) = 0 from rfl] at h
  have hs := rowL_len A hA
  rw [h, bindM_some, if_pos (by rw [List.length_map]; omega), bjoin_row, if_pos (by rw [bs_size]; omega)]
theorem bs_app (l k : List UInt8) : bs l ++ bs k = bs (l ++ k) := by apply mk_inj; rw [append_list, bs_list, bs_list, bs_list]
theorem text_ok {m : List UInt8} (hm : m.length = 16) : colon_Text (v16 m) = some (bs (textL (gr m))) := by
  have hg : (gr m).length = 8 := by rw [gr_len, hm]
  have hlt := gr_lt m
  have hf := lg_fits (z := zp (gr m)) (by rw [zp_len, hg])
  have hgl : (gv (gr m)).toList = ns (gr m) := by rw [gv_toList (by omega), hg]; simp
  unfold colon_Text
  rw [groups_ok hm, bindM_some, longest_ok hg, bindM_some, hgl]
  unfold textL
  generalize lg (zp (gr m)) = q at hf
  obtain ⟨p, z⟩ := q
  simp only at hf
  show (if decide ((z : Int) < 2) = true then _ else (if (0 : Int) ≤ 0 ∧ (0 : Int) ≤ (p : Int) ∧ (p : Int) ≤ 8 then colon_row (lsub (ns (gr m)) 0 (p : Int)) >>= fun t8 => if t8.size + (⟨#[58, 58]⟩ : ByteArray).size ≤ 140737488355328 then if (0 : Int) ≤ wr .i64 ((p : Int) + (z : Int)) ∧ wr .i64 ((p : Int) + (z : Int)) ≤ 8 ∧ (8 : Int) ≤ 8 then colon_row (lsub (ns (gr m)) (wr .i64 ((p : Int) + (z : Int))) 8) >>= fun t11 => if (t8 ++ (⟨#[58, 58]⟩ : ByteArray)).size + t11.size ≤ 140737488355328 then some ((t8 ++ (⟨#[58, 58]⟩ : ByteArray)) ++ t11) else none else none else none else none)) = some (bs (if z < 2 then rowL (gr m) else rowL ((gr m).take p) ++ 58 :: 58 :: rowL ((gr m).drop (p + z))))
  by_cases h2 : z < 2
  · rw [if_pos (decide_eq_true (by omega)), if_pos h2, row_ok _ hlt (by omega)]; rfl
  · have w : wr .i64 ((p : Int) + (z : Int)) = ((p + z : Nat) : Int) := by rw [wr_i64 (by omega) (by omega)]; omega
    have s1 : lsub (ns (gr m)) 0 (p : Int) = ns ((gr m).take p) := by unfold lsub; rw [Int.toNat_natCast, ns_take]; rfl
    have s2 : lsub (ns (gr m)) ((p + z : Nat) : Int) 8 = ns ((gr m).drop (p + z)) := by
      unfold lsub; rw [Int.toNat_natCast, show Int.toNat 8 = 8 from rfl, List.take_of_length_le (by rw [ns_len]; omega), ns_drop]
    have hA : ∀ n ∈ (gr m).take p, n < 65536 := fun n hn => hlt n (List.mem_of_mem_take hn)
    have hB : ∀ n ∈ (gr m).drop (p + z), n < 65536 := fun n hn => hlt n (List.mem_of_mem_drop hn)
    have lA := rowL_len _ hA
    have lB := rowL_len _ hB
    rw [List.length_take] at lA
    rw [List.length_drop] at lB
    have h58 : (⟨#[58, 58]⟩ : ByteArray) = bs [58, 58] := rfl
    rw [if_neg (by rw [decide_eq_true_eq]; omega), if_pos (by omega), s1, row_ok _ hA (by rw [List.length_take]; omega), bindM_some, h58, if_pos (by rw [bs_size, bs_size]; simp only [List.length_cons, List.length_nil]; omega), w, if_pos (by omega), s2, row_ok _ hB (by rw [List.length_drop]; omega), bindM_some, bs_app, if_pos (by rw [bs_size, bs_size]; simp only [List.length_append, List.length_cons, List.length_nil]; omega), bs_app, if_neg h2]
    rw [List.append_assoc]; rfl
end Go.Proofs.YtkkmmpofdcccmaaGreatDoor.Col
namespace Go.Proofs.YtkkmmpofdcccmaaGreatDoor.Col
open E Go.RowKit
theorem refGroups_loop {m : List UInt8} (hm : m.length = 16) : ∀ (k i : Nat), i + k = 8 → crawlwayref09_groups.l0 (v16 m) (i : Int) (gv ((gr m).take i)) = some (gv (gr m)) := by
  have hg : (gr m).length = 8 := by rw [gr_len, hm]
  intro k
  induction k with
  | zero =>
    intro i hi
    obtain rfl : i = 8 := by omega
    rw [crawlwayref09_groups.l0.eq_def, if_neg (by decide), List.take_of_length_le (by omega)]
  | succ k ih =>
    intro i hi
    have w1 : wr .i64 (2 * (i : Int)) = ((2 * i : Nat) : Int) := by rw [wr_i64 (by omega) (by omega)]; omega
    have w2 : wr .i64 (((2 * i : Nat) : Int) + 1) = ((2 * i + 1 : Nat) : Int) := by rw [wr_i64 (by omega) (by omega)]; omega
    have w3 : wr .i64 ((i : Int) + 1) = ((i + 1 : Nat) : Int) := by rw [wr_i64 (by omega) (by omega)]; omega
    obtain ⟨a, ha⟩ : ∃ a, m[2 * i]? = some a := ⟨_, List.getElem?_eq_getElem (by omega)⟩
    obtain ⟨b, hb⟩ : ∃ b, m[2 * i + 1]? = some b := ⟨_, List.getElem?_eq_getElem (by omega)⟩
    have hn := gr_get m i a b ha hb
    have la := a.toNat_lt
    have lb := b.toNat_lt
    have va := v16_get hm (2 * i) a ha
    have vb := v16_get hm (2 * i + 1) b hb
    have hi8 : ((gr m).take i).length = i := by rw [List.length_take]; omega
    have e : wr .i64 (wr .i64 (256 * wr .i64 (a.toNat : Int)) + wr .i64 (b.toNat : Int)) = ((256 * a.toNat + b.toNat : Nat) : Int) := by
      rw [wr_i64 (x := (a.toNat : Int)) (by omega) (by omega), wr_i64 (x := (b.toNat : Int)) (by omega) (by omega), wr_i64 (x := 256 * (a.toNat : Int)) (by omega) (by omega), wr_i64 (by omega) (by omega)]; omega
    have h2 := gv_set (G := (gr m).take i) (by omega) (256 * a.toNat + b.toNat)
    rw [hi8] at h2
    have h3 := ih (i + 1) (by omega)
    rw [List.take_add_one, hn] at h3
    rw [crawlwayref09_groups.l0.eq_def, if_pos (decide_eq_true (by omega)), w1, w2, if_pos (by omega), if_pos (by omega), if_pos (by omega), w3, va, vb, e, h2]
    exact h3
theorem refGroups_ok {m : List UInt8} (hm : m.length = 16) : crawlwayref09_groups (v16 m) = some (gv (gr m)) := by
  unfold crawlwayref09_groups
  have := refGroups_loop hm 8 0 rfl
  rw [List.take_zero, ← gv_zero, show ((0 : Nat) : Int) = 0 from rfl] at this
  rw [this, bindM_some]
theorem run_loop {G : List Nat} (h8 : G.length = 8) (f : Nat) (hf : f ≤ 8) : ∀ (k i : Nat), f + i + k = 8 → crawlwayref09_run.l0 (gv G) (f : Int) (i : Int) = some ((i + runz ((zp G).drop (f + i)) : Nat) : Int) := by
  intro k
  induction k with
  | zero =>
    intro i hi
    have w : wr .i64 ((f : Int) + (i : Int)) = ((f + i : Nat) : Int) := by rw [wr_i64 (by omega) (by omega)]; omega
    rw [crawlwayref09_run.l0.eq_def, w, if_neg (by rw [decide_eq_true_eq]; omega), List.drop_eq_nil_of_le (by rw [zp_len]; omega)]; rfl
  | succ k ih =>
    intro i hi
    have w : wr .i64 ((f : Int) + (i : Int)) = ((f + i : Nat) : Int) := by rw [wr_i64 (by omega) (by omega)]; omega
    have w1 : wr .i64 ((i : Int) + 1) = ((i + 1 : Nat) : Int) := by rw [wr_i64 (by omega) (by omega)]; omega
    obtain ⟨n, hn'⟩ : ∃ n, G[f + i]? = some n := ⟨_, List.getElem?_eq_getElem (by omega)⟩
    obtain ⟨c, hc, hd⟩ := drop_get (zp G) (f + i) (by rw [zp_len]; omega)
    rw [zp_get hn'] at hc
    cases hc
    have ez : ((n : Int) == 0) = (n == 0) := by
      by_cases h : n = 0
      · subst h; rfl
      · have h2 : (n == 0) = false := by simp [h]
        rw [h2, beq_eq_false_iff_ne]; omega
    rw [crawlwayref09_run.l0.eq_def, w, if_pos (decide_eq_true (by omega)), if_pos (by omega), gv_get h8 (f + i) n hn', ez, w1, hd]
    cases hb : (n == 0) with
    | false => rw [if_neg Bool.false_ne_true]; rfl
    | true =>
      rw [if_pos rfl, ih (i + 1) (by omega)]
      simp only [runz]
      rw [show f + (i + 1) = f + i + 1 by omega]
      congr 2; omega
theorem run_ok {G : List Nat} (h8 : G.length = 8) (f : Nat) (hf : f ≤ 8) : crawlwayref09_run (gv G) (f : Int) = some ((runz ((zp G).drop f) : Nat) : Int) := by
  unfold crawlwayref09_run
  have := run_loop h8 f hf (8 - f) 0 (by omega)
  rw [show ((0 : Nat) : Int) = 0 from rfl, Nat.zero_add, Nat.add_zero] at this
  rw [this, bindM_some]
theorem refText_loop {G : List Nat} (h8 : G.length = 8) : ∀ (k i p z : Nat), i + k = 8 → crawlwayref09_Text.l0 (gv G) (p : Int) (z : Int) (i : Int) = some (ii (lgR ((zp G).drop i) i p z)) := by
  intro k
  induction k with
  | zero =>
    intro i p z hi
    obtain rfl : i = 8 := by omega
    rw [crawlwayref09_Text.l0.eq_def, if_neg (by decide), List.drop_eq_nil_of_le (by rw [zp_len]; omega)]; rfl
  | succ k ih =>
    intro i p z hi
    have w1 : wr .i64 ((i : Int) + 1) = ((i + 1 : Nat) : Int) := by rw [wr_i64 (by omega) (by omega)]; omega
    obtain ⟨c, hc, hd⟩ := drop_get (zp G) i (by rw [zp_len]; omega)
    rw [crawlwayref09_Text.l0.eq_def, if_pos (decide_eq_true (by omega)), run_ok h8 i (by omega), bindM_some, bindM_some, w1, hd, lgR]
    by_cases hg : runz (c :: (zp G).drop (i + 1)) > z
    · rw [if_pos (decide_eq_true (by omega)), if_pos hg]
      exact ih (i + 1) _ _ (by omega)
    · rw [if_neg (by rw [decide_eq_true_eq]; omega), if_neg hg]
      exact ih (i + 1) _ _ (by omega)
theorem rowL_snoc : ∀ (A : List Nat) (n : Nat), rowL (A ++ [n]) = if A = [] then g1 n else rowL A ++ 58 :: g1 n
  | [], n => rfl
  | [a], n => by rw [if_neg (by simp)]; rfl
  | a :: b :: r, n => by
    have := rowL_snoc (b :: r) n
    rw [if_neg (by simp)] at this ⊢
    show g1 a ++ 58 :: rowL ((b :: r) ++ [n]) = _
    rw [this, rowL]
    simp
theorem bs_grp (n : Nat) : Hex.grp n = bs (g1 n) := eq_bs _
theorem refRow_loop {G : List Nat} (h8 : G.length = 8) (hlt : ∀ n ∈ G, n < 65536) (f t : Nat) (ht : t ≤ 8) : ∀ (k i : Nat), i + k = t → f ≤ i → crawlwayref09_row.l0 (gv G) (f : Int) (t : Int) (bs (rowL ((G.take i).drop f))) (i : Int) = some (bs (rowL ((G.take t).drop f))) := by
  intro k
  induction k with
  | zero =>
    intro i hi hf
    obtain rfl : i = t := by omega
    rw [crawlwayref09_row.l0.eq_def, if_neg (by rw [decide_eq_true_eq]; omega)]
  | succ k ih =>
    intro i hi hf
    obtain ⟨n, hn⟩ : ∃ n, G[i]? = some n := ⟨_, List.getElem?_eq_getElem (by omega)⟩
    have hn6 := hlt n (List.mem_of_getElem? hn)
    have hgl := g1_len n hn6
    have w1 : wr .i64 ((i : Int) + 1) = ((i + 1 : Nat) : Int) := by rw [wr_i64 (by omega) (by omega)]; omega
    have h3 := ih (i + 1) (by omega) (by omega)
    rw [List.take_add_one, hn, List.drop_append_of_le_length (by rw [List.length_take]; omega)] at h3
    have h3' := h3
    rw [show (some n).toList = [n] from rfl, rowL_snoc] at h3
    have hsz := rowL_len ((G.take i).drop f) fun x hx => hlt x (List.mem_of_mem_take (List.mem_of_mem_drop hx))
    have hll : ((G.take i).drop f).length = i - f := by rw [List.length_drop, List.length_take]; omega
    rw [hll] at hsz
    have h58 : (⟨#[58]⟩ : ByteArray) = bs [58] := rfl
    rw [crawlwayref09_row.l0.eq_def, if_pos (decide_eq_true (by omega)), gv_get h8 i n hn, Hex.refGroup_eq n hn6, bs_grp, w1, h58]
    by_cases hfi : f < i
    · have hne : ¬ (G.take i).drop f = [] := fun e => by have := congrArg List.length e; rw [hll] at this; simp at this; omega
      rw [if_neg hne] at h3
      rw [if_pos (decide_eq_true (by omega)), if_pos (by rw [bs_size, bs_size]; simp only [List.length_cons, List.length_nil]; omega), if_pos (by omega), bindM_some, bs_app, if_pos (by rw [bs_size, bs_size, List.length_append]; simp only [List.length_cons, List.length_nil]; omega), bs_app, List.append_assoc]
      exact h3
    · have he : (G.take i).drop f = [] := List.eq_nil_of_length_eq_zero (by rw [hll]; omega)
      rw [if_pos he] at h3
      rw [if_neg (by rw [decide_eq_true_eq]; omega), if_pos (by omega), bindM_some, if_pos (by rw [bs_size, bs_size]; omega), bs_app, he]
      exact h3
theorem refRow_ok {G : List Nat} (h8 : G.length = 8) (hlt : ∀ n ∈ G, n < 65536) (f t : Nat) (hf : f ≤ t) (ht : t ≤ 8) : crawlwayref09_row (gv G) (f : Int) (t : Int) = some (bs (rowL ((G.take t).drop f))) := by
  unfold crawlwayref09_row
  have h := refRow_loop h8 hlt f t ht (t - f) f (by omega) (Nat.le_refl _)
  have he : (G.take f).drop f = [] := List.drop_eq_nil_of_le (by rw [List.length_take]; omega)
  rw [he] at h
  show (crawlwayref09_row.l0 (gv G) (f : Int) (t : Int) (bs (rowL [])) (f : Int) >>= fun q2 => _) = _
  rw [h, bindM_some]
theorem refText_ok {m : List UInt8} (hm : m.length = 16) : crawlwayref09_Text (v16 m) = some (bs (textL (gr m))) := by
  have hg : (gr m).length = 8 := by rw [gr_len, hm]
  have hlt := gr_lt m
  have hf := lg_fits (z := zp (gr m)) (by rw [zp_len, hg])
  have hl := refText_loop hg 8 0 0 0 rfl
  rw [List.drop_zero, show ((0 : Nat) : Int) = 0 from rfl] at hl
  unfold crawlwayref09_Text
  rw [refGroups_ok hm, bindM_some, hl, bindM_some]
  unfold textL
  show (if decide (((lg (zp (gr m))).2 : Int) < 2) = true then _ else crawlwayref09_row (gv (gr m)) 0 ((lg (zp (gr m))).1 : Int) >>= fun t14 => if t14.size + (⟨#[58, 58]⟩ : ByteArray).size ≤ 140737488355328 then crawlwayref09_row (gv (gr m)) (wr .i64 (((lg (zp (gr m))).1 : Int) + ((lg (zp (gr m))).2 : Int))) 8 >>= fun t16 => if (t14 ++ (⟨#[58, 58]⟩ : ByteArray)).size + t16.size ≤ 140737488355328 then some ((t14 ++ (⟨#[58, 58]⟩ : ByteArray)) ++ t16) else none else none) = _
  generalize lg (zp (gr m)) = q at hf
  obtain ⟨p, z⟩ := q
  simp only at hf ⊢
  by_cases h2 : z < 2
  · have hr := refRow_ok hg hlt 0 8 (by omega) (by omega)
    rw [show ((0 : Nat) : Int) = 0 from rfl, show ((8 : Nat) : Int) = 8 from rfl, List.take_of_length_le (by omega), List.drop_zero] at hr
    rw [if_pos (decide_eq_true (by omega)), if_pos h2, hr]; rfl
  · have w : wr .i64 ((p : Int) + (z : Int)) = ((p + z : Nat) : Int) := by rw [wr_i64 (by omega) (by omega)]; omega
    have hA := rowL_len ((gr m).take p) fun n hn => hlt n (List.mem_of_mem_take hn)
    have hB := rowL_len ((gr m).drop (p + z)) fun n hn => hlt n (List.mem_of_mem_drop hn)
    rw [List.length_take] at hA
    rw [List.length_drop] at hB
    have r1 := refRow_ok hg hlt 0 p (by omega) (by omega)
    rw [show ((0 : Nat) : Int) = 0 from rfl, List.drop_zero] at r1
    have r2 := refRow_ok hg hlt (p + z) 8 (by omega) (by omega)
    rw [show ((8 : Nat) : Int) = 8 from rfl, List.take_of_length_le (by omega)] at r2
    have h58 : (⟨#[58, 58]⟩ : ByteArray) = bs [58, 58] := rfl
    rw [if_neg (by rw [decide_eq_true_eq]; omega), r1, bindM_some, h58, if_pos (by rw [bs_size, bs_size]; simp only [List.length_cons, List.length_nil]; omega), w, r2, bindM_some, bs_app, if_pos (by rw [bs_size, bs_size]; simp only [List.length_append, List.length_cons, List.length_nil]; omega), bs_app, if_neg h2]
    rw [List.append_assoc]; rfl
end Go.Proofs.YtkkmmpofdcccmaaGreatDoor.Col
namespace Go.Proofs.YtkkmmpofdcccmaaGreatDoor.AdrT
open E Go.RowKit
open Adr
def z16 : List UInt8 := List.replicate 16 0
def hasC (l : List UInt8) : Bool := l.any (· == 58)
theorem hasC_iff (l : List UInt8) : hasC l = true ↔ ∃ p r, l = p ++ 58 :: r ∧ ∀ x ∈ p, x ≠ 58 := by
  constructor
  · intro h
    rcases split_at 58 l with h2 | h2
    · unfold hasC at h
      obtain ⟨x, hx, h3⟩ := List.any_eq_true.1 h
      exact absurd (beq_iff_eq.1 h3) (h2 x hx)
    · exact h2
  · rintro ⟨p, r, rfl, _⟩
    unfold hasC; simp
theorem hasC_no {l : List UInt8} (h : hasC l = false) : ∀ x ∈ l, x ≠ 58 := fun x hx e => by
  have := List.any_eq_false.1 h x hx
  subst e; simp at this
theorem unb_ob (l : List UInt8) : unb (ob l) = l := by
  unfold unb ob
  rw [List.map_map]
  conv => rhs; rw [← List.map_id l]
  apply List.map_congr_left
  intro b _
  show UInt8.ofNat (Int.toNat ((b.toNat : Int))) = b
  rw [Int.toNat_natCast, UInt8.ofNat_toNat]
def quadA (l : List UInt8) : S_api_Addr × Int := if (quadP l).2 = 0 then (mkA 4 (fourL (unb (quadP l).1.toList)), 0) else (mkA 0 z16, ((quadP l).2 : Int))
def adrP (l : List UInt8) : S_api_Addr × Int := if hasC l = true then (match Col.parseL l with | some G => (mkA 6 (Col.un G), 0) | none => (mkA 0 z16, 5)) else quadA l
theorem six_eq (m : List UInt8) : addr_Six (Col.v16 m) = some (mkA 6 m) := rfl
theorem four_v4 {m : List UInt8} (hm : m.length = 4) : addr_Four (v4 m) = some (mkA 4 (fourL m)) := four_eq _ _ (v4_toList hm)
theorem quadP_m {l : List UInt8} (h : (quadP l).2 = 0) : ∃ m, m.length = 4 ∧ (quadP l).1 = v4 m ∧ unb (quadP l).1.toList = m ∧ qText m = l := by
  obtain ⟨m, hm, hq, ht⟩ := quadP_back h
  refine ⟨m, hm, by rw [hq], ?_, ht⟩
  rw [hq]
  show unb (v4 m).toList = m
  rw [v4_toList hm, unb_ob]
theorem addr_parse (l : List UInt8) (hl : l.length < 1000000) : addr_Parse (bs l) = some (adrP l) := by
  unfold addr_Parse adrP
  have h58 : ((58 : UInt8).toNat : Int) = 58 := rfl
  cases hc : hasC l with
  | true =>
    obtain ⟨p, r, he, hp⟩ := (hasC_iff l).1 hc
    have hcut : lines_Cut (bs l) 58 = some (bs p, bs r, true) := by
      rw [he, ← h58]; exact cut_some p r 58 hp (by rw [he] at hl; simp at hl; omega)
    rw [hcut, bindM_some, if_pos rfl, if_pos rfl, Col.colon_parse l hl, bindM_some]
    unfold Col.parseV
    cases hq : Col.parseL l with
    | none =>
      show (if ((5 : Int) != 0) = true then _ else _) = _
      rw [if_pos (by decide), zero_mkA]; rfl
    | some G =>
      show (if ((0 : Int) != 0) = true then _ else (addr_Six (Col.v16 (Col.un G)) >>= fun t7 => some (t7, 0))) = _
      rw [if_neg (by decide), six_eq, bindM_some]
  | false =>
    have hcut := cut_none l 58 (hasC_no hc)
    rw [h58] at hcut
    rw [hcut, bindM_some, if_neg Bool.false_ne_true, if_neg Bool.false_ne_true, quad_parse l hl, bindM_some]
    unfold quadA
    by_cases h0 : (quadP l).2 = 0
    · obtain ⟨m, hm, hv, hu, _⟩ := quadP_m h0
      have hb : ((viOf (quadP l)).2 != 0) = false := by
        show ((((quadP l).2 : Nat) : Int) != 0) = false
        rw [h0]; rfl
      rw [hb, if_neg Bool.false_ne_true, if_pos h0, hu]
      show (addr_Four (quadP l).1 >>= fun t11 => some (t11, 0)) = _
      rw [hv, four_v4 hm, bindM_some]
    · have hb : ((viOf (quadP l)).2 != 0) = true := by rw [bne_iff_ne]; show (((quadP l).2 : Nat) : Int) ≠ 0; omega
      rw [hb, if_pos rfl, if_neg h0, zero_mkA]; rfl
def adrT (V : Int) (l : List UInt8) : List UInt8 := if rightL V l = true then (if V = 4 then qText (l.take 4) else Col.textL (Col.gr l)) else []
theorem addr_text {V : Int} {l : List UInt8} (hl : l.length = 16) : addr_Text (mkA V l) = some (bs (adrT V l)) := by
  unfold addr_Text adrT
  rw [right_code hl, bindM_some]
  cases hr : rightL V l with
  | false => rfl
  | true =>
    have h4l : (l.take 4).length = 4 := by rw [List.length_take]; omega
    rw [if_neg (by decide), if_pos rfl]
    by_cases h4 : V = 4
    · have e : ((mkA V l).f_V == 4) = true := by show (V == 4) = true; rw [h4]; rfl
      rw [e, if_pos rfl, if_pos h4]
      show (if 4 ≤ (lsub (vb l).toList 0 4).length then (quad_Text (lvec 4 (lsub (vb l).toList 0 4)) >>= fun t9 => some t9) else none) = _
      have hv : lvec 4 (lsub (vb l).toList 0 4) = v4 (l.take 4) := v4_of (take4 hl)
      rw [if_pos (take4_len hl), hv, quad_text h4l]; rfl
    · have e : ((mkA V l).f_V == 4) = false := by rw [beq_eq_false_iff_ne]; exact h4
      rw [e, if_neg Bool.false_ne_true, if_neg h4]
      show (colon_Text (Col.v16 l) >>= fun t10 => some t10) = _
      rw [Col.text_ok hl]; rfl
theorem four_vget {l : List UInt8} (hl : l.length = 16) : vset (vset (vset (vset (Vector.replicate 4 (0 : Int) : (Vector Int 4)) 0 (vget (vb l) 0)) 1 (vget (vb l) 1)) 2 (vget (vb l) 2)) 3 (vget (vb l) 3) = v4 (l.take 4) := by
  have g0 := vget_vb hl 0 (by omega)
  have g1 := vget_vb hl 1 (by omega)
  have g2 := vget_vb hl 2 (by omega)
  have g3 := vget_vb hl 3 (by omega)
  rw [show ((0 : Nat) : Int) = 0 from rfl] at g0
  rw [show ((1 : Nat) : Int) = 1 from rfl] at g1
  rw [show ((2 : Nat) : Int) = 2 from rfl] at g2
  rw [show ((3 : Nat) : Int) = 3 from rfl] at g3
  apply v4_of
  rw [g0, g1, g2, g3]
  obtain ⟨a, b, c, d, r, rfl⟩ : ∃ a b c d r, l = a :: b :: c :: d :: r := by
    obtain ⟨a, l1, rfl⟩ := List.exists_cons_of_length_pos (show 0 < l.length by omega)
    rw [List.length_cons] at hl
    obtain ⟨b, l2, rfl⟩ := List.exists_cons_of_length_pos (show 0 < l1.length by omega)
    rw [List.length_cons] at hl
    obtain ⟨c, l3, rfl⟩ := List.exists_cons_of_length_pos (show 0 < l2.length by omega)
    rw [List.length_cons] at hl
    obtain ⟨d, l4, rfl⟩ := List.exists_cons_of_length_pos (show 0 < l3.length by omega)
    exact ⟨a, b, c, d, l4, rfl⟩
  have e0 : bg (a :: b :: c :: d :: r) 0 = a.toNat := rfl
  have e1 : bg (a :: b :: c :: d :: r) 1 = b.toNat := rfl
  have e2 : bg (a :: b :: c :: d :: r) 2 = c.toNat := rfl
  have e3 : bg (a :: b :: c :: d :: r) 3 = d.toNat := rfl
  have et : (a :: b :: c :: d :: r).take 4 = [a, b, c, d] := rfl
  rw [e0, e1, e2, e3, et]
  simp only [vset_toList]
  rfl
theorem ref_text10 {V : Int} {l : List UInt8} (hl : l.length = 16) : crawlwayref10_Text (mkA V l) = some (bs (adrT V l)) := by
  unfold crawlwayref10_Text adrT
  rw [right_ref hl, bindM_some]
  cases hr : rightL V l with
  | false => rfl
  | true =>
    have h4l : (l.take 4).length = 4 := by rw [List.length_take]; omega
    rw [if_neg (by decide), if_pos rfl]
    rcases right_cases hr with h6 | ⟨h4, _⟩
    · subst h6
      rw [if_pos (show ((mkA 6 l).f_V == 6) = true from rfl), if_neg (by decide)]
      show (crawlwayref09_Text (Col.v16 l) >>= fun t5 => some t5) = _
      rw [Col.refText_ok hl]; rfl
    · subst h4
      have e46 : ((mkA 4 l).f_V == 6) = false := beq_eq_false_iff_ne.2 (by show (4 : Int) ≠ 6; decide)
      rw [e46, if_neg Bool.false_ne_true, if_pos rfl]
      show (crawlwayref08_Text (vset (vset (vset (vset (Vector.replicate 4 (0 : Int) : (Vector Int 4)) 0 (vget (vb l) 0)) 1 (vget (vb l) 1)) 2 (vget (vb l) 2)) 3 (vget (vb l) 3)) >>= fun t6 => some t6) = _
      rw [four_vget hl, refQuad_loop h4l]; rfl
theorem dec_nocolon (n : Nat) : ∀ x ∈ Lib.decDigits n, x ≠ 58 := fun x hx => by
  have := dig_iff.1 (List.all_eq_true.1 (decDigits_dig n) x hx)
  intro e; subst e
  have : (58 : UInt8).toNat = 58 := rfl
  omega
theorem qText_nocolon {m : List UInt8} (hm : m.length = 4) : hasC (qText m) = false := by
  cases h : hasC (qText m) with
  | false => rfl
  | true =>
    exfalso
    unfold hasC at h
    obtain ⟨x, hx, h3⟩ := List.any_eq_true.1 h
    have h58 := beq_iff_eq.1 h3
    match m, hm with
    | [a, b, c, d], _ =>
      have hx' : x ∈ Lib.decDigits a.toNat ++ 46 :: (Lib.decDigits b.toNat ++ 46 :: (Lib.decDigits c.toNat ++ 46 :: Lib.decDigits d.toNat)) := hx
      simp only [List.mem_append, List.mem_cons] at hx'
      rcases hx' with h | h | h | h | h | h | h
      · exact dec_nocolon _ x h h58
      · subst h; cases h58
      · exact dec_nocolon _ x h h58
      · subst h; cases h58
      · exact dec_nocolon _ x h h58
      · subst h; cases h58
      · exact dec_nocolon _ x h h58
theorem hasC_app (p r : List UInt8) : hasC (p ++ 58 :: r) = true := by unfold hasC; simp
theorem textL_colon {G : List Nat} (h8 : G.length = 8) : hasC (Col.textL G) = true := by
  unfold Col.textL
  split
  · match G, h8 with
    | a :: b :: r, _ => exact hasC_app _ _
  · exact hasC_app _ _
theorem parse_text10 {V : Int} {l : List UInt8} (hl : l.length = 16) (hr : rightL V l = true) : adrP (adrT V l) = (mkA V l, 0) := by
  unfold adrT adrP
  rw [if_pos hr]
  rcases right_cases hr with h6 | ⟨h4, hlow⟩
  · subst h6
    have hg : (Col.gr l).length = 8 := by rw [Col.gr_len, hl]
    rw [if_neg (show ¬ (6 : Int) = 4 by decide), textL_colon hg, if_pos rfl, Col.parse_text _ (Col.gr_lt l) hg]
    show (mkA 6 (Col.un (Col.gr l)), (0 : Int)) = _
    rw [Col.un_gr l (by omega)]
  · subst h4
    have h4l : (l.take 4).length = 4 := by rw [List.length_take]; omega
    rw [if_pos rfl, qText_nocolon h4l, if_neg Bool.false_ne_true]
    unfold quadA
    rw [quadP_text h4l]
    show (if (0 : Nat) = 0 then (mkA 4 (fourL (unb (v4 (l.take 4)).toList)), (0 : Int)) else _) = _
    rw [if_pos rfl, v4_toList h4l, unb_ob, ← (low_iff hl).1 hlow]
theorem adrP_right {h : List UInt8} (e : (adrP h).2 = 0) : ∃ V k, (adrP h).1 = mkA V k ∧ k.length = 16 ∧ rightL V k = true := by
  unfold adrP at e ⊢
  split at e
  · next hc =>
    rw [if_pos hc]
    cases hq : Col.parseL h with
    | none => rw [hq] at e; cases e
    | some G =>
      exact ⟨6, Col.un G, rfl, by rw [Col.un_len, (Col.parseL_ok hq).1], rfl⟩
  · next hc =>
    rw [if_neg hc]
    unfold quadA at e ⊢
    split at e
    · next h0 =>
      obtain ⟨m, hm, _, hu, _⟩ := quadP_m h0
      rw [if_pos h0, hu]
      have hf := fourL_len hm
      refine ⟨4, fourL m, rfl, hf, ?_⟩
      unfold rightL
      have hlow : low (fourL m) = true := (low_iff hf).2 (by
        unfold fourL
        rw [List.take_left' hm])
      rw [hlow]; rfl
    · next h0 =>
      have : ((quadP h).2 : Int) = 0 := e
      omega
theorem adrT_len {V : Int} {l : List UInt8} (hl : l.length = 16) : (adrT V l).length ≤ 42 := by
  unfold adrT
  split
  · split
    · have := qText_len (m := l.take 4) (by rw [List.length_take]; omega); omega
    · exact Col.textL_len _ (Col.gr_lt l) (by rw [Col.gr_len, hl])
  · simp
end Go.Proofs.YtkkmmpofdcccmaaGreatDoor.AdrT
namespace Go.Proofs.YtkkmmpofdcccmaaGreatDoor.Cid
open E Go.RowKit
open Adr AdrT
theorem whole_code {V : Int} {l : List UInt8} (hl : l.length = 16) : cidr_Whole (mkA V l) = some (ofP V l (widthL V l : Int)).1 := by
  unfold cidr_Whole
  rw [width_code hl, bindM_some, of_code hl, bindM_some]
theorem bs_app (l k : List UInt8) : bs l ++ bs k = bs (l ++ k) := by apply mk_inj; rw [append_list, bs_list, bs_list, bs_list]
theorem fmtU_bs (k : Nat) : fmtU (k : Int) = bs (Lib.decDigits k) := by apply mk_inj; rw [fmtU_list, bs_list]
def cidT (V : Int) (l : List UInt8) (b : Nat) : List UInt8 := adrT V l ++ 47 :: Lib.decDigits b
theorem cidT_len {V : Int} {l : List UInt8} (hl : l.length = 16) (b : Nat) (hb : b ≤ 128) : (cidT V l b).length ≤ 70 := by
  have h1 := adrT_len (V := V) hl
  have h2 := decDigits_len b (by omega)
  unfold cidT
  simp only [List.length_append, List.length_cons]; omega
theorem ctext_code {V b : Int} {l : List UInt8} (hl : l.length = 16) : cidr_Text (mkP (mkA V l) b) = some (bs (if rightP V l b = true then cidT V l b.toNat else [])) := by
  unfold cidr_Text
  rw [cright_code hl, bindM_some]
  cases hr : rightP V l b with
  | false => rw [if_pos (show (!false) = true from rfl)]; rfl
  | true =>
    obtain ⟨⟨hrl, h0, h1⟩, _⟩ := rightP_iff.1 hr
    have hw := width_le (V := V) (l := l)
    obtain ⟨k, rfl⟩ := Int.eq_ofNat_of_zero_le h0
    have ht := adrT_len (V := V) hl
    have hd := decDigits_len k (by omega)
    have b47 : (⟨#[47]⟩ : ByteArray) = bs [47] := rfl
    rw [if_neg (show ¬ (!true) = true by decide), if_pos rfl, Int.toNat_natCast]
    show (addr_Text (mkA V l) >>= fun t4 => if t4.size + (⟨#[47]⟩ : ByteArray).size ≤ 140737488355328 then decimal_Text (wr .u64 (k : Int)) >>= fun t6 => if (t4 ++ (⟨#[47]⟩ : ByteArray)).size + t6.size ≤ 140737488355328 then some ((t4 ++ (⟨#[47]⟩ : ByteArray)) ++ t6) else none else none) = _
    rw [addr_text hl, bindM_some, b47, if_pos (by rw [bs_size, bs_size]; simp only [List.length_cons, List.length_nil]; omega), wr_u64 (by omega) (by omega), text_code k (by omega), bindM_some, fmtU_bs, bs_app, if_pos (by rw [bs_size, bs_size, List.length_append]; simp only [List.length_cons, List.length_nil]; omega), bs_app]
    unfold cidT
    rw [List.append_assoc]; rfl
theorem ctext_ref {V b : Int} {l : List UInt8} (hl : l.length = 16) : crawlwayref11_Text (mkP (mkA V l) b) = some (bs (if rightP V l b = true then cidT V l b.toNat else [])) := by
  unfold crawlwayref11_Text
  rw [cright_ref hl, bindM_some]
  cases hr : rightP V l b with
  | false => rw [if_pos (show (!false) = true from rfl)]; rfl
  | true =>
    obtain ⟨⟨hrl, h0, h1⟩, _⟩ := rightP_iff.1 hr
    have hw := width_le (V := V) (l := l)
    obtain ⟨k, rfl⟩ := Int.eq_ofNat_of_zero_le h0
    have ht := adrT_len (V := V) hl
    have hd := decDigits_len k (by omega)
    have b47 : (⟨#[47]⟩ : ByteArray) = bs [47] := rfl
    rw [if_neg (show ¬ (!true) = true by decide), if_pos rfl, Int.toNat_natCast]
    show (crawlwayref10_Text (mkA V l) >>= fun t4 => if t4.size + (⟨#[47]⟩ : ByteArray).size ≤ 140737488355328 then crawlwayref03_Text (wr .u64 (k : Int)) >>= fun t6 => if (t4 ++ (⟨#[47]⟩ : ByteArray)).size + t6.size ≤ 140737488355328 then some ((t4 ++ (⟨#[47]⟩ : ByteArray)) ++ t6) else none else none) = _
    rw [ref_text10 hl, bindM_some, b47, if_pos (by rw [bs_size, bs_size]; simp only [List.length_cons, List.length_nil]; omega), wr_u64 (by omega) (by omega), text_ref k (by omega), bindM_some, fmtU_bs, bs_app, if_pos (by rw [bs_size, bs_size, List.length_append]; simp only [List.length_cons, List.length_nil]; omega), bs_app]
    unfold cidT
    rw [List.append_assoc]; rfl
theorem dg_47 : ∀ n : Fin 16, Hex.dg n.1 ≠ 47 := by decide +kernel
theorem g1_47 (n : Nat) : ∀ x ∈ Col.g1 n, x ≠ 47 := by
  induction n using Nat.strongRecOn with
  | _ n ih =>
    intro x hx
    unfold Col.g1 Hex.grp at hx
    split at hx
    · next h =>
      simp only [Hex.dig, List.mem_singleton] at hx
      subst hx
      exact dg_47 ⟨n, h⟩
    · next h =>
      rw [append_list] at hx
      rcases List.mem_append.1 hx with hx | hx
      · exact ih _ (show n / 16 < n by omega) x hx
      · simp only [Hex.dig, List.mem_singleton] at hx
        subst hx
        exact dg_47 ⟨n % 16, by omega⟩
theorem rowL_47 : ∀ (G : List Nat), ∀ x ∈ Col.rowL G, x ≠ 47
  | [], x, h => by cases h
  | [n], x, h => g1_47 n x h
  | n :: m :: r, x, h => by
    rcases List.mem_append.1 h with h | h
    · exact g1_47 n x h
    · rcases List.mem_cons.1 h with rfl | h
      · decide
      · exact rowL_47 (m :: r) x h
theorem textL_47 (G : List Nat) : ∀ x ∈ Col.textL G, x ≠ 47 := by
  intro x h
  unfold Col.textL at h
  split at h
  · exact rowL_47 _ x h
  · rcases List.mem_append.1 h with h | h
    · exact rowL_47 _ x h
    · rcases List.mem_cons.1 h with rfl | h
      · decide
      · rcases List.mem_cons.1 h with rfl | h
        · decide
        · exact rowL_47 _ x h
theorem dec_47 (n : Nat) : ∀ x ∈ Lib.decDigits n, x ≠ 47 := fun x hx => by
  have := dig_iff.1 (List.all_eq_true.1 (decDigits_dig n) x hx)
  intro e; subst e
  have : (47 : UInt8).toNat = 47 := rfl
  omega
theorem qText_47 {m : List UInt8} (hm : m.length = 4) : ∀ x ∈ qText m, x ≠ 47 := by
  intro x hx
  match m, hm with
  | [a, b, c, d], _ =>
    have hx' : x ∈ Lib.decDigits a.toNat ++ 46 :: (Lib.decDigits b.toNat ++ 46 :: (Lib.decDigits c.toNat ++ 46 :: Lib.decDigits d.toNat)) := hx
    simp only [List.mem_append, List.mem_cons] at hx'
    rcases hx' with h | h | h | h | h | h | h
    · exact dec_47 _ x h
    · subst h; decide
    · exact dec_47 _ x h
    · subst h; decide
    · exact dec_47 _ x h
    · subst h; decide
    · exact dec_47 _ x h
theorem adrT_47 {V : Int} {l : List UInt8} (hl : l.length = 16) : ∀ x ∈ adrT V l, x ≠ 47 := by
  intro x hx
  unfold adrT at hx
  split at hx
  · split at hx
    · exact qText_47 (by rw [List.length_take]; omega) x hx
    · exact textL_47 _ x hx
  · cases hx
def f47 : List UInt8 → Option (List UInt8 × List UInt8)
  | [] => none
  | c :: r => if c = 47 then some ([], r) else (f47 r).map fun q => (c :: q.1, q.2)
theorem f47_at (r : List UInt8) : ∀ (p : List UInt8), (∀ x ∈ p, x ≠ 47) → f47 (p ++ 47 :: r) = some (p, r)
  | [], _ => by
    show (if (47 : UInt8) = 47 then some ([], r) else _) = _
    rw [if_pos rfl]
  | c :: p, h => by
    show (if c = 47 then _ else (f47 (p ++ 47 :: r)).map _) = _
    rw [if_neg (h c (List.mem_cons_self ..)), f47_at r p fun x hx => h x (List.mem_cons_of_mem _ hx)]; rfl
theorem f47_none : ∀ (l : List UInt8), (∀ x ∈ l, x ≠ 47) → f47 l = none
  | [], _ => rfl
  | c :: r, h => by
    unfold f47
    rw [if_neg (h c (List.mem_cons_self ..)), f47_none r fun x hx => h x (List.mem_cons_of_mem _ hx)]; rfl
def wd (A : S_api_Addr) : Nat := ((addr_Width A).getD 0).toNat
def ofA (A : S_api_Addr) (b : Int) : S_api_Prefix × Int := (cidr_Of A b).getD (zP, 0)
theorem wd_mkA {V : Int} {l : List UInt8} (hl : l.length = 16) : wd (mkA V l) = widthL V l := by
  unfold wd
  rw [width_code hl]; rfl
theorem ofA_mkA {V b : Int} {l : List UInt8} (hl : l.length = 16) : ofA (mkA V l) b = ofP V l b := by
  unfold ofA
  rw [of_code hl]; rfl
def cidP (l : List UInt8) : S_api_Prefix × Int := match f47 l with
  | none => if (adrP l).2 = 0 then ofA (adrP l).1 (wd (adrP l).1 : Int) else (zP, (adrP l).2)
  | some (h, p) => if (adrP h).2 = 0 then (if (rdU p (wd (adrP h).1)).2 = 0 then ofA (adrP h).1 ((rdU p (wd (adrP h).1)).1 : Int) else (zP, ((rdU p (wd (adrP h).1)).2 : Int))) else (zP, (adrP h).2)
theorem whole_fits {V : Int} {l : List UInt8} (hr : rightL V l = true) : fits V l (widthL V l : Int) = true := fits_iff.2 ⟨hr, by omega, by omega⟩
theorem cid_parse (l : List UInt8) (hl : l.length < 100000) : cidr_Parse (bs l) = some (cidP l) := by
  unfold cidr_Parse cidP
  have h47 : ((47 : UInt8).toNat : Int) = 47 := rfl
  rcases split_at 47 l with h2 | ⟨h, r, rfl, h2⟩
  · have hcut := cut_none l 47 h2
    rw [h47] at hcut
    rw [hcut, bindM_some, f47_none l h2]
    show (addr_Parse (bs l) >>= fun t3 => _) = _
    rw [addr_parse l (by omega), bindM_some]
    by_cases h0 : (adrP l).2 = 0
    · obtain ⟨V, k, hA, hk, hr⟩ := adrP_right h0
      have e : ((adrP l).2 != 0) = false := by rw [h0]; rfl
      rw [e, if_neg Bool.false_ne_true, if_pos (show (!false) = true from rfl), hA, whole_code hk, bindM_some]
      simp only [h0, if_true]
      rw [wd_mkA hk, ofA_mkA hk]
      unfold ofP
      rw [if_pos hr, if_pos (whole_fits hr)]
    · have e : ((adrP l).2 != 0) = true := by rw [bne_iff_ne]; exact h0
      rw [e, if_pos rfl]
      simp only [h0, if_false]; rfl
  · have hlen : (h ++ 47 :: r).length = h.length + (r.length + 1) := by simp
    have hcut := cut_some h r 47 h2 (by omega)
    rw [h47] at hcut
    rw [hcut, bindM_some, f47_at r h h2]
    show (addr_Parse (bs h) >>= fun t3 => _) = _
    rw [addr_parse h (by omega), bindM_some]
    by_cases h0 : (adrP h).2 = 0
    · obtain ⟨V, k, hA, hk, hr⟩ := adrP_right h0
      have hw := width_le (V := V) (l := k)
      have e : ((adrP h).2 != 0) = false := by rw [h0]; rfl
      rw [e, if_neg Bool.false_ne_true, if_neg (show ¬ (!true) = true by decide), hA, width_code hk, bindM_some]
      simp only [h0, if_true]
      rw [hA, wd_mkA hk]
      have hrd := read_code (bs r) (widthL V k) (by rw [bs_size]; omega) (by omega)
      rw [bs_list] at hrd
      have hle := rdU_le r (widthL V k)
      rw [wr_u64 (by omega) (by omega)]
      show (decimal_Read (bs r) ((widthL V k : Nat) : Int) >>= fun t9 => _) = _
      rw [hrd, bindM_some]
      show (if ((((rdU r (widthL V k)).2 : Nat) : Int) != 0) = true then some (zP, (((rdU r (widthL V k)).2 : Nat) : Int)) else (cidr_Of (mkA V k) (wr .i64 (((rdU r (widthL V k)).1 : Nat) : Int)) >>= fun t11 => some (t11.1, t11.2))) = _
      by_cases h3 : (rdU r (widthL V k)).2 = 0
      · have e3 : ((((rdU r (widthL V k)).2 : Nat) : Int) != 0) = false := by rw [h3]; rfl
        rw [e3, if_neg Bool.false_ne_true, if_pos h3, wr_i64 (by omega) (by omega), of_code hk, bindM_some, ofA_mkA hk]
      · have e3 : ((((rdU r (widthL V k)).2 : Nat) : Int) != 0) = true := by rw [bne_iff_ne]; omega
        rw [e3, if_pos rfl, if_neg h3]
    · have e : ((adrP h).2 != 0) = true := by rw [bne_iff_ne]; exact h0
      rw [e, if_pos rfl]
      simp only [h0, if_false]; rfl
theorem cidP_text {V : Int} {l : List UInt8} (hl : l.length = 16) (b : Nat) (hr : rightP V l (b : Int) = true) : cidP (cidT V l b) = (mkP (mkA V l) (b : Int), 0) := by
  obtain ⟨⟨hrl, h0, h1⟩, hm⟩ := rightP_iff.1 hr
  unfold cidP cidT
  rw [f47_at _ _ (adrT_47 hl)]
  simp only
  rw [parse_text10 hl hrl]
  simp only [if_true]
  have hrd : rdU (Lib.decDigits b) (widthL V l) = (b, 0) := by rw [rdU_text, if_pos (by omega)]
  rw [wd_mkA hl, hrd]
  simp only [if_true]
  rw [ofA_mkA hl]
  unfold ofP
  rw [if_pos hrl, if_pos (fits_iff.2 ⟨hrl, h0, h1⟩), hm]
end Go.Proofs.YtkkmmpofdcccmaaGreatDoor.Cid
namespace Go.Proofs.YtkkmmpofdcccmaaGreatDoor.Host
open E Go.RowKit
open Adr AdrT
def isB : List UInt8 → Bool
  | x :: y :: _ => x == 93 && y == 58
  | _ => false
theorem isB_iff (r : List UInt8) : isB r = true ↔ ∃ r2, r = 93 :: 58 :: r2 := by
  match r with
  | [] => simp [isB]
  | [x] => simp [isB]
  | x :: y :: r => simp [isB]
def cutL : List UInt8 → Option (List UInt8 × List UInt8)
  | [] => none
  | c :: r => if isB (c :: r) = true then some ([], r.drop 1) else (cutL r).map fun q => (c :: q.1, q.2)
theorem cutL_eq : ∀ {l a b : List UInt8}, cutL l = some (a, b) → l = a ++ 93 :: 58 :: b
  | [], _, _, h => by cases h
  | c :: r, a, b, h => by
    unfold cutL at h
    split at h
    · next hc =>
      obtain ⟨r2, hr⟩ := (isB_iff _).1 hc
      cases h
      rw [hr]
      obtain ⟨_, rfl⟩ := List.cons.inj hr
      rfl
    · obtain ⟨q, hq, h⟩ := Option.map_eq_some_iff.1 h
      obtain ⟨a', b'⟩ := q
      cases h
      rw [cutL_eq hq]; rfl
theorem pre_isB (l : List UInt8) : List.isPrefixOf [93, 58] l = isB l := by
  match l with
  | [] => rfl
  | [x] => simp [List.isPrefixOf, isB]
  | x :: y :: r => simp only [List.isPrefixOf, isB, Bool.and_true]; rw [BEq.comm (a := (93 : UInt8)), BEq.comm (a := (58 : UInt8))]
theorem index_cut : ∀ (l : List UInt8), Lib.index l [93, 58] = match cutL l with | some (a, _) => (a.length : Int) | none => -1
  | [] => rfl
  | c :: r => by
    unfold Lib.index cutL
    rw [pre_isB]
    by_cases h : isB (c :: r) = true
    · rw [if_pos h, if_pos h]; rfl
    · rw [if_neg h, if_neg h, index_cut r]
      cases cutL r with
      | none => rfl
      | some q =>
        obtain ⟨a, b⟩ := q
        have : (((a.length : Nat) : Int) == -1) = false := by rw [beq_eq_false_iff_ne]; omega
        simp only [Option.map_some, List.length_cons]
        rw [this, if_neg Bool.false_ne_true]
        exact (Int.natCast_succ _).symm
theorem lib_cut (l : List UInt8) : Lib.cut l [93, 58] = match cutL l with | some (a, b) => (a, b, true) | none => (l, [], false) := by
  unfold Lib.cut
  rw [index_cut]
  cases h : cutL l with
  | none => rfl
  | some q =>
    obtain ⟨a, b⟩ := q
    have hl := cutL_eq h
    simp only
    rw [if_pos (by omega), Int.toNat_natCast]
    have e1 : l.take a.length = a := by rw [hl]; exact List.take_left' rfl
    have e2 : l.drop (a.length + ([93, 58] : List UInt8).length) = b := by
      rw [hl, List.drop_append, List.drop_eq_nil_of_le (by omega)]
      simp only [List.length_cons, List.length_nil, List.nil_append]
      rw [show a.length + (0 + 1 + 1) - a.length = 2 by omega]; rfl
    rw [e1, e2]
theorem scut_eq (l : List UInt8) : scut (bs l) (⟨#[93, 58]⟩ : ByteArray) = match cutL l with | some (a, b) => (bs a, bs b, true) | none => (bs l, bs [], false) := by
  have h := lib_cut l
  unfold scut
  rw [bs_list]
  show ((⟨(Lib.cut l [93, 58]).1.toArray⟩ : ByteArray), (⟨(Lib.cut l [93, 58]).2.1.toArray⟩ : ByteArray), (Lib.cut l [93, 58]).2.2) = _
  rw [h]
  cases cutL l with
  | none => rfl
  | some q => rfl
theorem index_colon (l : List UInt8) : decide (0 ≤ Lib.indexByte l 58) = hasC l := by
  cases hc : hasC l with
  | true =>
    obtain ⟨p, r, rfl, hp⟩ := (hasC_iff l).1 hc
    rw [index_at p r 58 hp]
    exact decide_eq_true (by omega)
  | false =>
    have := cut_none l 58 (hasC_no hc)
    have h1 := Lib.indexByte_ge l 58
    refine decide_eq_false fun h => ?_
    obtain ⟨o, ho⟩ := Int.eq_ofNat_of_zero_le h
    have := (Lib.indexByte_some ho).1
    exact hasC_no hc 58 (List.mem_of_getElem? this) rfl
def f58 : List UInt8 → Option (List UInt8 × List UInt8)
  | [] => none
  | c :: r => if c = 58 then some ([], r) else (f58 r).map fun q => (c :: q.1, q.2)
theorem f58_at (r : List UInt8) : ∀ (p : List UInt8), (∀ x ∈ p, x ≠ 58) → f58 (p ++ 58 :: r) = some (p, r)
  | [], _ => by
    show (if (58 : UInt8) = 58 then some ([], r) else _) = _
    rw [if_pos rfl]
  | c :: p, h => by
    show (if c = 58 then _ else (f58 (p ++ 58 :: r)).map _) = _
    rw [if_neg (h c (List.mem_cons_self ..)), f58_at r p fun x hx => h x (List.mem_cons_of_mem _ hx)]; rfl
theorem f58_none : ∀ (l : List UInt8), (∀ x ∈ l, x ≠ 58) → f58 l = none
  | [], _ => rfl
  | c :: r, h => by
    unfold f58
    rw [if_neg (h c (List.mem_cons_self ..)), f58_none r fun x hx => h x (List.mem_cons_of_mem _ hx)]; rfl
def six (l : List UInt8) : Bool := l.head? == some 91
def halL (l : List UInt8) : Option (List UInt8 × List UInt8) := if six l = true then (cutL (l.drop 1)).bind fun q => if hasC q.1 = true then some q else none else f58 l
theorem cutPrefix (l : List UInt8) : strings_CutPrefix (bs l) (⟨#[91]⟩ : ByteArray) = some (if six l = true then (bs (l.drop 1), true) else (bs l, false)) := by
  have hp : stringslite_HasPrefix (bs l) (⟨#[91]⟩ : ByteArray) = some (six l) := by
    unfold stringslite_HasPrefix
    cases l with
    | nil => rw [if_neg (by decide)]; rfl
    | cons x r =>
      have hsz : (bs (x :: r)).size = r.length + 1 := bs_size _
      have h1 : ((⟨#[91]⟩ : ByteArray).size : Int) = 1 := rfl
      rw [h1, hsz, if_pos (decide_eq_true (by omega)), if_pos (by omega)]
      refine congrArg some ?_
      show seq ((bs (x :: r)).extract 0 1) (bs [91]) = _
      rw [bs_extract]
      by_cases hx : x = 91
      · subst hx
        exact seq_self _
      · have hf : six (x :: r) = false := by simp [six, hx]
        rw [hf]
        cases hc : seq (bs ((List.take 1 (x :: r)).drop 0)) (bs [91]) with
        | false => rfl
        | true =>
          have := bs_inj ((seq_iff _ _).1 hc)
          simp at this
          exact absurd this hx
  unfold strings_CutPrefix stringslite_CutPrefix
  rw [hp, bindM_some]
  cases h : six l with
  | false => rfl
  | true =>
    have hne : 1 ≤ l.length := by
      cases l with
      | nil => cases h
      | cons x r => simp
    have h1 : ((⟨#[91]⟩ : ByteArray).size : Int) = 1 := rfl
    have hx : (bs l).extract (Int.toNat 1) (Int.toNat ((bs l).size : Int)) = bs (l.drop 1) := by
      rw [Int.toNat_natCast, bs_extract, bs_size, List.take_of_length_le (Nat.le_refl _)]; rfl
    rw [if_neg (by decide), h1, if_pos (by rw [bs_size]; omega), hx]; rfl
theorem halves_ok (l : List UInt8) (hl : l.length < 1000000) : ∃ a b, hostport_halves (bs l) = some (a, b, (halL l).isSome) ∧ ∀ h p, halL l = some (h, p) → a = bs h ∧ b = bs p := by
  unfold hostport_halves halL
  rw [cutPrefix, bindM_some]
  cases h6 : six l with
  | true =>
    have hd : (l.drop 1).length < 1000000 := by rw [List.length_drop]; omega
    rw [if_pos rfl]
    show ∃ a b, (if true = true then (if (bs (l.drop 1)).size < 4294967281 then if (scut (bs (l.drop 1)) (⟨#[93, 58]⟩ : ByteArray)).2.2 = true then some ((scut (bs (l.drop 1)) (⟨#[93, 58]⟩ : ByteArray)).1, (scut (bs (l.drop 1)) (⟨#[93, 58]⟩ : ByteArray)).2.1, decide (0 ≤ Lib.indexByte (scut (bs (l.drop 1)) (⟨#[93, 58]⟩ : ByteArray)).1.data.toList 58)) else some ((scut (bs (l.drop 1)) (⟨#[93, 58]⟩ : ByteArray)).1, (scut (bs (l.drop 1)) (⟨#[93, 58]⟩ : ByteArray)).2.1, false) else none) else _) = _ ∧ _
    rw [if_pos rfl, if_pos (by rw [bs_size]; omega), scut_eq]
    cases hc : cutL (l.drop 1) with
    | none =>
      exact ⟨_, _, rfl, fun h p e => by cases e⟩
    | some q =>
      obtain ⟨a, b⟩ := q
      simp only [if_true, bs_list, index_colon, Option.bind_some]
      cases hasC a with
      | true => exact ⟨_, _, rfl, fun h p e => by cases e; exact ⟨rfl, rfl⟩⟩
      | false => exact ⟨_, _, rfl, fun h p e => by cases e⟩
  | false =>
    have hb : bt (⟨#[58]⟩ : ByteArray) 0 = 58 := rfl
    rw [if_neg Bool.false_ne_true]
    show ∃ a b, (if false = true then _ else (if (0 : Int) ≤ 0 ∧ (0 : Int) < ((⟨#[58]⟩ : ByteArray).size : Int) then lines_Cut (bs l) (bt (⟨#[58]⟩ : ByteArray) 0) >>= fun t6 => some (t6.1, t6.2.1, t6.2.2) else none)) = _ ∧ _
    rw [if_neg Bool.false_ne_true, if_pos (by decide), hb]
    have h58 : ((58 : UInt8).toNat : Int) = 58 := rfl
    rcases split_at 58 l with h2 | ⟨p, r, rfl, h2⟩
    · have hcut := cut_none l 58 h2
      rw [h58] at hcut
      rw [hcut, bindM_some, if_neg Bool.false_ne_true, f58_none l h2]
      exact ⟨_, _, rfl, fun h p e => by cases e⟩
    · have hcut := cut_some p r 58 h2 (by simp at hl; omega)
      rw [h58] at hcut
      rw [hcut, bindM_some, if_neg Bool.false_ne_true, f58_at r p h2]
      exact ⟨_, _, rfl, fun h q e => by cases e; exact ⟨rfl, rfl⟩⟩
def mkE (A : S_api_Addr) (n : Int) : S_api_Endpoint := { f_A := A, f_Port := n }
def zE : S_api_Endpoint := { f_A := ({ f_V := (0 : Int), f_B := (Vector.replicate 16 (0 : Int) : (Vector Int 16)) } : S_api_Addr), f_Port := (0 : Int) }
def endQ (h p : List UInt8) : S_api_Endpoint × Int := if (adrP h).2 = 0 then (if (rdU p 65535).2 = 0 then (if (rdU p 65535).1 = 0 then (zE, 6) else (mkE (adrP h).1 ((rdU p 65535).1 : Int), 0)) else (zE, ((rdU p 65535).2 : Int))) else (zE, (adrP h).2)
def endP (l : List UInt8) : S_api_Endpoint × Int := match halL l with
  | some (h, p) => endQ h p
  | none => (zE, 5)
/-- What both do with an address and a port. -/
theorem tail_ok {P : Option (S_api_Addr × Int)} {R : Option (Int × Int)} (h p : List UInt8) (hP : P = some (adrP h)) (hR : R = some (iiOf (rdU p 65535))) :
    (P >>= fun t4 => if (t4.2 != 0) = true then (some (zE, t4.2)) else (R >>= fun t7 => if (t7.2 != 0) = true then (some (zE, t7.2)) else (if (t7.1 == 0) = true then (some (zE, 6)) else (some ({ { zE with f_A := t4.1 } with f_Port := wr .i64 t7.1 }, 0))))) = some (endQ h p) := by
  subst hP hR
  rw [bindM_some]
  unfold endQ
  have hle := rdU_le p 65535
  by_cases h1 : (adrP h).2 = 0
  · have e : ((adrP h).2 != 0) = false := by rw [h1]; rfl
    rw [e, if_neg Bool.false_ne_true, if_pos h1, bindM_some]
    show (if ((((rdU p 65535).2 : Nat) : Int) != 0) = true then _ else (if ((((rdU p 65535).1 : Nat) : Int) == 0) = true then _ else some (S_api_Endpoint.mk (adrP h).1 (wr .i64 (((rdU p 65535).1 : Nat) : Int)), (0 : Int)))) = _
    by_cases h2 : (rdU p 65535).2 = 0
    · have e2 : ((((rdU p 65535).2 : Nat) : Int) != 0) = false := by rw [h2]; rfl
      rw [e2, if_neg Bool.false_ne_true, if_pos h2]
      by_cases h3 : (rdU p 65535).1 = 0
      · rw [h3, if_pos (by rfl), if_pos rfl]
      · have e3 : ((((rdU p 65535).1 : Nat) : Int) == 0) = false := by rw [beq_eq_false_iff_ne]; omega
        rw [e3, if_neg Bool.false_ne_true, if_neg h3, wr_i64 (by omega) (by omega)]; rfl
    · have e2 : ((((rdU p 65535).2 : Nat) : Int) != 0) = true := by rw [bne_iff_ne]; omega
      rw [e2, if_pos rfl, if_neg h2]; rfl
  · have e : ((adrP h).2 != 0) = true := by rw [bne_iff_ne]; exact h1
    rw [e, if_pos rfl, if_neg h1]
theorem halL_len {l h p : List UInt8} (e : halL l = some (h, p)) : h.length ≤ l.length ∧ p.length ≤ l.length := by
  unfold halL at e
  split at e
  · obtain ⟨q, hq, e⟩ := Option.bind_eq_some_iff.1 e
    split at e
    · cases e
      have := congrArg List.length (cutL_eq hq)
      rw [List.length_drop, List.length_append, List.length_cons, List.length_cons] at this
      omega
    · cases e
  · rcases split_at 58 l with h2 | ⟨a, r, rfl, h2⟩
    · rw [f58_none l h2] at e; cases e
    · rw [f58_at r a h2] at e
      cases e
      rw [List.length_append, List.length_cons]
      omega
theorem host_parse (l : List UInt8) (hl : l.length < 100000) : hostport_Parse (bs l) = some (endP l) := by
  unfold hostport_Parse endP
  obtain ⟨a, b, hh, hab⟩ := halves_ok l (by omega)
  rw [hh, bindM_some]
  cases hq : halL l with
  | none =>
    show (if (!false) = true then _ else _) = _
    rw [if_pos (show (!false) = true from rfl)]; rfl
  | some q =>
    obtain ⟨h, p⟩ := q
    obtain ⟨rfl, rfl⟩ := hab h p hq
    have hlen := halL_len hq
    show (if (!true) = true then _ else _) = _
    rw [if_neg (by decide)]
    exact tail_ok h p (addr_parse h (by omega)) (by
      have := read_code (bs p) 65535 (by rw [bs_size]; omega) (by omega)
      rw [bs_list] at this
      exact this)
end Go.Proofs.YtkkmmpofdcccmaaGreatDoor.Host
namespace Go.Proofs.YtkkmmpofdcccmaaGreatDoor.Host
open E Go.RowKit
open Adr AdrT
theorem exists_mkE (a : S_api_Endpoint) (h : ok_api_Endpoint a) : ∃ V l n, a = mkE (mkA V l) n ∧ l.length = 16 ∧ (Lit.int .i64 n).wf = true := by
  obtain ⟨V, l, hA, hl, _⟩ := exists_mkA a.f_A h.1
  refine ⟨V, l, a.f_Port, ?_, hl, h.2⟩
  cases a with | mk A n =>
  simp only at hA
  subst hA; rfl
def rightE (V : Int) (l : List UInt8) (n : Int) : Bool := rightL V l && (decide (1 ≤ n) && decide (n ≤ 65535))
theorem right_code12 {V n : Int} {l : List UInt8} (hl : l.length = 16) : hostport_Right (mkE (mkA V l) n) = some (rightE V l n) := by
  unfold hostport_Right rightE
  show (addr_Right (mkA V l) >>= fun t2 => if t2 = true then (if decide (n ≥ 1) = true then some (decide (n ≤ 65535)) else some false) else some false) = _
  rw [right_code hl, bindM_some]
  cases rightL V l with
  | false => rfl
  | true =>
    rw [if_pos rfl]
    by_cases h : 1 ≤ n
    · rw [if_pos (decide_eq_true h), decide_eq_true h]; rfl
    · rw [if_neg (by rw [decide_eq_true_eq]; exact h), decide_eq_false h]; rfl
theorem right_ref12 {V n : Int} {l : List UInt8} (hl : l.length = 16) : crawlwayref12_Right (mkE (mkA V l) n) = some (rightE V l n) := by
  unfold crawlwayref12_Right rightE
  show (crawlwayref10_Right (mkA V l) >>= fun t2 => if t2 = true then (if decide (n ≥ 1) = true then some (decide (n ≤ 65535)) else some false) else some false) = _
  rw [right_ref hl, bindM_some]
  cases rightL V l with
  | false => rfl
  | true =>
    rw [if_pos rfl]
    by_cases h : 1 ≤ n
    · rw [if_pos (decide_eq_true h), decide_eq_true h]; rfl
    · rw [if_neg (by rw [decide_eq_true_eq]; exact h), decide_eq_false h]; rfl
theorem rightE_iff {V n : Int} {l : List UInt8} (h : rightE V l n = true) : rightL V l = true ∧ ∃ k : Nat, n = (k : Int) ∧ 1 ≤ k ∧ k ≤ 65535 := by
  unfold rightE at h
  simp only [Bool.and_eq_true, decide_eq_true_eq] at h
  exact ⟨h.1, n.toNat, by omega, by omega, by omega⟩
def hostL (V : Int) (l : List UInt8) (k : Nat) : List UInt8 := if V = 4 then adrT V l ++ 58 :: Lib.decDigits k else 91 :: (adrT V l ++ 93 :: 58 :: Lib.decDigits k)
theorem dig5 (k : Nat) (h : k ≤ 65535) : (Lib.decDigits k).length ≤ 20 := decDigits_len k (by omega)
theorem bs_app (l k : List UInt8) : bs l ++ bs k = bs (l ++ k) := by apply mk_inj; rw [append_list, bs_list, bs_list, bs_list]
theorem fmtU_bs (k : Nat) : fmtU (k : Int) = bs (Lib.decDigits k) := by apply mk_inj; rw [fmtU_list, bs_list]
theorem hostL_len {V : Int} {l : List UInt8} (hl : l.length = 16) (k : Nat) (hk : k ≤ 65535) : (hostL V l k).length ≤ 70 := by
  have h1 := adrT_len (V := V) hl
  have h2 := dig5 k hk
  unfold hostL
  split <;> simp only [List.length_append, List.length_cons] <;> omega
theorem text_code12 {V n : Int} {l : List UInt8} (hl : l.length = 16) : hostport_Text (mkE (mkA V l) n) = some (bs (if rightE V l n = true then hostL V l n.toNat else [])) := by
  unfold hostport_Text
  rw [right_code12 hl, bindM_some]
  cases hr : rightE V l n with
  | false => rw [if_pos (show (!false) = true from rfl)]; rfl
  | true =>
    obtain ⟨hrl, k, rfl, h1, h2⟩ := rightE_iff hr
    have ht := adrT_len (V := V) hl
    have hd := dig5 k h2
    have b91 : (⟨#[91]⟩ : ByteArray) = bs [91] := rfl
    have b9358 : (⟨#[93, 58]⟩ : ByteArray) = bs [93, 58] := rfl
    have b58 : (⟨#[58]⟩ : ByteArray) = bs [58] := rfl
    rw [if_neg (show ¬ (!true) = true by decide), if_pos rfl, Int.toNat_natCast]
    show (decimal_Text (wr .u64 (k : Int)) >>= fun t4 => addr_Width (mkA V l) >>= fun t5 => if (decide (t5 > 32)) = true then (addr_Text (mkA V l) >>= fun t7 => if (⟨#[91]⟩ : ByteArray).size + t7.size ≤ 140737488355328 then if ((⟨#[91]⟩ : ByteArray) ++ t7).size + (⟨#[93, 58]⟩ : ByteArray).size ≤ 140737488355328 then if (((⟨#[91]⟩ : ByteArray) ++ t7) ++ (⟨#[93, 58]⟩ : ByteArray)).size + t4.size ≤ 140737488355328 then some ((((⟨#[91]⟩ : ByteArray) ++ t7) ++ (⟨#[93, 58]⟩ : ByteArray)) ++ t4) else none else none else none) else (addr_Text (mkA V l) >>= fun t11 => if t11.size + (⟨#[58]⟩ : ByteArray).size ≤ 140737488355328 then if (t11 ++ (⟨#[58]⟩ : ByteArray)).size + t4.size ≤ 140737488355328 then some ((t11 ++ (⟨#[58]⟩ : ByteArray)) ++ t4) else none else none)) = _
    rw [wr_u64 (by omega) (by omega), text_code k (by omega), bindM_some, width_code hl, bindM_some, addr_text hl, bindM_some, bindM_some, fmtU_bs, b91, b9358, b58]
    unfold hostL widthL
    rw [if_pos hrl]
    by_cases h4 : V = 4
    · rw [if_pos h4, if_pos h4, if_neg (by decide), if_pos (by rw [bs_size, bs_size]; simp only [List.length_cons, List.length_nil]; omega), bs_app, if_pos (by rw [bs_size, bs_size, List.length_append]; simp only [List.length_cons, List.length_nil]; omega), bs_app, List.append_assoc]; rfl
    · rw [if_neg h4, if_neg h4, if_pos (by decide), if_pos (by rw [bs_size, bs_size]; simp only [List.length_cons, List.length_nil]; omega), bs_app, if_pos (by rw [bs_size, bs_size, List.length_append]; simp only [List.length_cons, List.length_nil]; omega), bs_app, if_pos (by rw [bs_size, bs_size, List.length_append, List.length_append]; simp only [List.length_cons, List.length_nil]; omega), bs_app, List.append_assoc, List.append_assoc]; rfl
theorem text_ref12 {V n : Int} {l : List UInt8} (hl : l.length = 16) : crawlwayref12_Text (mkE (mkA V l) n) = some (bs (if rightE V l n = true then hostL V l n.toNat else [])) := by
  unfold crawlwayref12_Text
  rw [right_ref12 hl, bindM_some]
  cases hr : rightE V l n with
  | false => rw [if_pos (show (!false) = true from rfl)]; rfl
  | true =>
    obtain ⟨hrl, k, rfl, h1, h2⟩ := rightE_iff hr
    have ht := adrT_len (V := V) hl
    have hd := dig5 k h2
    have b91 : (⟨#[91]⟩ : ByteArray) = bs [91] := rfl
    have b93 : (⟨#[93]⟩ : ByteArray) = bs [93] := rfl
    have b58 : (⟨#[58]⟩ : ByteArray) = bs [58] := rfl
    rw [if_neg (show ¬ (!true) = true by decide), if_pos rfl, Int.toNat_natCast]
    show (crawlwayref03_Text (wr .u64 (k : Int)) >>= fun t4 => if (⟨#[58]⟩ : ByteArray).size + t4.size ≤ 140737488355328 then if (V == 6) = true then (crawlwayref10_Text (mkA V l) >>= fun t7 => if (⟨#[91]⟩ : ByteArray).size + t7.size ≤ 140737488355328 then if ((⟨#[91]⟩ : ByteArray) ++ t7).size + (⟨#[93]⟩ : ByteArray).size ≤ 140737488355328 then if (((⟨#[91]⟩ : ByteArray) ++ t7) ++ (⟨#[93]⟩ : ByteArray)).size + ((⟨#[58]⟩ : ByteArray) ++ t4).size ≤ 140737488355328 then some ((((⟨#[91]⟩ : ByteArray) ++ t7) ++ (⟨#[93]⟩ : ByteArray)) ++ ((⟨#[58]⟩ : ByteArray) ++ t4)) else none else none else none) else (crawlwayref10_Text (mkA V l) >>= fun t11 => if t11.size + ((⟨#[58]⟩ : ByteArray) ++ t4).size ≤ 140737488355328 then some (t11 ++ ((⟨#[58]⟩ : ByteArray) ++ t4)) else none) else none) = _
    rw [wr_u64 (by omega) (by omega), text_ref k (by omega), bindM_some, ref_text10 hl, bindM_some, bindM_some, fmtU_bs, b91, b93, b58, if_pos (by rw [bs_size, bs_size]; simp only [List.length_cons, List.length_nil]; omega), bs_app]
    unfold hostL
    rcases right_cases hrl with h6 | ⟨h4, _⟩
    · subst h6
      rw [if_pos (show ((6 : Int) == 6) = true from rfl), if_neg (show ¬ (6 : Int) = 4 by decide), if_pos (by rw [bs_size, bs_size]; simp only [List.length_cons, List.length_nil]; omega), bs_app, if_pos (by rw [bs_size, bs_size, List.length_append]; simp only [List.length_cons, List.length_nil]; omega), bs_app, if_pos (by rw [bs_size, bs_size, List.length_append, List.length_append, List.length_append]; simp only [List.length_cons, List.length_nil]; omega), bs_app, List.append_assoc, List.append_assoc]; rfl
    · subst h4
      rw [if_neg (show ¬ ((4 : Int) == 6) = true by decide), if_pos rfl, if_pos (by rw [bs_app, bs_size, bs_size, List.length_append]; simp only [List.length_cons, List.length_nil]; omega), bs_app, bs_app]; rfl
theorem dg_93 : ∀ n : Fin 16, Hex.dg n.1 ≠ 93 := by decide +kernel
theorem g1_93 (n : Nat) : ∀ x ∈ Col.g1 n, x ≠ 93 := by
  induction n using Nat.strongRecOn with
  | _ n ih =>
    intro x hx
    unfold Col.g1 Hex.grp at hx
    split at hx
    · next h =>
      simp only [Hex.dig, List.mem_singleton] at hx
      subst hx
      exact dg_93 ⟨n, h⟩
    · next h =>
      rw [append_list] at hx
      rcases List.mem_append.1 hx with hx | hx
      · exact ih _ (show n / 16 < n by omega) x hx
      · simp only [Hex.dig, List.mem_singleton] at hx
        subst hx
        exact dg_93 ⟨n % 16, by omega⟩
theorem rowL_93 : ∀ (G : List Nat), ∀ x ∈ Col.rowL G, x ≠ 93
  | [], x, h => by cases h
  | [n], x, h => g1_93 n x h
  | n :: m :: r, x, h => by
    rcases List.mem_append.1 h with h | h
    · exact g1_93 n x h
    · rcases List.mem_cons.1 h with rfl | h
      · decide
      · exact rowL_93 (m :: r) x h
theorem textL_93 (G : List Nat) : ∀ x ∈ Col.textL G, x ≠ 93 := by
  intro x h
  unfold Col.textL at h
  split at h
  · exact rowL_93 _ x h
  · rcases List.mem_append.1 h with h | h
    · exact rowL_93 _ x h
    · rcases List.mem_cons.1 h with rfl | h
      · decide
      · rcases List.mem_cons.1 h with rfl | h
        · decide
        · exact rowL_93 _ x h
theorem cutL_at (r : List UInt8) : ∀ (p : List UInt8), (∀ x ∈ p, x ≠ 93) → cutL (p ++ 93 :: 58 :: r) = some (p, r)
  | [], _ => rfl
  | c :: p, h => by
    have hc := h c (List.mem_cons_self ..)
    have hB : isB (c :: (p ++ 93 :: 58 :: r)) = false := by
      cases hb : isB (c :: (p ++ 93 :: 58 :: r)) with
      | false => rfl
      | true =>
        obtain ⟨r2, h2⟩ := (isB_iff _).1 hb
        exact absurd (List.cons.inj h2).1 hc
    show cutL (c :: (p ++ 93 :: 58 :: r)) = _
    rw [cutL, hB, if_neg Bool.false_ne_true, cutL_at r p fun x hx => h x (List.mem_cons_of_mem _ hx)]; rfl
theorem six_qText {m : List UInt8} (hm : m.length = 4) (r : List UInt8) : six (qText m ++ r) = false := by
  match m, hm with
  | [a, b, c, d], _ =>
    show six ((Lib.decDigits a.toNat ++ 46 :: (Lib.decDigits b.toNat ++ 46 :: (Lib.decDigits c.toNat ++ 46 :: Lib.decDigits d.toNat))) ++ r) = false
    cases hd : Lib.decDigits a.toNat with
    | nil => exact absurd hd (decDigits_ne _)
    | cons x t =>
      have hx := dig_iff.1 (List.all_eq_true.1 (decDigits_dig a.toNat) x (by rw [hd]; exact List.mem_cons_self ..))
      show (some x == some 91) = false
      rw [beq_eq_false_iff_ne]
      intro e
      cases e
      have : (91 : UInt8).toNat = 91 := rfl
      omega
theorem endQ_right {V : Int} {l : List UInt8} (hl : l.length = 16) (hr : rightL V l = true) (k : Nat) (h1 : 1 ≤ k) (h2 : k ≤ 65535) : endQ (adrT V l) (Lib.decDigits k) = (mkE (mkA V l) (k : Int), 0) := by
  unfold endQ
  rw [parse_text10 hl hr, rdU_text, if_pos h2]
  show (if (0 : Int) = 0 then (if (0 : Nat) = 0 then (if k = 0 then _ else _) else _) else _) = _
  rw [if_pos rfl, if_pos rfl, if_neg (by omega)]
theorem endP_text {V : Int} {l : List UInt8} (hl : l.length = 16) (hr : rightL V l = true) (k : Nat) (h1 : 1 ≤ k) (h2 : k ≤ 65535) : endP (hostL V l k) = (mkE (mkA V l) (k : Int), 0) := by
  have hq := endQ_right hl hr k h1 h2
  unfold endP halL hostL
  rcases right_cases hr with h6 | ⟨h4, _⟩
  · subst h6
    have hg : (Col.gr l).length = 8 := by rw [Col.gr_len, hl]
    have he : adrT 6 l = Col.textL (Col.gr l) := by unfold adrT; rw [if_pos hr, if_neg (show ¬ (6 : Int) = 4 by decide)]
    rw [he] at hq ⊢
    rw [if_neg (show ¬ (6 : Int) = 4 by decide), if_pos (show six (91 :: (Col.textL (Col.gr l) ++ 93 :: 58 :: Lib.decDigits k)) = true from rfl)]
    show (match (cutL (Col.textL (Col.gr l) ++ 93 :: 58 :: Lib.decDigits k)).bind fun q => if hasC q.1 = true then some q else none with | some (h, p) => endQ h p | none => (zE, 5)) = _
    rw [cutL_at _ _ (textL_93 _), Option.bind_some, textL_colon hg, if_pos rfl]
    exact hq
  · subst h4
    have h4l : (l.take 4).length = 4 := by rw [List.length_take]; omega
    have he : adrT 4 l = qText (l.take 4) := by unfold adrT; rw [if_pos hr, if_pos rfl]
    rw [he] at hq ⊢
    rw [if_pos rfl, six_qText h4l, if_neg Bool.false_ne_true, f58_at _ _ (hasC_no (qText_nocolon h4l))]
    exact hq
end Go.Proofs.YtkkmmpofdcccmaaGreatDoor.Host
namespace Go.Proofs.YtkkmmpofdcccmaaGreatDoor.Fld
open E Go.RowKit
def zF : S_api_Field := { f_Word := (0 : Int), f_Key := (Vector.replicate 32 (0 : Int) : (Vector Int 32)), f_N := (0 : Int), f_End := ({ f_A := ({ f_V := (0 : Int), f_B := (Vector.replicate 16 (0 : Int) : (Vector Int 16)) } : S_api_Addr), f_Port := (0 : Int) } : S_api_Endpoint), f_P := ({ f_A := ({ f_V := (0 : Int), f_B := (Vector.replicate 16 (0 : Int) : (Vector Int 16)) } : S_api_Addr), f_Bits := (0 : Int) } : S_api_Prefix) }
def onW (w : Int) : S_api_Field := { zF with f_Word := w }
def mkPr (k v : ByteArray) : S_pairline_Pair := { f_Key := k, f_Value := v }
def yes : ByteArray := ⟨#[116, 114, 117, 101]⟩
/-- The kinds of words. -/
inductive Cls (w : Int) : Prop
  | key (hs : field_shapeOf w = some .s0) (hk : crawlwayref37_key w = some true)
  | ended (hw : w = 9)
  | allowed (hw : w = 12)
  | counted (most lo : Nat) (hs : field_shapeOf w = some (.s3 (most : Int) (lo : Int))) (hk : crawlwayref37_key w = some false) (h9 : w ≠ 9) (h12 : w ≠ 12) (hf : crawlwayref37_flag w = some false) (hm : crawlwayref37_most w = some (most : Int)) (hl : (w ≠ 13 ∧ lo = 0) ∨ (w = 13 ∧ lo = 1)) (hmm : most < 18446744073709551616)
  | said (hs : field_shapeOf w = some .s4) (hk : crawlwayref37_key w = some false) (h9 : w ≠ 9) (h12 : w ≠ 12) (hf : crawlwayref37_flag w = some true)
theorem cls (w : Int) (h1 : 1 ≤ w) (h2 : w ≤ 16) : Cls w := by
  have h : w = 1 ∨ w = 2 ∨ w = 3 ∨ w = 4 ∨ w = 5 ∨ w = 6 ∨ w = 7 ∨ w = 8 ∨ w = 9 ∨ w = 10 ∨ w = 11 ∨ w = 12 ∨ w = 13 ∨ w = 14 ∨ w = 15 ∨ w = 16 := by omega
  rcases h with rfl | rfl | rfl | rfl | rfl | rfl | rfl | rfl | rfl | rfl | rfl | rfl | rfl | rfl | rfl | rfl
  · exact .key rfl rfl
  · exact .counted 65535 0 rfl rfl (by decide) (by decide) rfl rfl (.inl ⟨by decide, rfl⟩) (by decide)
  · exact .counted 4294967295 0 rfl rfl (by decide) (by decide) rfl rfl (.inl ⟨by decide, rfl⟩) (by decide)
  · exact .said rfl rfl (by decide) (by decide) rfl
  · exact .key rfl rfl
  · exact .said rfl rfl (by decide) (by decide) rfl
  · exact .said rfl rfl (by decide) (by decide) rfl
  · exact .key rfl rfl
  · exact .ended rfl
  · exact .counted 65535 0 rfl rfl (by decide) (by decide) rfl rfl (.inl ⟨by decide, rfl⟩) (by decide)
  · exact .said rfl rfl (by decide) (by decide) rfl
  · exact .allowed rfl
  · exact .counted 1 1 rfl rfl (by decide) (by decide) rfl rfl (.inr ⟨rfl, rfl⟩) (by decide)
  · exact .counted 18446744073709551615 0 rfl rfl (by decide) (by decide) rfl rfl (.inl ⟨by decide, rfl⟩) (by decide)
  · exact .counted 18446744073709551615 0 rfl rfl (by decide) (by decide) rfl rfl (.inl ⟨by decide, rfl⟩) (by decide)
  · exact .counted 20 0 rfl rfl (by decide) (by decide) rfl rfl (.inl ⟨by decide, rfl⟩) (by decide)
def outR {α : Type} (w : Int) (P : α × Int) (f : S_api_Field → α → S_api_Field) : S_api_Field × Int := if P.2 = 0 then (f (onW w) P.1, 0) else (zF, P.2)
theorem ite_out {α : Type} {w : Int} {P : α × Int} {f : S_api_Field → α → S_api_Field} : (if (P.2 != 0) = true then some (zF, P.2) else some (f (onW w) P.1, (0 : Int))) = some (outR w P f) := by
  unfold outR
  by_cases h : P.2 = 0
  · rw [if_pos h, if_neg (by simp [h])]
  · rw [if_neg h, if_pos (by simpa using h)]
section
variable {k v : ByteArray} {w : Int} (hw : field_Word k = some w) (hr : crawlwayref37_Word k = some w) (h0 : w ≠ 0)
include hw h0 in
theorem code_key {P : Vector Int 32 × Int} (hs : field_shapeOf w = some .s0) (hP : keys_ParseHex v = some P) : field_Read (mkPr k v) = some (outR w P fun f x => { f with f_Key := x }) := by
  unfold field_Read
  show (field_Word k >>= _) = _
  rw [hw, bindM_some, if_neg (show ¬ (w == (0 : Int)) = true by simpa using h0)]
  show (field_shapeOf w >>= _) = _
  rw [hs, bindM_some]
  show (field_keyed_1 v (onW w) >>= _) = _
  unfold field_keyed_1
  rw [hP, bindM_some, bindM_some]
  exact ite_out (f := fun f x => { f with f_Key := x })
include hw h0 in
theorem code_ended {P : S_api_Endpoint × Int} (hs : field_shapeOf w = some .s1) (hP : hostport_Parse v = some P) : field_Read (mkPr k v) = some (outR w P fun f x => { f with f_End := x }) := by
  unfold field_Read
  show (field_Word k >>= _) = _
  rw [hw, bindM_some, if_neg (show ¬ (w == (0 : Int)) = true by simpa using h0)]
  show (field_shapeOf w >>= _) = _
  rw [hs, bindM_some]
  show (field_ended_1 v (onW w) >>= _) = _
  unfold field_ended_1
  rw [hP, bindM_some, bindM_some]
  exact ite_out (f := fun f x => { f with f_End := x })
include hw h0 in
theorem code_allowed {P : S_api_Prefix × Int} (hs : field_shapeOf w = some .s2) (hP : cidr_Parse v = some P) : field_Read (mkPr k v) = some (outR w P fun f x => { f with f_P := x }) := by
  unfold field_Read
  show (field_Word k >>= _) = _
  rw [hw, bindM_some, if_neg (show ¬ (w == (0 : Int)) = true by simpa using h0)]
  show (field_shapeOf w >>= _) = _
  rw [hs, bindM_some]
  show (field_allowed_1 v (onW w) >>= _) = _
  unfold field_allowed_1
  rw [hP, bindM_some, bindM_some]
  exact ite_out (f := fun f x => { f with f_P := x })
def sayP (v : ByteArray) : Unit × Int := ((), if seq v yes = true then 0 else 5)
include hw h0 in
theorem code_said (hs : field_shapeOf w = some .s4) : field_Read (mkPr k v) = some (outR w (sayP v) fun f x => f) := by
  unfold field_Read
  show (field_Word k >>= _) = _
  rw [hw, bindM_some, if_neg (show ¬ (w == (0 : Int)) = true by simpa using h0)]
  show (field_shapeOf w >>= _) = _
  rw [hs, bindM_some]
  show (field_said_1 v (onW w) >>= _) = _
  unfold field_said_1
  show ((if (!seq v yes) = true then _ else _) >>= _) = _
  cases hq : seq v yes with
  | true =>
    rw [if_neg (by decide), bindM_some]
    unfold outR sayP; rw [hq]; rfl
  | false =>
    rw [if_pos (by rfl), bindM_some]
    unfold outR sayP; rw [hq]; rfl
def cntP (R : Int × Int) (lo : Int) : Int × Int := if R.2 = 0 ∧ R.1 < lo then (R.1, 6) else R
theorem cntP_six {R : Int × Int} {lo : Int} (h0 : R.2 = 0) (hl : R.1 < lo) : cntP R lo = (R.1, 6) := if_pos ⟨h0, hl⟩
theorem cntP_same {R : Int × Int} {lo : Int} (h : ¬ R.2 = 0 ∨ ¬ R.1 < lo) : cntP R lo = R := if_neg (fun hh => h.elim (fun g => g hh.1) fun g => g hh.2)
include hw h0 in
theorem code_counted {R : Int × Int} {most lo : Int} (hs : field_shapeOf w = some (.s3 most lo)) (hP : decimal_Read v most = some R) : field_Read (mkPr k v) = some (outR w (cntP R lo) fun f x => { f with f_N := x }) := by
  unfold field_Read
  show (field_Word k >>= _) = _
  rw [hw, bindM_some, if_neg (show ¬ (w == (0 : Int)) = true by simpa using h0)]
  show (field_shapeOf w >>= _) = _
  rw [hs, bindM_some]
  show (field_counted_1 v (onW w) most lo >>= _) = _
  unfold field_counted_1
  rw [hP, bindM_some]
  by_cases hz : R.2 = 0
  · rw [if_pos (show (R.2 == (0 : Int)) = true by simpa using hz)]
    by_cases hl : R.1 < lo
    · rw [if_pos (decide_eq_true hl), bindM_some, cntP_six hz hl]
      exact ite_out (P := (R.1, (6 : Int))) (f := fun f x => { f with f_N := x })
    · rw [if_neg (by simpa using hl), bindM_some, cntP_same (.inr hl)]
      exact ite_out (f := fun f x => { f with f_N := x })
  · rw [if_neg (show ¬ (R.2 == (0 : Int)) = true by simpa using hz), bindM_some, cntP_same (.inl hz)]
    exact ite_out (f := fun f x => { f with f_N := x })
end
end Go.Proofs.YtkkmmpofdcccmaaGreatDoor.Fld
namespace Go.Proofs.YtkkmmpofdcccmaaGreatDoor.Fld
open E Go.RowKit
open Adr AdrT
theorem hexT (v : Vector Int 32) (hv : Key.IsB v) : ∃ T, keys_Hex v = some T ∧ crawlwayref07_Bytes v = some v.toList ∧ crawlwayref05_Encode v.toList = some T ∧ keys_ParseHex T = some (v, 0) := by
  obtain ⟨l, hl, h32⟩ := hv.ob
  refine ⟨Hex.str (Hex.encL l), ?_, Key.bytes_eq v, ?_, ?_⟩
  · unfold keys_Hex; rw [hl, Hex.encode_eq _ (by omega), bindM_some]
  · rw [hl, Hex.refEncode_eq _ (by omega)]
  · unfold keys_ParseHex
    have hd : hexes_Decode (Hex.str (Hex.encL l)) = some (ob l, 0) := by
      rw [Hex.decode_eq _ (by rw [Hex.str_size, Hex.encL_length]; omega), Hex.dec_enc]
    rw [hd, bindM_some]
    have := Key.parse_of (ob l, 0) Key.keysOf_eq
    rw [← hl] at this ⊢
    rw [this]
    unfold Key.par
    rw [if_neg (by simp), Key.ofR_vec]
theorem name_ne : ∀ n : Fin 17, 1 ≤ n.1 → seq (lget NL (n.1 : Int)) (⟨#[]⟩ : ByteArray) = false := by decide +kernel
theorem name_of {w : Int} (h1 : 1 ≤ w) (h2 : w ≤ 16) : field_Name w = some (lget NL w) ∧ seq (lget NL w) (⟨#[]⟩ : ByteArray) = false ∧ fr (lget NL w) NL 0 = w := by
  obtain ⟨n, rfl⟩ := Int.eq_ofNat_of_zero_le (by omega : 0 ≤ w)
  exact ⟨name_in n (by omega) (by omega), name_ne ⟨n, by omega⟩ (by show 1 ≤ n; omega), back_fin ⟨n, by omega⟩ (by show 1 ≤ n; omega)⟩
section
variable (x : S_api_Field) (h1 : 1 ≤ x.f_Word) (h2 : x.f_Word ≤ 16)
include h1 h2
theorem right_key {T : ByteArray} (hs : field_shapeOf x.f_Word = some .s0) (hT : keys_Hex x.f_Key = some T) : field_Right x = some (decide ({ x with f_Key := Key.zk } = onW x.f_Word)) := by
  obtain ⟨n1, n2, _⟩ := name_of h1 h2
  unfold field_Right
  rw [n1, bindM_some, n2, if_neg Bool.false_ne_true, hs, bindM_some]
  show (field_keyed_2 x >>= _) = _
  unfold field_keyed_2
  rw [hT, bindM_some, bindM_some, if_pos rfl]
  unfold field_keyed_3
  rw [bindM_some]; rfl
theorem right_ended {T : ByteArray} {b : Bool} (hs : field_shapeOf x.f_Word = some .s1) (hT : hostport_Text x.f_End = some T) (hb : hostport_Right x.f_End = some b) : field_Right x = some (b && decide ({ x with f_End := zF.f_End } = onW x.f_Word)) := by
  obtain ⟨n1, n2, _⟩ := name_of h1 h2
  unfold field_Right
  rw [n1, bindM_some, n2, if_neg Bool.false_ne_true, hs, bindM_some]
  show (field_ended_2 x >>= _) = _
  unfold field_ended_2
  rw [hT, bindM_some, hb, bindM_some, bindM_some]
  cases b with
  | false => rw [if_neg Bool.false_ne_true]; rfl
  | true =>
    rw [if_pos rfl]
    unfold field_ended_3
    rw [bindM_some]; rfl
theorem right_allowed {T : ByteArray} {b : Bool} (hs : field_shapeOf x.f_Word = some .s2) (hT : cidr_Text x.f_P = some T) (hb : cidr_Right x.f_P = some b) : field_Right x = some (b && decide ({ x with f_P := zF.f_P } = onW x.f_Word)) := by
  obtain ⟨n1, n2, _⟩ := name_of h1 h2
  unfold field_Right
  rw [n1, bindM_some, n2, if_neg Bool.false_ne_true, hs, bindM_some]
  show (field_allowed_2 x >>= _) = _
  unfold field_allowed_2
  rw [hT, bindM_some, hb, bindM_some, bindM_some]
  cases b with
  | false => rw [if_neg Bool.false_ne_true]; rfl
  | true =>
    rw [if_pos rfl]
    unfold field_allowed_3
    rw [bindM_some]; rfl
theorem right_counted {T : ByteArray} {most lo : Int} (hs : field_shapeOf x.f_Word = some (.s3 most lo)) (hT : decimal_Text x.f_N = some T) : field_Right x = some ((decide (x.f_N ≥ lo) && decide (x.f_N ≤ most)) && decide ({ x with f_N := 0 } = onW x.f_Word)) := by
  obtain ⟨n1, n2, _⟩ := name_of h1 h2
  unfold field_Right
  rw [n1, bindM_some, n2, if_neg Bool.false_ne_true, hs, bindM_some]
  show (field_counted_2 x lo most >>= _) = _
  unfold field_counted_2
  rw [hT, bindM_some]
  cases hl : decide (x.f_N ≥ lo) with
  | false => rw [if_neg Bool.false_ne_true, bindM_some]; rfl
  | true =>
    rw [if_pos rfl, bindM_some]
    cases hm : decide (x.f_N ≤ most) with
    | false => rw [if_neg Bool.false_ne_true]; rfl
    | true =>
      rw [if_pos rfl]
      unfold field_counted_3
      rw [bindM_some]; rfl
theorem right_said (hs : field_shapeOf x.f_Word = some .s4) : field_Right x = some (decide (x = onW x.f_Word)) := by
  obtain ⟨n1, n2, _⟩ := name_of h1 h2
  unfold field_Right
  rw [n1, bindM_some, n2, if_neg Bool.false_ne_true, hs, bindM_some]
  show (field_said_2 x >>= _) = _
  unfold field_said_2
  rw [bindM_some, if_pos rfl]
  unfold field_said_3
  rw [bindM_some]; rfl
omit h1 h2 in
theorem same_key : decide ({ x with f_Key := Key.zk } = onW x.f_Word) = decide ({ onW x.f_Word with f_Key := x.f_Key } = x) := by
  apply decide_eq_decide.2
  cases x
  simp only [onW, zF, S_api_Field.mk.injEq, true_and, and_true]
  constructor <;> rintro ⟨a, b, c⟩ <;> exact ⟨a.symm, b.symm, c.symm⟩
omit h1 h2 in
theorem same_ended : decide ({ x with f_End := zF.f_End } = onW x.f_Word) = decide ({ onW x.f_Word with f_End := x.f_End } = x) := by
  apply decide_eq_decide.2
  cases x
  simp only [onW, zF, S_api_Field.mk.injEq, true_and, and_true]
  constructor <;> rintro ⟨a, b, c⟩ <;> exact ⟨a.symm, b.symm, c.symm⟩
omit h1 h2 in
theorem same_allowed : decide ({ x with f_P := zF.f_P } = onW x.f_Word) = decide ({ onW x.f_Word with f_P := x.f_P } = x) := by
  apply decide_eq_decide.2
  cases x
  simp only [onW, zF, S_api_Field.mk.injEq, true_and, and_true]
  constructor <;> rintro ⟨a, b, c⟩ <;> exact ⟨a.symm, b.symm, c.symm⟩
omit h1 h2 in
theorem same_counted : decide ({ x with f_N := 0 } = onW x.f_Word) = decide ({ onW x.f_Word with f_N := x.f_N } = x) := by
  apply decide_eq_decide.2
  cases x
  simp only [onW, zF, S_api_Field.mk.injEq, true_and, and_true]
  constructor <;> rintro ⟨a, b, c⟩ <;> exact ⟨a.symm, b.symm, c.symm⟩
omit h1 h2 in
theorem same_said : decide (x = onW x.f_Word) = decide (onW x.f_Word = x) := decide_eq_decide.2 ⟨Eq.symm, Eq.symm⟩
theorem refR_key (hk : crawlwayref37_key x.f_Word = some true) : crawlwayref37_Right x = some (decide ({ onW x.f_Word with f_Key := x.f_Key } = x)) := by
  unfold crawlwayref37_Right
  rw [if_neg (by rw [decide_eq_true_eq]; omega), if_neg (by rw [decide_eq_true_eq]; omega), hk, bindM_some, if_pos rfl]; rfl
omit h1 h2 in
theorem refR_ended {b : Bool} (hw : x.f_Word = 9) (hb : crawlwayref12_Right x.f_End = some b) : crawlwayref37_Right x = some (b && decide ({ onW x.f_Word with f_End := x.f_End } = x)) := by
  unfold crawlwayref37_Right
  rw [if_neg (by rw [decide_eq_true_eq]; omega), if_neg (by rw [decide_eq_true_eq]; omega), show crawlwayref37_key x.f_Word = some false by rw [hw]; rfl, bindM_some, if_neg Bool.false_ne_true, if_pos (by rw [hw]; rfl), hb, bindM_some]
  cases b <;> rfl
omit h1 h2 in
theorem refR_allowed {b : Bool} (hw : x.f_Word = 12) (hb : crawlwayref11_Right x.f_P = some b) : crawlwayref37_Right x = some (b && decide ({ onW x.f_Word with f_P := x.f_P } = x)) := by
  unfold crawlwayref37_Right
  rw [if_neg (by rw [decide_eq_true_eq]; omega), if_neg (by rw [decide_eq_true_eq]; omega), show crawlwayref37_key x.f_Word = some false by rw [hw]; rfl, bindM_some, if_neg Bool.false_ne_true, if_neg (by rw [hw]; decide), if_pos (by rw [hw]; rfl), hb, bindM_some]
  cases b <;> rfl
theorem refR_said (hk : crawlwayref37_key x.f_Word = some false) (h9 : x.f_Word ≠ 9) (h12 : x.f_Word ≠ 12) (hf : crawlwayref37_flag x.f_Word = some true) : crawlwayref37_Right x = some (decide (onW x.f_Word = x)) := by
  unfold crawlwayref37_Right
  rw [if_neg (by rw [decide_eq_true_eq]; omega), if_neg (by rw [decide_eq_true_eq]; omega), hk, bindM_some, if_neg Bool.false_ne_true, if_neg (by simpa using h9), if_neg (by simpa using h12), hf, bindM_some, if_neg (by decide)]; rfl
theorem refR_counted {most lo : Int} (hn : 0 ≤ x.f_N) (hk : crawlwayref37_key x.f_Word = some false) (h9 : x.f_Word ≠ 9) (h12 : x.f_Word ≠ 12) (hf : crawlwayref37_flag x.f_Word = some false) (hm : crawlwayref37_most x.f_Word = some most) (hl : (x.f_Word ≠ 13 ∧ lo = 0) ∨ (x.f_Word = 13 ∧ lo = 1)) :
    crawlwayref37_Right x = some ((decide (x.f_N ≥ lo) && decide (x.f_N ≤ most)) && decide ({ onW x.f_Word with f_N := x.f_N } = x)) := by
  unfold crawlwayref37_Right
  rw [if_neg (by rw [decide_eq_true_eq]; omega), if_neg (by rw [decide_eq_true_eq]; omega), hk, bindM_some, if_neg Bool.false_ne_true, if_neg (by simpa using h9), if_neg (by simpa using h12), hf, bindM_some, if_pos (by rfl), hm, bindM_some]
  by_cases hgt : x.f_N > most
  · rw [if_pos (decide_eq_true hgt), decide_eq_false (by omega : ¬ x.f_N ≤ most), Bool.and_false, Bool.false_and]
  · rw [if_neg (by simpa using hgt), decide_eq_true (by omega : x.f_N ≤ most), Bool.and_true]
    rcases hl with ⟨h13, rfl⟩ | ⟨h13, rfl⟩
    · rw [if_neg (show ¬ (x.f_Word == (13 : Int)) = true by simpa using h13), decide_eq_true (by omega : x.f_N ≥ 0), Bool.true_and]; rfl
    · rw [if_pos (show (x.f_Word == (13 : Int)) = true by simpa using h13)]
      by_cases h0 : x.f_N = 0
      · rw [if_pos (show (x.f_N == (0 : Int)) = true by simpa using h0), decide_eq_false (show ¬ x.f_N ≥ 1 by omega), Bool.false_and]
      · rw [if_neg (show ¬ (x.f_N == (0 : Int)) = true by simpa using h0), decide_eq_true (show x.f_N ≥ 1 by omega), Bool.true_and]; rfl
end
theorem alive37 : crawlwaylaw37_alive = some true := by
  have w3 : fr (⟨#[102, 119, 109, 97, 114, 107]⟩ : ByteArray) NL 0 = 3 := by decide +kernel
  have w16 : fr (⟨#[101, 114, 114, 110, 111]⟩ : ByteArray) NL 0 = 16 := by decide +kernel
  have n1 := name_in 1 (by decide) (by decide)
  rw [show ((1 : Nat) : Int) = 1 from rfl] at n1
  have hr := read_code (⟨#[48, 120, 53]⟩ : ByteArray) 4294967295 (by decide) (by decide)
  rw [show ((4294967295 : Nat) : Int) = 4294967295 from rfl] at hr
  have e2 : iiOf (rdU [48, 120, 53] 4294967295) = (0, 5) := by decide +kernel
  simp only [] at hr
  rw [e2] at hr
  have hw : field_Word (⟨#[102, 119, 109, 97, 114, 107]⟩ : ByteArray) = some 3 := by rw [word_code, w3]
  have hR := code_counted hw (by decide) (most := 4294967295) (lo := 0) rfl hr
  unfold crawlwaylaw37_alive
  show (field_Read (mkPr _ _) >>= _) = _
  rw [hR, bindM_some, cntP_same (.inl (by decide))]
  show (if ((5 : Int) == 5) = true then _ else _) = _
  rw [if_pos (by rfl), word_code, bindM_some, w16, if_pos (by rfl), n1, bindM_some, show lget NL 1 = (⟨#[112, 114, 105, 118, 97, 116, 101, 95, 107, 101, 121]⟩ : ByteArray) from by decide +kernel, seq_self]
theorem alive_then : (crawlwaylaw37_alive >>= fun t => some t) = some true := by rw [alive37]; rfl
theorem reads_of {k v : ByteArray} {A : S_api_Field × Int} (hv : ¬ 300 < v.size) (hA : field_Read (mkPr k v) = some A) (hB : crawlwayref37_Read (mkPr k v) = some A) (hR : A.2 = 0 → field_Right A.1 = some true) : crawlwaylaw37_FieldReads k v = some true := by
  unfold crawlwaylaw37_FieldReads
  rw [if_neg (by rw [decide_eq_true_eq]; omega)]
  show (field_Read (mkPr k v) >>= fun t3 => crawlwayref37_Read (mkPr k v) >>= _) = _
  rw [hA, bindM_some, hB, bindM_some, if_pos (decide_eq_true rfl), if_pos (beq_self_eq_true _)]
  by_cases h : A.2 = 0
  · rw [if_neg (by simp [h]), hR h, bindM_some, if_pos rfl]; exact alive_then
  · rw [if_pos (by simpa using h)]; exact alive_then
theorem wf_u64' {n : Int} (h : (Lit.int .u64 n).wf = true) : 0 ≤ n ∧ n < 18446744073709551616 := by
  simp [Lit.wf, IntKind.min, IntKind.max, IntKind.signed, IntKind.bits] at h
  omega
theorem pairs_of {x : S_api_Field} {R : Bool} {p : S_pairline_Pair} (h1 : crawlwayref37_Right x = some R) (h2 : field_Right x = some R) (h3 : R = true → field_Pair x = some (p, 0) ∧ crawlwayref37_Pair x = some p ∧ field_Read p = some (x, 0)) : crawlwaylaw37_FieldPairs x = some true := by
  unfold crawlwaylaw37_FieldPairs
  have n1 : (R != R) = false := by simp
  rw [h1, bindM_some]
  cases R with
  | false =>
    have hp : field_Pair x = some (mkPr ⟨#[]⟩ ⟨#[]⟩, 1) := by
      unfold field_Pair
      rw [h2, bindM_some, if_pos (by rfl)]; rfl
    rw [hp, bindM_some, h2, bindM_some, n1, if_neg Bool.false_ne_true, if_pos (by rfl)]
    show (if seq (⟨#[]⟩ : ByteArray) (⟨#[]⟩ : ByteArray) = true then (if seq (⟨#[]⟩ : ByteArray) (⟨#[]⟩ : ByteArray) = true then (if ((1 : Int) == 1) = true then _ else _) else _) else _) = _
    rw [seq_self, if_pos rfl, if_pos rfl, if_pos (by rfl)]; exact alive_then
  | true =>
    obtain ⟨e1, e2, e3⟩ := h3 rfl
    rw [e1, bindM_some, h2, bindM_some, n1, if_neg Bool.false_ne_true, if_neg (by decide), e2, bindM_some]
    show (field_Read p >>= _) = _
    rw [e3, bindM_some, seq_self, if_pos rfl, seq_self, if_pos rfl, if_pos (by rfl), if_pos (decide_eq_true rfl), if_pos (by rfl)]; exact alive_then
set_option maxHeartbeats 3200000 in
theorem FieldPairs_pure (a0 : S_api_Field) (w0 : ok_api_Field a0) : crawlwaylaw37_FieldPairs a0 = some true := by
  by_cases h1 : 1 ≤ a0.f_Word
  · by_cases h2 : a0.f_Word ≤ 16
    · obtain ⟨n1, n2, n3⟩ := name_of h1 h2
      have hw : field_Word (lget NL a0.f_Word) = some a0.f_Word := by rw [word_code, n3]
      have h0 : a0.f_Word ≠ 0 := by omega
      obtain ⟨ow, ok, on, oe, op⟩ := w0
      have hnl : (0 : Int) ≤ a0.f_Word ∧ a0.f_Word < (NL.length : Int) := by rw [NL_len]; omega
      rcases cls _ h1 h2 with ⟨hs, hk⟩ | hw9 | hw12 | ⟨most, lo, hs, hk, h9, h12, hf, hm, hl, hmm⟩ | ⟨hs, hk, h9, h12, hf⟩
      · obtain ⟨T, t1, t2, t3, t4⟩ := hexT a0.f_Key ok
        have hR := right_key a0 h1 h2 hs t1
        rw [same_key] at hR
        refine pairs_of (p := mkPr (lget NL a0.f_Word) T) (refR_key a0 h1 h2 hk) hR fun ht => ⟨?_, ?_, ?_⟩
        · unfold field_Pair
          rw [hR, ht, bindM_some, if_neg (by decide), hs, bindM_some]
          show (field_keyed_2 a0 >>= _) = _
          unfold field_keyed_2
          rw [t1, bindM_some, bindM_some, n1, bindM_some]; rfl
        · unfold crawlwayref37_Pair
          rw [hk, bindM_some, if_pos rfl, t2, bindM_some, t3, bindM_some, names_ref, bindM_some, if_pos hnl]; rfl
        · rw [code_key hw h0 hs t4]
          unfold outR
          rw [if_pos rfl]
          exact congrArg some (Prod.ext (of_decide_eq_true ht) rfl)
      · obtain ⟨V, l, n, hE, hl, _⟩ := Host.exists_mkE a0.f_End oe
        have t1 : hostport_Text a0.f_End = some (bs (if Host.rightE V l n = true then Host.hostL V l n.toNat else [])) := by rw [hE]; exact Host.text_code12 hl
        have t2 : hostport_Right a0.f_End = some (Host.rightE V l n) := by rw [hE]; exact Host.right_code12 hl
        have t3 : crawlwayref12_Right a0.f_End = some (Host.rightE V l n) := by rw [hE]; exact Host.right_ref12 hl
        have t4 : crawlwayref12_Text a0.f_End = some (bs (if Host.rightE V l n = true then Host.hostL V l n.toNat else [])) := by rw [hE]; exact Host.text_ref12 hl
        have hs : field_shapeOf a0.f_Word = some .s1 := by rw [hw9]; rfl
        have hR := right_ended a0 h1 h2 hs t1 t2
        rw [same_ended] at hR
        refine pairs_of (p := mkPr (lget NL a0.f_Word) (bs (if Host.rightE V l n = true then Host.hostL V l n.toNat else []))) (refR_ended a0 hw9 t3) hR fun ht => ⟨?_, ?_, ?_⟩
        · unfold field_Pair
          rw [hR, ht, bindM_some, if_neg (by decide), hs, bindM_some]
          show (field_ended_2 a0 >>= _) = _
          unfold field_ended_2
          rw [t1, bindM_some, t2, bindM_some, bindM_some, n1, bindM_some]; rfl
        · unfold crawlwayref37_Pair
          rw [show crawlwayref37_key a0.f_Word = some false by rw [hw9]; rfl, bindM_some, if_neg Bool.false_ne_true, if_pos (by rw [hw9]; rfl), t4, bindM_some, names_ref, bindM_some, if_pos hnl]; rfl
        · rw [Bool.and_eq_true] at ht
          obtain ⟨hre, hd⟩ := ht
          obtain ⟨hrl, k, rfl, k1, k2⟩ := Host.rightE_iff hre
          have hlen := Host.hostL_len (V := V) hl k k2
          rw [hre, if_pos rfl, Int.toNat_natCast, code_ended hw h0 hs (Host.host_parse _ (by omega)), Host.endP_text hl hrl k k1 k2, ← hE]
          unfold outR
          rw [if_pos rfl]
          exact congrArg some (Prod.ext (of_decide_eq_true hd) rfl)
      · obtain ⟨V, l, n, hE, hl, _⟩ := Cid.exists_mkP a0.f_P op
        have t1 : cidr_Text a0.f_P = some (bs (if Cid.rightP V l n = true then Cid.cidT V l n.toNat else [])) := by rw [hE]; exact Cid.ctext_code hl
        have t2 : cidr_Right a0.f_P = some (Cid.rightP V l n) := by rw [hE]; exact Cid.cright_code hl
        have t3 : crawlwayref11_Right a0.f_P = some (Cid.rightP V l n) := by rw [hE]; exact Cid.cright_ref hl
        have t4 : crawlwayref11_Text a0.f_P = some (bs (if Cid.rightP V l n = true then Cid.cidT V l n.toNat else [])) := by rw [hE]; exact Cid.ctext_ref hl
        have hs : field_shapeOf a0.f_Word = some .s2 := by rw [hw12]; rfl
        have hR := right_allowed a0 h1 h2 hs t1 t2
        rw [same_allowed] at hR
        refine pairs_of (p := mkPr (lget NL a0.f_Word) (bs (if Cid.rightP V l n = true then Cid.cidT V l n.toNat else []))) (refR_allowed a0 hw12 t3) hR fun ht => ⟨?_, ?_, ?_⟩
        · unfold field_Pair
          rw [hR, ht, bindM_some, if_neg (by decide), hs, bindM_some]
          show (field_allowed_2 a0 >>= _) = _
          unfold field_allowed_2
          rw [t1, bindM_some, t2, bindM_some, bindM_some, n1, bindM_some]; rfl
        · unfold crawlwayref37_Pair
          rw [show crawlwayref37_key a0.f_Word = some false by rw [hw12]; rfl, bindM_some, if_neg Bool.false_ne_true, if_neg (by rw [hw12]; decide), if_pos (by rw [hw12]; rfl), t4, bindM_some, names_ref, bindM_some, if_pos hnl]; rfl
        · rw [Bool.and_eq_true] at ht
          obtain ⟨hre, hd⟩ := ht
          obtain ⟨⟨_, k1, k2⟩, _⟩ := Cid.rightP_iff.1 hre
          have hwl := width_le (V := V) (l := l)
          obtain ⟨k, rfl⟩ := Int.eq_ofNat_of_zero_le k1
          have hlen := Cid.cidT_len (V := V) hl k (by omega)
          rw [hre, if_pos rfl, Int.toNat_natCast, code_allowed hw h0 hs (Cid.cid_parse _ (by omega)), Cid.cidP_text hl k hre, ← hE]
          unfold outR
          rw [if_pos rfl]
          exact congrArg some (Prod.ext (of_decide_eq_true hd) rfl)
      · obtain ⟨g1, g2⟩ := wf_u64' on
        obtain ⟨n, hN⟩ := Int.eq_ofNat_of_zero_le g1
        have hlo : (a0.f_Word ≠ 13 ∧ (lo : Int) = 0) ∨ (a0.f_Word = 13 ∧ (lo : Int) = 1) := hl.imp (fun h => ⟨h.1, by omega⟩) fun h => ⟨h.1, by omega⟩
        have t1 : decimal_Text a0.f_N = some (fmtU a0.f_N) := by rw [hN]; exact text_code n (by omega)
        have t2 : crawlwayref03_Text a0.f_N = some (fmtU a0.f_N) := by rw [hN]; exact text_ref n (by omega)
        have hR := right_counted a0 h1 h2 hs t1
        rw [same_counted] at hR
        refine pairs_of (p := mkPr (lget NL a0.f_Word) (fmtU a0.f_N)) (refR_counted a0 h1 h2 g1 hk h9 h12 hf hm hlo) hR fun ht => ⟨?_, ?_, ?_⟩
        · unfold field_Pair
          rw [hR, ht, bindM_some, if_neg (by decide), hs, bindM_some]
          show (field_counted_2 a0 lo most >>= _) = _
          unfold field_counted_2
          rw [t1, bindM_some]
          rw [Bool.and_eq_true, Bool.and_eq_true] at ht
          rw [if_pos ht.1.1, bindM_some, n1, bindM_some]; rfl
        · unfold crawlwayref37_Pair
          rw [hk, bindM_some, if_neg Bool.false_ne_true, if_neg (by simpa using h9), if_neg (by simpa using h12), hf, bindM_some, if_pos (by rfl), t2, bindM_some, names_ref, bindM_some, if_pos hnl]; rfl
        · rw [Bool.and_eq_true, Bool.and_eq_true, decide_eq_true_eq, decide_eq_true_eq] at ht
          obtain ⟨⟨ha, hb⟩, hd⟩ := ht
          have hrd : decimal_Read (fmtU a0.f_N) (most : Int) = some (a0.f_N, 0) := by
            rw [hN] at hb ⊢
            have hsz := fmtU_size n (by omega)
            rw [read_code _ most (by omega) hmm, fmtU_list, rdU_text, if_pos (by omega)]; rfl
          rw [code_counted hw h0 hs hrd, cntP_same (.inr (by show ¬ a0.f_N < (lo : Int); omega))]
          unfold outR
          rw [if_pos rfl]
          exact congrArg some (Prod.ext (of_decide_eq_true hd) rfl)
      · have hR := right_said a0 h1 h2 hs
        rw [same_said] at hR
        refine pairs_of (p := mkPr (lget NL a0.f_Word) yes) (refR_said a0 h1 h2 hk h9 h12 hf) hR fun ht => ⟨?_, ?_, ?_⟩
        · unfold field_Pair
          rw [hR, ht, bindM_some, if_neg (by decide), hs, bindM_some]
          show (field_said_2 a0 >>= _) = _
          unfold field_said_2
          rw [bindM_some, n1, bindM_some]; rfl
        · unfold crawlwayref37_Pair
          rw [hk, bindM_some, if_neg Bool.false_ne_true, if_neg (by simpa using h9), if_neg (by simpa using h12), hf, bindM_some, if_neg (by decide), names_ref, bindM_some, if_pos hnl]; rfl
        · rw [code_said hw h0 hs]
          unfold outR sayP
          rw [seq_self, if_pos rfl, if_pos rfl]
          exact congrArg some (Prod.ext (of_decide_eq_true ht) rfl)
    · refine pairs_of (R := false) (p := mkPr ⟨#[]⟩ ⟨#[]⟩) ?_ ?_ (fun h => by cases h)
      · unfold crawlwayref37_Right
        rw [if_neg (by rw [decide_eq_true_eq]; omega), if_pos (decide_eq_true (by omega))]
      · unfold field_Right
        rw [name_out _ (by omega), bindM_some, seq_self, if_pos rfl]
  · refine pairs_of (R := false) (p := mkPr ⟨#[]⟩ ⟨#[]⟩) ?_ ?_ (fun h => by cases h)
    · unfold crawlwayref37_Right
      rw [if_pos (decide_eq_true (by omega))]
    · unfold field_Right
      rw [name_out _ (by omega), bindM_some, seq_self, if_pos rfl]
end Go.Proofs.YtkkmmpofdcccmaaGreatDoor.Fld
