/- The functions on decimal numerals, in plain words. -/
import Derived.Test.YtkkmmpofdcccmaaGreatDoorDec
import Derived.Test.YtkkmmpofdcccmaaGreatDoorGs
import Derived.Test.YtkkmmpofdcccmaaGreatDoorPure
namespace Go.Proofs.YtkkmmpofdcccmaaGreatDoor
open E

theorem size_toList (s : ByteArray) : s.data.toList.length = s.size := by
  show s.data.toList.length = s.data.size
  simp
theorem mk_inj {a b : ByteArray} (h : a.data.toList = b.data.toList) : a = b := by
  cases a with | mk a => cases b with | mk b =>
  simp at h; subst h; rfl
theorem fmtU_list (n : Nat) : (fmtU (n : Int)).data.toList = Lib.decDigits n := by simp [fmtU]
theorem decDigits_len (n : Nat) (h : n < 18446744073709551616) : (Lib.decDigits n).length ≤ 20 := by
  have key : ∀ (k n : Nat), n < 10 ^ (k + 1) → (Lib.decDigits n).length ≤ k + 1 := by
    intro k
    induction k with
    | zero => intro n h; rw [decDigits_small (by omega)]; simp
    | succ k ih =>
      intro n h
      by_cases h1 : n < 10
      · rw [decDigits_small h1]; simp
      · rw [decDigits_big h1, List.length_append]
        have := ih (n / 10) (by rw [Nat.pow_succ] at h; omega)
        simp; omega
  exact key 19 n (by omega)
theorem fmtU_size (n : Nat) (h : n < 18446744073709551616) : (fmtU (n : Int)).size ≤ 20 := by
  rw [← size_toList, fmtU_list]; exact decDigits_len n h
theorem append_list (a b : ByteArray) : (a ++ b).data.toList = a.data.toList ++ b.data.toList := by simp [ByteArray.data_append]
theorem text_ref (n : Nat) (h : n < 18446744073709551616) : crawlwayref03_Text (n : Int) = some (fmtU n) := by
  induction n using Nat.strongRecOn with
  | _ n ih =>
    have hd : wr .u8 (wr .u64 (48 + Int.tmod (n : Int) 10)) = ((48 + n % 10 : Nat) : Int) := by
      have e1 : Int.tmod (n : Int) 10 = ((n % 10 : Nat) : Int) := by rw [Int.tmod_eq_emod_of_nonneg (by omega)]; omega
      rw [e1, wr_u64 (by omega) (by omega), wr_u8 (by omega) (by omega)]; omega
    have hl : ((⟨(unb ([wr .u8 (wr .u64 (48 + (Int.tmod (n : Int) 10)))])).toArray⟩ : ByteArray)).data.toList = [UInt8.ofNat (48 + n % 10)] := by
      rw [hd]; rfl
    rw [crawlwayref03_Text.eq_def]
    by_cases h1 : n < 10
    · rw [if_pos (decide_eq_true (by omega))]
      congr 1
      apply mk_inj
      rw [hl, fmtU_list, decDigits_small h1]
      rw [Nat.mod_eq_of_lt h1]
    · rw [if_neg (by rw [decide_eq_true_eq]; omega)]
      have e2 : wr .u64 (Int.tdiv (n : Int) 10) = ((n / 10 : Nat) : Int) := by
        have : Int.tdiv (n : Int) 10 = ((n / 10 : Nat) : Int) := by rw [Int.tdiv_eq_ediv_of_nonneg (by omega)]; omega
        rw [this, wr_u64 (by omega) (by omega)]
      rw [e2, ih (n / 10) (by omega) (by omega), bindM_some]
      have hsz := fmtU_size (n / 10) (by omega)
      rw [if_pos]
      · congr 1
        apply mk_inj
        rw [append_list, hl, fmtU_list, fmtU_list, decDigits_big h1]
      · have : ((⟨(unb ([wr .u8 (wr .u64 (48 + (Int.tmod (n : Int) 10)))])).toArray⟩ : ByteArray)).size = 1 := by rw [← size_toList, hl]; rfl
        rw [this]; omega
theorem text_code (n : Nat) (h : n < 18446744073709551616) : decimal_Text (n : Int) = some (fmtU n) := by
  unfold decimal_Text
  rw [if_pos (by omega)]

/-! ### how many digits a text begins with -/
def pfx (l : List UInt8) : Nat := (l.takeWhile dig).length
theorem pfx_cons_yes {c : UInt8} {r : List UInt8} (h : dig c = true) : pfx (c :: r) = pfx r + 1 := by simp [pfx, List.takeWhile_cons, h]
theorem pfx_cons_no {c : UInt8} {r : List UInt8} (h : dig c = false) : pfx (c :: r) = 0 := by simp [pfx, List.takeWhile_cons, h]
theorem pfx_le (l : List UInt8) : pfx l ≤ l.length := (List.takeWhile_prefix dig).length_le
theorem pfx_all : ∀ {l : List UInt8}, pfx l = l.length ↔ l.all dig = true
  | [] => by simp [pfx]
  | c :: r => by
    cases h : dig c
    · rw [pfx_cons_no h]; simp [h]
    · rw [pfx_cons_yes h, List.length_cons, List.all_cons, h, Bool.true_and, ← pfx_all (l := r)]; omega
theorem bt_at {s : ByteArray} {i : Nat} {c : UInt8} (h : s.data.toList[i]? = some c) : bt s (i : Int) = (c.toNat : Int) := by
  rw [bt_nat, h]; rfl
theorem u8_lt (c : UInt8) : c.toNat < 256 := c.toNat_lt
theorem prefix_ref_from (s : ByteArray) (hs : s.size < 9223372036854775808) : ∀ (k i : Nat), s.size - i = k → i ≤ s.size → crawlwayref03_Prefix.l0 s (i : Int) = some ((i + pfx (s.data.toList.drop i) : Nat) : Int) := by
  intro k
  induction k with
  | zero =>
    intro i hk hi
    have : s.data.toList.drop i = [] := List.drop_eq_nil_of_le (by rw [size_toList]; omega)
    rw [crawlwayref03_Prefix.l0.eq_def, if_neg (by rw [decide_eq_true_eq]; omega), this]; rfl
  | succ k ih =>
    intro i hk hi
    obtain ⟨c, hc, hd⟩ := drop_get s.data.toList i (by rw [size_toList]; omega)
    have hb := bt_at hc
    rw [crawlwayref03_Prefix.l0.eq_def, if_pos (decide_eq_true (by omega)), if_pos (by omega), hd, hb]
    cases hdg : dig c
    · rw [pfx_cons_no hdg]
      have hn : ¬ (48 ≤ c.toNat ∧ c.toNat ≤ 57) := fun h => by rw [dig_iff.2 h] at hdg; cases hdg
      by_cases h1 : 48 ≤ c.toNat
      · rw [if_pos (decide_eq_true (by omega)), if_pos (by omega), if_neg (by rw [decide_eq_true_eq]; omega)]; rfl
      · rw [if_neg (by rw [decide_eq_true_eq]; omega)]; rfl
    · have hy := dig_iff.1 hdg
      rw [if_pos (decide_eq_true (by omega)), if_pos (by omega), if_pos (decide_eq_true (by omega)), wr_i64 (by omega) (by omega)]
      have := ih (i + 1) (by omega) (by omega)
      rw [show ((i : Int) + 1) = ((i + 1 : Nat) : Int) by omega, this, pfx_cons_yes hdg]
      congr 2; omega
theorem prefix_ref (s : ByteArray) (hs : s.size < 9223372036854775808) : crawlwayref03_Prefix s = some ((pfx s.data.toList : Nat) : Int) := by
  unfold crawlwayref03_Prefix
  have := prefix_ref_from s hs _ 0 rfl (by omega)
  rw [show ((0 : Nat) : Int) = 0 from rfl] at this
  rw [this, bindM_some]; simp
theorem get_bang {s : ByteArray} {i : Nat} {c : UInt8} (h : s.data.toList[i]? = some c) : s.get! i = c := by
  have hi : i < s.data.size := by
    have := (List.getElem?_eq_some_iff.1 h).1
    simpa using this
  have e : s.data[i]? = some c := by simpa using h
  show s.data[i]! = c
  rw [getElem!_def, e]
theorem dcode_small {s : ByteArray} {i : Nat} {c : UInt8} (h : s.data.toList[i]? = some c) (hc : c.toNat < 128) : Utf8.decode s i = (c.toNat, 1) := by
  unfold Utf8.decode
  simp only [Nat.add_zero, get_bang h]
  rw [if_pos hc]
theorem dcode_great {s : ByteArray} {i : Nat} {c : UInt8} (h : s.data.toList[i]? = some c) (hc : 128 ≤ c.toNat) : 128 ≤ (Utf8.decode s i).1 := by
  unfold Utf8.decode
  simp only [Nat.add_zero, get_bang h]
  rw [if_neg (by omega)]
  repeat' split
  all_goals (first | (simp only [Utf8.runeError]; omega) | skip)
  all_goals (simp only [ge_iff_le, Bool.and_eq_true, decide_eq_true_eq] at *; omega)
theorem prefix_code_from (s : ByteArray) : ∀ (k i : Nat), s.size - i = k → i ≤ s.size → decimal_Prefix.l0 s i = some (if pfx (s.data.toList.drop i) < s.size - i then .ret ((i + pfx (s.data.toList.drop i) : Nat) : Int) else .nx ()) := by
  intro k
  induction k with
  | zero =>
    intro i hk hi
    have : s.data.toList.drop i = [] := List.drop_eq_nil_of_le (by rw [size_toList]; omega)
    have hz : decide (i < s.size) = false := decide_eq_false (by omega)
    have hr : ¬ pfx (s.data.toList.drop i) < s.size - i := by omega
    rw [decimal_Prefix.l0.eq_def, hz, if_neg hr]; rfl
  | succ k ih =>
    intro i hk hi
    obtain ⟨c, hc, hd⟩ := drop_get s.data.toList i (by rw [size_toList]; omega)
    have hz : decide (i < s.size) = true := decide_eq_true (by omega)
    rw [decimal_Prefix.l0.eq_def, if_pos hz, hd]
    cases hdg : dig c
    · have hR : (if pfx (c :: s.data.toList.drop (i + 1)) < s.size - i then (Ctl.ret ((i + pfx (c :: s.data.toList.drop (i + 1)) : Nat) : Int) : Ctl Int Unit) else .nx ()) = .ret (i : Int) := by
        have h0 : 0 < s.size - i := by omega
        rw [pfx_cons_no hdg, if_pos h0]; rfl
      rw [hR]
      have hn : ¬ (48 ≤ c.toNat ∧ c.toNat ≤ 57) := fun h => by rw [dig_iff.2 h] at hdg; cases hdg
      have hv : dcode s i < 48 ∨ dcode s i > 57 := by
        by_cases h1 : c.toNat < 128
        · have : dcode s i = (c.toNat : Int) := by show ((Utf8.decode s i).1 : Int) = _; rw [dcode_small hc h1]
          omega
        · have := dcode_great hc (by omega)
          right; show ((Utf8.decode s i).1 : Int) > 57; omega
      by_cases h2 : dcode s i < 48
      · rw [if_pos (decide_eq_true h2)]
      · have h6 : dcode s i > 57 := by omega
        rw [if_neg (by rw [decide_eq_true_eq]; exact h2), if_pos (decide_eq_true h6)]
    · have hy := dig_iff.1 hdg
      have hdc := dcode_small hc (by omega)
      have h3 : dcode s i = (c.toNat : Int) := by show ((Utf8.decode s i).1 : Int) = _; rw [hdc]
      have h4 : dstep s i = i + 1 := by show i + (Utf8.decode s i).2 = _; rw [hdc]
      have h6 : decide (dcode s i < 48) = false := decide_eq_false (by omega)
      have h7 : decide (dcode s i > 57) = false := decide_eq_false (by omega)
      rw [h6, h7, h4, ih (i + 1) (by omega) (by omega), pfx_cons_yes hdg]
      simp only [Bool.false_eq_true, if_false]
      congr 1
      by_cases h5 : pfx (s.data.toList.drop (i + 1)) < s.size - (i + 1)
      · rw [if_pos h5, if_pos (by omega)]; congr 2; omega
      · rw [if_neg h5, if_neg (by omega)]
theorem prefix_code (s : ByteArray) : decimal_Prefix s = some ((pfx s.data.toList : Nat) : Int) := by
  unfold decimal_Prefix
  rw [prefix_code_from s _ 0 rfl (by omega), bindM_some, List.drop_zero]
  have := pfx_le s.data.toList
  rw [size_toList] at this
  by_cases h : pfx s.data.toList < s.size - 0
  · rw [if_pos h]; simp
  · rw [if_neg h]; show some _ = some _; congr 2; omega

/-! ### the number of a text -/
/-- What reading a text comes to: the number, and 0, or 0 and the error's number. -/
def rdU (l : List UInt8) (most : Nat) : Nat × Nat :=
  if l = [] ∨ l.all dig = false ∨ (1 < l.length ∧ l.head? = some 48) then (0, 5)
  else if spell 0 l ≤ most then (spell 0 l, 0) else (0, 6)
def iiOf (p : Nat × Nat) : Int × Int := ((p.1 : Int), (p.2 : Int))
theorem bt_head {s : ByteArray} (h : 0 < s.size) : (bt s 0 == 48) = true ↔ s.data.toList.head? = some 48 := by
  obtain ⟨c, hc, _⟩ := drop_get s.data.toList 0 (by rw [size_toList]; exact h)
  have hb := bt_at hc
  rw [show ((0 : Nat) : Int) = 0 from rfl] at hb
  rw [hb, List.head?_eq_getElem?, hc]
  constructor
  · intro e
    have : (c.toNat : Int) = 48 := by simpa using e
    congr 1; apply UInt8.toNat.inj; show c.toNat = 48; omega
  · intro e
    cases e; rfl
theorem size_ne {s : ByteArray} : s.data.toList = [] ↔ s.size = 0 := by
  rw [← size_toList]; exact List.length_eq_zero_iff.symm
theorem not_all {l : List UInt8} (h : pfx l < l.length) : l.all dig = false := by
  cases e : l.all dig
  · rfl
  · have := pfx_all.2 e; omega
theorem read_code (s : ByteArray) (most : Nat) (hs : s.size ≤ 281474976710656) (hm : most < 18446744073709551616) : decimal_Read s (most : Int) = some (iiOf (rdU s.data.toList most)) := by
  unfold decimal_Read rdU
  have hlen := size_toList s
  by_cases h0 : s.data.toList = []
  · have : s = ⟨#[]⟩ := mk_inj h0
    rw [if_pos ((seq_iff _ _).2 this), if_pos (.inl h0)]; rfl
  · have hne : ¬ (seq s (⟨#[]⟩ : ByteArray)) = true := fun h => h0 (by rw [(seq_iff _ _).1 h])
    have hpos : 0 < s.size := Nat.pos_of_ne_zero fun h => h0 (size_ne.2 h)
    rw [if_neg hne, prefix_code, bindM_some]
    by_cases h1 : pfx s.data.toList < s.size
    · rw [if_pos (decide_eq_true (by omega)), if_pos (.inr (.inl (not_all (by omega))))]; rfl
    · rw [if_neg (by rw [decide_eq_true_eq]; omega)]
      have hall : s.data.toList.all dig = true := pfx_all.1 (by have := pfx_le s.data.toList; omega)
      have hpar : parU s = if spell 0 s.data.toList ≤ 18446744073709551615 then ((spell 0 s.data.toList : Int), false) else (18446744073709551615, true) := by
        unfold parU
        rw [parB h0 hall]
        by_cases h : spell 0 s.data.toList ≤ 18446744073709551615
        · rw [if_pos h, if_pos h]
        · rw [if_neg h, if_neg h]
      have tail : (if s.size ≤ 281474976710656 then (if (!!((parU s).2)) = true then some ((0 : Int), (6 : Int)) else (if (decide ((parU s).1 > (most : Int))) = true then some (0, 6) else some ((parU s).1, 0))) else none) =
          some (iiOf (if spell 0 s.data.toList ≤ most then (spell 0 s.data.toList, 0) else (0, 6))) := by
        rw [if_pos hs, hpar]
        by_cases h : spell 0 s.data.toList ≤ 18446744073709551615
        · rw [if_pos h, if_neg (by simp)]
          by_cases h2 : spell 0 s.data.toList ≤ most
          · rw [if_neg (by rw [decide_eq_true_eq]; show ¬ ((spell 0 s.data.toList : Int) > (most : Int)); omega), if_pos h2]; rfl
          · rw [if_pos (decide_eq_true (show ((spell 0 s.data.toList : Int) > (most : Int)) by omega)), if_neg h2]; rfl
        · rw [if_neg h, if_pos (by simp), if_neg (by omega)]; rfl
      by_cases h2 : 1 < s.size
      · rw [if_pos (decide_eq_true (by omega)), if_pos (by omega)]
        by_cases h3 : s.data.toList.head? = some 48
        · rw [if_pos ((bt_head hpos).2 h3), if_pos (.inr (.inr ⟨by omega, h3⟩))]; rfl
        · have hc : ¬ (s.data.toList = [] ∨ s.data.toList.all dig = false ∨ (1 < s.data.toList.length ∧ s.data.toList.head? = some 48)) := by
            rintro (h | h | h)
            · exact h0 h
            · rw [hall] at h; cases h
            · exact h3 h.2
          rw [if_neg (fun h => h3 ((bt_head hpos).1 h)), tail, if_neg hc]
      · have hc : ¬ (s.data.toList = [] ∨ s.data.toList.all dig = false ∨ (1 < s.data.toList.length ∧ s.data.toList.head? = some 48)) := by
          rintro (h | h | h)
          · exact h0 h
          · rw [hall] at h; cases h
          · omega
        rw [if_neg (by rw [decide_eq_true_eq]; omega), tail, if_neg hc]
theorem read_step (m most : Nat) (c : UInt8) (hc : dig c = true) (hm : most < 18446744073709551616) (hle : m ≤ most) :
    wr .u64 (Int.tdiv (most : Int) 10) = ((most / 10 : Nat) : Int) ∧ wr .u64 ((wr .u64 (c.toNat : Int)) - 48) = ((c.toNat - 48 : Nat) : Int) ∧ (m ≤ most / 10 → wr .u64 (10 * (m : Int)) = ((10 * m : Nat) : Int)) := by
  have hy := dig_iff.1 hc
  refine ⟨?_, ?_, fun h => ?_⟩
  · have : Int.tdiv (most : Int) 10 = ((most / 10 : Nat) : Int) := by rw [Int.tdiv_eq_ediv_of_nonneg (by omega)]; omega
    rw [this, wr_u64 (by omega) (by omega)]
  · have e : wr .u64 (c.toNat : Int) = (c.toNat : Int) := wr_u64 (by omega) (by omega)
    rw [e, wr_u64 (by omega) (by omega)]; omega
  · rw [wr_u64 (by omega) (by omega)]; omega
def outU (l : List UInt8) (m most : Nat) : Ctl (Int × Int) Int := if spell m l ≤ most then .nx (spell m l : Int) else .ret (0, 6)
theorem out_cons {c : UInt8} {r : List UInt8} {m most : Nat} (h : m * 10 + (c.toNat - 48) ≤ most) : outU (c :: r) m most = outU r (10 * m + (c.toNat - 48)) most := by
  have e : spell m (c :: r) = spell (10 * m + (c.toNat - 48)) r := by
    show spell (m * 10 + (c.toNat - 48)) r = _
    rw [Nat.mul_comm]
  unfold outU
  rw [e]
theorem out_over {c : UInt8} {r : List UInt8} {m most : Nat} (h : most < m * 10 + (c.toNat - 48)) : outU (c :: r) m most = .ret (0, 6) := by
  unfold outU
  have := spell_le r (m * 10 + (c.toNat - 48))
  rw [if_neg]; show ¬ spell (m * 10 + (c.toNat - 48)) r ≤ most; omega
theorem read_loop0 (s : ByteArray) (most : Nat) (hs : s.size < 9223372036854775808) (hm : most < 18446744073709551616) (hall : s.data.toList.all dig = true) :
    ∀ (k i m : Nat), s.size - i = k → i ≤ s.size → m ≤ most → crawlwayref03_Read.l0 s most (m : Int) (i : Int) = some (outU (s.data.toList.drop i) m most) := by
  intro k
  induction k with
  | zero =>
    intro i m hk hi hmm
    have : s.data.toList.drop i = [] := List.drop_eq_nil_of_le (by rw [size_toList]; omega)
    rw [crawlwayref03_Read.l0.eq_def, if_neg (by rw [decide_eq_true_eq]; omega), this]
    unfold outU spell; rw [if_pos hmm]
  | succ k ih =>
    intro i m hk hi hmm
    obtain ⟨c, hc, hd⟩ := drop_get s.data.toList i (by rw [size_toList]; omega)
    have hdg : dig c = true := List.all_eq_true.1 hall c (List.mem_of_getElem? hc)
    have hy := dig_iff.1 hdg
    obtain ⟨e1, e2, e3⟩ := read_step m most c hdg hm hmm
    rw [crawlwayref03_Read.l0.eq_def, if_pos (decide_eq_true (by omega)), if_pos (by omega), hd, bt_at hc, e1, e2]
    by_cases h1 : m ≤ most / 10
    · rw [if_neg (by rw [decide_eq_true_eq]; omega), e3 h1]
      have e4 : wr .u64 ((most : Int) - (if (most : Int) < ((c.toNat - 48 : Nat) : Int) then (most : Int) else ((c.toNat - 48 : Nat) : Int))) = ((most - (c.toNat - 48) : Nat) : Int) := by
        by_cases h : (most : Int) < ((c.toNat - 48 : Nat) : Int)
        · rw [if_pos h, wr_u64 (by omega) (by omega)]; omega
        · rw [if_neg h, wr_u64 (by omega) (by omega)]; omega
      rw [e4]
      by_cases h2 : most < m * 10 + (c.toNat - 48)
      · rw [out_over h2]
        by_cases h3 : 10 * m > most - (c.toNat - 48)
        · rw [if_pos (decide_eq_true (by omega))]
        · rw [if_neg (by rw [decide_eq_true_eq]; omega), if_pos (decide_eq_true (by omega))]
      · rw [if_neg (by rw [decide_eq_true_eq]; omega), if_neg (by rw [decide_eq_true_eq]; omega), wr_i64 (by omega) (by omega), out_cons (by omega)]
        have e5 : wr .u64 (((10 * m : Nat) : Int) + ((c.toNat - 48 : Nat) : Int)) = ((10 * m + (c.toNat - 48) : Nat) : Int) := by rw [wr_u64 (by omega) (by omega)]; omega
        rw [e5, show ((i : Int) + 1) = ((i + 1 : Nat) : Int) by omega]
        exact ih (i + 1) _ (by omega) (by omega) (by omega)
    · rw [if_pos (decide_eq_true (by omega)), out_over (by omega)]
theorem read_loop1 (s : ByteArray) (most : Nat) (hs : s.size < 9223372036854775808) (hm : most < 18446744073709551616) (hall : s.data.toList.all dig = true) :
    ∀ (k i m : Nat), s.size - i = k → i ≤ s.size → m ≤ most → crawlwayref03_Read.l1 s most (m : Int) (i : Int) = some (outU (s.data.toList.drop i) m most) := by
  intro k
  induction k with
  | zero =>
    intro i m hk hi hmm
    have : s.data.toList.drop i = [] := List.drop_eq_nil_of_le (by rw [size_toList]; omega)
    rw [crawlwayref03_Read.l1.eq_def, if_neg (by rw [decide_eq_true_eq]; omega), this]
    unfold outU spell; rw [if_pos hmm]
  | succ k ih =>
    intro i m hk hi hmm
    obtain ⟨c, hc, hd⟩ := drop_get s.data.toList i (by rw [size_toList]; omega)
    have hdg : dig c = true := List.all_eq_true.1 hall c (List.mem_of_getElem? hc)
    have hy := dig_iff.1 hdg
    obtain ⟨e1, e2, e3⟩ := read_step m most c hdg hm hmm
    rw [crawlwayref03_Read.l1.eq_def, if_pos (decide_eq_true (by omega)), if_pos (by omega), hd, bt_at hc, e1, e2]
    by_cases h1 : m ≤ most / 10
    · rw [if_neg (by rw [decide_eq_true_eq]; omega), e3 h1]
      have e4 : wr .u64 ((most : Int) - (if (most : Int) < ((c.toNat - 48 : Nat) : Int) then (most : Int) else ((c.toNat - 48 : Nat) : Int))) = ((most - (c.toNat - 48) : Nat) : Int) := by
        by_cases h : (most : Int) < ((c.toNat - 48 : Nat) : Int)
        · rw [if_pos h, wr_u64 (by omega) (by omega)]; omega
        · rw [if_neg h, wr_u64 (by omega) (by omega)]; omega
      rw [e4]
      by_cases h2 : most < m * 10 + (c.toNat - 48)
      · rw [out_over h2]
        by_cases h3 : 10 * m > most - (c.toNat - 48)
        · rw [if_pos (decide_eq_true (by omega))]
        · rw [if_neg (by rw [decide_eq_true_eq]; omega), if_pos (decide_eq_true (by omega))]
      · rw [if_neg (by rw [decide_eq_true_eq]; omega), if_neg (by rw [decide_eq_true_eq]; omega), wr_i64 (by omega) (by omega), out_cons (by omega)]
        have e5 : wr .u64 (((10 * m : Nat) : Int) + ((c.toNat - 48 : Nat) : Int)) = ((10 * m + (c.toNat - 48) : Nat) : Int) := by rw [wr_u64 (by omega) (by omega)]; omega
        rw [e5, show ((i : Int) + 1) = ((i + 1 : Nat) : Int) by omega]
        exact ih (i + 1) _ (by omega) (by omega) (by omega)
    · rw [if_pos (decide_eq_true (by omega)), out_over (by omega)]
theorem read_ref (s : ByteArray) (most : Nat) (hs : s.size < 9223372036854775808) (hm : most < 18446744073709551616) : crawlwayref03_Read s (most : Int) = some (iiOf (rdU s.data.toList most)) := by
  unfold crawlwayref03_Read rdU
  have hlen := size_toList s
  by_cases h0 : s.data.toList = []
  · have h00 := size_ne.1 h0
    rw [if_pos (by rw [h00]; rfl), if_pos (.inl h0)]; rfl
  · have hpos : 0 < s.size := Nat.pos_of_ne_zero fun h => h0 (size_ne.2 h)
    rw [if_neg (by rw [beq_iff_eq]; omega), prefix_ref s hs, bindM_some]
    by_cases h1 : pfx s.data.toList < s.size
    · rw [if_pos (decide_eq_true (by omega)), if_pos (.inr (.inl (not_all (by omega))))]; rfl
    · rw [if_neg (by rw [decide_eq_true_eq]; omega)]
      have hall : s.data.toList.all dig = true := pfx_all.1 (by have := pfx_le s.data.toList; omega)
      have hl0 : crawlwayref03_Read.l0 s most 0 0 = some (outU s.data.toList 0 most) := by
        have := read_loop0 s most hs hm hall _ 0 0 rfl (by omega) (by omega)
        rwa [List.drop_zero] at this
      have hl1 : crawlwayref03_Read.l1 s most 0 0 = some (outU s.data.toList 0 most) := by
        have := read_loop1 s most hs hm hall _ 0 0 rfl (by omega) (by omega)
        rwa [List.drop_zero] at this
      by_cases h2 : 1 < s.size
      · rw [if_pos (decide_eq_true (by omega)), if_pos (by omega)]
        by_cases h3 : s.data.toList.head? = some 48
        · rw [if_pos ((bt_head hpos).2 h3), if_pos (.inr (.inr ⟨by omega, h3⟩))]; rfl
        · have hc : ¬ (s.data.toList = [] ∨ s.data.toList.all dig = false ∨ (1 < s.data.toList.length ∧ s.data.toList.head? = some 48)) := by
            rintro (h | h | h)
            · exact h0 h
            · rw [hall] at h; cases h
            · exact h3 h.2
          rw [if_neg (fun h => h3 ((bt_head hpos).1 h)), hl0, bindM_some, if_neg hc]
          unfold outU
          by_cases h : spell 0 s.data.toList ≤ most
          · rw [if_pos h, if_pos h]; rfl
          · rw [if_neg h, if_neg h]; rfl
      · have hc : ¬ (s.data.toList = [] ∨ s.data.toList.all dig = false ∨ (1 < s.data.toList.length ∧ s.data.toList.head? = some 48)) := by
          rintro (h | h | h)
          · exact h0 h
          · rw [hall] at h; cases h
          · omega
        rw [if_neg (by rw [decide_eq_true_eq]; omega), hl1, bindM_some, if_neg hc]
        unfold outU
        by_cases h : spell 0 s.data.toList ≤ most
        · rw [if_pos h, if_pos h]; rfl
        · rw [if_neg h, if_neg h]; rfl
theorem rdU_text (n most : Nat) : rdU (Lib.decDigits n) most = if n ≤ most then (n, 0) else (0, 6) := by
  unfold rdU
  rw [decDigits_spell, if_neg]
  rintro (h | h | h)
  · exact decDigits_ne n h
  · rw [decDigits_dig] at h; cases h
  · by_cases hn : n = 0
    · subst hn; rw [decDigits_zero] at h; simp at h
    · exact decDigits_head n (by omega) h.2
theorem rdU_back {l : List UInt8} {most : Nat} (h : (rdU l most).2 = 0) : Lib.decDigits (rdU l most).1 = l ∧ (rdU l most).1 ≤ most := by
  unfold rdU at h ⊢
  by_cases h1 : l = [] ∨ l.all dig = false ∨ (1 < l.length ∧ l.head? = some 48)
  · rw [if_pos h1] at h; cases h
  · rw [if_neg h1] at h ⊢
    by_cases h2 : spell 0 l ≤ most
    · rw [if_pos h2]
      refine ⟨spell_decDigits (fun e => h1 (.inl e)) ?_ fun hl he => h1 (.inr (.inr ⟨hl, he⟩)), h2⟩
      cases e : l.all dig
      · exact absurd (.inr (.inl e)) h1
      · rfl
    · rw [if_neg h2] at h; cases h

end Go.Proofs.YtkkmmpofdcccmaaGreatDoor
