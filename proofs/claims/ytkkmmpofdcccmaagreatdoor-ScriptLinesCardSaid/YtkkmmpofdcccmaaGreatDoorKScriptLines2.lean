/- Texts of this claim, those in one that belong together; printed by a program of this project. -/
import Derived.Test.YtkkmmpofdcccmaaGreatDoorProg
import Derived.Test.YtkkmmpofdcccmaaGreatDoorKScriptLines1
set_option linter.unusedVariables false
set_option linter.unusedSimpArgs false
namespace Go.Proofs.YtkkmmpofdcccmaaGreatDoor
open E
theorem size_toList (s : ByteArray) : s.data.toList.length = s.size:=by
  show s.data.toList.length = s.data.size
  simp
theorem mk_inj {a b : ByteArray} (h : a.data.toList = b.data.toList) : a = b:=by
  cases a with | mk a=>cases b with | mk b =>
  simp at h; subst h; rfl
theorem fmtU_list (n : Nat) : (fmtU (n : Int)).data.toList = Lib.decDigits n:=by simp [fmtU]
theorem decDigits_len (n : Nat) (h : n < 18446744073709551616) : (Lib.decDigits n).length ≤ 20:=by
  have key : ∀ (k n : Nat),n < 10 ^ (k + 1) → (Lib.decDigits n).length ≤ k + 1:=by
    intro k
    induction k with
    | zero=>intro n h; rw [decDigits_small (by omega)]; simp
    | succ k ih =>
      intro n h
      by_cases h1 : n < 10
      · rw [decDigits_small h1]; simp
      · rw [decDigits_big h1,List.length_append]
        have:=ih (n / 10) (by rw [Nat.pow_succ] at h; omega)
        simp; omega
  exact key 19 n (by omega)
theorem fmtU_size (n : Nat) (h : n < 18446744073709551616) : (fmtU (n : Int)).size ≤ 20:=by
  rw [← size_toList,fmtU_list]; exact decDigits_len n h
theorem append_list (a b : ByteArray) : (a ++ b).data.toList = a.data.toList ++ b.data.toList:=by simp [ByteArray.data_append]
theorem text_ref (n : Nat) (h : n < 18446744073709551616) : crawlwayref03_Text (n : Int) = some (fmtU n):=by
  induction n using Nat.strongRecOn with
  | _ n ih =>
    have hd : wr .u8 (wr .u64 (48 + Int.tmod (n : Int) 10)) = ((48 + n % 10 : Nat) : Int):=by
      have e1 : Int.tmod (n : Int) 10 = ((n % 10 : Nat) : Int):=by rw [Int.tmod_eq_emod_of_nonneg (by omega)]; omega
      rw [e1,wr_u64 (by omega) (by omega),wr_u8 (by omega) (by omega)]; omega
    have hl : ((⟨(unb ([wr .u8 (wr .u64 (48 + (Int.tmod (n : Int) 10)))])).toArray⟩ : ByteArray)).data.toList = [UInt8.ofNat (48 + n % 10)]:=by
      rw [hd]; rfl
    rw [crawlwayref03_Text.eq_def]
    by_cases h1 : n < 10
    · rw [if_pos (decide_eq_true (by omega))]
      congr 1
      apply mk_inj
      rw [hl,fmtU_list,decDigits_small h1]
      rw [Nat.mod_eq_of_lt h1]
    · rw [if_neg (by rw [decide_eq_true_eq]; omega)]
      have e2 : wr .u64 (Int.tdiv (n : Int) 10) = ((n / 10 : Nat) : Int):=by
        have : Int.tdiv (n : Int) 10 = ((n / 10 : Nat) : Int):=by rw [Int.tdiv_eq_ediv_of_nonneg (by omega)]; omega
        rw [this,wr_u64 (by omega) (by omega)]
      rw [e2,ih (n / 10) (by omega) (by omega),bindM_some]
      have hsz:=fmtU_size (n / 10) (by omega)
      rw [if_pos]
      · congr 1
        apply mk_inj
        rw [append_list,hl,fmtU_list,fmtU_list,decDigits_big h1]
      · have : ((⟨(unb ([wr .u8 (wr .u64 (48 + (Int.tmod (n : Int) 10)))])).toArray⟩ : ByteArray)).size = 1:=by rw [← size_toList,hl]; rfl
        rw [this]; omega
theorem text_code (n : Nat) (h : n < 18446744073709551616) : decimal_Text (n : Int) = some (fmtU n):=by
  unfold decimal_Text
  rw [if_pos (by omega)]
def pfx (l : List UInt8) : Nat:=(l.takeWhile dig).length
theorem pfx_cons_yes {c : UInt8} {r : List UInt8} (h : dig c = true) : pfx (c::r) = pfx r + 1:=by simp [pfx,List.takeWhile_cons,h]
theorem pfx_cons_no {c : UInt8} {r : List UInt8} (h : dig c = false) : pfx (c::r) = 0:=by simp [pfx,List.takeWhile_cons,h]
theorem pfx_le (l : List UInt8) : pfx l ≤ l.length:=(List.takeWhile_prefix dig).length_le
theorem pfx_all : ∀ {l : List UInt8},pfx l = l.length ↔ l.all dig = true
  | []=>by simp [pfx]
  | c::r=>by
    cases h : dig c
    · rw [pfx_cons_no h]; simp [h]
    · rw [pfx_cons_yes h,List.length_cons,List.all_cons,h,Bool.true_and,← pfx_all (l:=r)]; omega
theorem bt_at {s : ByteArray} {i : Nat} {c : UInt8} (h : s.data.toList[i]? = some c) : bt s (i : Int) = (c.toNat : Int):=by
  rw [bt_nat,h]; rfl
theorem prefix_ref_from (s : ByteArray) (hs : s.size < 9223372036854775808) : ∀ (k i : Nat),s.size - i = k → i ≤ s.size → crawlwayref03_Prefix.l0 s (i : Int) = some ((i + pfx (s.data.toList.drop i) : Nat) : Int):=by
  intro k
  induction k with
  | zero =>
    intro i hk hi
    have : s.data.toList.drop i = []:=List.drop_eq_nil_of_le (by rw [size_toList]; omega)
    rw [crawlwayref03_Prefix.l0.eq_def,if_neg (by rw [decide_eq_true_eq]; omega),this]; rfl
  | succ k ih =>
    intro i hk hi
    obtain ⟨c,hc,hd⟩:=drop_get s.data.toList i (by rw [size_toList]; omega)
    have hb:=bt_at hc
    rw [crawlwayref03_Prefix.l0.eq_def,if_pos (decide_eq_true (by omega)),if_pos (by omega),hd,hb]
    cases hdg : dig c
    · rw [pfx_cons_no hdg]
      have hn : ¬ (48 ≤ c.toNat ∧ c.toNat ≤ 57):=fun h=>by rw [dig_iff.2 h] at hdg; cases hdg
      by_cases h1 : 48 ≤ c.toNat
      · rw [if_pos (decide_eq_true (by omega)),if_pos (by omega),if_neg (by rw [decide_eq_true_eq]; omega)]; rfl
      · rw [if_neg (by rw [decide_eq_true_eq]; omega)]; rfl
    · have hy:=dig_iff.1 hdg
      rw [if_pos (decide_eq_true (by omega)),if_pos (by omega),if_pos (decide_eq_true (by omega)),wr_i64 (by omega) (by omega)]
      have:=ih (i + 1) (by omega) (by omega)
      rw [show ((i : Int) + 1) = ((i + 1 : Nat) : Int) by omega,this,pfx_cons_yes hdg]
      congr 2; omega
theorem prefix_ref (s : ByteArray) (hs : s.size < 9223372036854775808) : crawlwayref03_Prefix s = some ((pfx s.data.toList : Nat) : Int):=by
  unfold crawlwayref03_Prefix
  have:=prefix_ref_from s hs _ 0 rfl (by omega)
  rw [show ((0 : Nat) : Int) = 0 from rfl] at this
  rw [this,bindM_some]; simp
theorem get_bang {s : ByteArray} {i : Nat} {c : UInt8} (h : s.data.toList[i]? = some c) : s.get! i = c:=by
  have hi : i < s.data.size:=by
    have:=(List.getElem?_eq_some_iff.1 h).1
    simpa using this
  have e : s.data[i]? = some c:=by simpa using h
  show s.data[i]! = c
  rw [getElem!_def,e]
theorem dcode_small {s : ByteArray} {i : Nat} {c : UInt8} (h : s.data.toList[i]? = some c) (hc : c.toNat < 128) : Utf8.decode s i = (c.toNat,1):=by
  unfold Utf8.decode
  simp only [Nat.add_zero,get_bang h]
  rw [if_pos hc]
theorem dcode_great {s : ByteArray} {i : Nat} {c : UInt8} (h : s.data.toList[i]? = some c) (hc : 128 ≤ c.toNat) : 128 ≤ (Utf8.decode s i).1:=by
  unfold Utf8.decode
  simp only [Nat.add_zero,get_bang h]
  rw [if_neg (by omega)]
  repeat' split
  all_goals (first | (simp only [Utf8.runeError]; omega) | skip)
  all_goals (simp only [ge_iff_le,Bool.and_eq_true,decide_eq_true_eq] at *; omega)
theorem prefix_code_from (s : ByteArray) : ∀ (k i : Nat),s.size - i = k → i ≤ s.size → decimal_Prefix.l0 s i = some (if pfx (s.data.toList.drop i) < s.size - i then .ret ((i + pfx (s.data.toList.drop i) : Nat) : Int) else .nx ()):=by
  intro k
  induction k with
  | zero =>
    intro i hk hi
    have : s.data.toList.drop i = []:=List.drop_eq_nil_of_le (by rw [size_toList]; omega)
    have hz : decide (i < s.size) = false:=decide_eq_false (by omega)
    have hr : ¬ pfx (s.data.toList.drop i) < s.size - i:=by omega
    rw [decimal_Prefix.l0.eq_def,hz,if_neg hr]; rfl
  | succ k ih =>
    intro i hk hi
    obtain ⟨c,hc,hd⟩:=drop_get s.data.toList i (by rw [size_toList]; omega)
    have hz : decide (i < s.size) = true:=decide_eq_true (by omega)
    rw [decimal_Prefix.l0.eq_def,if_pos hz,hd]
    cases hdg : dig c
    · have hR : (if pfx (c::s.data.toList.drop (i + 1)) < s.size - i then (Ctl.ret ((i + pfx (c::s.data.toList.drop (i + 1)) : Nat) : Int) : Ctl Int Unit) else .nx ()) = .ret (i : Int):=by
        have h0 : 0 < s.size - i:=by omega
        rw [pfx_cons_no hdg,if_pos h0]; rfl
      rw [hR]
      have hn : ¬ (48 ≤ c.toNat ∧ c.toNat ≤ 57):=fun h=>by rw [dig_iff.2 h] at hdg; cases hdg
      have hv : dcode s i < 48 ∨ dcode s i > 57:=by
        by_cases h1 : c.toNat < 128
        · have : dcode s i = (c.toNat : Int):=by show ((Utf8.decode s i).1 : Int) = _; rw [dcode_small hc h1]
          omega
        · have:=dcode_great hc (by omega)
          right; show ((Utf8.decode s i).1 : Int) > 57; omega
      by_cases h2 : dcode s i < 48
      · rw [if_pos (decide_eq_true h2)]
      · have h6 : dcode s i > 57:=by omega
        rw [if_neg (by rw [decide_eq_true_eq]; exact h2),if_pos (decide_eq_true h6)]
    · have hy:=dig_iff.1 hdg
      have hdc:=dcode_small hc (by omega)
      have h3 : dcode s i = (c.toNat : Int):=by show ((Utf8.decode s i).1 : Int) = _; rw [hdc]
      have h4 : dstep s i = i + 1:=by show i + (Utf8.decode s i).2 = _; rw [hdc]
      have h6 : decide (dcode s i < 48) = false:=decide_eq_false (by omega)
      have h7 : decide (dcode s i > 57) = false:=decide_eq_false (by omega)
      rw [h6,h7,h4,ih (i + 1) (by omega) (by omega),pfx_cons_yes hdg]
      simp only [Bool.false_eq_true,if_false]
      congr 1
      by_cases h5 : pfx (s.data.toList.drop (i + 1)) < s.size - (i + 1)
      · rw [if_pos h5,if_pos (by omega)]; congr 2; omega
      · rw [if_neg h5,if_neg (by omega)]
theorem prefix_code (s : ByteArray) : decimal_Prefix s = some ((pfx s.data.toList : Nat) : Int):=by
  unfold decimal_Prefix
  rw [prefix_code_from s _ 0 rfl (by omega),bindM_some,List.drop_zero]
  have:=pfx_le s.data.toList
  rw [size_toList] at this
  by_cases h : pfx s.data.toList < s.size - 0
  · rw [if_pos h]; simp
  · rw [if_neg h]; show some _ = some _; congr 2; omega
def rdU (l : List UInt8) (most : Nat) : Nat × Nat :=
  if l = [] ∨ l.all dig = false ∨ (1 < l.length ∧ l.head? = some 48) then (0,5)
  else if spell 0 l ≤ most then (spell 0 l,0) else (0,6)
def iiOf (p : Nat × Nat) : Int × Int:=((p.1 : Int),(p.2 : Int))
theorem bt_head {s : ByteArray} (h : 0 < s.size) : (bt s 0 == 48) = true ↔ s.data.toList.head? = some 48:=by
  obtain ⟨c,hc,_⟩:=drop_get s.data.toList 0 (by rw [size_toList]; exact h)
  have hb:=bt_at hc
  rw [show ((0 : Nat) : Int) = 0 from rfl] at hb
  rw [hb,List.head?_eq_getElem?,hc]
  constructor
  · intro e
    have : (c.toNat : Int) = 48:=by simpa using e
    congr 1; apply UInt8.toNat.inj; show c.toNat = 48; omega
  · intro e
    cases e; rfl
theorem size_ne {s : ByteArray} : s.data.toList = [] ↔ s.size = 0:=by
  rw [← size_toList]; exact List.length_eq_zero_iff.symm
theorem not_all {l : List UInt8} (h : pfx l < l.length) : l.all dig = false:=by
  cases e : l.all dig
  · rfl
  · have:=pfx_all.2 e; omega
theorem read_code (s : ByteArray) (most : Nat) (hs : s.size ≤ 281474976710656) (hm : most < 18446744073709551616) : decimal_Read s (most : Int) = some (iiOf (rdU s.data.toList most)):=by
  unfold decimal_Read rdU
  have hlen:=size_toList s
  by_cases h0 : s.data.toList = []
  · have : s = ⟨#[]⟩:=mk_inj h0
    rw [if_pos ((seq_iff _ _).2 this),if_pos (.inl h0)]; rfl
  · have hne : ¬ (seq s (⟨#[]⟩ : ByteArray)) = true:=fun h=>h0 (by rw [(seq_iff _ _).1 h])
    have hpos : 0 < s.size:=Nat.pos_of_ne_zero fun h=>h0 (size_ne.2 h)
    rw [if_neg hne,prefix_code,bindM_some]
    by_cases h1 : pfx s.data.toList < s.size
    · rw [if_pos (decide_eq_true (by omega)),if_pos (.inr (.inl (not_all (by omega))))]; rfl
    · rw [if_neg (by rw [decide_eq_true_eq]; omega)]
      have hall : s.data.toList.all dig = true:=pfx_all.1 (by have:=pfx_le s.data.toList; omega)
      have hpar : parU s = if spell 0 s.data.toList ≤ 18446744073709551615 then ((spell 0 s.data.toList : Int),false) else (18446744073709551615,true):=by
        unfold parU
        rw [parB h0 hall]
        by_cases h : spell 0 s.data.toList ≤ 18446744073709551615
        · rw [if_pos h,if_pos h]
        · rw [if_neg h,if_neg h]
      have tail : (if s.size ≤ 281474976710656 then (if (!!((parU s).2)) = true then some ((0 : Int),(6 : Int)) else (if (decide ((parU s).1 > (most : Int))) = true then some (0,6) else some ((parU s).1,0))) else none) =
          some (iiOf (if spell 0 s.data.toList ≤ most then (spell 0 s.data.toList,0) else (0,6))):=by
        rw [if_pos hs,hpar]
        by_cases h : spell 0 s.data.toList ≤ 18446744073709551615
        · rw [if_pos h,if_neg (by simp)]
          by_cases h2 : spell 0 s.data.toList ≤ most
          · rw [if_neg (by rw [decide_eq_true_eq]; show ¬ ((spell 0 s.data.toList : Int) > (most : Int)); omega),if_pos h2]; rfl
          · rw [if_pos (decide_eq_true (show ((spell 0 s.data.toList : Int) > (most : Int)) by omega)),if_neg h2]; rfl
        · rw [if_neg h,if_pos (by simp),if_neg (by omega)]; rfl
      by_cases h2 : 1 < s.size
      · rw [if_pos (decide_eq_true (by omega)),if_pos (by omega)]
        by_cases h3 : s.data.toList.head? = some 48
        · rw [if_pos ((bt_head hpos).2 h3),if_pos (.inr (.inr ⟨by omega,h3⟩))]; rfl
        · have hc : ¬ (s.data.toList = [] ∨ s.data.toList.all dig = false ∨ (1 < s.data.toList.length ∧ s.data.toList.head? = some 48)):=by
            rintro (h | h | h)
            · exact h0 h
            · rw [hall] at h; cases h
            · exact h3 h.2
          rw [if_neg (fun h=>h3 ((bt_head hpos).1 h)),tail,if_neg hc]
      · have hc : ¬ (s.data.toList = [] ∨ s.data.toList.all dig = false ∨ (1 < s.data.toList.length ∧ s.data.toList.head? = some 48)):=by
          rintro (h | h | h)
          · exact h0 h
          · rw [hall] at h; cases h
          · omega
        rw [if_neg (by rw [decide_eq_true_eq]; omega),tail,if_neg hc]
theorem read_step (m most : Nat) (c : UInt8) (hc : dig c = true) (hm : most < 18446744073709551616) (hle : m ≤ most) :
    wr .u64 (Int.tdiv (most : Int) 10) = ((most / 10 : Nat) : Int) ∧ wr .u64 ((wr .u64 (c.toNat : Int)) - 48) = ((c.toNat - 48 : Nat) : Int) ∧ (m ≤ most / 10 → wr .u64 (10 * (m : Int)) = ((10 * m : Nat) : Int)):=by
  have hy:=dig_iff.1 hc
  refine ⟨?_,?_,fun h=>?_⟩
  · have : Int.tdiv (most : Int) 10 = ((most / 10 : Nat) : Int):=by rw [Int.tdiv_eq_ediv_of_nonneg (by omega)]; omega
    rw [this,wr_u64 (by omega) (by omega)]
  · have e : wr .u64 (c.toNat : Int) = (c.toNat : Int):=wr_u64 (by omega) (by omega)
    rw [e,wr_u64 (by omega) (by omega)]; omega
  · rw [wr_u64 (by omega) (by omega)]; omega
def outU (l : List UInt8) (m most : Nat) : Ctl (Int × Int) Int:=if spell m l ≤ most then .nx (spell m l : Int) else .ret (0,6)
theorem out_cons {c : UInt8} {r : List UInt8} {m most : Nat} (h : m * 10 + (c.toNat - 48) ≤ most) : outU (c::r) m most = outU r (10 * m + (c.toNat - 48)) most:=by
  have e : spell m (c::r) = spell (10 * m + (c.toNat - 48)) r:=by
    show spell (m * 10 + (c.toNat - 48)) r = _
    rw [Nat.mul_comm]
  unfold outU
  rw [e]
theorem out_over {c : UInt8} {r : List UInt8} {m most : Nat} (h : most < m * 10 + (c.toNat - 48)) : outU (c::r) m most = .ret (0,6):=by
  unfold outU
  have:=spell_le r (m * 10 + (c.toNat - 48))
  rw [if_neg]; show ¬ spell (m * 10 + (c.toNat - 48)) r ≤ most; omega
theorem read_loop0 (s : ByteArray) (most : Nat) (hs : s.size < 9223372036854775808) (hm : most < 18446744073709551616) (hall : s.data.toList.all dig = true) :
    ∀ (k i m : Nat),s.size - i = k → i ≤ s.size → m ≤ most → crawlwayref03_Read.l0 s most (m : Int) (i : Int) = some (outU (s.data.toList.drop i) m most):=by
  intro k
  induction k with
  | zero =>
    intro i m hk hi hmm
    have : s.data.toList.drop i = []:=List.drop_eq_nil_of_le (by rw [size_toList]; omega)
    rw [crawlwayref03_Read.l0.eq_def,if_neg (by rw [decide_eq_true_eq]; omega),this]
    unfold outU spell; rw [if_pos hmm]
  | succ k ih =>
    intro i m hk hi hmm
    obtain ⟨c,hc,hd⟩:=drop_get s.data.toList i (by rw [size_toList]; omega)
    have hdg : dig c = true:=List.all_eq_true.1 hall c (List.mem_of_getElem? hc)
    have hy:=dig_iff.1 hdg
    obtain ⟨e1,e2,e3⟩:=read_step m most c hdg hm hmm
    rw [crawlwayref03_Read.l0.eq_def,if_pos (decide_eq_true (by omega)),if_pos (by omega),hd,bt_at hc,e1,e2]
    by_cases h1 : m ≤ most / 10
    · rw [if_neg (by rw [decide_eq_true_eq]; omega),e3 h1]
      have e4 : wr .u64 ((most : Int) - (if (most : Int) < ((c.toNat - 48 : Nat) : Int) then (most : Int) else ((c.toNat - 48 : Nat) : Int))) = ((most - (c.toNat - 48) : Nat) : Int):=by
        by_cases h : (most : Int) < ((c.toNat - 48 : Nat) : Int)
        · rw [if_pos h,wr_u64 (by omega) (by omega)]; omega
        · rw [if_neg h,wr_u64 (by omega) (by omega)]; omega
      rw [e4]
      by_cases h2 : most < m * 10 + (c.toNat - 48)
      · rw [out_over h2]
        by_cases h3 : 10 * m > most - (c.toNat - 48)
        · rw [if_pos (decide_eq_true (by omega))]
        · rw [if_neg (by rw [decide_eq_true_eq]; omega),if_pos (decide_eq_true (by omega))]
      · rw [if_neg (by rw [decide_eq_true_eq]; omega),if_neg (by rw [decide_eq_true_eq]; omega),wr_i64 (by omega) (by omega),out_cons (by omega)]
        have e5 : wr .u64 (((10 * m : Nat) : Int) + ((c.toNat - 48 : Nat) : Int)) = ((10 * m + (c.toNat - 48) : Nat) : Int):=by rw [wr_u64 (by omega) (by omega)]; omega
        rw [e5,show ((i : Int) + 1) = ((i + 1 : Nat) : Int) by omega]
        exact ih (i + 1) _ (by omega) (by omega) (by omega)
    · rw [if_pos (decide_eq_true (by omega)),out_over (by omega)]
theorem read_loop1 (s : ByteArray) (most : Nat) (hs : s.size < 9223372036854775808) (hm : most < 18446744073709551616) (hall : s.data.toList.all dig = true) :
    ∀ (k i m : Nat),s.size - i = k → i ≤ s.size → m ≤ most → crawlwayref03_Read.l1 s most (m : Int) (i : Int) = some (outU (s.data.toList.drop i) m most):=by
  intro k
  induction k with
  | zero =>
    intro i m hk hi hmm
    have : s.data.toList.drop i = []:=List.drop_eq_nil_of_le (by rw [size_toList]; omega)
    rw [crawlwayref03_Read.l1.eq_def,if_neg (by rw [decide_eq_true_eq]; omega),this]
    unfold outU spell; rw [if_pos hmm]
  | succ k ih =>
    intro i m hk hi hmm
    obtain ⟨c,hc,hd⟩:=drop_get s.data.toList i (by rw [size_toList]; omega)
    have hdg : dig c = true:=List.all_eq_true.1 hall c (List.mem_of_getElem? hc)
    have hy:=dig_iff.1 hdg
    obtain ⟨e1,e2,e3⟩:=read_step m most c hdg hm hmm
    rw [crawlwayref03_Read.l1.eq_def,if_pos (decide_eq_true (by omega)),if_pos (by omega),hd,bt_at hc,e1,e2]
    by_cases h1 : m ≤ most / 10
    · rw [if_neg (by rw [decide_eq_true_eq]; omega),e3 h1]
      have e4 : wr .u64 ((most : Int) - (if (most : Int) < ((c.toNat - 48 : Nat) : Int) then (most : Int) else ((c.toNat - 48 : Nat) : Int))) = ((most - (c.toNat - 48) : Nat) : Int):=by
        by_cases h : (most : Int) < ((c.toNat - 48 : Nat) : Int)
        · rw [if_pos h,wr_u64 (by omega) (by omega)]; omega
        · rw [if_neg h,wr_u64 (by omega) (by omega)]; omega
      rw [e4]
      by_cases h2 : most < m * 10 + (c.toNat - 48)
      · rw [out_over h2]
        by_cases h3 : 10 * m > most - (c.toNat - 48)
        · rw [if_pos (decide_eq_true (by omega))]
        · rw [if_neg (by rw [decide_eq_true_eq]; omega),if_pos (decide_eq_true (by omega))]
      · rw [if_neg (by rw [decide_eq_true_eq]; omega),if_neg (by rw [decide_eq_true_eq]; omega),wr_i64 (by omega) (by omega),out_cons (by omega)]
        have e5 : wr .u64 (((10 * m : Nat) : Int) + ((c.toNat - 48 : Nat) : Int)) = ((10 * m + (c.toNat - 48) : Nat) : Int):=by rw [wr_u64 (by omega) (by omega)]; omega
        rw [e5,show ((i : Int) + 1) = ((i + 1 : Nat) : Int) by omega]
        exact ih (i + 1) _ (by omega) (by omega) (by omega)
    · rw [if_pos (decide_eq_true (by omega)),out_over (by omega)]
theorem read_ref (s : ByteArray) (most : Nat) (hs : s.size < 9223372036854775808) (hm : most < 18446744073709551616) : crawlwayref03_Read s (most : Int) = some (iiOf (rdU s.data.toList most)):=by
  unfold crawlwayref03_Read rdU
  have hlen:=size_toList s
  by_cases h0 : s.data.toList = []
  · have h00:=size_ne.1 h0
    rw [if_pos (by rw [h00]; rfl),if_pos (.inl h0)]; rfl
  · have hpos : 0 < s.size:=Nat.pos_of_ne_zero fun h=>h0 (size_ne.2 h)
    rw [if_neg (by rw [beq_iff_eq]; omega),prefix_ref s hs,bindM_some]
    by_cases h1 : pfx s.data.toList < s.size
    · rw [if_pos (decide_eq_true (by omega)),if_pos (.inr (.inl (not_all (by omega))))]; rfl
    · rw [if_neg (by rw [decide_eq_true_eq]; omega)]
      have hall : s.data.toList.all dig = true:=pfx_all.1 (by have:=pfx_le s.data.toList; omega)
      have hl0 : crawlwayref03_Read.l0 s most 0 0 = some (outU s.data.toList 0 most):=by
        have:=read_loop0 s most hs hm hall _ 0 0 rfl (by omega) (by omega)
        rwa [List.drop_zero] at this
      have hl1 : crawlwayref03_Read.l1 s most 0 0 = some (outU s.data.toList 0 most):=by
        have:=read_loop1 s most hs hm hall _ 0 0 rfl (by omega) (by omega)
        rwa [List.drop_zero] at this
      by_cases h2 : 1 < s.size
      · rw [if_pos (decide_eq_true (by omega)),if_pos (by omega)]
        by_cases h3 : s.data.toList.head? = some 48
        · rw [if_pos ((bt_head hpos).2 h3),if_pos (.inr (.inr ⟨by omega,h3⟩))]; rfl
        · have hc : ¬ (s.data.toList = [] ∨ s.data.toList.all dig = false ∨ (1 < s.data.toList.length ∧ s.data.toList.head? = some 48)):=by
            rintro (h | h | h)
            · exact h0 h
            · rw [hall] at h; cases h
            · exact h3 h.2
          rw [if_neg (fun h=>h3 ((bt_head hpos).1 h)),hl0,bindM_some,if_neg hc]
          unfold outU
          by_cases h : spell 0 s.data.toList ≤ most
          · rw [if_pos h,if_pos h]; rfl
          · rw [if_neg h,if_neg h]; rfl
      · have hc : ¬ (s.data.toList = [] ∨ s.data.toList.all dig = false ∨ (1 < s.data.toList.length ∧ s.data.toList.head? = some 48)):=by
          rintro (h | h | h)
          · exact h0 h
          · rw [hall] at h; cases h
          · omega
        rw [if_neg (by rw [decide_eq_true_eq]; omega),hl1,bindM_some,if_neg hc]
        unfold outU
        by_cases h : spell 0 s.data.toList ≤ most
        · rw [if_pos h,if_pos h]; rfl
        · rw [if_neg h,if_neg h]; rfl
theorem rdU_text (n most : Nat) : rdU (Lib.decDigits n) most = if n ≤ most then (n,0) else (0,6):=by
  unfold rdU
  rw [decDigits_spell,if_neg]
  rintro (h | h | h)
  · exact decDigits_ne n h
  · rw [decDigits_dig] at h; cases h
  · by_cases hn : n = 0
    · subst hn; rw [decDigits_zero] at h; simp at h
    · exact decDigits_head n (by omega) h.2
theorem rdU_back {l : List UInt8} {most : Nat} (h : (rdU l most).2 = 0) : Lib.decDigits (rdU l most).1 = l ∧ (rdU l most).1 ≤ most:=by
  unfold rdU at h ⊢
  by_cases h1 : l = [] ∨ l.all dig = false ∨ (1 < l.length ∧ l.head? = some 48)
  · rw [if_pos h1] at h; cases h
  · rw [if_neg h1] at h ⊢
    by_cases h2 : spell 0 l ≤ most
    · rw [if_pos h2]
      refine ⟨spell_decDigits (fun e=>h1 (.inl e)) ?_ fun hl he=>h1 (.inr (.inr ⟨hl,he⟩)),h2⟩
      cases e : l.all dig
      · exact absurd (.inr (.inl e)) h1
      · rfl
    · rw [if_neg h2] at h; cases h
end Go.Proofs.YtkkmmpofdcccmaaGreatDoor
namespace Go.Proofs.YtkkmmpofdcccmaaGreatDoor
open E Go.RowKit _root_.Go.Proofs.Tryz
def addr_Four (x0 : (Vector Int 4)) : Option (S_api_Addr) :=
  some ({ { ({ f_V:=(0 : Int),f_B:=(Vector.replicate 16 (0 : Int) : (Vector Int 16)) } : S_api_Addr) with f_V:=4 } with f_B:=vcopy (({ ({ f_V:=(0 : Int),f_B:=(Vector.replicate 16 (0 : Int) : (Vector Int 16)) } : S_api_Addr) with f_V:=4 }).f_B) (Int.toNat 0) (List.take (Int.toNat (16 - 0)) (Vector.toList x0)) })
set_option maxHeartbeats 3200000 in
theorem addr_Four_ok (x0 : (Vector Int 4)) (r : S_api_Addr) (hF : addr_Four x0 = some r) (w : World) :
    Calls Tryz.prog 182 #[.agg (Cd.cs (cVec (cInt .u8) 4 (by decide)) x0).toArray] w (fun e w'=>e = .returned (.agg (Cd.cs c_api_Addr r).toArray) ∧ Below w.heap.size w w'):=by
 unfold addr_Four at hF
 refine calls_enter (l:=[.agg (Cd.cs (cVec (cInt .u8) 4 (by decide)) x0).toArray]) func182 rfl rfl rfl ?_
 refine at_start ?_
 refine sr ?_
 refine at_box (cs:=Cd.cs (cVec (cInt .u8) 4 (by decide)) x0) rfl rfl rfl ?_
 intro b1
 refine at_alloc (cs:=Cd.cs c_api_Addr zv1) zeroValue25 rfl rfl ?_
 intro b2
 refine ns ?_
 refine av rfl (r_build_struct (zs:=Cd.cs c_api_Addr zv1) (cs:=Cd.cs c_api_Addr ({ zv1 with f_V:=4 })) underlying25 zeroValue25 rfl (places_api_Addr_25) rfl (fill_step (c:=(cInt .i64)) (z:=4) rfl (c_api_Addr_f_V zv1) rfl rfl)) ?_
 refine at_alloc (cs:=Cd.cs c_api_Addr zv1) zeroValue25 rfl rfl ?_
 intro b3
 refine at_store (c:=c_api_Addr) (z:={ zv1 with f_V:=4 }) .z (Lens.whole _ _) sizeOf25 rfl rfl rfl ?_
 refine nt ?_
 refine at_seq ?_
 refine wq [3,2,1] rfl ?_
 refine at_inv [.q 5 (fun g4=>.pointer (some ⟨b3,0 + 1,none⟩)) [] 0 0,.q 6 (fun g4=>.slice (some ⟨b3,0 + 1,none⟩) (Vector.toList (({ zv1 with f_V:=4 }).f_B)).length 16) [0] 0 0,.q 7 (fun g4=>.slice (some ⟨b1,0,none⟩) (Vector.toList x0).length 4) [] 0 0,.st 0 (some (8,fun g4=>.int .i64 (min (List.length (Vector.toList x0)) (Int.toNat (16 - 0)) : Nat))) [1,2]] (fun g4 s=>match s with | 0=>(Wd w [cellsE b3 (Cd.cs c_api_Addr ({ zv1 with f_V:=4 })) 25,cellsE b2 (Cd.cs c_api_Addr zv1) 25,cellsE b1 (Cd.cs (cVec (cInt .u8) 4 (by decide)) x0) 159]) | _=>(Wd w [cellsE b3 (Cd.cs c_api_Addr ({ { zv1 with f_V:=4 } with f_B:=vcopy (({ zv1 with f_V:=4 }).f_B) (Int.toNat 0) (List.take (Int.toNat (16 - 0)) (Vector.toList x0)) })) 25,cellsE b2 (Cd.cs c_api_Addr zv1) 25,cellsE b1 (Cd.cs (cVec (cInt .u8) 4 (by decide)) x0) 159])) 1 (by kernel_rfl) (by kernel_rfl) (by kernel_rfl) (by kernel_rfl) (by kernel_rfl) ⟨fun _ _ _=>rfl,fun _ _ _=>rfl,fun _ _ _=>rfl,fun _ _ _=>rfl,trivial⟩ (by kernel_rfl) (fun w_ h=>⟨fun _=>g3 0 none 0 none w_,h.drew⟩) ⟨?_,?_,?_,?_,trivial⟩ ?_
 ·intro Lx g4 s K hl hh k
  show At 10 ((1,_)::(2,_)::(3,_)::Lx) _ _
  refine fa 1 underlying25 rfl rfl sizeOf23 rfl rfl ?_
  exact at_nil k
 ·intro Lx g4 s K hl hh k
  show At 10 ((5,_)::(1,_)::(2,_)::(3,_)::Lx) _ _
  obtain rfl : s = 0:=by omega
  refine av rfl (r_view_all (c:=(cInt .u8)) (({ zv1 with f_V:=4 }).f_B) (by decide) underlying23 sizeOf5 rfl) ?_
  exact at_nil k
 ·intro Lx g4 s K hl hh k
  show At 10 ((1,_)::(2,_)::(3,_)::Lx) _ _
  obtain rfl : s = 0:=by omega
  refine av rfl (r_slice_vec x0 underlying159 sizeOf5 rfl) ?_
  exact at_nil k
 ·intro Lx g4 K k
  show At 10 ((6,_)::(7,_)::(1,_)::(2,_)::(3,_)::Lx) _ _
  refine at_copy (lo:=0) (hi:=16) (xs:=Vector.toList x0) .z (Lens.comp (Lens.whole _ _) (fun z=>{ { zv1 with f_V:=4 } with f_B:=z }) (c_api_Addr_f_B ({ zv1 with f_V:=4 }))) rfl (by decide) underlying22 (by kernel_rfl) rfl (rsp_zero (by decide)) (by simp) rfl ⟨_,rfl⟩ (fun w1 hw=>(vec_row (hw.ok (Upd.mem (.s (.s .z)))))) rfl ?_
  exact at_nil k
 intro g4
 show At 10 [(5,_),(6,_),(7,_),(8,_),(1,_),(2,_),(3,_)] _ _
 refine at_drop (H:=_) (.s (.s .z)) ?_
 refine tn ?_
 refine sr ?_
 refine av rfl (r_load_aggc (c:=c_api_Addr) (z:={ { zv1 with f_V:=4 } with f_B:=vcopy (({ zv1 with f_V:=4 }).f_B) (Int.toNat 0) (List.take (Int.toNat (16 - 0)) (Vector.toList x0)) }) isAgg25 sizeOf25 rfl (lens_cell .z (Lens.whole _ _))) ?_
 refine at_store (c:=c_api_Addr) (z:={ { zv1 with f_V:=4 } with f_B:=vcopy (({ zv1 with f_V:=4 }).f_B) (Int.toNat 0) (List.take (Int.toNat (16 - 0)) (Vector.toList x0)) }) (.s .z) (Lens.whole _ _) sizeOf25 rfl rfl rfl ?_
 refine at_nil ?_
 refine dz ?_
 refine wq [2] rfl ?_
 refine tn ?_
 refine at_ret ?_
 have K:=of_some hF
 subst K
 exact at_res1 rfl (res_cell (c:=c_api_Addr) (y:={ { zv1 with f_V:=4 } with f_B:=vcopy (({ zv1 with f_V:=4 }).f_B) (Int.toNat 0) (List.take (Int.toNat (16 - 0)) (Vector.toList x0)) }) rfl .z (Lens.whole _ _) isAgg25 sizeOf25 (.inl rfl)) (fun w1 hw=>⟨rfl,hw.below⟩)
def addr_Six (x0 : (Vector Int 16)) : Option (S_api_Addr) :=
  some ({ { ({ f_V:=(0 : Int),f_B:=(Vector.replicate 16 (0 : Int) : (Vector Int 16)) } : S_api_Addr) with f_V:=6 } with f_B:=x0 })
theorem addr_Six_ok (x0 : (Vector Int 16)) (r : S_api_Addr) (hF : addr_Six x0 = some r) (w : World) :
    Calls Tryz.prog 180 #[.agg (Cd.cs (cVec (cInt .u8) 16 (by decide)) x0).toArray] w (fun e w'=>e = .returned (.agg (Cd.cs c_api_Addr r).toArray) ∧ Below w.heap.size w w'):=by
 unfold addr_Six at hF
 refine calls_enter (l:=[.agg (Cd.cs (cVec (cInt .u8) 16 (by decide)) x0).toArray]) func180 rfl rfl rfl ?_
 refine at_start ?_
 refine sr ?_
 refine at_box (cs:=Cd.cs (cVec (cInt .u8) 16 (by decide)) x0) rfl rfl rfl ?_
 intro b1
 refine at_alloc (cs:=Cd.cs c_api_Addr zv1) zeroValue25 rfl rfl ?_
 intro b2
 refine ns ?_
 refine av rfl (r_load_aggc (c:=(cVec (cInt .u8) 16 (by decide))) (z:=x0) isAgg23 sizeOf23 rfl (lens_cell (.s .z) (Lens.whole _ _))) ?_
 refine av rfl (r_build_struct (zs:=Cd.cs c_api_Addr zv1) (cs:=Cd.cs c_api_Addr ({ { zv1 with f_V:=6 } with f_B:=x0 })) underlying25 zeroValue25 rfl (places_api_Addr_25) rfl (fill_step (c:=(cInt .i64)) (z:=6) rfl (c_api_Addr_f_V zv1) rfl (fill_step (c:=(cVec (cInt .u8) 16 (by decide))) (z:=x0) rfl (c_api_Addr_f_B ({ zv1 with f_V:=6 })) rfl rfl))) ?_
 refine at_store (c:=c_api_Addr) (z:={ { zv1 with f_V:=6 } with f_B:=x0 }) .z (Lens.whole _ _) sizeOf25 rfl rfl rfl ?_
 refine at_nil ?_
 refine at_drop (H:=_) (.s .z) ?_
 refine wq [2] rfl ?_
 refine tn ?_
 refine at_ret ?_
 have K:=of_some hF
 subst K
 exact at_res1 rfl (res_cell (c:=c_api_Addr) (y:={ { zv1 with f_V:=6 } with f_B:=x0 }) rfl .z (Lens.whole _ _) isAgg25 sizeOf25 (.inl rfl)) (fun w1 hw=>⟨rfl,hw.below⟩)
def addr_Right (x0 : S_api_Addr) : Option (Bool) :=
  if (x0.f_V == 6) = true then (some true) else (if (x0.f_V == 4) = true then (if 4 ≤ (lsub (Vector.toList x0.f_B) 0 4).length then addr_Four (lvec 4 (lsub (Vector.toList x0.f_B) 0 4)) >>= fun t8=>some (decide (x0 = t8)) else none) else (some false))
theorem addr_Right_ok (x0 : S_api_Addr) (r : Bool) (hF : addr_Right x0 = some r) (w : World) :
    Calls Tryz.prog 158 #[.agg (Cd.cs c_api_Addr x0).toArray] w (fun e w'=>e = .returned (.bool r) ∧ Below w.heap.size w w'):=by
 unfold addr_Right at hF
 refine calls_enter (l:=[.agg (Cd.cs c_api_Addr x0).toArray]) func158 rfl rfl rfl ?_
 refine at_start ?_
 refine sr ?_
 refine at_box (cs:=Cd.cs c_api_Addr x0) rfl rfl rfl ?_
 intro b1
 refine aa rfl rfl ?_
 refine nwq [1] rfl ?_
 refine at_seq ?_
 refine at_draw (by kernel_rfl) (by kernel_rfl) (fun _ h=>h.drew) ?_
 refine atq_val rfl rfl rfl (r_fieldAddr (fo:=0) underlying25 rfl rfl (fun w=>⟨_,sizeOf3 w⟩) rfl) ?_
 refine atq_val rfl rfl rfl (r_load_cell isAgg3 rfl (lens_cell0 (c:=(cInt .i64)) (y:=x0.f_V) .z (Lens.comp (Lens.whole _ _) (fun z=>{ x0 with f_V:=z }) (c_api_Addr_f_V x0)) rfl)) ?_
 refine atq_val rfl rfl rfl (r_ieql rfl rfl) ?_
 refine atq_val rfl rfl rfl (r_move rfl) ?_
 rcases oi hF with ⟨h2,hF⟩|⟨h2,hF⟩
 ·refine atq_fix (g:=6) rfl h2 ?_
  refine atq_guard_no rfl rfl rfl rfl rfl ?_
  refine atq_guard_no rfl rfl rfl rfl rfl ?_
  refine atq_guard_no rfl rfl rfl rfl rfl ?_
  refine atq_guard_no rfl rfl rfl rfl rfl ?_
  refine atq_guard_undef rfl rfl rfl rfl ?_
  refine atq_guard_undef rfl rfl rfl rfl ?_
  refine atq_guard_undef rfl rfl rfl rfl ?_
  refine atq_guard_undef rfl rfl rfl rfl ?_
  refine atq_guard_undef rfl rfl rfl rfl ?_
  refine atq_guard_undef rfl rfl rfl rfl ?_
  refine atq_guard_undef rfl rfl rfl rfl ?_
  refine atq_guard_no rfl rfl rfl rfl rfl ?_
  refine atq_val rfl rfl rfl (r_pick rfl rfl rfl) ?_
  refine atq_val rfl rfl rfl (r_assign rfl) ?_
  refine atq_nil ?_
  refine dz ?_
  refine wq [2] rfl ?_
  refine tn ?_
  refine at_ret ?_
  have K:=of_some hF
  subst K
  exact at_return1 rfl rfl (fun w1 hw=>⟨rfl,hw.below⟩)
 refine atq_fix (g:=6) rfl h2 ?_
 refine atq_guard_yes rfl rfl rfl ?_
 refine atq_val rfl rfl rfl (r_fieldAddr (fo:=0) underlying25 rfl rfl (fun w=>⟨_,sizeOf3 w⟩) rfl) ?_
 refine atq_guard_yes rfl rfl rfl ?_
 refine atq_val rfl rfl rfl (r_load_cell isAgg3 rfl (lens_cell0 (c:=(cInt .i64)) (y:=x0.f_V) .z (Lens.comp (Lens.whole _ _) (fun z=>{ x0 with f_V:=z }) (c_api_Addr_f_V x0)) rfl)) ?_
 refine atq_guard_yes rfl rfl rfl ?_
 refine atq_val rfl rfl rfl (r_ieql rfl rfl) ?_
 refine atq_guard_yes rfl rfl rfl ?_
 refine atq_val rfl rfl rfl (r_move rfl) ?_
 rcases oi hF with ⟨h3,hF⟩|⟨h3,hF⟩
 ·refine atq_fix (g:=10) rfl h3 ?_
  refine atq_guard_yes rfl rfl rfl ?_
  refine atq_val rfl rfl rfl (r_load_aggc (c:=c_api_Addr) (z:=x0) isAgg25 sizeOf25 rfl (lens_cell .z (Lens.whole _ _))) ?_
  refine atq_guard_yes rfl rfl rfl ?_
  refine atq_val rfl rfl rfl (r_fieldAddr (fo:=1) underlying25 rfl rfl (fun w=>⟨_,sizeOf23 w⟩) rfl) ?_
  refine atq_guard_yes rfl rfl rfl ?_
  refine atq_val rfl rfl rfl (r_view (c:=(cInt .u8)) (v:=x0.f_B) (l:=0) (h:=4) underlying23 sizeOf5 rfl rfl ⟨_,rfl⟩ (by decide)) ?_
  refine atq_guard_yes rfl rfl rfl ?_
  obtain ⟨h4,hF⟩:=of_guard hF
  refine atq_val rfl rfl rfl (r_arrptr underlying159 rfl h4) ?_
  refine atq_guard_yes rfl rfl rfl ?_
  obtain ⟨b5,o6,hp7⟩ : ∃ b o,rsp (some ⟨b1,0 + 1,none⟩) 16 0 (Cd.sz (cInt .u8)) = some ⟨b,o,none⟩:=rsp_plain
  refine atq_val rfl rfl rfl (r_load_aggc (c:=(cVec (cInt .u8) 4 (by decide))) (z:=lvec 4 (lsub (Vector.toList x0.f_B) 0 4)) isAgg159 sizeOf159 (by rw [← hp7]; rfl) (fun w1 hw=>row_lvec (Row.sub (lens_row .z (Lens.comp (Lens.whole _ _) (fun z=>{ x0 with f_B:=z }) (c_api_Addr_f_B x0)) hw) (vbnd (by decide))) h4 hp7)) ?_
  refine atq_guard_yes rfl rfl rfl ?_
  obtain ⟨t8,ht8,hF⟩:=of_bindM hF
  refine atq_call func182 rfl (by kernel_rfl) rfl rfl (fun w hw=>(addr_Four_ok _ _ ht8 w).mono fun _ _ h=>⟨h.1,hw.call h.2⟩) ?_
  refine atq_guard_yes rfl rfl rfl ?_
  refine atq_val rfl rfl rfl (r_eqagg (c:=c_api_Addr) (a:=x0) (b:=t8) (eq_api_Addr_25) rfl Tryz.eqGuardType25 rfl rfl (.inl rfl) rfl) ?_
  refine atq_guard_yes rfl rfl rfl ?_
  refine atq_val rfl rfl rfl (r_pick rfl rfl rfl) ?_
  refine atq_val rfl rfl rfl (r_pick rfl rfl rfl) ?_
  refine atq_val rfl rfl rfl (r_assign rfl) ?_
  refine atq_nil ?_
  refine dz ?_
  refine wq [2] rfl ?_
  refine tn ?_
  refine at_ret ?_
  have K:=of_some hF
  subst K
  exact at_return1 rfl rfl (fun w1 hw=>⟨rfl,hw.below⟩)
 refine atq_fix (g:=10) rfl h3 ?_
 refine atq_guard_no rfl rfl rfl rfl rfl ?_
 refine atq_guard_no rfl rfl rfl rfl rfl ?_
 refine atq_guard_no rfl rfl rfl rfl rfl ?_
 refine atq_guard_no rfl rfl rfl rfl rfl ?_
 refine atq_guard_no rfl rfl rfl rfl rfl ?_
 refine atq_guard_no rfl rfl rfl rfl rfl ?_
 refine atq_guard_no rfl rfl rfl rfl rfl ?_
 refine atq_guard_yes rfl rfl rfl ?_
 refine atq_val rfl rfl rfl (r_pick rfl rfl rfl) ?_
 refine atq_val rfl rfl rfl (r_pick rfl rfl rfl) ?_
 refine atq_val rfl rfl rfl (r_assign rfl) ?_
 refine atq_nil ?_
 refine dz ?_
 refine wq [2] rfl ?_
 refine tn ?_
 refine at_ret ?_
 have K:=of_some hF
 subst K
 exact at_return1 rfl rfl (fun w1 hw=>⟨rfl,hw.below⟩)
def addr_Width (x0 : S_api_Addr) : Option (Int) :=
  addr_Right x0 >>= fun t2=>if (!t2) = true then (some 0) else (if (x0.f_V == 4) = true then (some 32) else (some 128))
theorem addr_Width_ok (x0 : S_api_Addr) (r : Int) (hF : addr_Width x0 = some r) (w : World) :
    Calls Tryz.prog 156 #[.agg (Cd.cs c_api_Addr x0).toArray] w (fun e w'=>e = .returned (.int .i64 r) ∧ Below w.heap.size w w'):=by
 unfold addr_Width at hF
 refine calls_enter (l:=[.agg (Cd.cs c_api_Addr x0).toArray]) func156 rfl rfl rfl ?_
 refine at_start ?_
 refine sr ?_
 refine at_box (cs:=Cd.cs c_api_Addr x0) rfl rfl rfl ?_
 intro b1
 refine aa rfl rfl ?_
 refine nwq [1] rfl ?_
 refine at_seq ?_
 refine at_block ?_
 refine sr ?_
 refine av rfl (r_load_aggc (c:=c_api_Addr) (z:=x0) isAgg25 sizeOf25 rfl (lens_cell .z (Lens.whole _ _))) ?_
 obtain ⟨t2,ht2,hF⟩:=of_bindM hF
 refine at_callB func158 rfl (by kernel_rfl) rfl rfl (fun w hw=>addr_Right_ok _ _ ht2 w) ?_
 refine av rfl (r_not rfl) ?_
 refine aa rfl rfl ?_
 refine nwq [3,1] rfl ?_
 rcases oi hF with ⟨h3,hF⟩|⟨h3,hF⟩
 ·refine ct rfl h3 ?_
  refine sr ?_
  refine aa rfl rfl ?_
  refine at_nil ?_
  refine dz ?_
  refine wq [2] rfl ?_
  refine tn ?_
  refine at_ret ?_
  refine at_blk_ret (at_then_ret ?_)
  have K:=of_some hF
  subst K
  exact at_return1 rfl rfl (fun w1 hw=>⟨rfl,hw.below⟩)
 refine cf rfl h3 ?_
 refine sr ?_
 refine fa 0 underlying25 rfl rfl sizeOf3 rfl rfl ?_
 refine av rfl (r_load_cell isAgg3 rfl (lens_cell0 (c:=(cInt .i64)) (y:=x0.f_V) .z (Lens.comp (Lens.whole _ _) (fun z=>{ x0 with f_V:=z }) (c_api_Addr_f_V x0)) rfl)) ?_
 refine av rfl (r_ieql rfl rfl) ?_
 refine aa rfl rfl ?_
 refine at_nil ?_
 refine dz ?_
 refine wq [7] rfl ?_
 refine tn ?_
 rcases oi hF with ⟨h4,hF⟩|⟨h4,hF⟩
 ·refine ct rfl h4 ?_
  refine sr ?_
  refine aa rfl rfl ?_
  refine nwq [2] rfl ?_
  refine at_ret ?_
  refine at_blk_ret (at_then_ret ?_)
  have K:=of_some hF
  subst K
  exact at_return1 rfl rfl (fun w1 hw=>⟨rfl,hw.below⟩)
 refine cf rfl h4 ?_
 refine at_skip ?_
 refine at_blk_normal (at_then_normal ?_)
 refine sr ?_
 refine aa rfl rfl ?_
 refine nwq [2] rfl ?_
 refine at_ret ?_
 have K:=of_some hF
 subst K
 exact at_return1 rfl rfl (fun w1 hw=>⟨rfl,hw.below⟩)
def addr_Text (x0 : S_api_Addr) : Option (ByteArray) :=
  addr_Right x0 >>= fun t2=>if (!t2) = true then (some (⟨#[]⟩)) else (if (x0.f_V == 4) = true then (if 4 ≤ (lsub (Vector.toList x0.f_B) 0 4).length then quad_Text (lvec 4 (lsub (Vector.toList x0.f_B) 0 4)) >>= fun t9=>some t9 else none) else (colon_Text x0.f_B >>= fun t10=>some t10))
theorem addr_Text_ok (x0 : S_api_Addr) (r : ByteArray) (hF : addr_Text x0 = some r) (w : World) (hg_strconv_uint64pow10 : GV_strconv_uint64pow10 w) :
    Calls Tryz.prog 157 #[.agg (Cd.cs c_api_Addr x0).toArray] w (fun e w'=>e = .returned (.string r) ∧ Below w.heap.size w w'):=by
 unfold addr_Text at hF
 refine calls_enter (l:=[.agg (Cd.cs c_api_Addr x0).toArray]) func157 rfl rfl rfl ?_
 refine at_start ?_
 refine sr ?_
 refine at_box (cs:=Cd.cs c_api_Addr x0) rfl rfl rfl ?_
 intro b1
 refine aa rfl rfl ?_
 refine nwq [1] rfl ?_
 refine at_seq ?_
 refine at_block ?_
 refine sr ?_
 refine av rfl (r_load_aggc (c:=c_api_Addr) (z:=x0) isAgg25 sizeOf25 rfl (lens_cell .z (Lens.whole _ _))) ?_
 obtain ⟨t2,ht2,hF⟩:=of_bindM hF
 refine at_callB func158 rfl (by kernel_rfl) rfl rfl (fun w hw=>addr_Right_ok _ _ ht2 w) ?_
 refine av rfl (r_not rfl) ?_
 refine aa rfl rfl ?_
 refine nwq [3,1] rfl ?_
 rcases oi hF with ⟨h3,hF⟩|⟨h3,hF⟩
 ·refine ct rfl h3 ?_
  refine sr ?_
  refine aa rfl rfl ?_
  refine at_nil ?_
  refine dz ?_
  refine wq [2] rfl ?_
  refine tn ?_
  refine at_ret ?_
  refine at_blk_ret (at_then_ret ?_)
  have K:=of_some hF
  subst K
  exact at_return1 rfl rfl (fun w1 hw=>⟨rfl,hw.below⟩)
 refine cf rfl h3 ?_
 refine sr ?_
 refine fa 0 underlying25 rfl rfl sizeOf3 rfl rfl ?_
 refine av rfl (r_load_cell isAgg3 rfl (lens_cell0 (c:=(cInt .i64)) (y:=x0.f_V) .z (Lens.comp (Lens.whole _ _) (fun z=>{ x0 with f_V:=z }) (c_api_Addr_f_V x0)) rfl)) ?_
 refine av rfl (r_ieql rfl rfl) ?_
 refine aa rfl rfl ?_
 refine nwq [7,1] rfl ?_
 rcases oi hF with ⟨h4,hF⟩|⟨h4,hF⟩
 ·refine ct rfl h4 ?_
  refine sr ?_
  refine fa 1 underlying25 rfl rfl sizeOf23 rfl rfl ?_
  refine av rfl (r_view (c:=(cInt .u8)) (v:=x0.f_B) (l:=0) (h:=4) underlying23 sizeOf5 rfl rfl ⟨_,rfl⟩ (by decide)) ?_
  obtain ⟨h5,hF⟩:=of_guard hF
  refine av rfl (r_arrptr underlying159 rfl h5) ?_
  obtain ⟨b6,o7,hp8⟩ : ∃ b o,rsp (some ⟨b1,0 + 1,none⟩) 16 0 (Cd.sz (cInt .u8)) = some ⟨b,o,none⟩:=rsp_plain
  refine av rfl (r_load_aggc (c:=(cVec (cInt .u8) 4 (by decide))) (z:=lvec 4 (lsub (Vector.toList x0.f_B) 0 4)) isAgg159 sizeOf159 (by rw [← hp8]; rfl) (fun w1 hw=>row_lvec (Row.sub (lens_row .z (Lens.comp (Lens.whole _ _) (fun z=>{ x0 with f_B:=z }) (c_api_Addr_f_B x0)) hw) (vbnd (by decide))) h5 hp8)) ?_
  obtain ⟨t9,ht9,hF⟩:=of_bindM hF
  refine at_callB func183 rfl (by kernel_rfl) rfl rfl (fun w hw=>quad_Text_ok _ _ ht9 w (hg_strconv_uint64pow10.on hw.below)) ?_
  refine aa rfl rfl ?_
  refine at_nil ?_
  refine dz ?_
  refine wq [2] rfl ?_
  refine tn ?_
  refine at_ret ?_
  refine at_blk_ret (at_then_ret ?_)
  have K:=of_some hF
  subst K
  exact at_return1 rfl rfl (fun w1 hw=>⟨rfl,hw.below⟩)
 refine cf rfl h4 ?_
 refine at_skip ?_
 refine at_blk_normal (at_then_normal ?_)
 refine sr ?_
 refine fa 1 underlying25 rfl rfl sizeOf23 rfl rfl ?_
 refine av rfl (r_load_aggc (c:=(cVec (cInt .u8) 16 (by decide))) (z:=x0.f_B) isAgg23 sizeOf23 rfl (lens_cell .z (Lens.comp (Lens.whole _ _) (fun z=>{ x0 with f_B:=z }) (c_api_Addr_f_B x0)))) ?_
 obtain ⟨t10,ht10,hF⟩:=of_bindM hF
 refine at_callB func184 rfl (by kernel_rfl) rfl rfl (fun w hw=>colon_Text_ok _ _ ht10 w) ?_
 refine aa rfl rfl ?_
 refine at_nil ?_
 refine dz ?_
 refine wq [2] rfl ?_
 refine tn ?_
 refine at_ret ?_
 have K:=of_some hF
 subst K
 exact at_return1 rfl rfl (fun w1 hw=>⟨rfl,hw.below⟩)
def addr_Parse (x0 : ByteArray) : Option (S_api_Addr × Int) :=
  lines_Cut x0 58 >>= fun t2=>if t2.2.2 = true then (colon_Parse x0 >>= fun t4=>if (t4.2 != 0) = true then (some (({ f_V:=(0 : Int),f_B:=(Vector.replicate 16 (0 : Int) : (Vector Int 16)) } : S_api_Addr),t4.2)) else (addr_Six t4.1 >>= fun t7=>some (t7,0))) else (quad_Parse x0 >>= fun t8=>if (t8.2 != 0) = true then (some (({ f_V:=(0 : Int),f_B:=(Vector.replicate 16 (0 : Int) : (Vector Int 16)) } : S_api_Addr),t8.2)) else (addr_Four t8.1 >>= fun t11=>some (t11,0)))
theorem addr_Parse_ok (x0 : ByteArray) (r : S_api_Addr × Int) (hF : addr_Parse x0 = some r) (w : World) (hg_strconv_ErrRange : GV_strconv_ErrRange w) (hg_strconv_ErrSyntax : GV_strconv_ErrSyntax w) :
    Calls Tryz.prog 155 #[.string x0] w (fun e w'=>e = .returned (.tuple #[.agg (Cd.cs c_api_Addr r.1).toArray,.int .i64 r.2]) ∧ Below w.heap.size w w'):=by
 unfold addr_Parse at hF
 refine calls_enter (l:=[.string x0]) func155 rfl rfl rfl ?_
 refine at_start ?_
 refine sr ?_
 refine at_alloc (cs:=Cd.cs c_api_Addr zv1) zeroValue25 rfl rfl ?_
 intro b1
 refine aa rfl rfl ?_
 refine nt ?_
 refine at_seq ?_
 refine sr ?_
 refine am rfl rfl ?_
 obtain ⟨t2,ht2,hF⟩:=of_bindM hF
 refine at_callB func86 rfl (by kernel_rfl) rfl rfl (fun w hw=>lines_Cut_ok _ _ _ ht2 w) ?_
 refine am rfl rfl ?_
 refine av rfl (r_extract rfl rfl) ?_
 refine av rfl (r_extract rfl rfl) ?_
 refine av rfl (r_extract rfl rfl) ?_
 refine aa rfl rfl ?_
 refine aa rfl rfl ?_
 refine aa rfl rfl ?_
 refine ns ?_
 refine am rfl rfl ?_
 refine nwq [17,2,0] rfl ?_
 rcases oi hF with ⟨h3,hF⟩|⟨h3,hF⟩
 ·refine ct rfl h3 ?_
  refine sr ?_
  refine am rfl rfl ?_
  obtain ⟨t4,ht4,hF⟩:=of_bindM hF
  refine at_callB func179 rfl (by kernel_rfl) rfl rfl (fun w hw=>colon_Parse_ok _ _ ht4 w (hg_strconv_ErrRange.on hw.below) (hg_strconv_ErrSyntax.on hw.below)) ?_
  refine am rfl rfl ?_
  refine av rfl (r_extract rfl rfl) ?_
  refine av rfl (r_extract rfl rfl) ?_
  refine at_alloc (cs:=Cd.cs (cVec (cInt .u8) 16 (by decide)) (Vector.replicate 16 (0 : Int) : (Vector Int 16))) zeroValue23 rfl rfl ?_
  intro b5
  refine at_store (c:=(cVec (cInt .u8) 16 (by decide))) (z:=t4.1) .z (Lens.whole _ _) sizeOf23 rfl rfl rfl ?_
  refine aa rfl rfl ?_
  refine nt ?_
  refine at_seq ?_
  refine sr ?_
  refine am rfl rfl ?_
  refine av rfl (r_ineq rfl rfl) ?_
  refine nwq [24,8,7,2] rfl ?_
  rcases oi hF with ⟨h6,hF⟩|⟨h6,hF⟩
  ·refine ct rfl h6 ?_
   refine sr ?_
   refine av rfl (r_build_struct (zs:=Cd.cs c_api_Addr zv1) (cs:=Cd.cs c_api_Addr zv1) underlying25 zeroValue25 rfl (places_api_Addr_25) rfl rfl) ?_
   refine am rfl rfl ?_
   refine at_store (c:=c_api_Addr) (z:=zv1) (.s .z) (Lens.whole _ _) sizeOf25 rfl rfl rfl ?_
   refine aa rfl rfl ?_
   refine at_nil ?_
   refine dz ?_
   refine wq [3,2] rfl ?_
   refine tn ?_
   refine at_ret ?_
   refine at_then_ret (at_then_ret ?_)
   have K:=of_some hF
   subst K
   exact at_res2 rfl (res_cell (c:=c_api_Addr) (y:=zv1) rfl .z (Lens.whole _ _) isAgg25 sizeOf25 (.inl rfl)) (res_tmp rfl) (fun w1 hw=>⟨rfl,hw.below⟩)
  refine cf rfl h6 ?_
  refine sns ?_
  refine av rfl (r_load_aggc (c:=(cVec (cInt .u8) 16 (by decide))) (z:=t4.1) isAgg23 sizeOf23 rfl (lens_cell .z (Lens.whole _ _))) ?_
  obtain ⟨t7,ht7,hF⟩:=of_bindM hF
  refine at_callB func180 rfl (by kernel_rfl) rfl rfl (fun w hw=>addr_Six_ok _ _ ht7 w) ?_
  refine at_store (c:=c_api_Addr) (z:=t7) (.s .z) (Lens.whole _ _) sizeOf25 rfl rfl rfl ?_
  refine aa rfl rfl ?_
  refine at_nil ?_
  refine dz ?_
  refine wq [3,2] rfl ?_
  refine tn ?_
  refine rt ?_
  have K:=of_some hF
  subst K
  exact at_res2 rfl (res_cell (c:=c_api_Addr) (y:=t7) rfl .z (Lens.whole _ _) isAgg25 sizeOf25 (.inl rfl)) (res_tmp rfl) (fun w1 hw=>⟨rfl,hw.below⟩)
 refine cf rfl h3 ?_
 refine sns ?_
 refine am rfl rfl ?_
 obtain ⟨t8,ht8,hF⟩:=of_bindM hF
 refine at_callB func181 rfl (by kernel_rfl) rfl rfl (fun w hw=>quad_Parse_ok _ _ ht8 w (hg_strconv_ErrRange.on hw.below) (hg_strconv_ErrSyntax.on hw.below)) ?_
 refine am rfl rfl ?_
 refine av rfl (r_extract rfl rfl) ?_
 refine av rfl (r_extract rfl rfl) ?_
 refine at_alloc (cs:=Cd.cs (cVec (cInt .u8) 4 (by decide)) (Vector.replicate 4 (0 : Int) : (Vector Int 4))) zeroValue159 rfl rfl ?_
 intro b9
 refine at_store (c:=(cVec (cInt .u8) 4 (by decide))) (z:=t8.1) .z (Lens.whole _ _) sizeOf159 rfl rfl rfl ?_
 refine aa rfl rfl ?_
 refine nt ?_
 refine at_seq ?_
 refine sr ?_
 refine am rfl rfl ?_
 refine av rfl (r_ineq rfl rfl) ?_
 refine nwq [35,10,9,2] rfl ?_
 rcases oi hF with ⟨h10,hF⟩|⟨h10,hF⟩
 ·refine ct rfl h10 ?_
  refine sr ?_
  refine av rfl (r_build_struct (zs:=Cd.cs c_api_Addr zv1) (cs:=Cd.cs c_api_Addr zv1) underlying25 zeroValue25 rfl (places_api_Addr_25) rfl rfl) ?_
  refine am rfl rfl ?_
  refine at_store (c:=c_api_Addr) (z:=zv1) (.s .z) (Lens.whole _ _) sizeOf25 rfl rfl rfl ?_
  refine aa rfl rfl ?_
  refine at_nil ?_
  refine dz ?_
  refine wq [3,2] rfl ?_
  refine tn ?_
  refine rt ?_
  have K:=of_some hF
  subst K
  exact at_res2 rfl (res_cell (c:=c_api_Addr) (y:=zv1) rfl .z (Lens.whole _ _) isAgg25 sizeOf25 (.inl rfl)) (res_tmp rfl) (fun w1 hw=>⟨rfl,hw.below⟩)
 refine cf rfl h10 ?_
 refine sns ?_
 refine av rfl (r_load_aggc (c:=(cVec (cInt .u8) 4 (by decide))) (z:=t8.1) isAgg159 sizeOf159 rfl (lens_cell .z (Lens.whole _ _))) ?_
 obtain ⟨t11,ht11,hF⟩:=of_bindM hF
 refine at_callB func182 rfl (by kernel_rfl) rfl rfl (fun w hw=>addr_Four_ok _ _ ht11 w) ?_
 refine at_store (c:=c_api_Addr) (z:=t11) (.s .z) (Lens.whole _ _) sizeOf25 rfl rfl rfl ?_
 refine aa rfl rfl ?_
 refine at_nil ?_
 refine dz ?_
 refine wq [3,2] rfl ?_
 refine tn ?_
 refine at_ret ?_
 have K:=of_some hF
 subst K
 exact at_res2 rfl (res_cell (c:=c_api_Addr) (y:=t11) rfl .z (Lens.whole _ _) isAgg25 sizeOf25 (.inl rfl)) (res_tmp rfl) (fun w1 hw=>⟨rfl,hw.below⟩)
def crawlwayref10_Right.l0 (x0 : S_api_Addr) (i4 : Int) : Option (Ctl (Bool) (Unit)) :=
  if (decide (i4 < 16)) = true then (if (0 : Int) ≤ i4 ∧ i4 < 16 then if (vget x0.f_B i4 != 0) = true then (some (.ret false)) else (crawlwayref10_Right.l0 x0 (wr .i64 (i4 + 1))) else none) else (some (.nx ()))
  partial_fixpoint
def crawlwayref10_Right (x0 : S_api_Addr) : Option (Bool) :=
  if (x0.f_V == 6) = true then (some true) else (crawlwayref10_Right.l0 x0 4 >>= fun q3=>match q3 with | .ret r'=>some r' | .nx sq3=>(some (x0.f_V == 4)))
theorem crawlwayref10_Right_ok (x0 : S_api_Addr) (r : Bool) (hF : crawlwayref10_Right x0 = some r) (w : World) :
    Calls Tryz.prog 74 #[.agg (Cd.cs c_api_Addr x0).toArray] w (fun e w'=>e = .returned (.bool r) ∧ Below w.heap.size w w'):=by
 unfold crawlwayref10_Right at hF
 refine calls_enter (l:=[.agg (Cd.cs c_api_Addr x0).toArray]) func74 rfl rfl rfl ?_
 refine at_start ?_
 refine sr ?_
 refine at_box (cs:=Cd.cs c_api_Addr x0) rfl rfl rfl ?_
 intro b1
 refine aa rfl rfl ?_
 refine nt ?_
 refine at_seq ?_
 refine sr ?_
 refine fa 0 underlying25 rfl rfl sizeOf3 rfl rfl ?_
 refine av rfl (r_load_cell isAgg3 rfl (lens_cell0 (c:=(cInt .i64)) (y:=x0.f_V) .z (Lens.comp (Lens.whole _ _) (fun z=>{ x0 with f_V:=z }) (c_api_Addr_f_V x0)) rfl)) ?_
 refine av rfl (r_ieql rfl rfl) ?_
 refine nwq [6,1] rfl ?_
 rcases oi hF with ⟨h2,hF⟩|⟨h2,hF⟩
 ·refine ct rfl h2 ?_
  refine sr ?_
  refine aa rfl rfl ?_
  refine at_nil ?_
  refine dz ?_
  refine wq [2] rfl ?_
  refine tn ?_
  refine rt ?_
  have K:=of_some hF
  subst K
  exact at_return1 rfl rfl (fun w1 hw=>⟨rfl,hw.below⟩)
 refine cf rfl h2 ?_
 refine sn ?_
 refine at_seq ?_
 refine sr ?_
 refine aa rfl rfl ?_
 refine nwq [3,1] rfl ?_
 refine at_block ?_
 obtain ⟨q3,hq3,hF⟩:=of_bindM hF
 refine wq [3,1] rfl ?_
 refine at_loop_r (B:=0) (r:=r) (q:=q3) (A:=fun (_ : Unit) Y=>At 19 [(1,.pointer (some ⟨b1,0,none⟩))] (Wd w [cellsE b1 (Cd.cs c_api_Addr x0) 25]) Y) ?_ ?_
 ·intro K
  refine crawlwayref10_Right.l0.partial_correctness x0 (motive:=fun i4 x=>KR (fun (_ : Unit) Y=>At 19 [(1,.pointer (some ⟨b1,0,none⟩))] (Wd w [cellsE b1 (Cd.cs c_api_Addr x0) 25]) Y) _ 0 r x → Round (fun Y=>At 19 [(1,.pointer (some ⟨b1,0,none⟩)),(3,.int .i64 i4)] (Wd w [cellsE b1 (Cd.cs c_api_Addr x0) 25]) Y) _ _ _) ?_ _ _ hq3 K
  ·clear K hF
   intro g ih i4 x hF K
   refine at_round ?_
   refine at_seq ?_
   refine sr ?_
   refine am rfl rfl ?_
   refine av rfl (r_ilss rfl rfl) ?_
   refine nwq [8,3,1] rfl ?_
   rcases oi hF with ⟨h5,hF⟩|⟨h5,hF⟩
   ·refine ct rfl h5 ?_
    refine sn ?_
    refine at_seq ?_
    refine at_block ?_
    refine sr ?_
    refine am rfl rfl ?_
    refine fa 1 underlying25 rfl rfl sizeOf23 rfl rfl ?_
    obtain ⟨h6,hF⟩:=of_guard hF
    refine av rfl (r_idxArr underlying23 sizeOf5 rfl rfl h6) ?_
    refine av rfl (r_load_cell isAgg5 rfl (lens_cell0 (c:=(cInt .u8)) (y:=vget x0.f_B i4) .z (Lens.comp (Lens.comp (Lens.whole _ _) (fun z=>{ x0 with f_B:=z }) (c_api_Addr_f_B x0)) (fun z=>vset x0.f_B i4 z) (Lens.vec (cInt .u8) (by decide) x0.f_B i4 h6)) rfl)) ?_
    refine av rfl (r_ineq rfl rfl) ?_
    refine nwq [15,3,1] rfl ?_
    rcases oi hF with ⟨h7,hF⟩|⟨h7,hF⟩
    ·refine ct rfl h7 ?_
     refine sr ?_
     refine aa rfl rfl ?_
     refine at_nil ?_
     refine dz ?_
     refine wq [2] rfl ?_
     refine tn ?_
     refine at_ret ?_
     refine at_blk_ret (at_then_ret (at_then_ret (at_blk_ret (at_then_ret ?_))))
     obtain rfl:=of_some hF
     subst K
     exact at_return1 rfl rfl (fun w1 hw=>⟨rfl,hw.below⟩)
    refine cf rfl h7 ?_
    refine at_skip ?_
    refine at_blk_normal (at_then_normal ?_)
    refine at_region ?_
    refine am rfl rfl ?_
    refine av rfl (r_iadd rfl rfl) ?_
    refine aa rfl rfl ?_
    refine nwq [3,1] rfl ?_
    exact at_weak_k (ih _ _ hF K) ⟨rfl,rfl,trivial⟩
   refine cf rfl h5 ?_
   refine at_exit ?_
   refine at_then_exit (at_then_exit ?_)
   obtain rfl:=of_some hF
   exact at_weak_k K ⟨rfl,trivial⟩
 cases q3 with
 | ret r'=>exact of_some hF
 | nx sq3 =>
  skip
  refine at_blk_same ?_
  refine tn ?_
  refine sr ?_
  refine fa 0 underlying25 rfl rfl sizeOf3 rfl rfl ?_
  refine av rfl (r_load_cell isAgg3 rfl (lens_cell0 (c:=(cInt .i64)) (y:=x0.f_V) .z (Lens.comp (Lens.whole _ _) (fun z=>{ x0 with f_V:=z }) (c_api_Addr_f_V x0)) rfl)) ?_
  refine av rfl (r_ieql rfl rfl) ?_
  refine aa rfl rfl ?_
  refine at_nil ?_
  refine dz ?_
  refine wq [2] rfl ?_
  refine tn ?_
  refine at_ret ?_
  have K:=of_some hF
  subst K
  exact at_return1 rfl rfl (fun w1 hw=>⟨rfl,hw.below⟩)
def crawlwayref10_Of.l0 (x0 : List Int) (i9 : Int) (i10 : S_api_Addr) : Option (S_api_Addr) :=
  if (decide (i9 < (x0.length : Int))) = true then (if (0 : Int) ≤ i9 ∧ i9 < (x0.length : Int) then if (0 : Int) ≤ i9 ∧ i9 < 16 then crawlwayref10_Of.l0 x0 (wr .i64 (i9 + 1)) ({ i10 with f_B:=vset i10.f_B i9 (lget x0 i9) }) else none else none) else (some i10)
  partial_fixpoint
def crawlwayref10_Of.l1 (x0 : List Int) (i21 : Int) (i22 : S_api_Addr) : Option (S_api_Addr) :=
  if (decide (i21 < (x0.length : Int))) = true then (if (0 : Int) ≤ i21 ∧ i21 < (x0.length : Int) then if (0 : Int) ≤ i21 ∧ i21 < 16 then crawlwayref10_Of.l1 x0 (wr .i64 (i21 + 1)) ({ i22 with f_B:=vset i22.f_B i21 (lget x0 i21) }) else none else none) else (some i22)
  partial_fixpoint
def crawlwayref10_Of (x0 : List Int) : Option (S_api_Addr × Bool) :=
  if ((x0.length : Int) != 4) = true then (if ((x0.length : Int) != 16) = true then (some (({ f_V:=(0 : Int),f_B:=(Vector.replicate 16 (0 : Int) : (Vector Int 16)) } : S_api_Addr),false)) else ((if ((x0.length : Int) == 16) = true then (some ({ { ({ f_V:=(0 : Int),f_B:=(Vector.replicate 16 (0 : Int) : (Vector Int 16)) } : S_api_Addr) with f_V:=4 } with f_V:=6 })) else (some ({ ({ f_V:=(0 : Int),f_B:=(Vector.replicate 16 (0 : Int) : (Vector Int 16)) } : S_api_Addr) with f_V:=4 }))) >>= fun q5=>crawlwayref10_Of.l0 x0 0 q5 >>= fun q8=>some (q8,true))) else ((if ((x0.length : Int) == 16) = true then (some ({ { ({ f_V:=(0 : Int),f_B:=(Vector.replicate 16 (0 : Int) : (Vector Int 16)) } : S_api_Addr) with f_V:=4 } with f_V:=6 })) else (some ({ ({ f_V:=(0 : Int),f_B:=(Vector.replicate 16 (0 : Int) : (Vector Int 16)) } : S_api_Addr) with f_V:=4 }))) >>= fun q17=>crawlwayref10_Of.l1 x0 0 q17 >>= fun q20=>some (q20,true))
def crawlwayref10_Text (x0 : S_api_Addr) : Option (ByteArray) :=
  crawlwayref10_Right x0 >>= fun t2=>if (!t2) = true then (some (⟨#[]⟩)) else (if (x0.f_V == 6) = true then (crawlwayref09_Text x0.f_B >>= fun t5=>some t5) else (crawlwayref08_Text (vset (vset (vset (vset (Vector.replicate 4 (0 : Int) : (Vector Int 4)) 0 (vget x0.f_B 0)) 1 (vget x0.f_B 1)) 2 (vget x0.f_B 2)) 3 (vget x0.f_B 3)) >>= fun t6=>some t6))
theorem crawlwayref10_Text_ok (x0 : S_api_Addr) (r : ByteArray) (hF : crawlwayref10_Text x0 = some r) (w : World) :
    Calls Tryz.prog 87 #[.agg (Cd.cs c_api_Addr x0).toArray] w (fun e w'=>e = .returned (.string r) ∧ Below w.heap.size w w'):=by
 unfold crawlwayref10_Text at hF
 refine calls_enter (l:=[.agg (Cd.cs c_api_Addr x0).toArray]) func87 rfl rfl rfl ?_
 refine at_start ?_
 refine sr ?_
 refine at_box (cs:=Cd.cs c_api_Addr x0) rfl rfl rfl ?_
 intro b1
 refine aa rfl rfl ?_
 refine nt ?_
 refine at_seq ?_
 refine sr ?_
 refine av rfl (r_load_aggc (c:=c_api_Addr) (z:=x0) isAgg25 sizeOf25 rfl (lens_cell .z (Lens.whole _ _))) ?_
 obtain ⟨t2,ht2,hF⟩:=of_bindM hF
 refine at_callB func74 rfl (by kernel_rfl) rfl rfl (fun w hw=>crawlwayref10_Right_ok _ _ ht2 w) ?_
 refine av rfl (r_not rfl) ?_
 refine nwq [5,1] rfl ?_
 rcases oi hF with ⟨h3,hF⟩|⟨h3,hF⟩
 ·refine ct rfl h3 ?_
  refine sr ?_
  refine aa rfl rfl ?_
  refine at_nil ?_
  refine dz ?_
  refine wq [2] rfl ?_
  refine tn ?_
  refine rt ?_
  have K:=of_some hF
  subst K
  exact at_return1 rfl rfl (fun w1 hw=>⟨rfl,hw.below⟩)
 refine cf rfl h3 ?_
 refine sn ?_
 refine at_seq ?_
 refine sr ?_
 refine fa 0 underlying25 rfl rfl sizeOf3 rfl rfl ?_
 refine av rfl (r_load_cell isAgg3 rfl (lens_cell0 (c:=(cInt .i64)) (y:=x0.f_V) .z (Lens.comp (Lens.whole _ _) (fun z=>{ x0 with f_V:=z }) (c_api_Addr_f_V x0)) rfl)) ?_
 refine av rfl (r_ieql rfl rfl) ?_
 refine nwq [8,1] rfl ?_
 rcases oi hF with ⟨h4,hF⟩|⟨h4,hF⟩
 ·refine ct rfl h4 ?_
  refine sr ?_
  refine fa 1 underlying25 rfl rfl sizeOf23 rfl rfl ?_
  refine av rfl (r_load_aggc (c:=(cVec (cInt .u8) 16 (by decide))) (z:=x0.f_B) isAgg23 sizeOf23 rfl (lens_cell .z (Lens.comp (Lens.whole _ _) (fun z=>{ x0 with f_B:=z }) (c_api_Addr_f_B x0)))) ?_
  obtain ⟨t5,ht5,hF⟩:=of_bindM hF
  refine at_callB func145 rfl (by kernel_rfl) rfl rfl (fun w hw=>crawlwayref09_Text_ok _ _ ht5 w) ?_
  refine aa rfl rfl ?_
  refine at_nil ?_
  refine dz ?_
  refine wq [2] rfl ?_
  refine tn ?_
  refine rt ?_
  have K:=of_some hF
  subst K
  exact at_return1 rfl rfl (fun w1 hw=>⟨rfl,hw.below⟩)
 refine cf rfl h4 ?_
 refine sns ?_
 refine fa 1 underlying25 rfl rfl sizeOf23 rfl rfl ?_
 refine av rfl (r_idxArr underlying23 sizeOf5 rfl rfl (by decide)) ?_
 refine av rfl (r_load_cell isAgg5 rfl (lens_cell0 (c:=(cInt .u8)) (y:=vget x0.f_B 0) .z (Lens.comp (Lens.comp (Lens.whole _ _) (fun z=>{ x0 with f_B:=z }) (c_api_Addr_f_B x0)) (fun z=>vset x0.f_B 0 z) (Lens.vec (cInt .u8) (by decide) x0.f_B 0 (by decide))) rfl)) ?_
 refine fa 1 underlying25 rfl rfl sizeOf23 rfl rfl ?_
 refine av rfl (r_idxArr underlying23 sizeOf5 rfl rfl (by decide)) ?_
 refine av rfl (r_load_cell isAgg5 rfl (lens_cell0 (c:=(cInt .u8)) (y:=vget x0.f_B 1) .z (Lens.comp (Lens.comp (Lens.whole _ _) (fun z=>{ x0 with f_B:=z }) (c_api_Addr_f_B x0)) (fun z=>vset x0.f_B 1 z) (Lens.vec (cInt .u8) (by decide) x0.f_B 1 (by decide))) rfl)) ?_
 refine fa 1 underlying25 rfl rfl sizeOf23 rfl rfl ?_
 refine av rfl (r_idxArr underlying23 sizeOf5 rfl rfl (by decide)) ?_
 refine av rfl (r_load_cell isAgg5 rfl (lens_cell0 (c:=(cInt .u8)) (y:=vget x0.f_B 2) .z (Lens.comp (Lens.comp (Lens.whole _ _) (fun z=>{ x0 with f_B:=z }) (c_api_Addr_f_B x0)) (fun z=>vset x0.f_B 2 z) (Lens.vec (cInt .u8) (by decide) x0.f_B 2 (by decide))) rfl)) ?_
 refine fa 1 underlying25 rfl rfl sizeOf23 rfl rfl ?_
 refine av rfl (r_idxArr underlying23 sizeOf5 rfl rfl (by decide)) ?_
 refine av rfl (r_load_cell isAgg5 rfl (lens_cell0 (c:=(cInt .u8)) (y:=vget x0.f_B 3) .z (Lens.comp (Lens.comp (Lens.whole _ _) (fun z=>{ x0 with f_B:=z }) (c_api_Addr_f_B x0)) (fun z=>vset x0.f_B 3 z) (Lens.vec (cInt .u8) (by decide) x0.f_B 3 (by decide))) rfl)) ?_
 refine av rfl (r_build_array (zs:=Cd.cs (cVec (cInt .u8) 4 (by decide)) (Vector.replicate 4 (0 : Int) : (Vector Int 4))) (cs:=Cd.cs (cVec (cInt .u8) 4 (by decide)) (vset (vset (vset (vset (Vector.replicate 4 (0 : Int) : (Vector Int 4)) 0 (vget x0.f_B 0)) 1 (vget x0.f_B 1)) 2 (vget x0.f_B 2)) 3 (vget x0.f_B 3))) underlying159 zeroValue159 rfl sizeOf5 rfl (fill_step (c:=(cInt .u8)) (z:=vget x0.f_B 0) rfl (Lens.vec (cInt .u8) (by decide) (Vector.replicate 4 (0 : Int) : (Vector Int 4)) 0 (by decide)) rfl (fill_step (c:=(cInt .u8)) (z:=vget x0.f_B 1) rfl (Lens.vec (cInt .u8) (by decide) (vset (Vector.replicate 4 (0 : Int) : (Vector Int 4)) 0 (vget x0.f_B 0)) 1 (by decide)) rfl (fill_step (c:=(cInt .u8)) (z:=vget x0.f_B 2) rfl (Lens.vec (cInt .u8) (by decide) (vset (vset (Vector.replicate 4 (0 : Int) : (Vector Int 4)) 0 (vget x0.f_B 0)) 1 (vget x0.f_B 1)) 2 (by decide)) rfl (fill_step (c:=(cInt .u8)) (z:=vget x0.f_B 3) rfl (Lens.vec (cInt .u8) (by decide) (vset (vset (vset (Vector.replicate 4 (0 : Int) : (Vector Int 4)) 0 (vget x0.f_B 0)) 1 (vget x0.f_B 1)) 2 (vget x0.f_B 2)) 3 (by decide)) rfl rfl))))) ?_
 obtain ⟨t6,ht6,hF⟩:=of_bindM hF
 refine at_callB func146 rfl (by kernel_rfl) rfl rfl (fun w hw=>crawlwayref08_Text_ok _ _ ht6 w) ?_
 refine aa rfl rfl ?_
 refine at_nil ?_
 refine dz ?_
 refine wq [2] rfl ?_
 refine tn ?_
 refine at_ret ?_
 have K:=of_some hF
 subst K
 exact at_return1 rfl rfl (fun w1 hw=>⟨rfl,hw.below⟩)
def crawlwayref10_Parse (x0 : ByteArray) : Option (S_api_Addr × Int) :=
  crawlwayref06_Parts x0 58 >>= fun t2=>if (decide ((t2.length : Int) > 1)) = true then (crawlwayref09_Parse x0 >>= fun t6=>if (!t6.2) = true then (some (({ f_V:=(0 : Int),f_B:=(Vector.replicate 16 (0 : Int) : (Vector Int 16)) } : S_api_Addr),5)) else (some ({ { ({ f_V:=(0 : Int),f_B:=(Vector.replicate 16 (0 : Int) : (Vector Int 16)) } : S_api_Addr) with f_V:=6 } with f_B:=t6.1 },0))) else (crawlwayref08_Parse x0 >>= fun t9=>if (t9.2 != 0) = true then (some (({ f_V:=(0 : Int),f_B:=(Vector.replicate 16 (0 : Int) : (Vector Int 16)) } : S_api_Addr),t9.2)) else (crawlwayref10_Of ([vget t9.1 0,vget t9.1 1,vget t9.1 2,vget t9.1 3]) >>= fun t13=>some (t13.1,0)))
end Go.Proofs.YtkkmmpofdcccmaaGreatDoor
namespace Go.Proofs.YtkkmmpofdcccmaaGreatDoor
open E Go.RowKit _root_.Go.Proofs.Tryz
def stringslite_CutPrefix (x0 : ByteArray) (x1 : ByteArray) : Option (ByteArray × Bool) :=
  stringslite_HasPrefix x0 x1 >>= fun t1=>if (!t1) = true then (some (x0,false)) else (if (0 : Int) ≤ (x1.size : Int) ∧ (x1.size : Int) ≤ (x0.size : Int) ∧ (x0.size : Int) ≤ (x0.size : Int) then some (x0.extract (Int.toNat (x1.size : Int)) (Int.toNat (x0.size : Int)),true) else none)
theorem stringslite_CutPrefix_ok (x0 : ByteArray) (x1 : ByteArray) (r : ByteArray × Bool) (hF : stringslite_CutPrefix x0 x1 = some r) (w : World) :
    Calls Tryz.prog 195 #[.string x0,.string x1] w (fun e w'=>e = .returned (.tuple #[.string r.1,.bool r.2]) ∧ w' = w):=by
 unfold stringslite_CutPrefix at hF
 refine calls_enter (l:=[.string x0,.string x1]) func195 rfl rfl rfl ?_
 refine sr ?_
 refine aa rfl rfl ?_
 refine aa rfl rfl ?_
 refine nt ?_
 refine at_seq ?_
 refine sr ?_
 refine am rfl rfl ?_
 refine am rfl rfl ?_
 obtain ⟨t1,ht1,hF⟩:=of_bindM hF
 refine at_call0 func216 rfl (by kernel_rfl) rfl rfl (fun w=>stringslite_HasPrefix_ok _ _ _ ht1 w) ?_
 refine av rfl (r_not rfl) ?_
 refine nwq [9,1,0] rfl ?_
 rcases oi hF with ⟨h2,hF⟩|⟨h2,hF⟩
 ·refine ct rfl h2 ?_
  refine sr ?_
  refine am rfl rfl ?_
  refine aa rfl rfl ?_
  refine aa rfl rfl ?_
  refine nwq [5,4] rfl ?_
  refine rt ?_
  have K:=of_some hF
  subst K
  exact at_return2 rfl rfl rfl (fun w1 hw=>⟨rfl,hw⟩)
 refine cf rfl h2 ?_
 refine sns ?_
 refine am rfl rfl ?_
 refine am rfl rfl ?_
 refine av rfl (r_len_str underlying9 rfl) ?_
 obtain ⟨h3,hF⟩:=of_guard hF
 refine av rfl (r_slice_str underlying9 rfl ⟨_,rfl⟩ rfl h3) ?_
 refine aa rfl rfl ?_
 refine aa rfl rfl ?_
 refine nwq [5,4] rfl ?_
 refine at_ret ?_
 have K:=of_some hF
 subst K
 exact at_return2 rfl rfl rfl (fun w1 hw=>⟨rfl,hw⟩)
def strings_CutPrefix (x0 : ByteArray) (x1 : ByteArray) : Option (ByteArray × Bool) :=
  stringslite_CutPrefix x0 x1 >>= fun t1=>some (t1.1,t1.2)
theorem strings_CutPrefix_ok (x0 : ByteArray) (x1 : ByteArray) (r : ByteArray × Bool) (hF : strings_CutPrefix x0 x1 = some r) (w : World) :
    Calls Tryz.prog 176 #[.string x0,.string x1] w (fun e w'=>e = .returned (.tuple #[.string r.1,.bool r.2]) ∧ w' = w):=by
 unfold strings_CutPrefix at hF
 refine calls_enter (l:=[.string x0,.string x1]) func176 rfl rfl rfl ?_
 refine sr ?_
 refine aa rfl rfl ?_
 refine aa rfl rfl ?_
 refine ns ?_
 refine am rfl rfl ?_
 refine am rfl rfl ?_
 obtain ⟨t1,ht1,hF⟩:=of_bindM hF
 refine at_call0 func195 rfl (by kernel_rfl) rfl rfl (fun w=>stringslite_CutPrefix_ok _ _ _ ht1 w) ?_
 refine av rfl (r_extract rfl rfl) ?_
 refine av rfl (r_extract rfl rfl) ?_
 refine aa rfl rfl ?_
 refine aa rfl rfl ?_
 refine nwq [5,4] rfl ?_
 refine at_ret ?_
 have K:=of_some hF
 subst K
 exact at_return2 rfl rfl rfl (fun w1 hw=>⟨rfl,hw⟩)
def hostport_Right (x0 : S_api_Endpoint) : Option (Bool) :=
  addr_Right x0.f_A >>= fun t2=>if t2 = true then (if (decide (x0.f_Port ≥ 1)) = true then (some (decide (x0.f_Port ≤ 65535))) else (some false)) else (some false)
theorem hostport_Right_ok (x0 : S_api_Endpoint) (r : Bool) (hF : hostport_Right x0 = some r) (w : World) :
    Calls Tryz.prog 102 #[.agg (Cd.cs c_api_Endpoint x0).toArray] w (fun e w'=>e = .returned (.bool r) ∧ Below w.heap.size w w'):=by
 unfold hostport_Right at hF
 refine calls_enter (l:=[.agg (Cd.cs c_api_Endpoint x0).toArray]) func102 rfl rfl rfl ?_
 refine at_start ?_
 refine sr ?_
 refine at_box (cs:=Cd.cs c_api_Endpoint x0) rfl rfl rfl ?_
 intro b1
 refine aa rfl rfl ?_
 refine nwx [1] rfl ?_
 refine fa 0 underlying27 rfl rfl sizeOf25 rfl rfl ?_
 refine av rfl (r_load_aggc (c:=c_api_Addr) (z:=x0.f_A) isAgg25 sizeOf25 rfl (lens_cell .z (Lens.comp (Lens.whole _ _) (fun z=>{ x0 with f_A:=z }) (c_api_Endpoint_f_A x0)))) ?_
 obtain ⟨t2,ht2,hF⟩:=of_bindM hF
 refine at_callB func158 rfl (by kernel_rfl) rfl rfl (fun w hw=>addr_Right_ok _ _ ht2 w) ?_
 refine am rfl rfl ?_
 rcases oi hF with ⟨h3,hF⟩|⟨h3,hF⟩
 ·refine at_fix (g:=6) rfl h3 ?_
  refine gy rfl rfl rfl ?_
  refine fa 17 underlying27 rfl rfl sizeOf3 rfl rfl ?_
  refine gy rfl rfl rfl ?_
  refine av rfl (r_load_cell isAgg3 rfl (lens_cell0 (c:=(cInt .i64)) (y:=x0.f_Port) .z (Lens.comp (Lens.whole _ _) (fun z=>{ x0 with f_Port:=z }) (c_api_Endpoint_f_Port x0)) rfl)) ?_
  refine gy rfl rfl rfl ?_
  refine av rfl (r_igeq rfl rfl) ?_
  refine av rfl (r_pick rfl rfl rfl) ?_
  refine am rfl rfl ?_
  rcases oi hF with ⟨h4,hF⟩|⟨h4,hF⟩
  ·refine at_fix (g:=11) rfl h4 ?_
   refine gy rfl rfl rfl ?_
   refine fa 17 underlying27 rfl rfl sizeOf3 rfl rfl ?_
   refine gy rfl rfl rfl ?_
   refine av rfl (r_load_cell isAgg3 rfl (lens_cell0 (c:=(cInt .i64)) (y:=x0.f_Port) .z (Lens.comp (Lens.whole _ _) (fun z=>{ x0 with f_Port:=z }) (c_api_Endpoint_f_Port x0)) rfl)) ?_
   refine gy rfl rfl rfl ?_
   refine av rfl (r_ileq rfl rfl) ?_
   refine av rfl (r_pick rfl rfl rfl) ?_
   refine aa rfl rfl ?_
   refine at_nil ?_
   refine dz ?_
   refine wq [2] rfl ?_
   refine tn ?_
   refine at_ret ?_
   have K:=of_some hF
   subst K
   exact at_return1 rfl rfl (fun w1 hw=>⟨rfl,hw.below⟩)
  refine at_fix (g:=11) rfl h4 ?_
  refine gn rfl rfl rfl rfl rfl ?_
  refine gn rfl rfl rfl rfl rfl ?_
  refine gn rfl rfl rfl rfl rfl ?_
  refine av rfl (r_pick rfl rfl rfl) ?_
  refine aa rfl rfl ?_
  refine at_nil ?_
  refine dz ?_
  refine wq [2] rfl ?_
  refine tn ?_
  refine at_ret ?_
  have K:=of_some hF
  subst K
  exact at_return1 rfl rfl (fun w1 hw=>⟨rfl,hw.below⟩)
 refine at_fix (g:=6) rfl h3 ?_
 refine gn rfl rfl rfl rfl rfl ?_
 refine gn rfl rfl rfl rfl rfl ?_
 refine gn rfl rfl rfl rfl rfl ?_
 refine av rfl (r_pick rfl rfl rfl) ?_
 refine am rfl rfl ?_
 refine gn rfl rfl rfl rfl rfl ?_
 refine gn rfl rfl rfl rfl rfl ?_
 refine gn rfl rfl rfl rfl rfl ?_
 refine av rfl (r_pick rfl rfl rfl) ?_
 refine aa rfl rfl ?_
 refine at_nil ?_
 refine dz ?_
 refine wq [2] rfl ?_
 refine tn ?_
 refine at_ret ?_
 have K:=of_some hF
 subst K
 exact at_return1 rfl rfl (fun w1 hw=>⟨rfl,hw.below⟩)
def hostport_Text (x0 : S_api_Endpoint) : Option (ByteArray) :=
  hostport_Right x0 >>= fun t2=>if (!t2) = true then (some (⟨#[]⟩)) else (decimal_Text (wr .u64 x0.f_Port) >>= fun t4=>addr_Width x0.f_A >>= fun t5=>if (decide (t5 > 32)) = true then (addr_Text x0.f_A >>= fun t7=>if (⟨#[91]⟩ : ByteArray).size + t7.size ≤ 140737488355328 then if ((⟨#[91]⟩ : ByteArray) ++ t7).size + (⟨#[93,58]⟩ : ByteArray).size ≤ 140737488355328 then if (((⟨#[91]⟩ : ByteArray) ++ t7) ++ (⟨#[93,58]⟩ : ByteArray)).size + t4.size ≤ 140737488355328 then some ((((⟨#[91]⟩ : ByteArray) ++ t7) ++ (⟨#[93,58]⟩ : ByteArray)) ++ t4) else none else none else none) else (addr_Text x0.f_A >>= fun t11=>if t11.size + (⟨#[58]⟩ : ByteArray).size ≤ 140737488355328 then if (t11 ++ (⟨#[58]⟩ : ByteArray)).size + t4.size ≤ 140737488355328 then some ((t11 ++ (⟨#[58]⟩ : ByteArray)) ++ t4) else none else none))
theorem hostport_Text_ok (x0 : S_api_Endpoint) (r : ByteArray) (hF : hostport_Text x0 = some r) (w : World) (hg_strconv_uint64pow10 : GV_strconv_uint64pow10 w) :
    Calls Tryz.prog 101 #[.agg (Cd.cs c_api_Endpoint x0).toArray] w (fun e w'=>e = .returned (.string r) ∧ Below w.heap.size w w'):=by
 unfold hostport_Text at hF
 refine calls_enter (l:=[.agg (Cd.cs c_api_Endpoint x0).toArray]) func101 rfl rfl rfl ?_
 refine at_start ?_
 refine sr ?_
 refine at_box (cs:=Cd.cs c_api_Endpoint x0) rfl rfl rfl ?_
 intro b1
 refine aa rfl rfl ?_
 refine nt ?_
 refine at_seq ?_
 refine sr ?_
 refine av rfl (r_load_aggc (c:=c_api_Endpoint) (z:=x0) isAgg27 sizeOf27 rfl (lens_cell .z (Lens.whole _ _))) ?_
 obtain ⟨t2,ht2,hF⟩:=of_bindM hF
 refine at_callB func102 rfl (by kernel_rfl) rfl rfl (fun w hw=>hostport_Right_ok _ _ ht2 w) ?_
 refine av rfl (r_not rfl) ?_
 refine nwq [6,1] rfl ?_
 rcases oi hF with ⟨h3,hF⟩|⟨h3,hF⟩
 ·refine ct rfl h3 ?_
  refine sr ?_
  refine aa rfl rfl ?_
  refine at_nil ?_
  refine dz ?_
  refine wq [2] rfl ?_
  refine tn ?_
  refine rt ?_
  have K:=of_some hF
  subst K
  exact at_return1 rfl rfl (fun w1 hw=>⟨rfl,hw.below⟩)
 refine cf rfl h3 ?_
 refine sns ?_
 refine fa 17 underlying27 rfl rfl sizeOf3 rfl rfl ?_
 refine av rfl (r_load_cell isAgg3 rfl (lens_cell0 (c:=(cInt .i64)) (y:=x0.f_Port) .z (Lens.comp (Lens.whole _ _) (fun z=>{ x0 with f_Port:=z }) (c_api_Endpoint_f_Port x0)) rfl)) ?_
 refine av rfl (r_conv underlying3 underlying31 rfl) ?_
 obtain ⟨t4,ht4,hF⟩:=of_bindM hF
 refine at_callB func113 rfl (by kernel_rfl) rfl rfl (fun w hw=>decimal_Text_ok _ _ ht4 w (hg_strconv_uint64pow10.on hw.below)) ?_
 refine aa rfl rfl ?_
 refine nt ?_
 refine at_seq ?_
 refine sr ?_
 refine fa 0 underlying27 rfl rfl sizeOf25 rfl rfl ?_
 refine av rfl (r_load_aggc (c:=c_api_Addr) (z:=x0.f_A) isAgg25 sizeOf25 rfl (lens_cell .z (Lens.comp (Lens.whole _ _) (fun z=>{ x0 with f_A:=z }) (c_api_Endpoint_f_A x0)))) ?_
 obtain ⟨t5,ht5,hF⟩:=of_bindM hF
 refine at_callB func156 rfl (by kernel_rfl) rfl rfl (fun w hw=>addr_Width_ok _ _ ht5 w) ?_
 refine av rfl (r_igtr rfl rfl) ?_
 refine nwq [14,3,1] rfl ?_
 rcases oi hF with ⟨h6,hF⟩|⟨h6,hF⟩
 ·refine ct rfl h6 ?_
  refine sr ?_
  refine fa 0 underlying27 rfl rfl sizeOf25 rfl rfl ?_
  refine av rfl (r_load_aggc (c:=c_api_Addr) (z:=x0.f_A) isAgg25 sizeOf25 rfl (lens_cell .z (Lens.comp (Lens.whole _ _) (fun z=>{ x0 with f_A:=z }) (c_api_Endpoint_f_A x0)))) ?_
  obtain ⟨t7,ht7,hF⟩:=of_bindM hF
  refine at_callB func157 rfl (by kernel_rfl) rfl rfl (fun w hw=>addr_Text_ok _ _ ht7 w (hg_strconv_uint64pow10.on hw.below)) ?_
  obtain ⟨h8,hF⟩:=of_guard hF
  refine av rfl (r_concat rfl rfl h8) ?_
  obtain ⟨h9,hF⟩:=of_guard hF
  refine av rfl (r_concat rfl rfl h9) ?_
  refine am rfl rfl ?_
  obtain ⟨h10,hF⟩:=of_guard hF
  refine av rfl (r_concat rfl rfl h10) ?_
  refine aa rfl rfl ?_
  refine at_nil ?_
  refine dz ?_
  refine wq [2] rfl ?_
  refine tn ?_
  refine rt ?_
  have K:=of_some hF
  subst K
  exact at_return1 rfl rfl (fun w1 hw=>⟨rfl,hw.below⟩)
 refine cf rfl h6 ?_
 refine sns ?_
 refine fa 0 underlying27 rfl rfl sizeOf25 rfl rfl ?_
 refine av rfl (r_load_aggc (c:=c_api_Addr) (z:=x0.f_A) isAgg25 sizeOf25 rfl (lens_cell .z (Lens.comp (Lens.whole _ _) (fun z=>{ x0 with f_A:=z }) (c_api_Endpoint_f_A x0)))) ?_
 obtain ⟨t11,ht11,hF⟩:=of_bindM hF
 refine at_callB func157 rfl (by kernel_rfl) rfl rfl (fun w hw=>addr_Text_ok _ _ ht11 w (hg_strconv_uint64pow10.on hw.below)) ?_
 obtain ⟨h12,hF⟩:=of_guard hF
 refine av rfl (r_concat rfl rfl h12) ?_
 refine am rfl rfl ?_
 obtain ⟨h13,hF⟩:=of_guard hF
 refine av rfl (r_concat rfl rfl h13) ?_
 refine aa rfl rfl ?_
 refine at_nil ?_
 refine dz ?_
 refine wq [2] rfl ?_
 refine tn ?_
 refine at_ret ?_
 have K:=of_some hF
 subst K
 exact at_return1 rfl rfl (fun w1 hw=>⟨rfl,hw.below⟩)
def hostport_halves (x0 : ByteArray) : Option (ByteArray × ByteArray × Bool) :=
  strings_CutPrefix x0 (⟨#[91]⟩ : ByteArray) >>= fun t1=>if t1.2 = true then (if t1.1.size < 4294967281 then if ((scut t1.1 (⟨#[93,58]⟩ : ByteArray)).2.2) = true then (some ((scut t1.1 (⟨#[93,58]⟩ : ByteArray)).1,(scut t1.1 (⟨#[93,58]⟩ : ByteArray)).2.1,decide (0 ≤ Lib.indexByte ((scut t1.1 (⟨#[93,58]⟩ : ByteArray)).1).data.toList 58))) else (some ((scut t1.1 (⟨#[93,58]⟩ : ByteArray)).1,(scut t1.1 (⟨#[93,58]⟩ : ByteArray)).2.1,false)) else none) else (if (0 : Int) ≤ 0 ∧ 0 < ((⟨#[58]⟩ : ByteArray).size : Int) then lines_Cut x0 (bt (⟨#[58]⟩ : ByteArray) 0) >>= fun t6=>some (t6.1,t6.2.1,t6.2.2) else none)
theorem hostport_halves_ok (x0 : ByteArray) (r : ByteArray × ByteArray × Bool) (hF : hostport_halves x0 = some r) (w : World) (hg_bytealg_MaxLen : GV_bytealg_MaxLen w) :
    Calls Tryz.prog 154 #[.string x0] w (fun e w'=>e = .returned (.tuple #[.string r.1,.string r.2.1,.bool r.2.2]) ∧ Below w.heap.size w w'):=by
 unfold hostport_halves at hF
 refine calls_enter (l:=[.string x0]) func154 rfl rfl rfl ?_
 refine at_start ?_
 refine sr ?_
 refine aa rfl rfl ?_
 refine aa rfl rfl ?_
 refine aa rfl rfl ?_
 refine nt ?_
 refine at_seq ?_
 refine sr ?_
 refine am rfl rfl ?_
 obtain ⟨t1,ht1,hF⟩:=of_bindM hF
 refine at_call0 func176 rfl (by kernel_rfl) rfl rfl (fun w=>strings_CutPrefix_ok _ _ _ ht1 w) ?_
 refine am rfl rfl ?_
 refine av rfl (r_extract rfl rfl) ?_
 refine av rfl (r_extract rfl rfl) ?_
 refine aa rfl rfl ?_
 refine aa rfl rfl ?_
 refine ns ?_
 refine am rfl rfl ?_
 refine nwq [15,5,0] rfl ?_
 rcases oi hF with ⟨h2,hF⟩|⟨h2,hF⟩
 ·refine ct rfl h2 ?_
  refine sr ?_
  refine am rfl rfl ?_
  obtain ⟨h3,hF⟩:=of_guard hF
  refine at_callB func177 rfl (by kernel_rfl) rfl rfl (fun w1 hw=>cut_okS _ _ h3 w1 (hg_bytealg_MaxLen.on hw.below)) ?_
  refine am rfl rfl ?_
  refine av rfl (r_extract rfl rfl) ?_
  refine av rfl (r_extract rfl rfl) ?_
  refine av rfl (r_extract rfl rfl) ?_
  refine aa rfl rfl ?_
  refine aa rfl rfl ?_
  refine aa rfl rfl ?_
  refine nwx [9,8,7] rfl ?_
  refine am rfl rfl ?_
  refine am rfl rfl ?_
  refine am rfl rfl ?_
  refine am rfl rfl ?_
  rcases oi hF with ⟨h4,hF⟩|⟨h4,hF⟩
  ·refine at_fix (g:=25) rfl h4 ?_
   refine gy rfl rfl rfl ?_
   refine am rfl rfl ?_
   refine gy rfl rfl rfl ?_
   refine at_call0 func178 rfl (by kernel_rfl) rfl rfl (fun w=>Tryz.strings_Contains_one _ _ w) ?_
   refine av rfl (r_pick rfl rfl rfl) ?_
   refine aa rfl rfl ?_
   refine aa rfl rfl ?_
   refine aa rfl rfl ?_
   refine nwq [4,3,2] rfl ?_
   refine rt ?_
   have K:=of_some hF
   subst K
   exact at_return3 rfl rfl rfl rfl (fun w1 hw=>⟨rfl,hw.below⟩)
  refine at_fix (g:=25) rfl h4 ?_
  refine gn rfl rfl rfl rfl rfl ?_
  refine gn rfl rfl rfl rfl rfl ?_
  refine av rfl (r_pick rfl rfl rfl) ?_
  refine aa rfl rfl ?_
  refine aa rfl rfl ?_
  refine aa rfl rfl ?_
  refine nwq [4,3,2] rfl ?_
  refine rt ?_
  have K:=of_some hF
  subst K
  exact at_return3 rfl rfl rfl rfl (fun w1 hw=>⟨rfl,hw.below⟩)
 refine cf rfl h2 ?_
 refine sns ?_
 refine am rfl rfl ?_
 obtain ⟨h5,hF⟩:=of_guard hF
 refine av rfl (r_index_str underlying9 rfl rfl h5) ?_
 obtain ⟨t6,ht6,hF⟩:=of_bindM hF
 refine at_callB func86 rfl (by kernel_rfl) rfl rfl (fun w hw=>lines_Cut_ok _ _ _ ht6 w) ?_
 refine av rfl (r_extract rfl rfl) ?_
 refine av rfl (r_extract rfl rfl) ?_
 refine av rfl (r_extract rfl rfl) ?_
 refine aa rfl rfl ?_
 refine aa rfl rfl ?_
 refine aa rfl rfl ?_
 refine nwq [4,3,2] rfl ?_
 refine at_ret ?_
 have K:=of_some hF
 subst K
 exact at_return3 rfl rfl rfl rfl (fun w1 hw=>⟨rfl,hw.below⟩)
def hostport_Parse (x0 : ByteArray) : Option (S_api_Endpoint × Int) :=
  hostport_halves x0 >>= fun t2=>if (!t2.2.2) = true then (some (({ f_A:=({ f_V:=(0 : Int),f_B:=(Vector.replicate 16 (0 : Int) : (Vector Int 16)) } : S_api_Addr),f_Port:=(0 : Int) } : S_api_Endpoint),5)) else (addr_Parse t2.1 >>= fun t4=>if (t4.2 != 0) = true then (some (({ f_A:=({ f_V:=(0 : Int),f_B:=(Vector.replicate 16 (0 : Int) : (Vector Int 16)) } : S_api_Addr),f_Port:=(0 : Int) } : S_api_Endpoint),t4.2)) else (decimal_Read t2.2.1 65535 >>= fun t7=>if (t7.2 != 0) = true then (some (({ f_A:=({ f_V:=(0 : Int),f_B:=(Vector.replicate 16 (0 : Int) : (Vector Int 16)) } : S_api_Addr),f_Port:=(0 : Int) } : S_api_Endpoint),t7.2)) else (if (t7.1 == 0) = true then (some (({ f_A:=({ f_V:=(0 : Int),f_B:=(Vector.replicate 16 (0 : Int) : (Vector Int 16)) } : S_api_Addr),f_Port:=(0 : Int) } : S_api_Endpoint),6)) else (some ({ { ({ f_A:=({ f_V:=(0 : Int),f_B:=(Vector.replicate 16 (0 : Int) : (Vector Int 16)) } : S_api_Addr),f_Port:=(0 : Int) } : S_api_Endpoint) with f_A:=t4.1 } with f_Port:=wr .i64 t7.1 },0)))))
theorem hostport_Parse_ok (x0 : ByteArray) (r : S_api_Endpoint × Int) (hF : hostport_Parse x0 = some r) (w : World) (hg_bytealg_MaxLen : GV_bytealg_MaxLen w) (hg_strconv_ErrRange : GV_strconv_ErrRange w) (hg_strconv_ErrSyntax : GV_strconv_ErrSyntax w) :
    Calls Tryz.prog 99 #[.string x0] w (fun e w'=>e = .returned (.tuple #[.agg (Cd.cs c_api_Endpoint r.1).toArray,.int .i64 r.2]) ∧ Below w.heap.size w w'):=by
 unfold hostport_Parse at hF
 refine calls_enter (l:=[.string x0]) func99 rfl rfl rfl ?_
 refine at_start ?_
 refine sr ?_
 refine at_alloc (cs:=Cd.cs c_api_Endpoint zv3) zeroValue27 rfl rfl ?_
 intro b1
 refine aa rfl rfl ?_
 refine ns ?_
 refine am rfl rfl ?_
 obtain ⟨t2,ht2,hF⟩:=of_bindM hF
 refine at_callB func154 rfl (by kernel_rfl) rfl rfl (fun w hw=>hostport_halves_ok _ _ ht2 w (hg_bytealg_MaxLen.on hw.below)) ?_
 refine am rfl rfl ?_
 refine av rfl (r_extract rfl rfl) ?_
 refine av rfl (r_extract rfl rfl) ?_
 refine av rfl (r_extract rfl rfl) ?_
 refine aa rfl rfl ?_
 refine aa rfl rfl ?_
 refine aa rfl rfl ?_
 refine nt ?_
 refine at_seq ?_
 refine sr ?_
 refine am rfl rfl ?_
 refine av rfl (r_not rfl) ?_
 refine nwq [17,5,4,2] rfl ?_
 rcases oi hF with ⟨h3,hF⟩|⟨h3,hF⟩
 ·refine ct rfl h3 ?_
  refine sr ?_
  refine av rfl (r_build_struct (zs:=Cd.cs c_api_Endpoint zv3) (cs:=Cd.cs c_api_Endpoint zv3) underlying27 zeroValue27 rfl (places_api_Endpoint_27) rfl rfl) ?_
  refine at_store (c:=c_api_Endpoint) (z:=zv3) .z (Lens.whole _ _) sizeOf27 rfl rfl rfl ?_
  refine aa rfl rfl ?_
  refine nwq [3,2] rfl ?_
  refine rt ?_
  have K:=of_some hF
  subst K
  exact at_res2 rfl (res_cell (c:=c_api_Endpoint) (y:=zv3) rfl .z (Lens.whole _ _) isAgg27 sizeOf27 (.inl rfl)) (res_tmp rfl) (fun w1 hw=>⟨rfl,hw.below⟩)
 refine cf rfl h3 ?_
 refine sns ?_
 refine am rfl rfl ?_
 obtain ⟨t4,ht4,hF⟩:=of_bindM hF
 refine at_callB func155 rfl (by kernel_rfl) rfl rfl (fun w hw=>addr_Parse_ok _ _ ht4 w (hg_strconv_ErrRange.on hw.below) (hg_strconv_ErrSyntax.on hw.below)) ?_
 refine am rfl rfl ?_
 refine av rfl (r_extract rfl rfl) ?_
 refine av rfl (r_extract rfl rfl) ?_
 refine at_alloc (cs:=Cd.cs c_api_Addr zv1) zeroValue25 rfl rfl ?_
 intro b5
 refine at_store (c:=c_api_Addr) (z:=t4.1) .z (Lens.whole _ _) sizeOf25 rfl rfl rfl ?_
 refine aa rfl rfl ?_
 refine nt ?_
 refine at_seq ?_
 refine sr ?_
 refine am rfl rfl ?_
 refine av rfl (r_ineq rfl rfl) ?_
 refine nwq [25,8,7,5,2] rfl ?_
 rcases oi hF with ⟨h6,hF⟩|⟨h6,hF⟩
 ·refine ct rfl h6 ?_
  refine sr ?_
  refine av rfl (r_build_struct (zs:=Cd.cs c_api_Endpoint zv3) (cs:=Cd.cs c_api_Endpoint zv3) underlying27 zeroValue27 rfl (places_api_Endpoint_27) rfl rfl) ?_
  refine am rfl rfl ?_
  refine at_store (c:=c_api_Endpoint) (z:=zv3) (.s .z) (Lens.whole _ _) sizeOf27 rfl rfl rfl ?_
  refine aa rfl rfl ?_
  refine at_nil ?_
  refine dz ?_
  refine wq [3,2] rfl ?_
  refine tn ?_
  refine rt ?_
  have K:=of_some hF
  subst K
  exact at_res2 rfl (res_cell (c:=c_api_Endpoint) (y:=zv3) rfl .z (Lens.whole _ _) isAgg27 sizeOf27 (.inl rfl)) (res_tmp rfl) (fun w1 hw=>⟨rfl,hw.below⟩)
 refine cf rfl h6 ?_
 refine sns ?_
 refine am rfl rfl ?_
 obtain ⟨t7,ht7,hF⟩:=of_bindM hF
 refine at_callB func111 rfl (by kernel_rfl) rfl rfl (fun w hw=>decimal_Read_ok _ _ _ ht7 w (hg_strconv_ErrRange.on hw.below) (hg_strconv_ErrSyntax.on hw.below)) ?_
 refine am rfl rfl ?_
 refine av rfl (r_extract rfl rfl) ?_
 refine av rfl (r_extract rfl rfl) ?_
 refine aa rfl rfl ?_
 refine aa rfl rfl ?_
 refine nwq [9,8,7,2] rfl ?_
 refine at_seq ?_
 refine at_block ?_
 refine sr ?_
 refine am rfl rfl ?_
 refine av rfl (r_ineq rfl rfl) ?_
 refine aa rfl rfl ?_
 refine nwq [33,9,8,7,2] rfl ?_
 rcases oi hF with ⟨h8,hF⟩|⟨h8,hF⟩
 ·refine ct rfl h8 ?_
  refine sr ?_
  refine av rfl (r_build_struct (zs:=Cd.cs c_api_Endpoint zv3) (cs:=Cd.cs c_api_Endpoint zv3) underlying27 zeroValue27 rfl (places_api_Endpoint_27) rfl rfl) ?_
  refine am rfl rfl ?_
  refine at_store (c:=c_api_Endpoint) (z:=zv3) (.s .z) (Lens.whole _ _) sizeOf27 rfl rfl rfl ?_
  refine aa rfl rfl ?_
  refine at_nil ?_
  refine dz ?_
  refine wq [3,2] rfl ?_
  refine tn ?_
  refine at_ret ?_
  refine at_blk_ret (at_then_ret ?_)
  have K:=of_some hF
  subst K
  exact at_res2 rfl (res_cell (c:=c_api_Endpoint) (y:=zv3) rfl .z (Lens.whole _ _) isAgg27 sizeOf27 (.inl rfl)) (res_tmp rfl) (fun w1 hw=>⟨rfl,hw.below⟩)
 refine cf rfl h8 ?_
 refine sr ?_
 refine am rfl rfl ?_
 refine av rfl (r_ieql rfl rfl) ?_
 refine aa rfl rfl ?_
 refine nwq [38,9,7,2] rfl ?_
 rcases oi hF with ⟨h9,hF⟩|⟨h9,hF⟩
 ·refine ct rfl h9 ?_
  refine sr ?_
  refine av rfl (r_build_struct (zs:=Cd.cs c_api_Endpoint zv3) (cs:=Cd.cs c_api_Endpoint zv3) underlying27 zeroValue27 rfl (places_api_Endpoint_27) rfl rfl) ?_
  refine at_store (c:=c_api_Endpoint) (z:=zv3) (.s .z) (Lens.whole _ _) sizeOf27 rfl rfl rfl ?_
  refine aa rfl rfl ?_
  refine at_nil ?_
  refine dz ?_
  refine wq [3,2] rfl ?_
  refine tn ?_
  refine at_ret ?_
  refine at_blk_ret (at_then_ret ?_)
  have K:=of_some hF
  subst K
  exact at_res2 rfl (res_cell (c:=c_api_Endpoint) (y:=zv3) rfl .z (Lens.whole _ _) isAgg27 sizeOf27 (.inl rfl)) (res_tmp rfl) (fun w1 hw=>⟨rfl,hw.below⟩)
 refine cf rfl h9 ?_
 refine at_skip ?_
 refine at_blk_normal (at_then_normal ?_)
 refine sr ?_
 refine av rfl (r_load_aggc (c:=c_api_Addr) (z:=t4.1) isAgg25 sizeOf25 rfl (lens_cell .z (Lens.whole _ _))) ?_
 refine am rfl rfl ?_
 refine av rfl (r_conv underlying31 underlying3 rfl) ?_
 refine av rfl (r_build_struct (zs:=Cd.cs c_api_Endpoint zv3) (cs:=Cd.cs c_api_Endpoint ({ { zv3 with f_A:=t4.1 } with f_Port:=wr .i64 t7.1 })) underlying27 zeroValue27 rfl (places_api_Endpoint_27) rfl (fill_step (c:=c_api_Addr) (z:=t4.1) rfl (c_api_Endpoint_f_A zv3) rfl (fill_step (c:=(cInt .i64)) (z:=wr .i64 t7.1) rfl (c_api_Endpoint_f_Port ({ zv3 with f_A:=t4.1 })) rfl rfl))) ?_
 refine at_store (c:=c_api_Endpoint) (z:={ { zv3 with f_A:=t4.1 } with f_Port:=wr .i64 t7.1 }) (.s .z) (Lens.whole _ _) sizeOf27 rfl rfl rfl ?_
 refine aa rfl rfl ?_
 refine at_nil ?_
 refine dz ?_
 refine wq [3,2] rfl ?_
 refine tn ?_
 refine at_ret ?_
 have K:=of_some hF
 subst K
 exact at_res2 rfl (res_cell (c:=c_api_Endpoint) (y:={ { zv3 with f_A:=t4.1 } with f_Port:=wr .i64 t7.1 }) rfl .z (Lens.whole _ _) isAgg27 sizeOf27 (.inl rfl)) (res_tmp rfl) (fun w1 hw=>⟨rfl,hw.below⟩)
def crawlwayref12_Right (x0 : S_api_Endpoint) : Option (Bool) :=
  crawlwayref10_Right x0.f_A >>= fun t2=>if t2 = true then (if (decide (x0.f_Port ≥ 1)) = true then (some (decide (x0.f_Port ≤ 65535))) else (some false)) else (some false)
theorem crawlwayref12_Right_ok (x0 : S_api_Endpoint) (r : Bool) (hF : crawlwayref12_Right x0 = some r) (w : World) :
    Calls Tryz.prog 45 #[.agg (Cd.cs c_api_Endpoint x0).toArray] w (fun e w'=>e = .returned (.bool r) ∧ Below w.heap.size w w'):=by
 unfold crawlwayref12_Right at hF
 refine calls_enter (l:=[.agg (Cd.cs c_api_Endpoint x0).toArray]) func45 rfl rfl rfl ?_
 refine at_start ?_
 refine sr ?_
 refine at_box (cs:=Cd.cs c_api_Endpoint x0) rfl rfl rfl ?_
 intro b1
 refine aa rfl rfl ?_
 refine nwx [1] rfl ?_
 refine fa 0 underlying27 rfl rfl sizeOf25 rfl rfl ?_
 refine av rfl (r_load_aggc (c:=c_api_Addr) (z:=x0.f_A) isAgg25 sizeOf25 rfl (lens_cell .z (Lens.comp (Lens.whole _ _) (fun z=>{ x0 with f_A:=z }) (c_api_Endpoint_f_A x0)))) ?_
 obtain ⟨t2,ht2,hF⟩:=of_bindM hF
 refine at_callB func74 rfl (by kernel_rfl) rfl rfl (fun w hw=>crawlwayref10_Right_ok _ _ ht2 w) ?_
 refine am rfl rfl ?_
 rcases oi hF with ⟨h3,hF⟩|⟨h3,hF⟩
 ·refine at_fix (g:=6) rfl h3 ?_
  refine gy rfl rfl rfl ?_
  refine fa 17 underlying27 rfl rfl sizeOf3 rfl rfl ?_
  refine gy rfl rfl rfl ?_
  refine av rfl (r_load_cell isAgg3 rfl (lens_cell0 (c:=(cInt .i64)) (y:=x0.f_Port) .z (Lens.comp (Lens.whole _ _) (fun z=>{ x0 with f_Port:=z }) (c_api_Endpoint_f_Port x0)) rfl)) ?_
  refine gy rfl rfl rfl ?_
  refine av rfl (r_igeq rfl rfl) ?_
  refine av rfl (r_pick rfl rfl rfl) ?_
  refine am rfl rfl ?_
  rcases oi hF with ⟨h4,hF⟩|⟨h4,hF⟩
  ·refine at_fix (g:=11) rfl h4 ?_
   refine gy rfl rfl rfl ?_
   refine fa 17 underlying27 rfl rfl sizeOf3 rfl rfl ?_
   refine gy rfl rfl rfl ?_
   refine av rfl (r_load_cell isAgg3 rfl (lens_cell0 (c:=(cInt .i64)) (y:=x0.f_Port) .z (Lens.comp (Lens.whole _ _) (fun z=>{ x0 with f_Port:=z }) (c_api_Endpoint_f_Port x0)) rfl)) ?_
   refine gy rfl rfl rfl ?_
   refine av rfl (r_ileq rfl rfl) ?_
   refine av rfl (r_pick rfl rfl rfl) ?_
   refine aa rfl rfl ?_
   refine at_nil ?_
   refine dz ?_
   refine wq [2] rfl ?_
   refine tn ?_
   refine at_ret ?_
   have K:=of_some hF
   subst K
   exact at_return1 rfl rfl (fun w1 hw=>⟨rfl,hw.below⟩)
  refine at_fix (g:=11) rfl h4 ?_
  refine gn rfl rfl rfl rfl rfl ?_
  refine gn rfl rfl rfl rfl rfl ?_
  refine gn rfl rfl rfl rfl rfl ?_
  refine av rfl (r_pick rfl rfl rfl) ?_
  refine aa rfl rfl ?_
  refine at_nil ?_
  refine dz ?_
  refine wq [2] rfl ?_
  refine tn ?_
  refine at_ret ?_
  have K:=of_some hF
  subst K
  exact at_return1 rfl rfl (fun w1 hw=>⟨rfl,hw.below⟩)
 refine at_fix (g:=6) rfl h3 ?_
 refine gn rfl rfl rfl rfl rfl ?_
 refine gn rfl rfl rfl rfl rfl ?_
 refine gn rfl rfl rfl rfl rfl ?_
 refine av rfl (r_pick rfl rfl rfl) ?_
 refine am rfl rfl ?_
 refine gn rfl rfl rfl rfl rfl ?_
 refine gn rfl rfl rfl rfl rfl ?_
 refine gn rfl rfl rfl rfl rfl ?_
 refine av rfl (r_pick rfl rfl rfl) ?_
 refine aa rfl rfl ?_
 refine at_nil ?_
 refine dz ?_
 refine wq [2] rfl ?_
 refine tn ?_
 refine at_ret ?_
 have K:=of_some hF
 subst K
 exact at_return1 rfl rfl (fun w1 hw=>⟨rfl,hw.below⟩)
def crawlwayref12_Text (x0 : S_api_Endpoint) : Option (ByteArray) :=
  crawlwayref12_Right x0 >>= fun t2=>if (!t2) = true then (some (⟨#[]⟩)) else (crawlwayref03_Text (wr .u64 x0.f_Port) >>= fun t4=>if (⟨#[58]⟩ : ByteArray).size + t4.size ≤ 140737488355328 then if (x0.f_A.f_V == 6) = true then (crawlwayref10_Text x0.f_A >>= fun t7=>if (⟨#[91]⟩ : ByteArray).size + t7.size ≤ 140737488355328 then if ((⟨#[91]⟩ : ByteArray) ++ t7).size + (⟨#[93]⟩ : ByteArray).size ≤ 140737488355328 then if (((⟨#[91]⟩ : ByteArray) ++ t7) ++ (⟨#[93]⟩ : ByteArray)).size + ((⟨#[58]⟩ : ByteArray) ++ t4).size ≤ 140737488355328 then some ((((⟨#[91]⟩ : ByteArray) ++ t7) ++ (⟨#[93]⟩ : ByteArray)) ++ ((⟨#[58]⟩ : ByteArray) ++ t4)) else none else none else none) else (crawlwayref10_Text x0.f_A >>= fun t11=>if t11.size + ((⟨#[58]⟩ : ByteArray) ++ t4).size ≤ 140737488355328 then some (t11 ++ ((⟨#[58]⟩ : ByteArray) ++ t4)) else none) else none)
theorem crawlwayref12_Text_ok (x0 : S_api_Endpoint) (r : ByteArray) (hF : crawlwayref12_Text x0 = some r) (w : World) :
    Calls Tryz.prog 52 #[.agg (Cd.cs c_api_Endpoint x0).toArray] w (fun e w'=>e = .returned (.string r) ∧ Below w.heap.size w w'):=by
 unfold crawlwayref12_Text at hF
 refine calls_enter (l:=[.agg (Cd.cs c_api_Endpoint x0).toArray]) func52 rfl rfl rfl ?_
 refine at_start ?_
 refine sr ?_
 refine at_box (cs:=Cd.cs c_api_Endpoint x0) rfl rfl rfl ?_
 intro b1
 refine aa rfl rfl ?_
 refine nt ?_
 refine at_seq ?_
 refine sr ?_
 refine av rfl (r_load_aggc (c:=c_api_Endpoint) (z:=x0) isAgg27 sizeOf27 rfl (lens_cell .z (Lens.whole _ _))) ?_
 obtain ⟨t2,ht2,hF⟩:=of_bindM hF
 refine at_callB func45 rfl (by kernel_rfl) rfl rfl (fun w hw=>crawlwayref12_Right_ok _ _ ht2 w) ?_
 refine av rfl (r_not rfl) ?_
 refine nwq [6,1] rfl ?_
 rcases oi hF with ⟨h3,hF⟩|⟨h3,hF⟩
 ·refine ct rfl h3 ?_
  refine sr ?_
  refine aa rfl rfl ?_
  refine at_nil ?_
  refine dz ?_
  refine wq [2] rfl ?_
  refine tn ?_
  refine rt ?_
  have K:=of_some hF
  subst K
  exact at_return1 rfl rfl (fun w1 hw=>⟨rfl,hw.below⟩)
 refine cf rfl h3 ?_
 refine sns ?_
 refine fa 17 underlying27 rfl rfl sizeOf3 rfl rfl ?_
 refine av rfl (r_load_cell isAgg3 rfl (lens_cell0 (c:=(cInt .i64)) (y:=x0.f_Port) .z (Lens.comp (Lens.whole _ _) (fun z=>{ x0 with f_Port:=z }) (c_api_Endpoint_f_Port x0)) rfl)) ?_
 refine av rfl (r_conv underlying3 underlying31 rfl) ?_
 obtain ⟨t4,ht4,hF⟩:=of_bindM hF
 refine at_callB func55 rfl (by kernel_rfl) rfl rfl (fun w hw=>crawlwayref03_Text_ok _ _ ht4 w) ?_
 obtain ⟨h5,hF⟩:=of_guard hF
 refine av rfl (r_concat rfl rfl h5) ?_
 refine aa rfl rfl ?_
 refine nt ?_
 refine at_seq ?_
 refine sr ?_
 refine fa 0 underlying27 rfl rfl sizeOf25 rfl rfl ?_
 refine fa 0 underlying25 rfl rfl sizeOf3 rfl rfl ?_
 refine av rfl (r_load_cell isAgg3 rfl (lens_cell0 (c:=(cInt .i64)) (y:=x0.f_A.f_V) .z (Lens.comp (Lens.comp (Lens.whole _ _) (fun z=>{ x0 with f_A:=z }) (c_api_Endpoint_f_A x0)) (fun z=>{ x0.f_A with f_V:=z }) (c_api_Addr_f_V x0.f_A)) rfl)) ?_
 refine av rfl (r_ieql rfl rfl) ?_
 refine nwq [15,3,1] rfl ?_
 rcases oi hF with ⟨h6,hF⟩|⟨h6,hF⟩
 ·refine ct rfl h6 ?_
  refine sr ?_
  refine fa 0 underlying27 rfl rfl sizeOf25 rfl rfl ?_
  refine av rfl (r_load_aggc (c:=c_api_Addr) (z:=x0.f_A) isAgg25 sizeOf25 rfl (lens_cell .z (Lens.comp (Lens.whole _ _) (fun z=>{ x0 with f_A:=z }) (c_api_Endpoint_f_A x0)))) ?_
  obtain ⟨t7,ht7,hF⟩:=of_bindM hF
  refine at_callB func87 rfl (by kernel_rfl) rfl rfl (fun w hw=>crawlwayref10_Text_ok _ _ ht7 w) ?_
  obtain ⟨h8,hF⟩:=of_guard hF
  refine av rfl (r_concat rfl rfl h8) ?_
  obtain ⟨h9,hF⟩:=of_guard hF
  refine av rfl (r_concat rfl rfl h9) ?_
  refine am rfl rfl ?_
  obtain ⟨h10,hF⟩:=of_guard hF
  refine av rfl (r_concat rfl rfl h10) ?_
  refine aa rfl rfl ?_
  refine at_nil ?_
  refine dz ?_
  refine wq [2] rfl ?_
  refine tn ?_
  refine rt ?_
  have K:=of_some hF
  subst K
  exact at_return1 rfl rfl (fun w1 hw=>⟨rfl,hw.below⟩)
 refine cf rfl h6 ?_
 refine sns ?_
 refine fa 0 underlying27 rfl rfl sizeOf25 rfl rfl ?_
 refine av rfl (r_load_aggc (c:=c_api_Addr) (z:=x0.f_A) isAgg25 sizeOf25 rfl (lens_cell .z (Lens.comp (Lens.whole _ _) (fun z=>{ x0 with f_A:=z }) (c_api_Endpoint_f_A x0)))) ?_
 obtain ⟨t11,ht11,hF⟩:=of_bindM hF
 refine at_callB func87 rfl (by kernel_rfl) rfl rfl (fun w hw=>crawlwayref10_Text_ok _ _ ht11 w) ?_
 refine am rfl rfl ?_
 obtain ⟨h12,hF⟩:=of_guard hF
 refine av rfl (r_concat rfl rfl h12) ?_
 refine aa rfl rfl ?_
 refine at_nil ?_
 refine dz ?_
 refine wq [2] rfl ?_
 refine tn ?_
 refine at_ret ?_
 have K:=of_some hF
 subst K
 exact at_return1 rfl rfl (fun w1 hw=>⟨rfl,hw.below⟩)
def crawlwayref12_cut.l0 (x0 : ByteArray) (i2 : Int) : Option (Ctl (ByteArray × ByteArray × Bool) (Unit)) :=
  if (decide (wr .i64 (i2 + 1) < (x0.size : Int))) = true then (if (0 : Int) ≤ i2 ∧ i2 < (x0.size : Int) then if (bt x0 i2 == 93) = true then (if (0 : Int) ≤ wr .i64 (i2 + 1) ∧ wr .i64 (i2 + 1) < (x0.size : Int) then if (bt x0 (wr .i64 (i2 + 1)) == 58) = true then (if (0 : Int) ≤ 0 ∧ 0 ≤ i2 ∧ i2 ≤ (x0.size : Int) then if (0 : Int) ≤ wr .i64 (i2 + 2) ∧ wr .i64 (i2 + 2) ≤ (x0.size : Int) ∧ (x0.size : Int) ≤ (x0.size : Int) then some (.ret (x0.extract (Int.toNat 0) (Int.toNat i2),x0.extract (Int.toNat (wr .i64 (i2 + 2))) (Int.toNat (x0.size : Int)),true)) else none else none) else (crawlwayref12_cut.l0 x0 (wr .i64 (i2 + 1))) else none) else (crawlwayref12_cut.l0 x0 (wr .i64 (i2 + 1))) else none) else (some (.nx ()))
  partial_fixpoint
def crawlwayref12_cut (x0 : ByteArray) : Option (ByteArray × ByteArray × Bool) :=
  crawlwayref12_cut.l0 x0 0 >>= fun q1=>match q1 with | .ret r'=>some r' | .nx sq1=>(some (⟨#[]⟩,⟨#[]⟩,false))
def crawlwayref12_Parse (x0 : ByteArray) : Option (S_api_Endpoint × Int) :=
  if (decide ((x0.size : Int) > 0)) = true then (if (0 : Int) ≤ 0 ∧ 0 < (x0.size : Int) then if (bt x0 0 == 91) = true then (if (0 : Int) ≤ 1 ∧ 1 ≤ (x0.size : Int) ∧ (x0.size : Int) ≤ (x0.size : Int) then crawlwayref12_cut (x0.extract (Int.toNat 1) (Int.toNat (x0.size : Int))) >>= fun t6=>if (!t6.2.2) = true then (some (({ f_A:=({ f_V:=(0 : Int),f_B:=(Vector.replicate 16 (0 : Int) : (Vector Int 16)) } : S_api_Addr),f_Port:=(0 : Int) } : S_api_Endpoint),5)) else (crawlwayref06_Parts t6.1 58 >>= fun t8=>if (decide ((t8.length : Int) > 1) != (bt x0 0 == 91)) = true then (some (({ f_A:=({ f_V:=(0 : Int),f_B:=(Vector.replicate 16 (0 : Int) : (Vector Int 16)) } : S_api_Addr),f_Port:=(0 : Int) } : S_api_Endpoint),5)) else (crawlwayref10_Parse t6.1 >>= fun t12=>if (t12.2 != 0) = true then (some (({ f_A:=({ f_V:=(0 : Int),f_B:=(Vector.replicate 16 (0 : Int) : (Vector Int 16)) } : S_api_Addr),f_Port:=(0 : Int) } : S_api_Endpoint),t12.2)) else (crawlwayref03_Read t6.2.1 65535 >>= fun t15=>if (t15.2 != 0) = true then (some (({ f_A:=({ f_V:=(0 : Int),f_B:=(Vector.replicate 16 (0 : Int) : (Vector Int 16)) } : S_api_Addr),f_Port:=(0 : Int) } : S_api_Endpoint),t15.2)) else (if (t15.1 == 0) = true then (some (({ f_A:=({ f_V:=(0 : Int),f_B:=(Vector.replicate 16 (0 : Int) : (Vector Int 16)) } : S_api_Addr),f_Port:=(0 : Int) } : S_api_Endpoint),6)) else (some ({ { ({ f_A:=({ f_V:=(0 : Int),f_B:=(Vector.replicate 16 (0 : Int) : (Vector Int 16)) } : S_api_Addr),f_Port:=(0 : Int) } : S_api_Endpoint) with f_A:=t12.1 } with f_Port:=wr .i64 t15.1 },0)))))) else none) else (crawlwayref06_Parts x0 58 >>= fun t18=>if (0 : Int) ≤ 0 ∧ 0 < (t18.length : Int) then if (decide ((t18.length : Int) > 1)) = true then (if (0 : Int) ≤ 0 ∧ 0 < (t18.length : Int) then if (0 : Int) ≤ wr .i64 (((lget t18 0).size : Int) + 1) ∧ wr .i64 (((lget t18 0).size : Int) + 1) ≤ (x0.size : Int) ∧ (x0.size : Int) ≤ (x0.size : Int) then if (!(decide ((t18.length : Int) > 1))) = true then (some (({ f_A:=({ f_V:=(0 : Int),f_B:=(Vector.replicate 16 (0 : Int) : (Vector Int 16)) } : S_api_Addr),f_Port:=(0 : Int) } : S_api_Endpoint),5)) else (crawlwayref06_Parts (lget t18 0) 58 >>= fun t32=>if (decide ((t32.length : Int) > 1) != (bt x0 0 == 91)) = true then (some (({ f_A:=({ f_V:=(0 : Int),f_B:=(Vector.replicate 16 (0 : Int) : (Vector Int 16)) } : S_api_Addr),f_Port:=(0 : Int) } : S_api_Endpoint),5)) else (crawlwayref10_Parse (lget t18 0) >>= fun t36=>if (t36.2 != 0) = true then (some (({ f_A:=({ f_V:=(0 : Int),f_B:=(Vector.replicate 16 (0 : Int) : (Vector Int 16)) } : S_api_Addr),f_Port:=(0 : Int) } : S_api_Endpoint),t36.2)) else (crawlwayref03_Read (x0.extract (Int.toNat (wr .i64 (((lget t18 0).size : Int) + 1))) (Int.toNat (x0.size : Int))) 65535 >>= fun t39=>if (t39.2 != 0) = true then (some (({ f_A:=({ f_V:=(0 : Int),f_B:=(Vector.replicate 16 (0 : Int) : (Vector Int 16)) } : S_api_Addr),f_Port:=(0 : Int) } : S_api_Endpoint),t39.2)) else (if (t39.1 == 0) = true then (some (({ f_A:=({ f_V:=(0 : Int),f_B:=(Vector.replicate 16 (0 : Int) : (Vector Int 16)) } : S_api_Addr),f_Port:=(0 : Int) } : S_api_Endpoint),6)) else (some ({ { ({ f_A:=({ f_V:=(0 : Int),f_B:=(Vector.replicate 16 (0 : Int) : (Vector Int 16)) } : S_api_Addr),f_Port:=(0 : Int) } : S_api_Endpoint) with f_A:=t36.1 } with f_Port:=wr .i64 t39.1 },0)))))) else none else none) else (if (!(decide ((t18.length : Int) > 1))) = true then (some (({ f_A:=({ f_V:=(0 : Int),f_B:=(Vector.replicate 16 (0 : Int) : (Vector Int 16)) } : S_api_Addr),f_Port:=(0 : Int) } : S_api_Endpoint),5)) else (crawlwayref06_Parts (lget t18 0) 58 >>= fun t43=>if (decide ((t43.length : Int) > 1) != (bt x0 0 == 91)) = true then (some (({ f_A:=({ f_V:=(0 : Int),f_B:=(Vector.replicate 16 (0 : Int) : (Vector Int 16)) } : S_api_Addr),f_Port:=(0 : Int) } : S_api_Endpoint),5)) else (crawlwayref10_Parse (lget t18 0) >>= fun t47=>if (t47.2 != 0) = true then (some (({ f_A:=({ f_V:=(0 : Int),f_B:=(Vector.replicate 16 (0 : Int) : (Vector Int 16)) } : S_api_Addr),f_Port:=(0 : Int) } : S_api_Endpoint),t47.2)) else (crawlwayref03_Read (⟨#[]⟩ : ByteArray) 65535 >>= fun t50=>if (t50.2 != 0) = true then (some (({ f_A:=({ f_V:=(0 : Int),f_B:=(Vector.replicate 16 (0 : Int) : (Vector Int 16)) } : S_api_Addr),f_Port:=(0 : Int) } : S_api_Endpoint),t50.2)) else (if (t50.1 == 0) = true then (some (({ f_A:=({ f_V:=(0 : Int),f_B:=(Vector.replicate 16 (0 : Int) : (Vector Int 16)) } : S_api_Addr),f_Port:=(0 : Int) } : S_api_Endpoint),6)) else (some ({ { ({ f_A:=({ f_V:=(0 : Int),f_B:=(Vector.replicate 16 (0 : Int) : (Vector Int 16)) } : S_api_Addr),f_Port:=(0 : Int) } : S_api_Endpoint) with f_A:=t47.1 } with f_Port:=wr .i64 t50.1 },0))))))) else none) else none) else (crawlwayref06_Parts x0 58 >>= fun t53=>if (0 : Int) ≤ 0 ∧ 0 < (t53.length : Int) then if (decide ((t53.length : Int) > 1)) = true then (if (0 : Int) ≤ 0 ∧ 0 < (t53.length : Int) then if (0 : Int) ≤ wr .i64 (((lget t53 0).size : Int) + 1) ∧ wr .i64 (((lget t53 0).size : Int) + 1) ≤ (x0.size : Int) ∧ (x0.size : Int) ≤ (x0.size : Int) then if (!(decide ((t53.length : Int) > 1))) = true then (some (({ f_A:=({ f_V:=(0 : Int),f_B:=(Vector.replicate 16 (0 : Int) : (Vector Int 16)) } : S_api_Addr),f_Port:=(0 : Int) } : S_api_Endpoint),5)) else (crawlwayref06_Parts (lget t53 0) 58 >>= fun t67=>if (decide ((t67.length : Int) > 1) != false) = true then (some (({ f_A:=({ f_V:=(0 : Int),f_B:=(Vector.replicate 16 (0 : Int) : (Vector Int 16)) } : S_api_Addr),f_Port:=(0 : Int) } : S_api_Endpoint),5)) else (crawlwayref10_Parse (lget t53 0) >>= fun t71=>if (t71.2 != 0) = true then (some (({ f_A:=({ f_V:=(0 : Int),f_B:=(Vector.replicate 16 (0 : Int) : (Vector Int 16)) } : S_api_Addr),f_Port:=(0 : Int) } : S_api_Endpoint),t71.2)) else (crawlwayref03_Read (x0.extract (Int.toNat (wr .i64 (((lget t53 0).size : Int) + 1))) (Int.toNat (x0.size : Int))) 65535 >>= fun t74=>if (t74.2 != 0) = true then (some (({ f_A:=({ f_V:=(0 : Int),f_B:=(Vector.replicate 16 (0 : Int) : (Vector Int 16)) } : S_api_Addr),f_Port:=(0 : Int) } : S_api_Endpoint),t74.2)) else (if (t74.1 == 0) = true then (some (({ f_A:=({ f_V:=(0 : Int),f_B:=(Vector.replicate 16 (0 : Int) : (Vector Int 16)) } : S_api_Addr),f_Port:=(0 : Int) } : S_api_Endpoint),6)) else (some ({ { ({ f_A:=({ f_V:=(0 : Int),f_B:=(Vector.replicate 16 (0 : Int) : (Vector Int 16)) } : S_api_Addr),f_Port:=(0 : Int) } : S_api_Endpoint) with f_A:=t71.1 } with f_Port:=wr .i64 t74.1 },0)))))) else none else none) else (if (!(decide ((t53.length : Int) > 1))) = true then (some (({ f_A:=({ f_V:=(0 : Int),f_B:=(Vector.replicate 16 (0 : Int) : (Vector Int 16)) } : S_api_Addr),f_Port:=(0 : Int) } : S_api_Endpoint),5)) else (crawlwayref06_Parts (lget t53 0) 58 >>= fun t78=>if (decide ((t78.length : Int) > 1) != false) = true then (some (({ f_A:=({ f_V:=(0 : Int),f_B:=(Vector.replicate 16 (0 : Int) : (Vector Int 16)) } : S_api_Addr),f_Port:=(0 : Int) } : S_api_Endpoint),5)) else (crawlwayref10_Parse (lget t53 0) >>= fun t82=>if (t82.2 != 0) = true then (some (({ f_A:=({ f_V:=(0 : Int),f_B:=(Vector.replicate 16 (0 : Int) : (Vector Int 16)) } : S_api_Addr),f_Port:=(0 : Int) } : S_api_Endpoint),t82.2)) else (crawlwayref03_Read (⟨#[]⟩ : ByteArray) 65535 >>= fun t85=>if (t85.2 != 0) = true then (some (({ f_A:=({ f_V:=(0 : Int),f_B:=(Vector.replicate 16 (0 : Int) : (Vector Int 16)) } : S_api_Addr),f_Port:=(0 : Int) } : S_api_Endpoint),t85.2)) else (if (t85.1 == 0) = true then (some (({ f_A:=({ f_V:=(0 : Int),f_B:=(Vector.replicate 16 (0 : Int) : (Vector Int 16)) } : S_api_Addr),f_Port:=(0 : Int) } : S_api_Endpoint),6)) else (some ({ { ({ f_A:=({ f_V:=(0 : Int),f_B:=(Vector.replicate 16 (0 : Int) : (Vector Int 16)) } : S_api_Addr),f_Port:=(0 : Int) } : S_api_Endpoint) with f_A:=t82.1 } with f_Port:=wr .i64 t85.1 },0))))))) else none)
end Go.Proofs.YtkkmmpofdcccmaaGreatDoor
namespace Go.Proofs.YtkkmmpofdcccmaaGreatDoor
open E Go.RowKit _root_.Go.Proofs.Tryz
def script_key : Option (Unit) :=
  some ()
theorem script_key_ok (r : Unit) (hF : script_key  = some r) (w : World) :
    Calls Tryz.prog 81 #[] w (fun e w'=>e = .returned (.agg #[.func (.func 136) #[] #[],.func (.func 137) #[] #[],.func (.func 138) #[] #[]]) ∧ Below w.heap.size w w'):=by
 unfold script_key at hF
 refine calls_enter (l:=[]) func81 rfl rfl rfl ?_
 refine at_start ?_
 refine at_weak [] trivial ?_
 refine sr ?_
 refine at_alloc (cs:=zl20) zeroValue104 rfl rfl ?_
 intro b1
 refine nwx [0] rfl ?_
 refine av rfl (r_build_struct (zs:=zl20) (cs:=zl9) underlying104 zeroValue104 rfl placesR_104 rfl rfl) ?_
 refine sa 3 (zl9) .z rfl rfl sizeOf104 rfl rfl rfl ?_
 refine nwq [0] rfl ?_
 refine at_ret ?_
 have K:=of_some hF
 subst K
 exact at_res1 rfl (res_cell (c:=cK 3 (by decide)) (y:=ck 3 (zl9) rfl) rfl .z (Lens.whole _ _) isAgg104 sizeOf104 (.inl rfl)) (fun w1 hw=>⟨rfl,hw.below⟩)
def script_next : Option (Unit) :=
  some ()
theorem script_next_ok (r : Unit) (hF : script_next  = some r) (w : World) :
    Calls Tryz.prog 82 #[] w (fun e w'=>e = .returned (.agg #[.func (.func 139) #[] #[],.func (.func 140) #[] #[],.func (.func 141) #[] #[]]) ∧ Below w.heap.size w w'):=by
 unfold script_next at hF
 refine calls_enter (l:=[]) func82 rfl rfl rfl ?_
 refine at_start ?_
 refine at_weak [] trivial ?_
 refine sr ?_
 refine at_alloc (cs:=zl20) zeroValue104 rfl rfl ?_
 intro b1
 refine nwx [0] rfl ?_
 refine av rfl (r_build_struct (zs:=zl20) (cs:=zl10) underlying104 zeroValue104 rfl placesR_104 rfl rfl) ?_
 refine sa 3 (zl10) .z rfl rfl sizeOf104 rfl rfl rfl ?_
 refine nwq [0] rfl ?_
 refine at_ret ?_
 have K:=of_some hF
 subst K
 exact at_res1 rfl (res_cell (c:=cK 3 (by decide)) (y:=ck 3 (zl10) rfl) rfl .z (Lens.whole _ _) isAgg104 sizeOf104 (.inl rfl)) (fun w1 hw=>⟨rfl,hw.below⟩)
def crawlwayref49_Large.l0 (x0 : List S_api_Item) (i3 : Int) : Option (Ctl (Bool) (Unit)) :=
  if (decide (i3 < (x0.length : Int))) = true then (if (0 : Int) ≤ i3 ∧ i3 < (x0.length : Int) then if (decide ((((lget x0 i3).f_Bytes).length : Int) > 6000)) = true then (some (.ret true)) else (if (0 : Int) ≤ i3 ∧ i3 < (x0.length : Int) then if (decide ((((lget x0 i3).f_Result).length : Int) > 7000)) = true then (some (.ret true)) else (crawlwayref49_Large.l0 x0 (wr .i64 (i3 + 1))) else none) else none) else (some (.nx ()))
  partial_fixpoint
def crawlwayref49_Large (x0 : List S_api_Item) : Option (Bool) :=
  if (decide ((x0.length : Int) > 40)) = true then (some true) else (crawlwayref49_Large.l0 x0 0 >>= fun q2=>match q2 with | .ret r'=>some r' | .nx sq2=>(some false))
theorem crawlwayref49_Large_ok (x0 : List S_api_Item) (p0_ : Option Addr) (c0_ : Nat) (r : Bool) (hF : crawlwayref49_Large x0 = some r) (w : World) (hr0 : NR_api_Item w p0_ c0_ x0) :
    Calls Tryz.prog 10 #[.slice p0_ x0.length c0_] w (fun e w'=>e = .returned (.bool r) ∧ w' = w):=by
 unfold crawlwayref49_Large at hF
 refine calls_enter (l:=[.slice p0_ x0.length c0_]) func10 rfl rfl rfl ?_
 refine sr ?_
 refine aa rfl rfl ?_
 refine nt ?_
 refine at_seq ?_
 refine sr ?_
 refine am rfl rfl ?_
 refine av rfl (r_len_sl underlying35 rfl) ?_
 refine av rfl (r_igtr rfl rfl) ?_
 refine nwq [6,0] rfl ?_
 rcases oi hF with ⟨h1,hF⟩|⟨h1,hF⟩
 ·refine ct rfl h1 ?_
  refine sr ?_
  refine aa rfl rfl ?_
  refine nwq [2] rfl ?_
  refine rt ?_
  have K:=of_some hF
  subst K
  exact at_return1 rfl rfl (fun w1 hw=>⟨rfl,hw⟩)
 refine cf rfl h1 ?_
 refine sn ?_
 refine at_seq ?_
 refine sr ?_
 refine aa rfl rfl ?_
 refine nwq [3,0] rfl ?_
 refine at_block ?_
 obtain ⟨q2,hq2,hF⟩:=of_bindM hF
 refine wq [3,0] rfl ?_
 refine at_loop_r (B:=0) (r:=r) (q:=q2) (A:=fun (_ : Unit) Y=>At 29 [] (fun w'=>w' = w) Y) ?_ ?_
 ·intro K
  refine crawlwayref49_Large.l0.partial_correctness x0 (motive:=fun i3 x=>KR (fun (_ : Unit) Y=>At 29 [] (fun w'=>w' = w) Y) _ 0 r x → Round (fun Y=>At 29 [(0,.slice p0_ x0.length c0_),(3,.int .i64 i3)] (fun w'=>w' = w) Y) _ _ _) ?_ _ _ hq2 K
  ·clear K hF
   intro g ih i3 x hF K
   refine at_round ?_
   refine at_seq ?_
   refine sr ?_
   refine am rfl rfl ?_
   refine am rfl rfl ?_
   refine av rfl (r_len_sl underlying35 rfl) ?_
   refine av rfl (r_ilss rfl rfl) ?_
   refine nwq [10,3,0] rfl ?_
   rcases oi hF with ⟨h4,hF⟩|⟨h4,hF⟩
   ·refine ct rfl h4 ?_
    refine sn ?_
    refine at_seq ?_
    refine at_block ?_
    refine sr ?_
    refine am rfl rfl ?_
    refine am rfl rfl ?_
    obtain ⟨h5,hF⟩:=of_guard hF
    obtain ⟨zs9,hz10,hr11,hn12⟩:=id hr0
    obtain ⟨b7,o8,hp6⟩:=row_ptr hr11 (zidx hz10 h5)
    obtain ⟨g13,hg14⟩:=zget hz10 i3
    refine av rfl (r_idx underlying35 sizeOf33 rfl rfl h5 hp6) ?_
    refine fa 1 underlying33 rfl rfl sizeOf22 rfl rfl ?_
    refine av rfl (r_load_cell isAgg22 rfl (nlens0 (c':=cHd) (y:=⟨g13.1.1,List.length ((lget x0 i3).f_Bytes),g13.1.2⟩) (fun w1 (h : w1 = w)=>by subst h; exact Below.refl _ _) hr11 (zidx hz10 h5) hp6 hg14 (c_api_Item_f_Bytes g13 (lget x0 i3)) rfl)) ?_
    refine av rfl (r_len_sl underlying22 rfl) ?_
    refine av rfl (r_igtr rfl rfl) ?_
    refine am rfl rfl ?_
    rcases oi hF with ⟨h15,hF⟩|⟨h15,hF⟩
    ·refine at_fix (g:=20) rfl h15 ?_
     refine gn rfl rfl rfl rfl rfl ?_
     refine gn rfl rfl rfl rfl rfl ?_
     refine gn rfl rfl rfl rfl rfl ?_
     refine gn rfl rfl rfl rfl rfl ?_
     refine gn rfl rfl rfl rfl rfl ?_
     refine gn rfl rfl rfl rfl rfl ?_
     refine gn rfl rfl rfl rfl rfl ?_
     refine av rfl (r_pick rfl rfl rfl) ?_
     refine nwq [28,3,0] rfl ?_
     refine ct rfl rfl ?_
     refine sr ?_
     refine aa rfl rfl ?_
     refine nwq [2] rfl ?_
     refine at_ret ?_
     refine at_blk_ret (at_then_ret (at_then_ret (at_blk_ret (at_then_ret ?_))))
     obtain rfl:=of_some hF
     subst K
     exact at_return1 rfl rfl (fun w1 hw=>⟨rfl,hw⟩)
    refine at_fix (g:=20) rfl h15 ?_
    refine gy rfl rfl rfl ?_
    refine am rfl rfl ?_
    refine gy rfl rfl rfl ?_
    refine am rfl rfl ?_
    refine gy rfl rfl rfl ?_
    obtain ⟨h16,hF⟩:=of_guard hF
    obtain ⟨zs20,hz21,hr22,hn23⟩:=id hr0
    obtain ⟨b18,o19,hp17⟩:=row_ptr hr22 (zidx hz21 h16)
    obtain ⟨g24,hg25⟩:=zget hz21 i3
    refine av rfl (r_idx underlying35 sizeOf33 rfl rfl h16 hp17) ?_
    refine gy rfl rfl rfl ?_
    refine fa 20 underlying33 rfl rfl sizeOf22 rfl rfl ?_
    refine gy rfl rfl rfl ?_
    refine av rfl (r_load_cell isAgg22 rfl (nlens0 (c':=cHd) (y:=⟨g24.2.1,List.length ((lget x0 i3).f_Result),g24.2.2⟩) (fun w1 (h : w1 = w)=>by subst h; exact Below.refl _ _) hr22 (zidx hz21 h16) hp17 hg25 (c_api_Item_f_Result g24 (lget x0 i3)) rfl)) ?_
    refine gy rfl rfl rfl ?_
    refine av rfl (r_len_sl underlying22 rfl) ?_
    refine gy rfl rfl rfl ?_
    refine av rfl (r_igtr rfl rfl) ?_
    refine av rfl (r_pick rfl rfl rfl) ?_
    refine nwq [28,3,0] rfl ?_
    rcases oi hF with ⟨h26,hF⟩|⟨h26,hF⟩
    ·refine ct rfl h26 ?_
     refine sr ?_
     refine aa rfl rfl ?_
     refine nwq [2] rfl ?_
     refine at_ret ?_
     refine at_blk_ret (at_then_ret (at_then_ret (at_blk_ret (at_then_ret ?_))))
     obtain rfl:=of_some hF
     subst K
     exact at_return1 rfl rfl (fun w1 hw=>⟨rfl,hw⟩)
    refine cf rfl h26 ?_
    refine at_skip ?_
    refine at_blk_normal (at_then_normal ?_)
    refine at_region ?_
    refine am rfl rfl ?_
    refine av rfl (r_iadd rfl rfl) ?_
    refine aa rfl rfl ?_
    refine nwq [3,0] rfl ?_
    exact at_weak_k (ih _ _ hF K) ⟨rfl,rfl,trivial⟩
   refine cf rfl h4 ?_
   refine at_exit ?_
   refine at_then_exit (at_then_exit ?_)
   obtain rfl:=of_some hF
   exact at_weak_k K trivial
 cases q2 with
 | ret r'=>exact of_some hF
 | nx sq2 =>
  skip
  refine at_blk_same ?_
  refine tn ?_
  refine sr ?_
  refine aa rfl rfl ?_
  refine nwq [2] rfl ?_
  refine at_ret ?_
  have K:=of_some hF
  subst K
  exact at_return1 rfl rfl (fun w1 hw=>⟨rfl,hw⟩)
def bytes_Equal (x0 : List Int) (x1 : List Int) : Option (Bool) :=
  some (seq (⟨(unb x0).toArray⟩ : ByteArray) (⟨(unb x1).toArray⟩ : ByteArray))
theorem bytes_Equal_ok (x0 : List Int) (p0_ : Option Addr) (c0_ : Nat) (x1 : List Int) (p1_ : Option Addr) (c1_ : Nat) (r : Bool) (hF : bytes_Equal x0 x1 = some r) (w : World) (hr0 : Row (cInt .u8) w p0_ c0_ x0) (hr1 : Row (cInt .u8) w p1_ c1_ x1) :
    Calls Tryz.prog 34 #[.slice p0_ x0.length c0_,.slice p1_ x1.length c1_] w (fun e w'=>e = .returned (.bool r) ∧ w' = w):=by
 unfold bytes_Equal at hF
 refine calls_enter (l:=[.slice p0_ x0.length c0_,.slice p1_ x1.length c1_]) func34 rfl rfl rfl ?_
 refine sr ?_
 refine aa rfl rfl ?_
 refine ns ?_
 refine am rfl rfl ?_
 refine av rfl (r_conv_bytes (xs:=(x0 : List Int)) underlying22 underlying5 underlying9 rfl (fun w1 hw=>(hr0.below (by subst hw; exact Below.refl _ _)))) ?_
 refine am rfl rfl ?_
 refine av rfl (r_conv_bytes (xs:=(x1 : List Int)) underlying22 underlying5 underlying9 rfl (fun w1 hw=>(hr1.below (by subst hw; exact Below.refl _ _)))) ?_
 refine av rfl (r_seql rfl rfl) ?_
 refine aa rfl rfl ?_
 refine nwq [4] rfl ?_
 refine at_ret ?_
 have K:=of_some hF
 subst K
 exact at_return1 rfl rfl (fun w1 hw=>⟨rfl,hw⟩)
def crawlwayref01_Same.l0 (x0 : List Int) (x1 : List Int) (i3 : Int) : Option (Ctl (Bool) (Unit)) :=
  if (decide (i3 < (x0.length : Int))) = true then (if (0 : Int) ≤ i3 ∧ i3 < (x0.length : Int) then if (0 : Int) ≤ i3 ∧ i3 < (x1.length : Int) then if (lget x0 i3 != lget x1 i3) = true then (some (.ret false)) else (crawlwayref01_Same.l0 x0 x1 (wr .i64 (i3 + 1))) else none else none) else (some (.nx ()))
  partial_fixpoint
def crawlwayref01_Same (x0 : List Int) (x1 : List Int) : Option (Bool) :=
  if ((x0.length : Int) != (x1.length : Int)) = true then (some false) else (crawlwayref01_Same.l0 x0 x1 0 >>= fun q2=>match q2 with | .ret r'=>some r' | .nx sq2=>(some true))
theorem crawlwayref01_Same_ok (x0 : List Int) (p0_ : Option Addr) (c0_ : Nat) (x1 : List Int) (p1_ : Option Addr) (c1_ : Nat) (r : Bool) (hF : crawlwayref01_Same x0 x1 = some r) (w : World) (hr0 : Row (cInt .u8) w p0_ c0_ x0) (hr1 : Row (cInt .u8) w p1_ c1_ x1) :
    Calls Tryz.prog 35 #[.slice p0_ x0.length c0_,.slice p1_ x1.length c1_] w (fun e w'=>e = .returned (.bool r) ∧ Below w.heap.size w w'):=by
 unfold crawlwayref01_Same at hF
 refine calls_enter (l:=[.slice p0_ x0.length c0_,.slice p1_ x1.length c1_]) func35 rfl rfl rfl ?_
 refine at_start ?_
 refine sr ?_
 refine aa rfl rfl ?_
 refine nt ?_
 refine at_seq ?_
 refine sr ?_
 refine am rfl rfl ?_
 refine av rfl (r_len_sl underlying22 rfl) ?_
 refine am rfl rfl ?_
 refine av rfl (r_len_sl underlying22 rfl) ?_
 refine av rfl (r_ineq rfl rfl) ?_
 refine nwq [10,1,0] rfl ?_
 rcases oi hF with ⟨h1,hF⟩|⟨h1,hF⟩
 ·refine ct rfl h1 ?_
  refine sr ?_
  refine aa rfl rfl ?_
  refine nwq [4] rfl ?_
  refine rt ?_
  have K:=of_some hF
  subst K
  exact at_return1 rfl rfl (fun w1 hw=>⟨rfl,hw.below⟩)
 refine cf rfl h1 ?_
 refine sn ?_
 refine at_seq ?_
 refine sr ?_
 refine aa rfl rfl ?_
 refine nwq [5,1,0] rfl ?_
 refine at_block ?_
 obtain ⟨q2,hq2,hF⟩:=of_bindM hF
 refine wq [5,1,0] rfl ?_
 refine at_loop_r (B:=0) (r:=r) (q:=q2) (A:=fun (_ : Unit) Y=>At 26 [] (Wd w []) Y) ?_ ?_
 ·intro K
  refine crawlwayref01_Same.l0.partial_correctness x0 x1 (motive:=fun i3 x=>KR (fun (_ : Unit) Y=>At 26 [] (Wd w []) Y) _ 0 r x → Round (fun Y=>At 26 [(0,.slice p0_ x0.length c0_),(1,.slice p1_ x1.length c1_),(5,.int .i64 i3)] (Wd w []) Y) _ _ _) ?_ _ _ hq2 K
  ·clear K hF
   intro g ih i3 x hF K
   refine at_round ?_
   refine at_seq ?_
   refine sr ?_
   refine am rfl rfl ?_
   refine am rfl rfl ?_
   refine av rfl (r_len_sl underlying22 rfl) ?_
   refine av rfl (r_ilss rfl rfl) ?_
   refine nwq [14,5,1,0] rfl ?_
   rcases oi hF with ⟨h4,hF⟩|⟨h4,hF⟩
   ·refine ct rfl h4 ?_
    refine sn ?_
    refine at_seq ?_
    refine at_block ?_
    refine at_seq ?_
    refine at_draw (by kernel_rfl) (by kernel_rfl) (fun _ h=>h.drew) ?_
    refine atq_val rfl rfl rfl (r_move rfl) ?_
    refine atq_val rfl rfl rfl (r_move rfl) ?_
    obtain ⟨h5,hF⟩:=of_guard hF
    obtain ⟨b7,o8,hp6⟩:=row_ptr hr0 h5
    refine atq_val rfl rfl rfl (r_idx underlying22 sizeOf5 rfl rfl h5 hp6) ?_
    refine atq_val rfl rfl rfl (r_load_cell isAgg5 rfl (row_cell0 (fun _ h=>h.below) hr0 h5 hp6 rfl)) ?_
    refine atq_val rfl rfl rfl (r_move rfl) ?_
    refine atq_val rfl rfl rfl (r_move rfl) ?_
    obtain ⟨h9,hF⟩:=of_guard hF
    obtain ⟨b11,o12,hp10⟩:=row_ptr hr1 h9
    refine atq_val rfl rfl rfl (r_idx underlying22 sizeOf5 rfl rfl h9 hp10) ?_
    refine atq_val rfl rfl rfl (r_load_cell isAgg5 rfl (row_cell0 (fun _ h=>h.below) hr1 h9 hp10 rfl)) ?_
    refine atq_val rfl rfl rfl (r_ineq rfl rfl) ?_
    refine atq_nil ?_
    refine wq [25,5,1,0] rfl ?_
    refine tn ?_
    rcases oi hF with ⟨h13,hF⟩|⟨h13,hF⟩
    ·refine ct rfl h13 ?_
     refine sr ?_
     refine aa rfl rfl ?_
     refine nwq [4] rfl ?_
     refine at_ret ?_
     refine at_blk_ret (at_then_ret (at_then_ret (at_blk_ret (at_then_ret ?_))))
     obtain rfl:=of_some hF
     subst K
     exact at_return1 rfl rfl (fun w1 hw=>⟨rfl,hw.below⟩)
    refine cf rfl h13 ?_
    refine at_skip ?_
    refine at_blk_normal (at_then_normal ?_)
    refine at_region ?_
    refine am rfl rfl ?_
    refine av rfl (r_iadd rfl rfl) ?_
    refine aa rfl rfl ?_
    refine nwq [5,1,0] rfl ?_
    exact at_weak_k (ih _ _ hF K) ⟨rfl,rfl,rfl,trivial⟩
   refine cf rfl h4 ?_
   refine at_exit ?_
   refine at_then_exit (at_then_exit ?_)
   obtain rfl:=of_some hF
   exact at_weak_k K trivial
 cases q2 with
 | ret r'=>exact of_some hF
 | nx sq2 =>
  skip
  refine at_blk_same ?_
  refine tn ?_
  refine sr ?_
  refine aa rfl rfl ?_
  refine nwq [4] rfl ?_
  refine at_ret ?_
  have K:=of_some hF
  subst K
  exact at_return1 rfl rfl (fun w1 hw=>⟨rfl,hw.below⟩)
def crawlwayref50_Same (x0 : S_api_Item) (x1 : S_api_Item) : Option (Bool) :=
  if (x0.f_Kind == x1.f_Kind) = true then (crawlwayref01_Same x0.f_Bytes x1.f_Bytes >>= fun t4=>if t4 = true then (if (decide (x0.f_From = x1.f_From)) = true then (crawlwayref01_Same x0.f_Result x1.f_Result >>= fun t7=>if t7 = true then (if (x0.f_Ok == x1.f_Ok) = true then (if (decide (x0.f_Key = x1.f_Key)) = true then (if (x0.f_Local == x1.f_Local) = true then (if (x0.f_Remote == x1.f_Remote) = true then (some (x0.f_Next == x1.f_Next)) else (some false)) else (some false)) else (some false)) else (some false)) else (some false)) else (some false)) else (some false)) else (some false)
theorem crawlwayref50_Same_ok (g0_ : G_api_Item) (x0 : S_api_Item) (g1_ : G_api_Item) (x1 : S_api_Item) (r : Bool) (hF : crawlwayref50_Same x0 x1 = some r) (w : World) (hn0 : N_api_Item w (g0_,x0)) (hn1 : N_api_Item w (g1_,x1)) :
    Calls Tryz.prog 13 #[.agg (Cd.cs c_api_Item (g0_,x0)).toArray,.agg (Cd.cs c_api_Item (g1_,x1)).toArray] w (fun e w'=>e = .returned (.bool r) ∧ Below w.heap.size w w'):=by
 unfold crawlwayref50_Same at hF
 refine calls_enter (l:=[.agg (Cd.cs c_api_Item (g0_,x0)).toArray,.agg (Cd.cs c_api_Item (g1_,x1)).toArray]) func13 rfl rfl rfl ?_
 refine at_start ?_
 refine sr ?_
 refine at_box (cs:=Cd.cs c_api_Item (g0_,x0)) rfl rfl rfl ?_
 intro b1
 refine at_box (cs:=Cd.cs c_api_Item (g1_,x1)) rfl rfl rfl ?_
 intro b2
 refine aa rfl rfl ?_
 refine nwx [3,2] rfl ?_
 refine fa 0 underlying33 rfl rfl sizeOf3 rfl rfl ?_
 refine av rfl (r_load_cell isAgg3 rfl (lens_cell0 (c:=(cInt .i64)) (y:=x0.f_Kind) (.s .z) (c_api_Item_f_Kind g0_ x0) rfl)) ?_
 refine fa 0 underlying33 rfl rfl sizeOf3 rfl rfl ?_
 refine av rfl (r_load_cell isAgg3 rfl (lens_cell0 (c:=(cInt .i64)) (y:=x1.f_Kind) .z (c_api_Item_f_Kind g1_ x1) rfl)) ?_
 refine av rfl (r_ieql rfl rfl) ?_
 refine am rfl rfl ?_
 rcases oi hF with ⟨h3,hF⟩|⟨h3,hF⟩
 ·refine at_fix (g:=10) rfl h3 ?_
  refine gy rfl rfl rfl ?_
  refine fa 1 underlying33 rfl rfl sizeOf22 rfl rfl ?_
  refine gy rfl rfl rfl ?_
  refine av rfl (r_load_cell isAgg22 rfl (lens_cell0 (c:=cHd) (y:=⟨g0_.1.1,List.length x0.f_Bytes,g0_.1.2⟩) (.s .z) (c_api_Item_f_Bytes g0_ x0) rfl)) ?_
  refine gy rfl rfl rfl ?_
  refine fa 1 underlying33 rfl rfl sizeOf22 rfl rfl ?_
  refine gy rfl rfl rfl ?_
  refine av rfl (r_load_cell isAgg22 rfl (lens_cell0 (c:=cHd) (y:=⟨g1_.1.1,List.length x1.f_Bytes,g1_.1.2⟩) .z (c_api_Item_f_Bytes g1_ x1) rfl)) ?_
  refine gy rfl rfl rfl ?_
  obtain ⟨t4,ht4,hF⟩:=of_bindM hF
  refine at_callB func35 rfl (by kernel_rfl) rfl rfl (fun w hw=>crawlwayref01_Same_ok _ _ _ _ _ _ _ ht4 w ((hn0).1.below hw.below) ((hn1).1.below hw.below)) ?_
  refine av rfl (r_pick rfl rfl rfl) ?_
  refine am rfl rfl ?_
  rcases oi hF with ⟨h5,hF⟩|⟨h5,hF⟩
  ·refine at_fix (g:=17) rfl h5 ?_
   refine gy rfl rfl rfl ?_
   refine fa 2 underlying33 rfl rfl sizeOf27 rfl rfl ?_
   refine gy rfl rfl rfl ?_
   refine av rfl (r_load_aggc (c:=c_api_Endpoint) (z:=x0.f_From) isAgg27 sizeOf27 rfl (lens_cell (.s .z) (c_api_Item_f_From g0_ x0))) ?_
   refine gy rfl rfl rfl ?_
   refine fa 2 underlying33 rfl rfl sizeOf27 rfl rfl ?_
   refine gy rfl rfl rfl ?_
   refine av rfl (r_load_aggc (c:=c_api_Endpoint) (z:=x1.f_From) isAgg27 sizeOf27 rfl (lens_cell .z (c_api_Item_f_From g1_ x1))) ?_
   refine gy rfl rfl rfl ?_
   refine av rfl (r_eqagg (c:=c_api_Endpoint) (a:=x0.f_From) (b:=x1.f_From) (eq_api_Endpoint_27) rfl Tryz.eqGuardType27 rfl rfl (.inl rfl) rfl) ?_
   refine av rfl (r_pick rfl rfl rfl) ?_
   refine am rfl rfl ?_
   rcases oi hF with ⟨h6,hF⟩|⟨h6,hF⟩
   ·refine at_fix (g:=24) rfl h6 ?_
    refine gy rfl rfl rfl ?_
    refine fa 20 underlying33 rfl rfl sizeOf22 rfl rfl ?_
    refine gy rfl rfl rfl ?_
    refine av rfl (r_load_cell isAgg22 rfl (lens_cell0 (c:=cHd) (y:=⟨g0_.2.1,List.length x0.f_Result,g0_.2.2⟩) (.s .z) (c_api_Item_f_Result g0_ x0) rfl)) ?_
    refine gy rfl rfl rfl ?_
    refine fa 20 underlying33 rfl rfl sizeOf22 rfl rfl ?_
    refine gy rfl rfl rfl ?_
    refine av rfl (r_load_cell isAgg22 rfl (lens_cell0 (c:=cHd) (y:=⟨g1_.2.1,List.length x1.f_Result,g1_.2.2⟩) .z (c_api_Item_f_Result g1_ x1) rfl)) ?_
    refine gy rfl rfl rfl ?_
    obtain ⟨t7,ht7,hF⟩:=of_bindM hF
    refine at_callB func35 rfl (by kernel_rfl) rfl rfl (fun w hw=>crawlwayref01_Same_ok _ _ _ _ _ _ _ ht7 w ((hn0).2.below hw.below) ((hn1).2.below hw.below)) ?_
    refine av rfl (r_pick rfl rfl rfl) ?_
    refine am rfl rfl ?_
    rcases oi hF with ⟨h8,hF⟩|⟨h8,hF⟩
    ·refine at_fix (g:=31) rfl h8 ?_
     refine gy rfl rfl rfl ?_
     refine fa 21 underlying33 rfl rfl sizeOf4 rfl rfl ?_
     refine gy rfl rfl rfl ?_
     refine av rfl (r_load_cell isAgg4 rfl (lens_cell0 (c:=cBool) (y:=x0.f_Ok) (.s .z) (c_api_Item_f_Ok g0_ x0) rfl)) ?_
     refine gy rfl rfl rfl ?_
     refine fa 21 underlying33 rfl rfl sizeOf4 rfl rfl ?_
     refine gy rfl rfl rfl ?_
     refine av rfl (r_load_cell isAgg4 rfl (lens_cell0 (c:=cBool) (y:=x1.f_Ok) .z (c_api_Item_f_Ok g1_ x1) rfl)) ?_
     refine gy rfl rfl rfl ?_
     refine av rfl (r_bool underlying4 rfl rfl (.inl rfl) rfl) ?_
     refine av rfl (r_pick rfl rfl rfl) ?_
     refine am rfl rfl ?_
     rcases oi hF with ⟨h9,hF⟩|⟨h9,hF⟩
     ·refine at_fix (g:=38) rfl h9 ?_
      refine gy rfl rfl rfl ?_
      refine fa 22 underlying33 rfl rfl sizeOf29 rfl rfl ?_
      refine gy rfl rfl rfl ?_
      refine av rfl (r_load_aggc (c:=(cVec (cInt .u8) 32 (by decide))) (z:=x0.f_Key) isAgg29 sizeOf29 rfl (lens_cell (.s .z) (c_api_Item_f_Key g0_ x0))) ?_
      refine gy rfl rfl rfl ?_
      refine fa 22 underlying33 rfl rfl sizeOf29 rfl rfl ?_
      refine gy rfl rfl rfl ?_
      refine av rfl (r_load_aggc (c:=(cVec (cInt .u8) 32 (by decide))) (z:=x1.f_Key) isAgg29 sizeOf29 rfl (lens_cell .z (c_api_Item_f_Key g1_ x1))) ?_
      refine gy rfl rfl rfl ?_
      refine av rfl (r_eqagg (c:=(cVec (cInt .u8) 32 (by decide))) (a:=x0.f_Key) (b:=x1.f_Key) (eqs_vec underlying29 infoT5 sizeOf5 isAgg5 (.inr rfl) (eqs_int underlying5)) rfl Tryz.eqGuardType29 rfl rfl (.inl rfl) rfl) ?_
      refine av rfl (r_pick rfl rfl rfl) ?_
      refine am rfl rfl ?_
      rcases oi hF with ⟨h10,hF⟩|⟨h10,hF⟩
      ·refine at_fix (g:=45) rfl h10 ?_
       refine gy rfl rfl rfl ?_
       refine fa 54 underlying33 rfl rfl sizeOf30 rfl rfl ?_
       refine gy rfl rfl rfl ?_
       refine av rfl (r_load_cell isAgg30 rfl (lens_cell0 (c:=(cInt .u32)) (y:=x0.f_Local) (.s .z) (c_api_Item_f_Local g0_ x0) rfl)) ?_
       refine gy rfl rfl rfl ?_
       refine fa 54 underlying33 rfl rfl sizeOf30 rfl rfl ?_
       refine gy rfl rfl rfl ?_
       refine av rfl (r_load_cell isAgg30 rfl (lens_cell0 (c:=(cInt .u32)) (y:=x1.f_Local) .z (c_api_Item_f_Local g1_ x1) rfl)) ?_
       refine gy rfl rfl rfl ?_
       refine av rfl (r_ieql rfl rfl) ?_
       refine av rfl (r_pick rfl rfl rfl) ?_
       refine am rfl rfl ?_
       rcases oi hF with ⟨h11,hF⟩|⟨h11,hF⟩
       ·refine at_fix (g:=52) rfl h11 ?_
        refine gy rfl rfl rfl ?_
        refine fa 55 underlying33 rfl rfl sizeOf30 rfl rfl ?_
        refine gy rfl rfl rfl ?_
        refine av rfl (r_load_cell isAgg30 rfl (lens_cell0 (c:=(cInt .u32)) (y:=x0.f_Remote) (.s .z) (c_api_Item_f_Remote g0_ x0) rfl)) ?_
        refine gy rfl rfl rfl ?_
        refine fa 55 underlying33 rfl rfl sizeOf30 rfl rfl ?_
        refine gy rfl rfl rfl ?_
        refine av rfl (r_load_cell isAgg30 rfl (lens_cell0 (c:=(cInt .u32)) (y:=x1.f_Remote) .z (c_api_Item_f_Remote g1_ x1) rfl)) ?_
        refine gy rfl rfl rfl ?_
        refine av rfl (r_ieql rfl rfl) ?_
        refine av rfl (r_pick rfl rfl rfl) ?_
        refine am rfl rfl ?_
        rcases oi hF with ⟨h12,hF⟩|⟨h12,hF⟩
        ·refine at_fix (g:=59) rfl h12 ?_
         refine gy rfl rfl rfl ?_
         refine fa 56 underlying33 rfl rfl sizeOf31 rfl rfl ?_
         refine gy rfl rfl rfl ?_
         refine av rfl (r_load_cell isAgg31 rfl (lens_cell0 (c:=(cInt .u64)) (y:=x0.f_Next) (.s .z) (c_api_Item_f_Next g0_ x0) rfl)) ?_
         refine gy rfl rfl rfl ?_
         refine fa 56 underlying33 rfl rfl sizeOf31 rfl rfl ?_
         refine gy rfl rfl rfl ?_
         refine av rfl (r_load_cell isAgg31 rfl (lens_cell0 (c:=(cInt .u64)) (y:=x1.f_Next) .z (c_api_Item_f_Next g1_ x1) rfl)) ?_
         refine gy rfl rfl rfl ?_
         refine av rfl (r_ieql rfl rfl) ?_
         refine av rfl (r_pick rfl rfl rfl) ?_
         refine aa rfl rfl ?_
         refine at_nil ?_
         refine dz ?_
         refine dz ?_
         refine wq [4] rfl ?_
         refine tn ?_
         refine at_ret ?_
         have K:=of_some hF
         subst K
         exact at_return1 rfl rfl (fun w1 hw=>⟨rfl,hw.below⟩)
        refine at_fix (g:=59) rfl h12 ?_
        refine gn rfl rfl rfl rfl rfl ?_
        refine gn rfl rfl rfl rfl rfl ?_
        refine gn rfl rfl rfl rfl rfl ?_
        refine gn rfl rfl rfl rfl rfl ?_
        refine gn rfl rfl rfl rfl rfl ?_
        refine av rfl (r_pick rfl rfl rfl) ?_
        refine aa rfl rfl ?_
        refine at_nil ?_
        refine dz ?_
        refine dz ?_
        refine wq [4] rfl ?_
        refine tn ?_
        refine at_ret ?_
        have K:=of_some hF
        subst K
        exact at_return1 rfl rfl (fun w1 hw=>⟨rfl,hw.below⟩)
       refine at_fix (g:=52) rfl h11 ?_
       refine gn rfl rfl rfl rfl rfl ?_
       refine gn rfl rfl rfl rfl rfl ?_
       refine gn rfl rfl rfl rfl rfl ?_
       refine gn rfl rfl rfl rfl rfl ?_
       refine gn rfl rfl rfl rfl rfl ?_
       refine av rfl (r_pick rfl rfl rfl) ?_
       refine am rfl rfl ?_
       refine gn rfl rfl rfl rfl rfl ?_
       refine gn rfl rfl rfl rfl rfl ?_
       refine gn rfl rfl rfl rfl rfl ?_
       refine gn rfl rfl rfl rfl rfl ?_
       refine gn rfl rfl rfl rfl rfl ?_
       refine av rfl (r_pick rfl rfl rfl) ?_
       refine aa rfl rfl ?_
       refine at_nil ?_
       refine dz ?_
       refine dz ?_
       refine wq [4] rfl ?_
       refine tn ?_
       refine at_ret ?_
       have K:=of_some hF
       subst K
       exact at_return1 rfl rfl (fun w1 hw=>⟨rfl,hw.below⟩)
      refine at_fix (g:=45) rfl h10 ?_
      refine gn rfl rfl rfl rfl rfl ?_
      refine gn rfl rfl rfl rfl rfl ?_
      refine gn rfl rfl rfl rfl rfl ?_
      refine gn rfl rfl rfl rfl rfl ?_
      refine gn rfl rfl rfl rfl rfl ?_
      refine av rfl (r_pick rfl rfl rfl) ?_
      refine am rfl rfl ?_
      refine gn rfl rfl rfl rfl rfl ?_
      refine gn rfl rfl rfl rfl rfl ?_
      refine gn rfl rfl rfl rfl rfl ?_
      refine gn rfl rfl rfl rfl rfl ?_
      refine gn rfl rfl rfl rfl rfl ?_
      refine av rfl (r_pick rfl rfl rfl) ?_
      refine am rfl rfl ?_
      refine gn rfl rfl rfl rfl rfl ?_
      refine gn rfl rfl rfl rfl rfl ?_
      refine gn rfl rfl rfl rfl rfl ?_
      refine gn rfl rfl rfl rfl rfl ?_
      refine gn rfl rfl rfl rfl rfl ?_
      refine av rfl (r_pick rfl rfl rfl) ?_
      refine aa rfl rfl ?_
      refine at_nil ?_
      refine dz ?_
      refine dz ?_
      refine wq [4] rfl ?_
      refine tn ?_
      refine at_ret ?_
      have K:=of_some hF
      subst K
      exact at_return1 rfl rfl (fun w1 hw=>⟨rfl,hw.below⟩)
     refine at_fix (g:=38) rfl h9 ?_
     refine gn rfl rfl rfl rfl rfl ?_
     refine gn rfl rfl rfl rfl rfl ?_
     refine gn rfl rfl rfl rfl rfl ?_
     refine gn rfl rfl rfl rfl rfl ?_
     refine gn rfl rfl rfl rfl rfl ?_
     refine av rfl (r_pick rfl rfl rfl) ?_
     refine am rfl rfl ?_
     refine gn rfl rfl rfl rfl rfl ?_
     refine gn rfl rfl rfl rfl rfl ?_
     refine gn rfl rfl rfl rfl rfl ?_
     refine gn rfl rfl rfl rfl rfl ?_
     refine gn rfl rfl rfl rfl rfl ?_
     refine av rfl (r_pick rfl rfl rfl) ?_
     refine am rfl rfl ?_
     refine gn rfl rfl rfl rfl rfl ?_
     refine gn rfl rfl rfl rfl rfl ?_
     refine gn rfl rfl rfl rfl rfl ?_
     refine gn rfl rfl rfl rfl rfl ?_
     refine gn rfl rfl rfl rfl rfl ?_
     refine av rfl (r_pick rfl rfl rfl) ?_
     refine am rfl rfl ?_
     refine gn rfl rfl rfl rfl rfl ?_
     refine gn rfl rfl rfl rfl rfl ?_
     refine gn rfl rfl rfl rfl rfl ?_
     refine gn rfl rfl rfl rfl rfl ?_
     refine gn rfl rfl rfl rfl rfl ?_
     refine av rfl (r_pick rfl rfl rfl) ?_
     refine aa rfl rfl ?_
     refine at_nil ?_
     refine dz ?_
     refine dz ?_
     refine wq [4] rfl ?_
     refine tn ?_
     refine at_ret ?_
     have K:=of_some hF
     subst K
     exact at_return1 rfl rfl (fun w1 hw=>⟨rfl,hw.below⟩)
    refine at_fix (g:=31) rfl h8 ?_
    refine gn rfl rfl rfl rfl rfl ?_
    refine gn rfl rfl rfl rfl rfl ?_
    refine gn rfl rfl rfl rfl rfl ?_
    refine gn rfl rfl rfl rfl rfl ?_
    refine gn rfl rfl rfl rfl rfl ?_
    refine av rfl (r_pick rfl rfl rfl) ?_
    refine am rfl rfl ?_
    refine gn rfl rfl rfl rfl rfl ?_
    refine gn rfl rfl rfl rfl rfl ?_
    refine gn rfl rfl rfl rfl rfl ?_
    refine gn rfl rfl rfl rfl rfl ?_
    refine gn rfl rfl rfl rfl rfl ?_
    refine av rfl (r_pick rfl rfl rfl) ?_
    refine am rfl rfl ?_
    refine gn rfl rfl rfl rfl rfl ?_
    refine gn rfl rfl rfl rfl rfl ?_
    refine gn rfl rfl rfl rfl rfl ?_
    refine gn rfl rfl rfl rfl rfl ?_
    refine gn rfl rfl rfl rfl rfl ?_
    refine av rfl (r_pick rfl rfl rfl) ?_
    refine am rfl rfl ?_
    refine gn rfl rfl rfl rfl rfl ?_
    refine gn rfl rfl rfl rfl rfl ?_
    refine gn rfl rfl rfl rfl rfl ?_
    refine gn rfl rfl rfl rfl rfl ?_
    refine gn rfl rfl rfl rfl rfl ?_
    refine av rfl (r_pick rfl rfl rfl) ?_
    refine am rfl rfl ?_
    refine gn rfl rfl rfl rfl rfl ?_
    refine gn rfl rfl rfl rfl rfl ?_
    refine gn rfl rfl rfl rfl rfl ?_
    refine gn rfl rfl rfl rfl rfl ?_
    refine gn rfl rfl rfl rfl rfl ?_
    refine av rfl (r_pick rfl rfl rfl) ?_
    refine aa rfl rfl ?_
    refine at_nil ?_
    refine dz ?_
    refine dz ?_
    refine wq [4] rfl ?_
    refine tn ?_
    refine at_ret ?_
    have K:=of_some hF
    subst K
    exact at_return1 rfl rfl (fun w1 hw=>⟨rfl,hw.below⟩)
   refine at_fix (g:=24) rfl h6 ?_
   refine gn rfl rfl rfl rfl rfl ?_
   refine gn rfl rfl rfl rfl rfl ?_
   refine gn rfl rfl rfl rfl rfl ?_
   refine gn rfl rfl rfl rfl rfl ?_
   refine gn rfl rfl rfl rfl rfl ?_
   refine av rfl (r_pick rfl rfl rfl) ?_
   refine am rfl rfl ?_
   refine gn rfl rfl rfl rfl rfl ?_
   refine gn rfl rfl rfl rfl rfl ?_
   refine gn rfl rfl rfl rfl rfl ?_
   refine gn rfl rfl rfl rfl rfl ?_
   refine gn rfl rfl rfl rfl rfl ?_
   refine av rfl (r_pick rfl rfl rfl) ?_
   refine am rfl rfl ?_
   refine gn rfl rfl rfl rfl rfl ?_
   refine gn rfl rfl rfl rfl rfl ?_
   refine gn rfl rfl rfl rfl rfl ?_
   refine gn rfl rfl rfl rfl rfl ?_
   refine gn rfl rfl rfl rfl rfl ?_
   refine av rfl (r_pick rfl rfl rfl) ?_
   refine am rfl rfl ?_
   refine gn rfl rfl rfl rfl rfl ?_
   refine gn rfl rfl rfl rfl rfl ?_
   refine gn rfl rfl rfl rfl rfl ?_
   refine gn rfl rfl rfl rfl rfl ?_
   refine gn rfl rfl rfl rfl rfl ?_
   refine av rfl (r_pick rfl rfl rfl) ?_
   refine am rfl rfl ?_
   refine gn rfl rfl rfl rfl rfl ?_
   refine gn rfl rfl rfl rfl rfl ?_
   refine gn rfl rfl rfl rfl rfl ?_
   refine gn rfl rfl rfl rfl rfl ?_
   refine gn rfl rfl rfl rfl rfl ?_
   refine av rfl (r_pick rfl rfl rfl) ?_
   refine am rfl rfl ?_
   refine gn rfl rfl rfl rfl rfl ?_
   refine gn rfl rfl rfl rfl rfl ?_
   refine gn rfl rfl rfl rfl rfl ?_
   refine gn rfl rfl rfl rfl rfl ?_
   refine gn rfl rfl rfl rfl rfl ?_
   refine av rfl (r_pick rfl rfl rfl) ?_
   refine aa rfl rfl ?_
   refine at_nil ?_
   refine dz ?_
   refine dz ?_
   refine wq [4] rfl ?_
   refine tn ?_
   refine at_ret ?_
   have K:=of_some hF
   subst K
   exact at_return1 rfl rfl (fun w1 hw=>⟨rfl,hw.below⟩)
  refine at_fix (g:=17) rfl h5 ?_
  refine gn rfl rfl rfl rfl rfl ?_
  refine gn rfl rfl rfl rfl rfl ?_
  refine gn rfl rfl rfl rfl rfl ?_
  refine gn rfl rfl rfl rfl rfl ?_
  refine gn rfl rfl rfl rfl rfl ?_
  refine av rfl (r_pick rfl rfl rfl) ?_
  refine am rfl rfl ?_
  refine gn rfl rfl rfl rfl rfl ?_
  refine gn rfl rfl rfl rfl rfl ?_
  refine gn rfl rfl rfl rfl rfl ?_
  refine gn rfl rfl rfl rfl rfl ?_
  refine gn rfl rfl rfl rfl rfl ?_
  refine av rfl (r_pick rfl rfl rfl) ?_
  refine am rfl rfl ?_
  refine gn rfl rfl rfl rfl rfl ?_
  refine gn rfl rfl rfl rfl rfl ?_
  refine gn rfl rfl rfl rfl rfl ?_
  refine gn rfl rfl rfl rfl rfl ?_
  refine gn rfl rfl rfl rfl rfl ?_
  refine av rfl (r_pick rfl rfl rfl) ?_
  refine am rfl rfl ?_
  refine gn rfl rfl rfl rfl rfl ?_
  refine gn rfl rfl rfl rfl rfl ?_
  refine gn rfl rfl rfl rfl rfl ?_
  refine gn rfl rfl rfl rfl rfl ?_
  refine gn rfl rfl rfl rfl rfl ?_
  refine av rfl (r_pick rfl rfl rfl) ?_
  refine am rfl rfl ?_
  refine gn rfl rfl rfl rfl rfl ?_
  refine gn rfl rfl rfl rfl rfl ?_
  refine gn rfl rfl rfl rfl rfl ?_
  refine gn rfl rfl rfl rfl rfl ?_
  refine gn rfl rfl rfl rfl rfl ?_
  refine av rfl (r_pick rfl rfl rfl) ?_
  refine am rfl rfl ?_
  refine gn rfl rfl rfl rfl rfl ?_
  refine gn rfl rfl rfl rfl rfl ?_
  refine gn rfl rfl rfl rfl rfl ?_
  refine gn rfl rfl rfl rfl rfl ?_
  refine gn rfl rfl rfl rfl rfl ?_
  refine av rfl (r_pick rfl rfl rfl) ?_
  refine am rfl rfl ?_
  refine gn rfl rfl rfl rfl rfl ?_
  refine gn rfl rfl rfl rfl rfl ?_
  refine gn rfl rfl rfl rfl rfl ?_
  refine gn rfl rfl rfl rfl rfl ?_
  refine gn rfl rfl rfl rfl rfl ?_
  refine av rfl (r_pick rfl rfl rfl) ?_
  refine aa rfl rfl ?_
  refine at_nil ?_
  refine dz ?_
  refine dz ?_
  refine wq [4] rfl ?_
  refine tn ?_
  refine at_ret ?_
  have K:=of_some hF
  subst K
  exact at_return1 rfl rfl (fun w1 hw=>⟨rfl,hw.below⟩)
 refine at_fix (g:=10) rfl h3 ?_
 refine gn rfl rfl rfl rfl rfl ?_
 refine gn rfl rfl rfl rfl rfl ?_
 refine gn rfl rfl rfl rfl rfl ?_
 refine gn rfl rfl rfl rfl rfl ?_
 refine gn rfl rfl rfl rfl rfl ?_
 refine av rfl (r_pick rfl rfl rfl) ?_
 refine am rfl rfl ?_
 refine gn rfl rfl rfl rfl rfl ?_
 refine gn rfl rfl rfl rfl rfl ?_
 refine gn rfl rfl rfl rfl rfl ?_
 refine gn rfl rfl rfl rfl rfl ?_
 refine gn rfl rfl rfl rfl rfl ?_
 refine av rfl (r_pick rfl rfl rfl) ?_
 refine am rfl rfl ?_
 refine gn rfl rfl rfl rfl rfl ?_
 refine gn rfl rfl rfl rfl rfl ?_
 refine gn rfl rfl rfl rfl rfl ?_
 refine gn rfl rfl rfl rfl rfl ?_
 refine gn rfl rfl rfl rfl rfl ?_
 refine av rfl (r_pick rfl rfl rfl) ?_
 refine am rfl rfl ?_
 refine gn rfl rfl rfl rfl rfl ?_
 refine gn rfl rfl rfl rfl rfl ?_
 refine gn rfl rfl rfl rfl rfl ?_
 refine gn rfl rfl rfl rfl rfl ?_
 refine gn rfl rfl rfl rfl rfl ?_
 refine av rfl (r_pick rfl rfl rfl) ?_
 refine am rfl rfl ?_
 refine gn rfl rfl rfl rfl rfl ?_
 refine gn rfl rfl rfl rfl rfl ?_
 refine gn rfl rfl rfl rfl rfl ?_
 refine gn rfl rfl rfl rfl rfl ?_
 refine gn rfl rfl rfl rfl rfl ?_
 refine av rfl (r_pick rfl rfl rfl) ?_
 refine am rfl rfl ?_
 refine gn rfl rfl rfl rfl rfl ?_
 refine gn rfl rfl rfl rfl rfl ?_
 refine gn rfl rfl rfl rfl rfl ?_
 refine gn rfl rfl rfl rfl rfl ?_
 refine gn rfl rfl rfl rfl rfl ?_
 refine av rfl (r_pick rfl rfl rfl) ?_
 refine am rfl rfl ?_
 refine gn rfl rfl rfl rfl rfl ?_
 refine gn rfl rfl rfl rfl rfl ?_
 refine gn rfl rfl rfl rfl rfl ?_
 refine gn rfl rfl rfl rfl rfl ?_
 refine gn rfl rfl rfl rfl rfl ?_
 refine av rfl (r_pick rfl rfl rfl) ?_
 refine am rfl rfl ?_
 refine gn rfl rfl rfl rfl rfl ?_
 refine gn rfl rfl rfl rfl rfl ?_
 refine gn rfl rfl rfl rfl rfl ?_
 refine gn rfl rfl rfl rfl rfl ?_
 refine gn rfl rfl rfl rfl rfl ?_
 refine av rfl (r_pick rfl rfl rfl) ?_
 refine aa rfl rfl ?_
 refine at_nil ?_
 refine dz ?_
 refine dz ?_
 refine wq [4] rfl ?_
 refine tn ?_
 refine at_ret ?_
 have K:=of_some hF
 subst K
 exact at_return1 rfl rfl (fun w1 hw=>⟨rfl,hw.below⟩)
def script_Same (x0 : S_api_Item) (x1 : S_api_Item) : Option (Bool) :=
  if (x0.f_Kind == x1.f_Kind) = true then (bytes_Equal x0.f_Bytes x1.f_Bytes >>= fun t4=>if t4 = true then (if (decide (x0.f_From = x1.f_From)) = true then (bytes_Equal x0.f_Result x1.f_Result >>= fun t7=>if t7 = true then (if (x0.f_Ok == x1.f_Ok) = true then (if (decide (x0.f_Key = x1.f_Key)) = true then (if (x0.f_Local == x1.f_Local) = true then (if (x0.f_Remote == x1.f_Remote) = true then (some (x0.f_Next == x1.f_Next)) else (some false)) else (some false)) else (some false)) else (some false)) else (some false)) else (some false)) else (some false)) else (some false)
theorem script_Same_ok (g0_ : G_api_Item) (x0 : S_api_Item) (g1_ : G_api_Item) (x1 : S_api_Item) (r : Bool) (hF : script_Same x0 x1 = some r) (w : World) (hn0 : N_api_Item w (g0_,x0)) (hn1 : N_api_Item w (g1_,x1)) :
    Calls Tryz.prog 12 #[.agg (Cd.cs c_api_Item (g0_,x0)).toArray,.agg (Cd.cs c_api_Item (g1_,x1)).toArray] w (fun e w'=>e = .returned (.bool r) ∧ Below w.heap.size w w'):=by
 unfold script_Same at hF
 refine calls_enter (l:=[.agg (Cd.cs c_api_Item (g0_,x0)).toArray,.agg (Cd.cs c_api_Item (g1_,x1)).toArray]) func12 rfl rfl rfl ?_
 refine at_start ?_
 refine sr ?_
 refine at_box (cs:=Cd.cs c_api_Item (g0_,x0)) rfl rfl rfl ?_
 intro b1
 refine at_box (cs:=Cd.cs c_api_Item (g1_,x1)) rfl rfl rfl ?_
 intro b2
 refine aa rfl rfl ?_
 refine nwx [3,2] rfl ?_
 refine fa 0 underlying33 rfl rfl sizeOf3 rfl rfl ?_
 refine av rfl (r_load_cell isAgg3 rfl (lens_cell0 (c:=(cInt .i64)) (y:=x0.f_Kind) (.s .z) (c_api_Item_f_Kind g0_ x0) rfl)) ?_
 refine fa 0 underlying33 rfl rfl sizeOf3 rfl rfl ?_
 refine av rfl (r_load_cell isAgg3 rfl (lens_cell0 (c:=(cInt .i64)) (y:=x1.f_Kind) .z (c_api_Item_f_Kind g1_ x1) rfl)) ?_
 refine av rfl (r_ieql rfl rfl) ?_
 refine am rfl rfl ?_
 rcases oi hF with ⟨h3,hF⟩|⟨h3,hF⟩
 ·refine at_fix (g:=10) rfl h3 ?_
  refine gy rfl rfl rfl ?_
  refine fa 1 underlying33 rfl rfl sizeOf22 rfl rfl ?_
  refine gy rfl rfl rfl ?_
  refine av rfl (r_load_cell isAgg22 rfl (lens_cell0 (c:=cHd) (y:=⟨g0_.1.1,List.length x0.f_Bytes,g0_.1.2⟩) (.s .z) (c_api_Item_f_Bytes g0_ x0) rfl)) ?_
  refine gy rfl rfl rfl ?_
  refine fa 1 underlying33 rfl rfl sizeOf22 rfl rfl ?_
  refine gy rfl rfl rfl ?_
  refine av rfl (r_load_cell isAgg22 rfl (lens_cell0 (c:=cHd) (y:=⟨g1_.1.1,List.length x1.f_Bytes,g1_.1.2⟩) .z (c_api_Item_f_Bytes g1_ x1) rfl)) ?_
  refine gy rfl rfl rfl ?_
  obtain ⟨t4,ht4,hF⟩:=of_bindM hF
  refine at_callB func34 rfl (by kernel_rfl) rfl rfl (fun w hw=>callB_of_call0 (bytes_Equal_ok _ _ _ _ _ _ _ ht4 w ((hn0).1.below hw.below) ((hn1).1.below hw.below))) ?_
  refine av rfl (r_pick rfl rfl rfl) ?_
  refine am rfl rfl ?_
  rcases oi hF with ⟨h5,hF⟩|⟨h5,hF⟩
  ·refine at_fix (g:=17) rfl h5 ?_
   refine gy rfl rfl rfl ?_
   refine fa 2 underlying33 rfl rfl sizeOf27 rfl rfl ?_
   refine gy rfl rfl rfl ?_
   refine av rfl (r_load_aggc (c:=c_api_Endpoint) (z:=x0.f_From) isAgg27 sizeOf27 rfl (lens_cell (.s .z) (c_api_Item_f_From g0_ x0))) ?_
   refine gy rfl rfl rfl ?_
   refine fa 2 underlying33 rfl rfl sizeOf27 rfl rfl ?_
   refine gy rfl rfl rfl ?_
   refine av rfl (r_load_aggc (c:=c_api_Endpoint) (z:=x1.f_From) isAgg27 sizeOf27 rfl (lens_cell .z (c_api_Item_f_From g1_ x1))) ?_
   refine gy rfl rfl rfl ?_
   refine av rfl (r_eqagg (c:=c_api_Endpoint) (a:=x0.f_From) (b:=x1.f_From) (eq_api_Endpoint_27) rfl Tryz.eqGuardType27 rfl rfl (.inl rfl) rfl) ?_
   refine av rfl (r_pick rfl rfl rfl) ?_
   refine am rfl rfl ?_
   rcases oi hF with ⟨h6,hF⟩|⟨h6,hF⟩
   ·refine at_fix (g:=24) rfl h6 ?_
    refine gy rfl rfl rfl ?_
    refine fa 20 underlying33 rfl rfl sizeOf22 rfl rfl ?_
    refine gy rfl rfl rfl ?_
    refine av rfl (r_load_cell isAgg22 rfl (lens_cell0 (c:=cHd) (y:=⟨g0_.2.1,List.length x0.f_Result,g0_.2.2⟩) (.s .z) (c_api_Item_f_Result g0_ x0) rfl)) ?_
    refine gy rfl rfl rfl ?_
    refine fa 20 underlying33 rfl rfl sizeOf22 rfl rfl ?_
    refine gy rfl rfl rfl ?_
    refine av rfl (r_load_cell isAgg22 rfl (lens_cell0 (c:=cHd) (y:=⟨g1_.2.1,List.length x1.f_Result,g1_.2.2⟩) .z (c_api_Item_f_Result g1_ x1) rfl)) ?_
    refine gy rfl rfl rfl ?_
    obtain ⟨t7,ht7,hF⟩:=of_bindM hF
    refine at_callB func34 rfl (by kernel_rfl) rfl rfl (fun w hw=>callB_of_call0 (bytes_Equal_ok _ _ _ _ _ _ _ ht7 w ((hn0).2.below hw.below) ((hn1).2.below hw.below))) ?_
    refine av rfl (r_pick rfl rfl rfl) ?_
    refine am rfl rfl ?_
    rcases oi hF with ⟨h8,hF⟩|⟨h8,hF⟩
    ·refine at_fix (g:=31) rfl h8 ?_
     refine gy rfl rfl rfl ?_
     refine fa 21 underlying33 rfl rfl sizeOf4 rfl rfl ?_
     refine gy rfl rfl rfl ?_
     refine av rfl (r_load_cell isAgg4 rfl (lens_cell0 (c:=cBool) (y:=x0.f_Ok) (.s .z) (c_api_Item_f_Ok g0_ x0) rfl)) ?_
     refine gy rfl rfl rfl ?_
     refine fa 21 underlying33 rfl rfl sizeOf4 rfl rfl ?_
     refine gy rfl rfl rfl ?_
     refine av rfl (r_load_cell isAgg4 rfl (lens_cell0 (c:=cBool) (y:=x1.f_Ok) .z (c_api_Item_f_Ok g1_ x1) rfl)) ?_
     refine gy rfl rfl rfl ?_
     refine av rfl (r_bool underlying4 rfl rfl (.inl rfl) rfl) ?_
     refine av rfl (r_pick rfl rfl rfl) ?_
     refine am rfl rfl ?_
     rcases oi hF with ⟨h9,hF⟩|⟨h9,hF⟩
     ·refine at_fix (g:=38) rfl h9 ?_
      refine gy rfl rfl rfl ?_
      refine fa 22 underlying33 rfl rfl sizeOf29 rfl rfl ?_
      refine gy rfl rfl rfl ?_
      refine av rfl (r_load_aggc (c:=(cVec (cInt .u8) 32 (by decide))) (z:=x0.f_Key) isAgg29 sizeOf29 rfl (lens_cell (.s .z) (c_api_Item_f_Key g0_ x0))) ?_
      refine gy rfl rfl rfl ?_
      refine fa 22 underlying33 rfl rfl sizeOf29 rfl rfl ?_
      refine gy rfl rfl rfl ?_
      refine av rfl (r_load_aggc (c:=(cVec (cInt .u8) 32 (by decide))) (z:=x1.f_Key) isAgg29 sizeOf29 rfl (lens_cell .z (c_api_Item_f_Key g1_ x1))) ?_
      refine gy rfl rfl rfl ?_
      refine av rfl (r_eqagg (c:=(cVec (cInt .u8) 32 (by decide))) (a:=x0.f_Key) (b:=x1.f_Key) (eqs_vec underlying29 infoT5 sizeOf5 isAgg5 (.inr rfl) (eqs_int underlying5)) rfl Tryz.eqGuardType29 rfl rfl (.inl rfl) rfl) ?_
      refine av rfl (r_pick rfl rfl rfl) ?_
      refine am rfl rfl ?_
      rcases oi hF with ⟨h10,hF⟩|⟨h10,hF⟩
      ·refine at_fix (g:=45) rfl h10 ?_
       refine gy rfl rfl rfl ?_
       refine fa 54 underlying33 rfl rfl sizeOf30 rfl rfl ?_
       refine gy rfl rfl rfl ?_
       refine av rfl (r_load_cell isAgg30 rfl (lens_cell0 (c:=(cInt .u32)) (y:=x0.f_Local) (.s .z) (c_api_Item_f_Local g0_ x0) rfl)) ?_
       refine gy rfl rfl rfl ?_
       refine fa 54 underlying33 rfl rfl sizeOf30 rfl rfl ?_
       refine gy rfl rfl rfl ?_
       refine av rfl (r_load_cell isAgg30 rfl (lens_cell0 (c:=(cInt .u32)) (y:=x1.f_Local) .z (c_api_Item_f_Local g1_ x1) rfl)) ?_
       refine gy rfl rfl rfl ?_
       refine av rfl (r_ieql rfl rfl) ?_
       refine av rfl (r_pick rfl rfl rfl) ?_
       refine am rfl rfl ?_
       rcases oi hF with ⟨h11,hF⟩|⟨h11,hF⟩
       ·refine at_fix (g:=52) rfl h11 ?_
        refine gy rfl rfl rfl ?_
        refine fa 55 underlying33 rfl rfl sizeOf30 rfl rfl ?_
        refine gy rfl rfl rfl ?_
        refine av rfl (r_load_cell isAgg30 rfl (lens_cell0 (c:=(cInt .u32)) (y:=x0.f_Remote) (.s .z) (c_api_Item_f_Remote g0_ x0) rfl)) ?_
        refine gy rfl rfl rfl ?_
        refine fa 55 underlying33 rfl rfl sizeOf30 rfl rfl ?_
        refine gy rfl rfl rfl ?_
        refine av rfl (r_load_cell isAgg30 rfl (lens_cell0 (c:=(cInt .u32)) (y:=x1.f_Remote) .z (c_api_Item_f_Remote g1_ x1) rfl)) ?_
        refine gy rfl rfl rfl ?_
        refine av rfl (r_ieql rfl rfl) ?_
        refine av rfl (r_pick rfl rfl rfl) ?_
        refine am rfl rfl ?_
        rcases oi hF with ⟨h12,hF⟩|⟨h12,hF⟩
        ·refine at_fix (g:=59) rfl h12 ?_
         refine gy rfl rfl rfl ?_
         refine fa 56 underlying33 rfl rfl sizeOf31 rfl rfl ?_
         refine gy rfl rfl rfl ?_
         refine av rfl (r_load_cell isAgg31 rfl (lens_cell0 (c:=(cInt .u64)) (y:=x0.f_Next) (.s .z) (c_api_Item_f_Next g0_ x0) rfl)) ?_
         refine gy rfl rfl rfl ?_
         refine fa 56 underlying33 rfl rfl sizeOf31 rfl rfl ?_
         refine gy rfl rfl rfl ?_
         refine av rfl (r_load_cell isAgg31 rfl (lens_cell0 (c:=(cInt .u64)) (y:=x1.f_Next) .z (c_api_Item_f_Next g1_ x1) rfl)) ?_
         refine gy rfl rfl rfl ?_
         refine av rfl (r_ieql rfl rfl) ?_
         refine av rfl (r_pick rfl rfl rfl) ?_
         refine aa rfl rfl ?_
         refine at_nil ?_
         refine dz ?_
         refine dz ?_
         refine wq [4] rfl ?_
         refine tn ?_
         refine at_ret ?_
         have K:=of_some hF
         subst K
         exact at_return1 rfl rfl (fun w1 hw=>⟨rfl,hw.below⟩)
        refine at_fix (g:=59) rfl h12 ?_
        refine gn rfl rfl rfl rfl rfl ?_
        refine gn rfl rfl rfl rfl rfl ?_
        refine gn rfl rfl rfl rfl rfl ?_
        refine gn rfl rfl rfl rfl rfl ?_
        refine gn rfl rfl rfl rfl rfl ?_
        refine av rfl (r_pick rfl rfl rfl) ?_
        refine aa rfl rfl ?_
        refine at_nil ?_
        refine dz ?_
        refine dz ?_
        refine wq [4] rfl ?_
        refine tn ?_
        refine at_ret ?_
        have K:=of_some hF
        subst K
        exact at_return1 rfl rfl (fun w1 hw=>⟨rfl,hw.below⟩)
       refine at_fix (g:=52) rfl h11 ?_
       refine gn rfl rfl rfl rfl rfl ?_
       refine gn rfl rfl rfl rfl rfl ?_
       refine gn rfl rfl rfl rfl rfl ?_
       refine gn rfl rfl rfl rfl rfl ?_
       refine gn rfl rfl rfl rfl rfl ?_
       refine av rfl (r_pick rfl rfl rfl) ?_
       refine am rfl rfl ?_
       refine gn rfl rfl rfl rfl rfl ?_
       refine gn rfl rfl rfl rfl rfl ?_
       refine gn rfl rfl rfl rfl rfl ?_
       refine gn rfl rfl rfl rfl rfl ?_
       refine gn rfl rfl rfl rfl rfl ?_
       refine av rfl (r_pick rfl rfl rfl) ?_
       refine aa rfl rfl ?_
       refine at_nil ?_
       refine dz ?_
       refine dz ?_
       refine wq [4] rfl ?_
       refine tn ?_
       refine at_ret ?_
       have K:=of_some hF
       subst K
       exact at_return1 rfl rfl (fun w1 hw=>⟨rfl,hw.below⟩)
      refine at_fix (g:=45) rfl h10 ?_
      refine gn rfl rfl rfl rfl rfl ?_
      refine gn rfl rfl rfl rfl rfl ?_
      refine gn rfl rfl rfl rfl rfl ?_
      refine gn rfl rfl rfl rfl rfl ?_
      refine gn rfl rfl rfl rfl rfl ?_
      refine av rfl (r_pick rfl rfl rfl) ?_
      refine am rfl rfl ?_
      refine gn rfl rfl rfl rfl rfl ?_
      refine gn rfl rfl rfl rfl rfl ?_
      refine gn rfl rfl rfl rfl rfl ?_
      refine gn rfl rfl rfl rfl rfl ?_
      refine gn rfl rfl rfl rfl rfl ?_
      refine av rfl (r_pick rfl rfl rfl) ?_
      refine am rfl rfl ?_
      refine gn rfl rfl rfl rfl rfl ?_
      refine gn rfl rfl rfl rfl rfl ?_
      refine gn rfl rfl rfl rfl rfl ?_
      refine gn rfl rfl rfl rfl rfl ?_
      refine gn rfl rfl rfl rfl rfl ?_
      refine av rfl (r_pick rfl rfl rfl) ?_
      refine aa rfl rfl ?_
      refine at_nil ?_
      refine dz ?_
      refine dz ?_
      refine wq [4] rfl ?_
      refine tn ?_
      refine at_ret ?_
      have K:=of_some hF
      subst K
      exact at_return1 rfl rfl (fun w1 hw=>⟨rfl,hw.below⟩)
     refine at_fix (g:=38) rfl h9 ?_
     refine gn rfl rfl rfl rfl rfl ?_
     refine gn rfl rfl rfl rfl rfl ?_
     refine gn rfl rfl rfl rfl rfl ?_
     refine gn rfl rfl rfl rfl rfl ?_
     refine gn rfl rfl rfl rfl rfl ?_
     refine av rfl (r_pick rfl rfl rfl) ?_
     refine am rfl rfl ?_
     refine gn rfl rfl rfl rfl rfl ?_
     refine gn rfl rfl rfl rfl rfl ?_
     refine gn rfl rfl rfl rfl rfl ?_
     refine gn rfl rfl rfl rfl rfl ?_
     refine gn rfl rfl rfl rfl rfl ?_
     refine av rfl (r_pick rfl rfl rfl) ?_
     refine am rfl rfl ?_
     refine gn rfl rfl rfl rfl rfl ?_
     refine gn rfl rfl rfl rfl rfl ?_
     refine gn rfl rfl rfl rfl rfl ?_
     refine gn rfl rfl rfl rfl rfl ?_
     refine gn rfl rfl rfl rfl rfl ?_
     refine av rfl (r_pick rfl rfl rfl) ?_
     refine am rfl rfl ?_
     refine gn rfl rfl rfl rfl rfl ?_
     refine gn rfl rfl rfl rfl rfl ?_
     refine gn rfl rfl rfl rfl rfl ?_
     refine gn rfl rfl rfl rfl rfl ?_
     refine gn rfl rfl rfl rfl rfl ?_
     refine av rfl (r_pick rfl rfl rfl) ?_
     refine aa rfl rfl ?_
     refine at_nil ?_
     refine dz ?_
     refine dz ?_
     refine wq [4] rfl ?_
     refine tn ?_
     refine at_ret ?_
     have K:=of_some hF
     subst K
     exact at_return1 rfl rfl (fun w1 hw=>⟨rfl,hw.below⟩)
    refine at_fix (g:=31) rfl h8 ?_
    refine gn rfl rfl rfl rfl rfl ?_
    refine gn rfl rfl rfl rfl rfl ?_
    refine gn rfl rfl rfl rfl rfl ?_
    refine gn rfl rfl rfl rfl rfl ?_
    refine gn rfl rfl rfl rfl rfl ?_
    refine av rfl (r_pick rfl rfl rfl) ?_
    refine am rfl rfl ?_
    refine gn rfl rfl rfl rfl rfl ?_
    refine gn rfl rfl rfl rfl rfl ?_
    refine gn rfl rfl rfl rfl rfl ?_
    refine gn rfl rfl rfl rfl rfl ?_
    refine gn rfl rfl rfl rfl rfl ?_
    refine av rfl (r_pick rfl rfl rfl) ?_
    refine am rfl rfl ?_
    refine gn rfl rfl rfl rfl rfl ?_
    refine gn rfl rfl rfl rfl rfl ?_
    refine gn rfl rfl rfl rfl rfl ?_
    refine gn rfl rfl rfl rfl rfl ?_
    refine gn rfl rfl rfl rfl rfl ?_
    refine av rfl (r_pick rfl rfl rfl) ?_
    refine am rfl rfl ?_
    refine gn rfl rfl rfl rfl rfl ?_
    refine gn rfl rfl rfl rfl rfl ?_
    refine gn rfl rfl rfl rfl rfl ?_
    refine gn rfl rfl rfl rfl rfl ?_
    refine gn rfl rfl rfl rfl rfl ?_
    refine av rfl (r_pick rfl rfl rfl) ?_
    refine am rfl rfl ?_
    refine gn rfl rfl rfl rfl rfl ?_
    refine gn rfl rfl rfl rfl rfl ?_
    refine gn rfl rfl rfl rfl rfl ?_
    refine gn rfl rfl rfl rfl rfl ?_
    refine gn rfl rfl rfl rfl rfl ?_
    refine av rfl (r_pick rfl rfl rfl) ?_
    refine aa rfl rfl ?_
    refine at_nil ?_
    refine dz ?_
    refine dz ?_
    refine wq [4] rfl ?_
    refine tn ?_
    refine at_ret ?_
    have K:=of_some hF
    subst K
    exact at_return1 rfl rfl (fun w1 hw=>⟨rfl,hw.below⟩)
   refine at_fix (g:=24) rfl h6 ?_
   refine gn rfl rfl rfl rfl rfl ?_
   refine gn rfl rfl rfl rfl rfl ?_
   refine gn rfl rfl rfl rfl rfl ?_
   refine gn rfl rfl rfl rfl rfl ?_
   refine gn rfl rfl rfl rfl rfl ?_
   refine av rfl (r_pick rfl rfl rfl) ?_
   refine am rfl rfl ?_
   refine gn rfl rfl rfl rfl rfl ?_
   refine gn rfl rfl rfl rfl rfl ?_
   refine gn rfl rfl rfl rfl rfl ?_
   refine gn rfl rfl rfl rfl rfl ?_
   refine gn rfl rfl rfl rfl rfl ?_
   refine av rfl (r_pick rfl rfl rfl) ?_
   refine am rfl rfl ?_
   refine gn rfl rfl rfl rfl rfl ?_
   refine gn rfl rfl rfl rfl rfl ?_
   refine gn rfl rfl rfl rfl rfl ?_
   refine gn rfl rfl rfl rfl rfl ?_
   refine gn rfl rfl rfl rfl rfl ?_
   refine av rfl (r_pick rfl rfl rfl) ?_
   refine am rfl rfl ?_
   refine gn rfl rfl rfl rfl rfl ?_
   refine gn rfl rfl rfl rfl rfl ?_
   refine gn rfl rfl rfl rfl rfl ?_
   refine gn rfl rfl rfl rfl rfl ?_
   refine gn rfl rfl rfl rfl rfl ?_
   refine av rfl (r_pick rfl rfl rfl) ?_
   refine am rfl rfl ?_
   refine gn rfl rfl rfl rfl rfl ?_
   refine gn rfl rfl rfl rfl rfl ?_
   refine gn rfl rfl rfl rfl rfl ?_
   refine gn rfl rfl rfl rfl rfl ?_
   refine gn rfl rfl rfl rfl rfl ?_
   refine av rfl (r_pick rfl rfl rfl) ?_
   refine am rfl rfl ?_
   refine gn rfl rfl rfl rfl rfl ?_
   refine gn rfl rfl rfl rfl rfl ?_
   refine gn rfl rfl rfl rfl rfl ?_
   refine gn rfl rfl rfl rfl rfl ?_
   refine gn rfl rfl rfl rfl rfl ?_
   refine av rfl (r_pick rfl rfl rfl) ?_
   refine aa rfl rfl ?_
   refine at_nil ?_
   refine dz ?_
   refine dz ?_
   refine wq [4] rfl ?_
   refine tn ?_
   refine at_ret ?_
   have K:=of_some hF
   subst K
   exact at_return1 rfl rfl (fun w1 hw=>⟨rfl,hw.below⟩)
  refine at_fix (g:=17) rfl h5 ?_
  refine gn rfl rfl rfl rfl rfl ?_
  refine gn rfl rfl rfl rfl rfl ?_
  refine gn rfl rfl rfl rfl rfl ?_
  refine gn rfl rfl rfl rfl rfl ?_
  refine gn rfl rfl rfl rfl rfl ?_
  refine av rfl (r_pick rfl rfl rfl) ?_
  refine am rfl rfl ?_
  refine gn rfl rfl rfl rfl rfl ?_
  refine gn rfl rfl rfl rfl rfl ?_
  refine gn rfl rfl rfl rfl rfl ?_
  refine gn rfl rfl rfl rfl rfl ?_
  refine gn rfl rfl rfl rfl rfl ?_
  refine av rfl (r_pick rfl rfl rfl) ?_
  refine am rfl rfl ?_
  refine gn rfl rfl rfl rfl rfl ?_
  refine gn rfl rfl rfl rfl rfl ?_
  refine gn rfl rfl rfl rfl rfl ?_
  refine gn rfl rfl rfl rfl rfl ?_
  refine gn rfl rfl rfl rfl rfl ?_
  refine av rfl (r_pick rfl rfl rfl) ?_
  refine am rfl rfl ?_
  refine gn rfl rfl rfl rfl rfl ?_
  refine gn rfl rfl rfl rfl rfl ?_
  refine gn rfl rfl rfl rfl rfl ?_
  refine gn rfl rfl rfl rfl rfl ?_
  refine gn rfl rfl rfl rfl rfl ?_
  refine av rfl (r_pick rfl rfl rfl) ?_
  refine am rfl rfl ?_
  refine gn rfl rfl rfl rfl rfl ?_
  refine gn rfl rfl rfl rfl rfl ?_
  refine gn rfl rfl rfl rfl rfl ?_
  refine gn rfl rfl rfl rfl rfl ?_
  refine gn rfl rfl rfl rfl rfl ?_
  refine av rfl (r_pick rfl rfl rfl) ?_
  refine am rfl rfl ?_
  refine gn rfl rfl rfl rfl rfl ?_
  refine gn rfl rfl rfl rfl rfl ?_
  refine gn rfl rfl rfl rfl rfl ?_
  refine gn rfl rfl rfl rfl rfl ?_
  refine gn rfl rfl rfl rfl rfl ?_
  refine av rfl (r_pick rfl rfl rfl) ?_
  refine am rfl rfl ?_
  refine gn rfl rfl rfl rfl rfl ?_
  refine gn rfl rfl rfl rfl rfl ?_
  refine gn rfl rfl rfl rfl rfl ?_
  refine gn rfl rfl rfl rfl rfl ?_
  refine gn rfl rfl rfl rfl rfl ?_
  refine av rfl (r_pick rfl rfl rfl) ?_
  refine aa rfl rfl ?_
  refine at_nil ?_
  refine dz ?_
  refine dz ?_
  refine wq [4] rfl ?_
  refine tn ?_
  refine at_ret ?_
  have K:=of_some hF
  subst K
  exact at_return1 rfl rfl (fun w1 hw=>⟨rfl,hw.below⟩)
 refine at_fix (g:=10) rfl h3 ?_
 refine gn rfl rfl rfl rfl rfl ?_
 refine gn rfl rfl rfl rfl rfl ?_
 refine gn rfl rfl rfl rfl rfl ?_
 refine gn rfl rfl rfl rfl rfl ?_
 refine gn rfl rfl rfl rfl rfl ?_
 refine av rfl (r_pick rfl rfl rfl) ?_
 refine am rfl rfl ?_
 refine gn rfl rfl rfl rfl rfl ?_
 refine gn rfl rfl rfl rfl rfl ?_
 refine gn rfl rfl rfl rfl rfl ?_
 refine gn rfl rfl rfl rfl rfl ?_
 refine gn rfl rfl rfl rfl rfl ?_
 refine av rfl (r_pick rfl rfl rfl) ?_
 refine am rfl rfl ?_
 refine gn rfl rfl rfl rfl rfl ?_
 refine gn rfl rfl rfl rfl rfl ?_
 refine gn rfl rfl rfl rfl rfl ?_
 refine gn rfl rfl rfl rfl rfl ?_
 refine gn rfl rfl rfl rfl rfl ?_
 refine av rfl (r_pick rfl rfl rfl) ?_
 refine am rfl rfl ?_
 refine gn rfl rfl rfl rfl rfl ?_
 refine gn rfl rfl rfl rfl rfl ?_
 refine gn rfl rfl rfl rfl rfl ?_
 refine gn rfl rfl rfl rfl rfl ?_
 refine gn rfl rfl rfl rfl rfl ?_
 refine av rfl (r_pick rfl rfl rfl) ?_
 refine am rfl rfl ?_
 refine gn rfl rfl rfl rfl rfl ?_
 refine gn rfl rfl rfl rfl rfl ?_
 refine gn rfl rfl rfl rfl rfl ?_
 refine gn rfl rfl rfl rfl rfl ?_
 refine gn rfl rfl rfl rfl rfl ?_
 refine av rfl (r_pick rfl rfl rfl) ?_
 refine am rfl rfl ?_
 refine gn rfl rfl rfl rfl rfl ?_
 refine gn rfl rfl rfl rfl rfl ?_
 refine gn rfl rfl rfl rfl rfl ?_
 refine gn rfl rfl rfl rfl rfl ?_
 refine gn rfl rfl rfl rfl rfl ?_
 refine av rfl (r_pick rfl rfl rfl) ?_
 refine am rfl rfl ?_
 refine gn rfl rfl rfl rfl rfl ?_
 refine gn rfl rfl rfl rfl rfl ?_
 refine gn rfl rfl rfl rfl rfl ?_
 refine gn rfl rfl rfl rfl rfl ?_
 refine gn rfl rfl rfl rfl rfl ?_
 refine av rfl (r_pick rfl rfl rfl) ?_
 refine am rfl rfl ?_
 refine gn rfl rfl rfl rfl rfl ?_
 refine gn rfl rfl rfl rfl rfl ?_
 refine gn rfl rfl rfl rfl rfl ?_
 refine gn rfl rfl rfl rfl rfl ?_
 refine gn rfl rfl rfl rfl rfl ?_
 refine av rfl (r_pick rfl rfl rfl) ?_
 refine aa rfl rfl ?_
 refine at_nil ?_
 refine dz ?_
 refine dz ?_
 refine wq [4] rfl ?_
 refine tn ?_
 refine at_ret ?_
 have K:=of_some hF
 subst K
 exact at_return1 rfl rfl (fun w1 hw=>⟨rfl,hw.below⟩)
def script_word (x0 : List Int) : Option (ByteArray) :=
  if ((x0.length : Int) == 0) = true then (some (⟨#[45]⟩)) else (hexes_Encode x0 >>= fun t2=>some t2)
theorem script_word_ok (x0 : List Int) (p0_ : Option Addr) (c0_ : Nat) (r : ByteArray) (hF : script_word x0 = some r) (w : World) (hr0 : Row (cInt .u8) w p0_ c0_ x0) :
    Calls Tryz.prog 126 #[.slice p0_ x0.length c0_] w (fun e w'=>e = .returned (.string r) ∧ Below w.heap.size w w'):=by
 unfold script_word at hF
 refine calls_enter (l:=[.slice p0_ x0.length c0_]) func126 rfl rfl rfl ?_
 refine at_start ?_
 refine sr ?_
 refine aa rfl rfl ?_
 refine nt ?_
 refine at_seq ?_
 refine sr ?_
 refine am rfl rfl ?_
 refine av rfl (r_len_sl underlying22 rfl) ?_
 refine av rfl (r_ieql rfl rfl) ?_
 refine nwq [5,0] rfl ?_
 rcases oi hF with ⟨h1,hF⟩|⟨h1,hF⟩
 ·refine ct rfl h1 ?_
  refine sr ?_
  refine aa rfl rfl ?_
  refine nwq [2] rfl ?_
  refine rt ?_
  have K:=of_some hF
  subst K
  exact at_return1 rfl rfl (fun w1 hw=>⟨rfl,hw.below⟩)
 refine cf rfl h1 ?_
 refine sns ?_
 refine am rfl rfl ?_
 obtain ⟨t2,ht2,hF⟩:=of_bindM hF
 refine at_callB func153 rfl (by kernel_rfl) rfl rfl (fun w hw=>hexes_Encode_ok _ _ _ _ ht2 w (hr0.below hw.below)) ?_
 refine aa rfl rfl ?_
 refine nwq [2] rfl ?_
 refine at_ret ?_
 have K:=of_some hF
 subst K
 exact at_return1 rfl rfl (fun w1 hw=>⟨rfl,hw.below⟩)
def crawlwayref50_word (x0 : List Int) : Option (ByteArray) :=
  if ((x0.length : Int) == 0) = true then (some (⟨#[45]⟩)) else (crawlwayref05_Encode x0 >>= fun t2=>some t2)
theorem crawlwayref50_word_ok (x0 : List Int) (p0_ : Option Addr) (c0_ : Nat) (r : ByteArray) (hF : crawlwayref50_word x0 = some r) (w : World) (hr0 : Row (cInt .u8) w p0_ c0_ x0) :
    Calls Tryz.prog 50 #[.slice p0_ x0.length c0_] w (fun e w'=>e = .returned (.string r) ∧ Below w.heap.size w w'):=by
 unfold crawlwayref50_word at hF
 refine calls_enter (l:=[.slice p0_ x0.length c0_]) func50 rfl rfl rfl ?_
 refine at_start ?_
 refine sr ?_
 refine aa rfl rfl ?_
 refine nt ?_
 refine at_seq ?_
 refine sr ?_
 refine am rfl rfl ?_
 refine av rfl (r_len_sl underlying22 rfl) ?_
 refine av rfl (r_ieql rfl rfl) ?_
 refine nwq [5,0] rfl ?_
 rcases oi hF with ⟨h1,hF⟩|⟨h1,hF⟩
 ·refine ct rfl h1 ?_
  refine sr ?_
  refine aa rfl rfl ?_
  refine nwq [2] rfl ?_
  refine rt ?_
  have K:=of_some hF
  subst K
  exact at_return1 rfl rfl (fun w1 hw=>⟨rfl,hw.below⟩)
 refine cf rfl h1 ?_
 refine sns ?_
 refine am rfl rfl ?_
 obtain ⟨t2,ht2,hF⟩:=of_bindM hF
 refine at_callB func53 rfl (by kernel_rfl) rfl rfl (fun w hw=>crawlwayref05_Encode_ok _ _ _ _ ht2 w (hr0.below hw.below)) ?_
 refine aa rfl rfl ?_
 refine nwq [2] rfl ?_
 refine at_ret ?_
 have K:=of_some hF
 subst K
 exact at_return1 rfl rfl (fun w1 hw=>⟨rfl,hw.below⟩)
def crawlwayref50_answer (x0 : S_api_Item) : Option (ByteArray) :=
  if (!x0.f_Ok) = true then (some (⟨#[33]⟩)) else (crawlwayref50_word x0.f_Result >>= fun t3=>some t3)
theorem crawlwayref50_answer_ok (g0_ : G_api_Item) (x0 : S_api_Item) (r : ByteArray) (hF : crawlwayref50_answer x0 = some r) (w : World) (hn0 : N_api_Item w (g0_,x0)) :
    Calls Tryz.prog 51 #[.agg (Cd.cs c_api_Item (g0_,x0)).toArray] w (fun e w'=>e = .returned (.string r) ∧ Below w.heap.size w w'):=by
 unfold crawlwayref50_answer at hF
 refine calls_enter (l:=[.agg (Cd.cs c_api_Item (g0_,x0)).toArray]) func51 rfl rfl rfl ?_
 refine at_start ?_
 refine sr ?_
 refine at_box (cs:=Cd.cs c_api_Item (g0_,x0)) rfl rfl rfl ?_
 intro b1
 refine aa rfl rfl ?_
 refine nt ?_
 refine at_seq ?_
 refine sr ?_
 refine fa 21 underlying33 rfl rfl sizeOf4 rfl rfl ?_
 refine av rfl (r_load_cell isAgg4 rfl (lens_cell0 (c:=cBool) (y:=x0.f_Ok) .z (c_api_Item_f_Ok g0_ x0) rfl)) ?_
 refine av rfl (r_not rfl) ?_
 refine nwq [5,1] rfl ?_
 rcases oi hF with ⟨h2,hF⟩|⟨h2,hF⟩
 ·refine ct rfl h2 ?_
  refine sr ?_
  refine aa rfl rfl ?_
  refine at_nil ?_
  refine dz ?_
  refine wq [2] rfl ?_
  refine tn ?_
  refine rt ?_
  have K:=of_some hF
  subst K
  exact at_return1 rfl rfl (fun w1 hw=>⟨rfl,hw.below⟩)
 refine cf rfl h2 ?_
 refine sns ?_
 refine fa 20 underlying33 rfl rfl sizeOf22 rfl rfl ?_
 refine av rfl (r_load_cell isAgg22 rfl (lens_cell0 (c:=cHd) (y:=⟨g0_.2.1,List.length x0.f_Result,g0_.2.2⟩) .z (c_api_Item_f_Result g0_ x0) rfl)) ?_
 obtain ⟨t3,ht3,hF⟩:=of_bindM hF
 refine at_callB func50 rfl (by kernel_rfl) rfl rfl (fun w hw=>crawlwayref50_word_ok _ _ _ _ ht3 w ((hn0).2.below hw.below)) ?_
 refine aa rfl rfl ?_
 refine at_nil ?_
 refine dz ?_
 refine wq [2] rfl ?_
 refine tn ?_
 refine at_ret ?_
 have K:=of_some hF
 subst K
 exact at_return1 rfl rfl (fun w1 hw=>⟨rfl,hw.below⟩)
def script_unword (x0 : ByteArray) : Option (List Int × Int) :=
  if (seq x0 (⟨#[45]⟩ : ByteArray)) = true then (some ([],0)) else (if (seq x0 (⟨#[]⟩ : ByteArray)) = true then (some ([],5)) else (hexes_Decode x0 >>= fun t3=>some (t3.1,t3.2)))
theorem script_unword_ok (x0 : ByteArray) (r : List Int × Int) (hF : script_unword x0 = some r) (w : World) :
    Calls Tryz.prog 128 #[.string x0] w (fun e w'=>∃ p cap,e = .returned (.tuple #[.slice p r.1.length cap,.int .i64 r.2]) ∧ Own (cInt .u8) 5 w.heap.size w' p cap r.1 ∧ Below w.heap.size w w'):=by
 unfold script_unword at hF
 refine calls_enter (l:=[.string x0]) func128 rfl rfl rfl ?_
 refine at_start ?_
 refine sr ?_
 refine aa rfl rfl ?_
 refine aa rfl rfl ?_
 refine nt ?_
 refine at_seq ?_
 refine sr ?_
 refine am rfl rfl ?_
 refine nwq [4,0] rfl ?_
 refine at_block ?_
 refine sr ?_
 refine av rfl (r_seql rfl rfl) ?_
 refine aa rfl rfl ?_
 refine nwq [5,4,0] rfl ?_
 rcases oi hF with ⟨h1,hF⟩|⟨h1,hF⟩
 ·refine ct rfl h1 ?_
  refine sr ?_
  refine aa rfl rfl ?_
  refine aa rfl rfl ?_
  refine nwq [3,2] rfl ?_
  refine at_ret ?_
  refine at_blk_ret (at_then_ret ?_)
  have K:=of_some hF
  subst K
  exact at_return2 rfl rfl rfl (fun w1 hw=>⟨none,0,rfl,Own.nil _ _ _ _,hw.below⟩)
 refine cf rfl h1 ?_
 refine sr ?_
 refine av rfl (r_seql rfl rfl) ?_
 refine aa rfl rfl ?_
 refine nwq [7,0] rfl ?_
 rcases oi hF with ⟨h2,hF⟩|⟨h2,hF⟩
 ·refine ct rfl h2 ?_
  refine sr ?_
  refine aa rfl rfl ?_
  refine aa rfl rfl ?_
  refine nwq [3,2] rfl ?_
  refine at_ret ?_
  refine at_blk_ret (at_then_ret ?_)
  have K:=of_some hF
  subst K
  exact at_return2 rfl rfl rfl (fun w1 hw=>⟨none,0,rfl,Own.nil _ _ _ _,hw.below⟩)
 refine cf rfl h2 ?_
 refine at_skip ?_
 refine at_blk_normal (at_then_normal ?_)
 refine sr ?_
 refine am rfl rfl ?_
 obtain ⟨t3,ht3,hF⟩:=of_bindM hF
 refine at_callO (c:=(cInt .u8)) (e:=5) (ys:=t3.1) (V:=fun p cap=>.tuple #[.slice p t3.1.length cap,.int .i64 t3.2]) func151 rfl (by kernel_rfl) rfl rfl (fun w hw=>hexes_Decode_ok _ _ ht3 w) ?_
 intro p4 c5
 refine av rfl (r_extract rfl rfl) ?_
 refine av rfl (r_extract rfl rfl) ?_
 refine aa rfl rfl ?_
 refine aa rfl rfl ?_
 refine nwq [3,2] rfl ?_
 refine at_ret ?_
 have K:=of_some hF
 subst K
 exact at_return2 rfl rfl rfl (fun w1 hw=>⟨p4,c5,rfl,hw.own .z,hw.below⟩)
def crawlwayref50_bytes (x0 : ByteArray) : Option (List Int × Int) :=
  if (seq x0 (⟨#[45]⟩ : ByteArray)) = true then (some ([],0)) else (crawlwayref05_Decode x0 >>= fun t2=>if (t2.2 == 0) = true then (if ((t2.1.length : Int) == 0) = true then (some (t2.1,5)) else (some (t2.1,t2.2))) else (some (t2.1,t2.2)))
end Go.Proofs.YtkkmmpofdcccmaaGreatDoor
namespace Go.Proofs.YtkkmmpofdcccmaaGreatDoor
open E Go.RowKit _root_.Go.Proofs.Tryz
def script_Right (x0 : S_api_Item) : Option (Bool) :=
  if (x0.f_Kind == 1) = true then (script_Same ({ x0 with f_Bytes:=([] : List Int) }) ({ ({ f_Kind:=(0 : Int),f_Bytes:=([] : List Int),f_From:=({ f_A:=({ f_V:=(0 : Int),f_B:=(Vector.replicate 16 (0 : Int) : (Vector Int 16)) } : S_api_Addr),f_Port:=(0 : Int) } : S_api_Endpoint),f_Result:=([] : List Int),f_Ok:=false,f_Key:=(Vector.replicate 32 (0 : Int) : (Vector Int 32)),f_Local:=(0 : Int),f_Remote:=(0 : Int),f_Next:=(0 : Int) } : S_api_Item) with f_Kind:=({ x0 with f_Bytes:=([] : List Int) }).f_Kind }) >>= fun t14=>some t14) else (if (x0.f_Kind == 2) = true then (script_Same ({ x0 with f_Bytes:=([] : List Int) }) ({ ({ f_Kind:=(0 : Int),f_Bytes:=([] : List Int),f_From:=({ f_A:=({ f_V:=(0 : Int),f_B:=(Vector.replicate 16 (0 : Int) : (Vector Int 16)) } : S_api_Addr),f_Port:=(0 : Int) } : S_api_Endpoint),f_Result:=([] : List Int),f_Ok:=false,f_Key:=(Vector.replicate 32 (0 : Int) : (Vector Int 32)),f_Local:=(0 : Int),f_Remote:=(0 : Int),f_Next:=(0 : Int) } : S_api_Item) with f_Kind:=({ x0 with f_Bytes:=([] : List Int) }).f_Kind }) >>= fun t20=>some t20) else (if (x0.f_Kind == 3) = true then (if (({ x0 with f_Bytes:=([] : List Int) }).f_Ok) = true then (script_Same ({ { { x0 with f_Bytes:=([] : List Int) } with f_Ok:=false } with f_Result:=([] : List Int) }) ({ ({ f_Kind:=(0 : Int),f_Bytes:=([] : List Int),f_From:=({ f_A:=({ f_V:=(0 : Int),f_B:=(Vector.replicate 16 (0 : Int) : (Vector Int 16)) } : S_api_Addr),f_Port:=(0 : Int) } : S_api_Endpoint),f_Result:=([] : List Int),f_Ok:=false,f_Key:=(Vector.replicate 32 (0 : Int) : (Vector Int 32)),f_Local:=(0 : Int),f_Remote:=(0 : Int),f_Next:=(0 : Int) } : S_api_Item) with f_Kind:=({ { { x0 with f_Bytes:=([] : List Int) } with f_Ok:=false } with f_Result:=([] : List Int) }).f_Kind }) >>= fun t29=>some t29) else (script_Same ({ x0 with f_Bytes:=([] : List Int) }) ({ ({ f_Kind:=(0 : Int),f_Bytes:=([] : List Int),f_From:=({ f_A:=({ f_V:=(0 : Int),f_B:=(Vector.replicate 16 (0 : Int) : (Vector Int 16)) } : S_api_Addr),f_Port:=(0 : Int) } : S_api_Endpoint),f_Result:=([] : List Int),f_Ok:=false,f_Key:=(Vector.replicate 32 (0 : Int) : (Vector Int 32)),f_Local:=(0 : Int),f_Remote:=(0 : Int),f_Next:=(0 : Int) } : S_api_Item) with f_Kind:=({ x0 with f_Bytes:=([] : List Int) }).f_Kind }) >>= fun t30=>some t30)) else (if (x0.f_Kind == 4) = true then (hostport_Right x0.f_From >>= fun t38=>if t38 = true then (if (({ { x0 with f_From:=({ f_A:=({ f_V:=(0 : Int),f_B:=(Vector.replicate 16 (0 : Int) : (Vector Int 16)) } : S_api_Addr),f_Port:=(0 : Int) } : S_api_Endpoint) } with f_Bytes:=([] : List Int) }).f_Ok) = true then (script_Same ({ { { { x0 with f_From:=({ f_A:=({ f_V:=(0 : Int),f_B:=(Vector.replicate 16 (0 : Int) : (Vector Int 16)) } : S_api_Addr),f_Port:=(0 : Int) } : S_api_Endpoint) } with f_Bytes:=([] : List Int) } with f_Ok:=false } with f_Result:=([] : List Int) }) ({ ({ f_Kind:=(0 : Int),f_Bytes:=([] : List Int),f_From:=({ f_A:=({ f_V:=(0 : Int),f_B:=(Vector.replicate 16 (0 : Int) : (Vector Int 16)) } : S_api_Addr),f_Port:=(0 : Int) } : S_api_Endpoint),f_Result:=([] : List Int),f_Ok:=false,f_Key:=(Vector.replicate 32 (0 : Int) : (Vector Int 32)),f_Local:=(0 : Int),f_Remote:=(0 : Int),f_Next:=(0 : Int) } : S_api_Item) with f_Kind:=({ { { { x0 with f_From:=({ f_A:=({ f_V:=(0 : Int),f_B:=(Vector.replicate 16 (0 : Int) : (Vector Int 16)) } : S_api_Addr),f_Port:=(0 : Int) } : S_api_Endpoint) } with f_Bytes:=([] : List Int) } with f_Ok:=false } with f_Result:=([] : List Int) }).f_Kind }) >>= fun t43=>some t43) else (script_Same ({ { x0 with f_From:=({ f_A:=({ f_V:=(0 : Int),f_B:=(Vector.replicate 16 (0 : Int) : (Vector Int 16)) } : S_api_Addr),f_Port:=(0 : Int) } : S_api_Endpoint) } with f_Bytes:=([] : List Int) }) ({ ({ f_Kind:=(0 : Int),f_Bytes:=([] : List Int),f_From:=({ f_A:=({ f_V:=(0 : Int),f_B:=(Vector.replicate 16 (0 : Int) : (Vector Int 16)) } : S_api_Addr),f_Port:=(0 : Int) } : S_api_Endpoint),f_Result:=([] : List Int),f_Ok:=false,f_Key:=(Vector.replicate 32 (0 : Int) : (Vector Int 32)),f_Local:=(0 : Int),f_Remote:=(0 : Int),f_Next:=(0 : Int) } : S_api_Item) with f_Kind:=({ { x0 with f_From:=({ f_A:=({ f_V:=(0 : Int),f_B:=(Vector.replicate 16 (0 : Int) : (Vector Int 16)) } : S_api_Addr),f_Port:=(0 : Int) } : S_api_Endpoint) } with f_Bytes:=([] : List Int) }).f_Kind }) >>= fun t44=>some t44)) else (if (({ { x0 with f_From:={ x0.f_From with f_Port:=(-1) } } with f_Bytes:=([] : List Int) }).f_Ok) = true then (script_Same ({ { { { x0 with f_From:={ x0.f_From with f_Port:=(-1) } } with f_Bytes:=([] : List Int) } with f_Ok:=false } with f_Result:=([] : List Int) }) ({ ({ f_Kind:=(0 : Int),f_Bytes:=([] : List Int),f_From:=({ f_A:=({ f_V:=(0 : Int),f_B:=(Vector.replicate 16 (0 : Int) : (Vector Int 16)) } : S_api_Addr),f_Port:=(0 : Int) } : S_api_Endpoint),f_Result:=([] : List Int),f_Ok:=false,f_Key:=(Vector.replicate 32 (0 : Int) : (Vector Int 32)),f_Local:=(0 : Int),f_Remote:=(0 : Int),f_Next:=(0 : Int) } : S_api_Item) with f_Kind:=({ { { { x0 with f_From:={ x0.f_From with f_Port:=(-1) } } with f_Bytes:=([] : List Int) } with f_Ok:=false } with f_Result:=([] : List Int) }).f_Kind }) >>= fun t48=>some t48) else (script_Same ({ { x0 with f_From:={ x0.f_From with f_Port:=(-1) } } with f_Bytes:=([] : List Int) }) ({ ({ f_Kind:=(0 : Int),f_Bytes:=([] : List Int),f_From:=({ f_A:=({ f_V:=(0 : Int),f_B:=(Vector.replicate 16 (0 : Int) : (Vector Int 16)) } : S_api_Addr),f_Port:=(0 : Int) } : S_api_Endpoint),f_Result:=([] : List Int),f_Ok:=false,f_Key:=(Vector.replicate 32 (0 : Int) : (Vector Int 32)),f_Local:=(0 : Int),f_Remote:=(0 : Int),f_Next:=(0 : Int) } : S_api_Item) with f_Kind:=({ { x0 with f_From:={ x0.f_From with f_Port:=(-1) } } with f_Bytes:=([] : List Int) }).f_Kind }) >>= fun t49=>some t49))) else (if (x0.f_Kind == 5) = true then (script_Same ({ { { { x0 with f_Key:=(Vector.replicate 32 (0 : Int) : (Vector Int 32)) } with f_Local:=0 } with f_Remote:=0 } with f_Next:=0 }) ({ ({ f_Kind:=(0 : Int),f_Bytes:=([] : List Int),f_From:=({ f_A:=({ f_V:=(0 : Int),f_B:=(Vector.replicate 16 (0 : Int) : (Vector Int 16)) } : S_api_Addr),f_Port:=(0 : Int) } : S_api_Endpoint),f_Result:=([] : List Int),f_Ok:=false,f_Key:=(Vector.replicate 32 (0 : Int) : (Vector Int 32)),f_Local:=(0 : Int),f_Remote:=(0 : Int),f_Next:=(0 : Int) } : S_api_Item) with f_Kind:=({ { { { x0 with f_Key:=(Vector.replicate 32 (0 : Int) : (Vector Int 32)) } with f_Local:=0 } with f_Remote:=0 } with f_Next:=0 }).f_Kind }) >>= fun t58=>some t58) else (if (x0.f_Kind == 6) = true then (script_Same ({ x0 with f_Local:=0 }) ({ ({ f_Kind:=(0 : Int),f_Bytes:=([] : List Int),f_From:=({ f_A:=({ f_V:=(0 : Int),f_B:=(Vector.replicate 16 (0 : Int) : (Vector Int 16)) } : S_api_Addr),f_Port:=(0 : Int) } : S_api_Endpoint),f_Result:=([] : List Int),f_Ok:=false,f_Key:=(Vector.replicate 32 (0 : Int) : (Vector Int 32)),f_Local:=(0 : Int),f_Remote:=(0 : Int),f_Next:=(0 : Int) } : S_api_Item) with f_Kind:=({ x0 with f_Local:=0 }).f_Kind }) >>= fun t63=>some t63) else (some false))))))
set_option maxHeartbeats 3200000 in
theorem script_Right_ok (g0_ : G_api_Item) (x0 : S_api_Item) (r : Bool) (hF : script_Right x0 = some r) (w : World) (hn0 : N_api_Item w (g0_,x0)) (hg_bytealg_MaxLen : GV_bytealg_MaxLen w) (hg_strconv_ErrRange : GV_strconv_ErrRange w) (hg_strconv_ErrSyntax : GV_strconv_ErrSyntax w) (hg_strconv_uint64pow10 : GV_strconv_uint64pow10 w) :
    Calls Tryz.prog 24 #[.agg (Cd.cs c_api_Item (g0_,x0)).toArray] w (fun e w'=>e = .returned (.bool r) ∧ Below w.heap.size w w'):=by
 unfold script_Right at hF
 refine calls_enter (l:=[.agg (Cd.cs c_api_Item (g0_,x0)).toArray]) func24 rfl rfl rfl ?_
 refine at_start ?_
 refine at_frz0 ?_
 intro Z_ s_ hB_
 have hz0:=NK_api_Item.mono (NK_api_Item.of hn0) hB_
 refine sr ?_
 refine at_box (cs:=Cd.cs c_api_Item (g0_,x0)) rfl rfl rfl ?_
 intro b1
 refine aa rfl rfl ?_
 refine nwx [1] rfl ?_
 refine fa 0 underlying33 rfl rfl sizeOf3 rfl rfl ?_
 refine av rfl (r_load_cell isAgg3 rfl (lens_cell0 (c:=(cInt .i64)) (y:=x0.f_Kind) .z (c_api_Item_f_Kind g0_ x0) rfl)) ?_
 refine at_callI func46 rfl (by kernel_rfl) rfl rfl rfl rfl ?_
 refine sr ?_
 refine at_alloc (cs:=zl19) zeroValue98 rfl rfl ?_
 intro b2
 refine aa rfl rfl ?_
 refine nwx [2,0] rfl ?_
 refine at_callI func75 rfl (by kernel_rfl) rfl rfl rfl rfl ?_
 refine sr ?_
 refine at_box (cs:=zl21) rfl rfl rfl ?_
 intro b3
 refine at_alloc (cs:=zl20) zeroValue104 rfl rfl ?_
 intro b4
 refine nwx [2,1] rfl ?_
 refine av rfl (r_makeFunc rfl) ?_
 refine av rfl (r_makeFunc rfl) ?_
 refine av rfl (r_makeFunc rfl) ?_
 refine av rfl (r_build_struct (zs:=zl20) (cs:=(zl6 b3)) underlying104 zeroValue104 rfl placesR_104 rfl rfl) ?_
 refine sa 3 ((zl6 b3)) .z rfl rfl sizeOf104 rfl rfl rfl ?_
 refine nwq [2] rfl ?_
 refine at_ret ?_
 refine at_resI1 rfl (res_cell (c:=cK 3 (by decide)) (y:=ck 3 ((zl6 b3)) rfl) rfl .z (Lens.whole _ _) isAgg104 sizeOf104 (.inl rfl)) ?_
 refine at_alloc (cs:=zl20) zeroValue104 rfl rfl ?_
 intro b5
 refine sa 3 ((zl6 b3)) .z rfl rfl sizeOf104 rfl rfl rfl ?_
 refine at_nil ?_
 refine at_drop (H:=_) (.s .z) ?_
 refine wq [4,2,0] rfl ?_
 refine tn ?_
 refine sr ?_
 refine at_callI func75 rfl (by kernel_rfl) rfl rfl rfl rfl ?_
 refine sr ?_
 refine at_box (cs:=zl22) rfl rfl rfl ?_
 intro b6
 refine at_alloc (cs:=zl20) zeroValue104 rfl rfl ?_
 intro b7
 refine nwx [2,1] rfl ?_
 refine av rfl (r_makeFunc rfl) ?_
 refine av rfl (r_makeFunc rfl) ?_
 refine av rfl (r_makeFunc rfl) ?_
 refine av rfl (r_build_struct (zs:=zl20) (cs:=(zl6 b6)) underlying104 zeroValue104 rfl placesR_104 rfl rfl) ?_
 refine sa 3 ((zl6 b6)) .z rfl rfl sizeOf104 rfl rfl rfl ?_
 refine nwq [2] rfl ?_
 refine at_ret ?_
 refine at_resI1 rfl (res_cell (c:=cK 3 (by decide)) (y:=ck 3 ((zl6 b6)) rfl) rfl .z (Lens.whole _ _) isAgg104 sizeOf104 (.inl rfl)) ?_
 refine at_alloc (cs:=zl20) zeroValue104 rfl rfl ?_
 intro b8
 refine sa 3 ((zl6 b6)) .z rfl rfl sizeOf104 rfl rfl rfl ?_
 refine at_nil ?_
 refine at_drop (H:=_) (.s .z) ?_
 refine tn ?_
 refine at_seq ?_
 refine sr ?_
 refine am rfl rfl ?_
 refine nwq [8,5,4,2] rfl ?_
 refine at_block ?_
 refine sr ?_
 refine av rfl (r_ieql rfl rfl) ?_
 refine aa rfl rfl ?_
 refine nwq [9,8,5,4,2] rfl ?_
 rcases oi hF with ⟨h9,hF⟩|⟨h9,hF⟩
 ·refine ct rfl h9 ?_
  refine sr ?_
  refine at_callI func78 rfl (by kernel_rfl) rfl rfl rfl rfl ?_
  refine dz ?_
  refine dz ?_
  refine dz ?_
  refine dz ?_
  refine at_weak [] trivial ?_
  refine sr ?_
  refine at_alloc (cs:=zl20) zeroValue104 rfl rfl ?_
  intro b10
  refine nwx [0] rfl ?_
  refine av rfl (r_build_struct (zs:=zl20) (cs:=zl11) underlying104 zeroValue104 rfl placesR_104 rfl rfl) ?_
  refine sa 3 (zl11) .z rfl rfl sizeOf104 rfl rfl rfl ?_
  refine nwq [0] rfl ?_
  refine at_ret ?_
  refine at_resI1 rfl (res_cell (c:=cK 3 (by decide)) (y:=ck 3 (zl11) rfl) rfl .z (Lens.whole _ _) isAgg104 sizeOf104 (.inl rfl)) ?_
  refine at_litG (cs:=zl11) underlying96 sizeOf104 zeroValue104 rfl rfl rfl (by kernel_rfl) rfl ?_
  intro b11
  refine av rfl (r_build_struct (zs:=zl19) (cs:=(zl16 b11)) underlying98 zeroValue98 rfl placesR_98 rfl rfl) ?_
  refine sa 2 ((zl16 b11)) (.s (.s .z)) rfl rfl sizeOf98 rfl rfl rfl ?_
  refine aa rfl rfl ?_
  refine at_nil ?_
  refine at_drop (H:=_) (.s .z) ?_
  refine wq [3,2] rfl ?_
  refine tn ?_
  refine at_ret ?_
  refine at_blk_ret (at_then_ret ?_)
  refine at_resI2 rfl (res_cell (c:=cK 2 (by decide)) (y:=ck 2 ((zl16 b11)) rfl) rfl (.s .z) (Lens.whole _ _) isAgg98 sizeOf98 (.inl rfl)) (res_tmp rfl) ?_
  refine am rfl rfl ?_
  refine av rfl (r_extract rfl rfl) ?_
  refine av rfl (r_extract rfl rfl) ?_
  refine at_alloc (cs:=zl19) zeroValue98 rfl rfl ?_
  intro b12
  refine sa 2 ((zl16 b11)) .z rfl rfl sizeOf98 rfl rfl rfl ?_
  refine aa rfl rfl ?_
  refine at_nil ?_
  refine at_drop (H:=_) (.s (.s .z)) ?_
  refine tn ?_
  refine at_seq ?_
  refine sr ?_
  refine fa 1 underlying98 rfl rfl sizeOf96 rfl rfl ?_
  refine av rfl (r_load_cell isAgg96 rfl (fun w1 hw=>cells_get (hw.ok (Upd.mem .z)) 1 _ rfl)) ?_
  refine av rfl (r_len_sl underlying96 rfl) ?_
  refine am rfl rfl ?_
  refine at_nil ?_
  refine dz ?_
  refine wq [16,15,14,4,1] rfl ?_
  refine tn ?_
  refine at_block ?_
  refine wq [16,15,14,4,1] rfl ?_
  refine at_loop ?_
  refine at_round ?_
  refine sr ?_
  refine av rfl (r_ilss rfl rfl) ?_
  refine at_fix (g:=17) rfl (show (decide (0 < 1)) = true from by decide) ?_
  refine nwq [17,16,15,14,4,1] rfl ?_
  refine at_seq ?_
  refine ct rfl rfl ?_
  refine sn ?_
  refine at_seq ?_
  refine at_block ?_
  refine sr ?_
  refine av rfl (r_idx underlying96 sizeOf104 rfl rfl (by decide) rfl) ?_
  refine av rfl (r_load_agg (l:=zl11) isAgg104 sizeOf104 rfl rfl (fun w1 hw=>cells_mid (pre:=[]) (suf:=[]) (hw.ok (Upd.mem .z)) rfl rfl)) ?_
  refine at_alloc (cs:=zl20) zeroValue104 rfl rfl ?_
  intro b13
  refine sa 3 (zl11) .z rfl rfl sizeOf104 rfl rfl rfl ?_
  refine nwq [16,15,14,6,4,1] rfl ?_
  refine at_region ?_
  refine fa 2 underlying104 rfl rfl sizeOf102 rfl rfl ?_
  refine av rfl (r_load_cell isAgg102 rfl (fun w1 hw=>cells_get (hw.ok (Upd.mem .z)) 2 _ rfl)) ?_
  refine at_callee rfl ?_
  refine at_callI func129 rfl (by kernel_rfl) rfl rfl rfl rfl ?_
  refine dz ?_
  refine at_region ?_
  refine am rfl rfl ?_
  refine av rfl (r_nilCheck rfl) ?_
  refine fa 1 underlying33 rfl rfl sizeOf22 rfl rfl ?_
  refine at_store (c:=cSv Int) (z:=(zv2,([] : List Int))) (.s .z) (c_api_Item_f_Bytes_sv g0_ x0) sizeOf22 rfl rfl rfl ?_
  refine at_nil ?_
  refine at_weak [] trivial ?_
  refine at_retI0 rfl ?_
  refine at_nil ?_
  refine wq [16,15,14,4,1] rfl ?_
  refine at_blk_normal (at_then_normal ?_)
  refine at_region ?_
  refine av rfl (r_iadd rfl rfl) ?_
  refine at_ov (t:=23) rfl (show Value.int .i64 (wr .i64 (0 + 1)) = .int .i64 1 from by rfl) ?_
  refine am rfl rfl ?_
  refine nt ?_
  refine wq [16,15,14,4,1] rfl ?_
  refine at_round ?_
  refine sr ?_
  refine av rfl (r_ilss rfl rfl) ?_
  refine at_fix (g:=17) rfl (show (decide (1 < 1)) = false from by decide) ?_
  refine nwq [17,16,15,14,4,1] rfl ?_
  refine at_seq ?_
  refine cf rfl rfl ?_
  refine at_exit ?_
  refine at_then_exit (at_then_exit ?_)
  refine at_blk_same ?_
  refine dz ?_
  refine tn ?_
  refine sr ?_
  refine am rfl rfl ?_
  refine am rfl rfl ?_
  refine gy rfl rfl rfl ?_
  refine av rfl (r_load_aggc (c:=c_api_Item) (z:=((zv2,(g0_.2.1,g0_.2.2)),{ x0 with f_Bytes:=([] : List Int) })) isAgg33 sizeOf33 rfl (lens_cell .z (Lens.whole _ _))) ?_
  refine gy rfl rfl rfl ?_
  refine fa 0 underlying33 rfl rfl sizeOf3 rfl rfl ?_
  refine gy rfl rfl rfl ?_
  refine av rfl (r_load_cell isAgg3 rfl (lens_cell0 (c:=(cInt .i64)) (y:=({ x0 with f_Bytes:=([] : List Int) }).f_Kind) .z (c_api_Item_f_Kind (zv2,(g0_.2.1,g0_.2.2)) ({ x0 with f_Bytes:=([] : List Int) })) rfl)) ?_
  refine gy rfl rfl rfl ?_
  refine av rfl (r_build_struct (zs:=Cd.cs c_api_Item zv6) (cs:=Cd.cs c_api_Item (zv5,{ zv4 with f_Kind:=({ x0 with f_Bytes:=([] : List Int) }).f_Kind })) underlying33 zeroValue33 rfl (places_api_Item_33) rfl (fill_step (c:=(cInt .i64)) (z:=({ x0 with f_Bytes:=([] : List Int) }).f_Kind) rfl (c_api_Item_f_Kind zv5 zv4) rfl rfl)) ?_
  refine gy rfl rfl rfl ?_
  obtain ⟨t14,ht14,hF⟩:=of_bindM hF
  refine at_callB func12 rfl (by kernel_rfl) rfl rfl (fun w hw=>script_Same_ok _ _ _ _ _ ht14 w ⟨(Row.nil ..),(RowK.row (RowK.mono hz0.2 (frz_mono (.s .z) hw)))⟩ ⟨(Row.nil ..),(Row.nil ..)⟩) ?_
  refine av rfl (r_pick rfl rfl rfl) ?_
  refine aa rfl rfl ?_
  refine at_nil ?_
  refine dz ?_
  refine wq [2] rfl ?_
  refine tn ?_
  refine at_ret ?_
  have K:=of_some hF
  subst K
  exact at_return1 rfl rfl (fun w1 hw=>⟨rfl,hw.below⟩)
 refine cf rfl h9 ?_
 refine sr ?_
 refine av rfl (r_ieql rfl rfl) ?_
 refine aa rfl rfl ?_
 refine nwq [14,8,5,4,2] rfl ?_
 rcases oi hF with ⟨h15,hF⟩|⟨h15,hF⟩
 ·refine ct rfl h15 ?_
  refine sr ?_
  refine at_callI func78 rfl (by kernel_rfl) rfl rfl rfl rfl ?_
  refine dz ?_
  refine dz ?_
  refine dz ?_
  refine dz ?_
  refine at_weak [] trivial ?_
  refine sr ?_
  refine at_alloc (cs:=zl20) zeroValue104 rfl rfl ?_
  intro b16
  refine nwx [0] rfl ?_
  refine av rfl (r_build_struct (zs:=zl20) (cs:=zl11) underlying104 zeroValue104 rfl placesR_104 rfl rfl) ?_
  refine sa 3 (zl11) .z rfl rfl sizeOf104 rfl rfl rfl ?_
  refine nwq [0] rfl ?_
  refine at_ret ?_
  refine at_resI1 rfl (res_cell (c:=cK 3 (by decide)) (y:=ck 3 (zl11) rfl) rfl .z (Lens.whole _ _) isAgg104 sizeOf104 (.inl rfl)) ?_
  refine at_litG (cs:=zl11) underlying96 sizeOf104 zeroValue104 rfl rfl rfl (by kernel_rfl) rfl ?_
  intro b17
  refine av rfl (r_build_struct (zs:=zl19) (cs:=(zl15 b17)) underlying98 zeroValue98 rfl placesR_98 rfl rfl) ?_
  refine sa 2 ((zl15 b17)) (.s (.s .z)) rfl rfl sizeOf98 rfl rfl rfl ?_
  refine aa rfl rfl ?_
  refine at_nil ?_
  refine at_drop (H:=_) (.s .z) ?_
  refine wq [3,2] rfl ?_
  refine tn ?_
  refine at_ret ?_
  refine at_blk_ret (at_then_ret ?_)
  refine at_resI2 rfl (res_cell (c:=cK 2 (by decide)) (y:=ck 2 ((zl15 b17)) rfl) rfl (.s .z) (Lens.whole _ _) isAgg98 sizeOf98 (.inl rfl)) (res_tmp rfl) ?_
  refine am rfl rfl ?_
  refine av rfl (r_extract rfl rfl) ?_
  refine av rfl (r_extract rfl rfl) ?_
  refine at_alloc (cs:=zl19) zeroValue98 rfl rfl ?_
  intro b18
  refine sa 2 ((zl15 b17)) .z rfl rfl sizeOf98 rfl rfl rfl ?_
  refine aa rfl rfl ?_
  refine at_nil ?_
  refine at_drop (H:=_) (.s (.s .z)) ?_
  refine tn ?_
  refine at_seq ?_
  refine sr ?_
  refine fa 1 underlying98 rfl rfl sizeOf96 rfl rfl ?_
  refine av rfl (r_load_cell isAgg96 rfl (fun w1 hw=>cells_get (hw.ok (Upd.mem .z)) 1 _ rfl)) ?_
  refine av rfl (r_len_sl underlying96 rfl) ?_
  refine am rfl rfl ?_
  refine at_nil ?_
  refine dz ?_
  refine wq [16,15,14,4,1] rfl ?_
  refine tn ?_
  refine at_block ?_
  refine wq [16,15,14,4,1] rfl ?_
  refine at_loop ?_
  refine at_round ?_
  refine sr ?_
  refine av rfl (r_ilss rfl rfl) ?_
  refine at_fix (g:=17) rfl (show (decide (0 < 1)) = true from by decide) ?_
  refine nwq [17,16,15,14,4,1] rfl ?_
  refine at_seq ?_
  refine ct rfl rfl ?_
  refine sn ?_
  refine at_seq ?_
  refine at_block ?_
  refine sr ?_
  refine av rfl (r_idx underlying96 sizeOf104 rfl rfl (by decide) rfl) ?_
  refine av rfl (r_load_agg (l:=zl11) isAgg104 sizeOf104 rfl rfl (fun w1 hw=>cells_mid (pre:=[]) (suf:=[]) (hw.ok (Upd.mem .z)) rfl rfl)) ?_
  refine at_alloc (cs:=zl20) zeroValue104 rfl rfl ?_
  intro b19
  refine sa 3 (zl11) .z rfl rfl sizeOf104 rfl rfl rfl ?_
  refine nwq [16,15,14,6,4,1] rfl ?_
  refine at_region ?_
  refine fa 2 underlying104 rfl rfl sizeOf102 rfl rfl ?_
  refine av rfl (r_load_cell isAgg102 rfl (fun w1 hw=>cells_get (hw.ok (Upd.mem .z)) 2 _ rfl)) ?_
  refine at_callee rfl ?_
  refine at_callI func129 rfl (by kernel_rfl) rfl rfl rfl rfl ?_
  refine dz ?_
  refine at_region ?_
  refine am rfl rfl ?_
  refine av rfl (r_nilCheck rfl) ?_
  refine fa 1 underlying33 rfl rfl sizeOf22 rfl rfl ?_
  refine at_store (c:=cSv Int) (z:=(zv2,([] : List Int))) (.s .z) (c_api_Item_f_Bytes_sv g0_ x0) sizeOf22 rfl rfl rfl ?_
  refine at_nil ?_
  refine at_weak [] trivial ?_
  refine at_retI0 rfl ?_
  refine at_nil ?_
  refine wq [16,15,14,4,1] rfl ?_
  refine at_blk_normal (at_then_normal ?_)
  refine at_region ?_
  refine av rfl (r_iadd rfl rfl) ?_
  refine at_ov (t:=23) rfl (show Value.int .i64 (wr .i64 (0 + 1)) = .int .i64 1 from by rfl) ?_
  refine am rfl rfl ?_
  refine nt ?_
  refine wq [16,15,14,4,1] rfl ?_
  refine at_round ?_
  refine sr ?_
  refine av rfl (r_ilss rfl rfl) ?_
  refine at_fix (g:=17) rfl (show (decide (1 < 1)) = false from by decide) ?_
  refine nwq [17,16,15,14,4,1] rfl ?_
  refine at_seq ?_
  refine cf rfl rfl ?_
  refine at_exit ?_
  refine at_then_exit (at_then_exit ?_)
  refine at_blk_same ?_
  refine dz ?_
  refine tn ?_
  refine sr ?_
  refine am rfl rfl ?_
  refine am rfl rfl ?_
  refine gy rfl rfl rfl ?_
  refine av rfl (r_load_aggc (c:=c_api_Item) (z:=((zv2,(g0_.2.1,g0_.2.2)),{ x0 with f_Bytes:=([] : List Int) })) isAgg33 sizeOf33 rfl (lens_cell .z (Lens.whole _ _))) ?_
  refine gy rfl rfl rfl ?_
  refine fa 0 underlying33 rfl rfl sizeOf3 rfl rfl ?_
  refine gy rfl rfl rfl ?_
  refine av rfl (r_load_cell isAgg3 rfl (lens_cell0 (c:=(cInt .i64)) (y:=({ x0 with f_Bytes:=([] : List Int) }).f_Kind) .z (c_api_Item_f_Kind (zv2,(g0_.2.1,g0_.2.2)) ({ x0 with f_Bytes:=([] : List Int) })) rfl)) ?_
  refine gy rfl rfl rfl ?_
  refine av rfl (r_build_struct (zs:=Cd.cs c_api_Item zv6) (cs:=Cd.cs c_api_Item (zv5,{ zv4 with f_Kind:=({ x0 with f_Bytes:=([] : List Int) }).f_Kind })) underlying33 zeroValue33 rfl (places_api_Item_33) rfl (fill_step (c:=(cInt .i64)) (z:=({ x0 with f_Bytes:=([] : List Int) }).f_Kind) rfl (c_api_Item_f_Kind zv5 zv4) rfl rfl)) ?_
  refine gy rfl rfl rfl ?_
  obtain ⟨t20,ht20,hF⟩:=of_bindM hF
  refine at_callB func12 rfl (by kernel_rfl) rfl rfl (fun w hw=>script_Same_ok _ _ _ _ _ ht20 w ⟨(Row.nil ..),(RowK.row (RowK.mono hz0.2 (frz_mono (.s .z) hw)))⟩ ⟨(Row.nil ..),(Row.nil ..)⟩) ?_
  refine av rfl (r_pick rfl rfl rfl) ?_
  refine aa rfl rfl ?_
  refine at_nil ?_
  refine dz ?_
  refine wq [2] rfl ?_
  refine tn ?_
  refine at_ret ?_
  have K:=of_some hF
  subst K
  exact at_return1 rfl rfl (fun w1 hw=>⟨rfl,hw.below⟩)
 refine cf rfl h15 ?_
 refine sr ?_
 refine av rfl (r_ieql rfl rfl) ?_
 refine aa rfl rfl ?_
 refine nwq [19,8,5,4,2] rfl ?_
 rcases oi hF with ⟨h21,hF⟩|⟨h21,hF⟩
 ·refine ct rfl h21 ?_
  refine sr ?_
  refine at_callI func78 rfl (by kernel_rfl) rfl rfl rfl rfl ?_
  refine dz ?_
  refine dz ?_
  refine dz ?_
  refine dz ?_
  refine at_weak [] trivial ?_
  refine sr ?_
  refine at_alloc (cs:=zl20) zeroValue104 rfl rfl ?_
  intro b22
  refine nwx [0] rfl ?_
  refine av rfl (r_build_struct (zs:=zl20) (cs:=zl11) underlying104 zeroValue104 rfl placesR_104 rfl rfl) ?_
  refine sa 3 (zl11) .z rfl rfl sizeOf104 rfl rfl rfl ?_
  refine nwq [0] rfl ?_
  refine at_ret ?_
  refine at_resI1 rfl (res_cell (c:=cK 3 (by decide)) (y:=ck 3 (zl11) rfl) rfl .z (Lens.whole _ _) isAgg104 sizeOf104 (.inl rfl)) ?_
  refine at_callI func79 rfl (by kernel_rfl) rfl rfl rfl rfl ?_
  refine dz ?_
  refine at_weak [] trivial ?_
  refine sr ?_
  refine at_alloc (cs:=zl20) zeroValue104 rfl rfl ?_
  intro b23
  refine nwx [0] rfl ?_
  refine av rfl (r_build_struct (zs:=zl20) (cs:=zl12) underlying104 zeroValue104 rfl placesR_104 rfl rfl) ?_
  refine sa 3 (zl12) .z rfl rfl sizeOf104 rfl rfl rfl ?_
  refine nwq [0] rfl ?_
  refine at_ret ?_
  refine at_resI1 rfl (res_cell (c:=cK 3 (by decide)) (y:=ck 3 (zl12) rfl) rfl .z (Lens.whole _ _) isAgg104 sizeOf104 (.inl rfl)) ?_
  refine at_litG (cs:=zl7) underlying96 sizeOf104 zeroValue104 rfl rfl rfl (by kernel_rfl) rfl ?_
  intro b24
  refine av rfl (r_build_struct (zs:=zl19) (cs:=(zl17 b24)) underlying98 zeroValue98 rfl placesR_98 rfl rfl) ?_
  refine sa 2 ((zl17 b24)) (.s (.s .z)) rfl rfl sizeOf98 rfl rfl rfl ?_
  refine aa rfl rfl ?_
  refine at_nil ?_
  refine at_drop (H:=_) (.s .z) ?_
  refine wq [3,2] rfl ?_
  refine tn ?_
  refine at_ret ?_
  refine at_blk_ret (at_then_ret ?_)
  refine at_resI2 rfl (res_cell (c:=cK 2 (by decide)) (y:=ck 2 ((zl17 b24)) rfl) rfl (.s .z) (Lens.whole _ _) isAgg98 sizeOf98 (.inl rfl)) (res_tmp rfl) ?_
  refine am rfl rfl ?_
  refine av rfl (r_extract rfl rfl) ?_
  refine av rfl (r_extract rfl rfl) ?_
  refine at_alloc (cs:=zl19) zeroValue98 rfl rfl ?_
  intro b25
  refine sa 2 ((zl17 b24)) .z rfl rfl sizeOf98 rfl rfl rfl ?_
  refine aa rfl rfl ?_
  refine at_nil ?_
  refine at_drop (H:=_) (.s (.s .z)) ?_
  refine tn ?_
  refine at_seq ?_
  refine sr ?_
  refine fa 1 underlying98 rfl rfl sizeOf96 rfl rfl ?_
  refine av rfl (r_load_cell isAgg96 rfl (fun w1 hw=>cells_get (hw.ok (Upd.mem .z)) 1 _ rfl)) ?_
  refine av rfl (r_len_sl underlying96 rfl) ?_
  refine am rfl rfl ?_
  refine at_nil ?_
  refine dz ?_
  refine wq [16,15,14,4,1] rfl ?_
  refine tn ?_
  refine at_block ?_
  refine wq [16,15,14,4,1] rfl ?_
  refine at_loop ?_
  refine at_round ?_
  refine sr ?_
  refine av rfl (r_ilss rfl rfl) ?_
  refine at_fix (g:=17) rfl (show (decide (0 < 2)) = true from by decide) ?_
  refine nwq [17,16,15,14,4,1] rfl ?_
  refine at_seq ?_
  refine ct rfl rfl ?_
  refine sn ?_
  refine at_seq ?_
  refine at_block ?_
  refine sr ?_
  refine av rfl (r_idx underlying96 sizeOf104 rfl rfl (by decide) rfl) ?_
  refine av rfl (r_load_agg (l:=zl11) isAgg104 sizeOf104 rfl rfl (fun w1 hw=>cells_mid (pre:=[]) (suf:=zl12) (hw.ok (Upd.mem .z)) rfl rfl)) ?_
  refine at_alloc (cs:=zl20) zeroValue104 rfl rfl ?_
  intro b26
  refine sa 3 (zl11) .z rfl rfl sizeOf104 rfl rfl rfl ?_
  refine nwq [16,15,14,6,4,1] rfl ?_
  refine at_region ?_
  refine fa 2 underlying104 rfl rfl sizeOf102 rfl rfl ?_
  refine av rfl (r_load_cell isAgg102 rfl (fun w1 hw=>cells_get (hw.ok (Upd.mem .z)) 2 _ rfl)) ?_
  refine at_callee rfl ?_
  refine at_callI func129 rfl (by kernel_rfl) rfl rfl rfl rfl ?_
  refine dz ?_
  refine at_region ?_
  refine am rfl rfl ?_
  refine av rfl (r_nilCheck rfl) ?_
  refine fa 1 underlying33 rfl rfl sizeOf22 rfl rfl ?_
  refine at_store (c:=cSv Int) (z:=(zv2,([] : List Int))) (.s .z) (c_api_Item_f_Bytes_sv g0_ x0) sizeOf22 rfl rfl rfl ?_
  refine at_nil ?_
  refine at_weak [] trivial ?_
  refine at_retI0 rfl ?_
  refine at_nil ?_
  refine wq [16,15,14,4,1] rfl ?_
  refine at_blk_normal (at_then_normal ?_)
  refine at_region ?_
  refine av rfl (r_iadd rfl rfl) ?_
  refine at_ov (t:=23) rfl (show Value.int .i64 (wr .i64 (0 + 1)) = .int .i64 1 from by rfl) ?_
  refine am rfl rfl ?_
  refine nt ?_
  refine wq [16,15,14,4,1] rfl ?_
  refine at_round ?_
  refine sr ?_
  refine av rfl (r_ilss rfl rfl) ?_
  refine at_fix (g:=17) rfl (show (decide (1 < 2)) = true from by decide) ?_
  refine nwq [17,16,15,14,4,1] rfl ?_
  refine at_seq ?_
  refine ct rfl rfl ?_
  refine sn ?_
  refine at_seq ?_
  refine at_block ?_
  refine sr ?_
  refine av rfl (r_idx underlying96 sizeOf104 rfl rfl (by decide) rfl) ?_
  refine av rfl (r_load_agg (l:=zl12) isAgg104 sizeOf104 rfl rfl (fun w1 hw=>cells_mid (pre:=zl11) (suf:=[]) (hw.ok (Upd.mem .z)) rfl rfl)) ?_
  refine at_alloc (cs:=zl20) zeroValue104 rfl rfl ?_
  intro b27
  refine sa 3 (zl12) .z rfl rfl sizeOf104 rfl rfl rfl ?_
  refine nwq [16,15,14,6,4,1] rfl ?_
  refine at_region ?_
  refine fa 2 underlying104 rfl rfl sizeOf102 rfl rfl ?_
  refine av rfl (r_load_cell isAgg102 rfl (fun w1 hw=>cells_get (hw.ok (Upd.mem .z)) 2 _ rfl)) ?_
  refine at_callee rfl ?_
  refine at_callI func132 rfl (by kernel_rfl) rfl rfl rfl rfl ?_
  refine dz ?_
  refine sr ?_
  refine am rfl rfl ?_
  refine av rfl (r_nilCheck rfl) ?_
  refine fa 21 underlying33 rfl rfl sizeOf4 rfl rfl ?_
  refine av rfl (r_load_cell isAgg4 rfl (lens_cell0 (c:=cBool) (y:=({ x0 with f_Bytes:=([] : List Int) }).f_Ok) (.s .z) (c_api_Item_f_Ok (zv2,(g0_.2.1,g0_.2.2)) ({ x0 with f_Bytes:=([] : List Int) })) rfl)) ?_
  refine nwq [5,0] rfl ?_
  rcases oi hF with ⟨h28,hF⟩|⟨h28,hF⟩
  ·refine ct rfl h28 ?_
   refine at_region ?_
   refine am rfl rfl ?_
   refine am rfl rfl ?_
   refine av rfl (r_nilCheck rfl) ?_
   refine fa 21 underlying33 rfl rfl sizeOf4 rfl rfl ?_
   refine at_store (c:=cBool) (z:=false) (.s .z) (c_api_Item_f_Ok (zv2,(g0_.2.1,g0_.2.2)) ({ x0 with f_Bytes:=([] : List Int) })) sizeOf4 rfl rfl rfl ?_
   refine av rfl (r_nilCheck rfl) ?_
   refine fa 20 underlying33 rfl rfl sizeOf22 rfl rfl ?_
   refine at_store (c:=cSv Int) (z:=(zv2,([] : List Int))) (.s .z) (c_api_Item_f_Result_sv (zv2,(g0_.2.1,g0_.2.2)) ({ { x0 with f_Bytes:=([] : List Int) } with f_Ok:=false })) sizeOf22 rfl rfl rfl ?_
   refine at_nil ?_
   refine at_weak [] trivial ?_
   refine at_retI0 rfl ?_
   refine at_nil ?_
   refine wq [16,15,14,4,1] rfl ?_
   refine at_blk_normal (at_then_normal ?_)
   refine at_region ?_
   refine av rfl (r_iadd rfl rfl) ?_
   refine at_ov (t:=23) rfl (show Value.int .i64 (wr .i64 (1 + 1)) = .int .i64 2 from by rfl) ?_
   refine am rfl rfl ?_
   refine nt ?_
   refine wq [16,15,14,4,1] rfl ?_
   refine at_round ?_
   refine sr ?_
   refine av rfl (r_ilss rfl rfl) ?_
   refine at_fix (g:=17) rfl (show (decide (2 < 2)) = false from by decide) ?_
   refine nwq [17,16,15,14,4,1] rfl ?_
   refine at_seq ?_
   refine cf rfl rfl ?_
   refine at_exit ?_
   refine at_then_exit (at_then_exit ?_)
   refine at_blk_same ?_
   refine dz ?_
   refine tn ?_
   refine sr ?_
   refine am rfl rfl ?_
   refine am rfl rfl ?_
   refine gy rfl rfl rfl ?_
   refine av rfl (r_load_aggc (c:=c_api_Item) (z:=(zv5,{ { { x0 with f_Bytes:=([] : List Int) } with f_Ok:=false } with f_Result:=([] : List Int) })) isAgg33 sizeOf33 rfl (lens_cell .z (Lens.whole _ _))) ?_
   refine gy rfl rfl rfl ?_
   refine fa 0 underlying33 rfl rfl sizeOf3 rfl rfl ?_
   refine gy rfl rfl rfl ?_
   refine av rfl (r_load_cell isAgg3 rfl (lens_cell0 (c:=(cInt .i64)) (y:=({ { { x0 with f_Bytes:=([] : List Int) } with f_Ok:=false } with f_Result:=([] : List Int) }).f_Kind) .z (c_api_Item_f_Kind zv5 ({ { { x0 with f_Bytes:=([] : List Int) } with f_Ok:=false } with f_Result:=([] : List Int) })) rfl)) ?_
   refine gy rfl rfl rfl ?_
   refine av rfl (r_build_struct (zs:=Cd.cs c_api_Item zv6) (cs:=Cd.cs c_api_Item (zv5,{ zv4 with f_Kind:=({ { { x0 with f_Bytes:=([] : List Int) } with f_Ok:=false } with f_Result:=([] : List Int) }).f_Kind })) underlying33 zeroValue33 rfl (places_api_Item_33) rfl (fill_step (c:=(cInt .i64)) (z:=({ { { x0 with f_Bytes:=([] : List Int) } with f_Ok:=false } with f_Result:=([] : List Int) }).f_Kind) rfl (c_api_Item_f_Kind zv5 zv4) rfl rfl)) ?_
   refine gy rfl rfl rfl ?_
   obtain ⟨t29,ht29,hF⟩:=of_bindM hF
   refine at_callB func12 rfl (by kernel_rfl) rfl rfl (fun w hw=>script_Same_ok _ _ _ _ _ ht29 w ⟨(Row.nil ..),(Row.nil ..)⟩ ⟨(Row.nil ..),(Row.nil ..)⟩) ?_
   refine av rfl (r_pick rfl rfl rfl) ?_
   refine aa rfl rfl ?_
   refine at_nil ?_
   refine dz ?_
   refine wq [2] rfl ?_
   refine tn ?_
   refine at_ret ?_
   have K:=of_some hF
   subst K
   exact at_return1 rfl rfl (fun w1 hw=>⟨rfl,hw.below⟩)
  refine cf rfl h28 ?_
  refine at_skip ?_
  refine at_retI0 rfl ?_
  refine at_nil ?_
  refine wq [16,15,14,4,1] rfl ?_
  refine at_blk_normal (at_then_normal ?_)
  refine at_region ?_
  refine av rfl (r_iadd rfl rfl) ?_
  refine at_ov (t:=23) rfl (show Value.int .i64 (wr .i64 (1 + 1)) = .int .i64 2 from by rfl) ?_
  refine am rfl rfl ?_
  refine nt ?_
  refine wq [16,15,14,4,1] rfl ?_
  refine at_round ?_
  refine sr ?_
  refine av rfl (r_ilss rfl rfl) ?_
  refine at_fix (g:=17) rfl (show (decide (2 < 2)) = false from by decide) ?_
  refine nwq [17,16,15,14,4,1] rfl ?_
  refine at_seq ?_
  refine cf rfl rfl ?_
  refine at_exit ?_
  refine at_then_exit (at_then_exit ?_)
  refine at_blk_same ?_
  refine dz ?_
  refine tn ?_
  refine sr ?_
  refine am rfl rfl ?_
  refine am rfl rfl ?_
  refine gy rfl rfl rfl ?_
  refine av rfl (r_load_aggc (c:=c_api_Item) (z:=((zv2,(g0_.2.1,g0_.2.2)),{ x0 with f_Bytes:=([] : List Int) })) isAgg33 sizeOf33 rfl (lens_cell .z (Lens.whole _ _))) ?_
  refine gy rfl rfl rfl ?_
  refine fa 0 underlying33 rfl rfl sizeOf3 rfl rfl ?_
  refine gy rfl rfl rfl ?_
  refine av rfl (r_load_cell isAgg3 rfl (lens_cell0 (c:=(cInt .i64)) (y:=({ x0 with f_Bytes:=([] : List Int) }).f_Kind) .z (c_api_Item_f_Kind (zv2,(g0_.2.1,g0_.2.2)) ({ x0 with f_Bytes:=([] : List Int) })) rfl)) ?_
  refine gy rfl rfl rfl ?_
  refine av rfl (r_build_struct (zs:=Cd.cs c_api_Item zv6) (cs:=Cd.cs c_api_Item (zv5,{ zv4 with f_Kind:=({ x0 with f_Bytes:=([] : List Int) }).f_Kind })) underlying33 zeroValue33 rfl (places_api_Item_33) rfl (fill_step (c:=(cInt .i64)) (z:=({ x0 with f_Bytes:=([] : List Int) }).f_Kind) rfl (c_api_Item_f_Kind zv5 zv4) rfl rfl)) ?_
  refine gy rfl rfl rfl ?_
  obtain ⟨t30,ht30,hF⟩:=of_bindM hF
  refine at_callB func12 rfl (by kernel_rfl) rfl rfl (fun w hw=>script_Same_ok _ _ _ _ _ ht30 w ⟨(Row.nil ..),(RowK.row (RowK.mono hz0.2 (frz_mono (.s .z) hw)))⟩ ⟨(Row.nil ..),(Row.nil ..)⟩) ?_
  refine av rfl (r_pick rfl rfl rfl) ?_
  refine aa rfl rfl ?_
  refine at_nil ?_
  refine dz ?_
  refine wq [2] rfl ?_
  refine tn ?_
  refine at_ret ?_
  have K:=of_some hF
  subst K
  exact at_return1 rfl rfl (fun w1 hw=>⟨rfl,hw.below⟩)
 refine cf rfl h21 ?_
 refine sr ?_
 refine av rfl (r_ieql rfl rfl) ?_
 refine aa rfl rfl ?_
 refine nwq [25,8,5,4,2] rfl ?_
 rcases oi hF with ⟨h31,hF⟩|⟨h31,hF⟩
 ·refine ct rfl h31 ?_
  refine sr ?_
  refine at_callI func80 rfl (by kernel_rfl) rfl rfl rfl rfl ?_
  refine dz ?_
  refine dz ?_
  refine dz ?_
  refine dz ?_
  refine at_weak [] trivial ?_
  refine sr ?_
  refine at_alloc (cs:=zl20) zeroValue104 rfl rfl ?_
  intro b32
  refine nwx [0] rfl ?_
  refine av rfl (r_build_struct (zs:=zl20) (cs:=zl13) underlying104 zeroValue104 rfl placesR_104 rfl rfl) ?_
  refine sa 3 (zl13) .z rfl rfl sizeOf104 rfl rfl rfl ?_
  refine nwq [0] rfl ?_
  refine at_ret ?_
  refine at_resI1 rfl (res_cell (c:=cK 3 (by decide)) (y:=ck 3 (zl13) rfl) rfl .z (Lens.whole _ _) isAgg104 sizeOf104 (.inl rfl)) ?_
  refine at_callI func78 rfl (by kernel_rfl) rfl rfl rfl rfl ?_
  refine dz ?_
  refine at_weak [] trivial ?_
  refine sr ?_
  refine at_alloc (cs:=zl20) zeroValue104 rfl rfl ?_
  intro b33
  refine nwx [0] rfl ?_
  refine av rfl (r_build_struct (zs:=zl20) (cs:=zl11) underlying104 zeroValue104 rfl placesR_104 rfl rfl) ?_
  refine sa 3 (zl11) .z rfl rfl sizeOf104 rfl rfl rfl ?_
  refine nwq [0] rfl ?_
  refine at_ret ?_
  refine at_resI1 rfl (res_cell (c:=cK 3 (by decide)) (y:=ck 3 (zl11) rfl) rfl .z (Lens.whole _ _) isAgg104 sizeOf104 (.inl rfl)) ?_
  refine at_callI func79 rfl (by kernel_rfl) rfl rfl rfl rfl ?_
  refine dz ?_
  refine at_weak [] trivial ?_
  refine sr ?_
  refine at_alloc (cs:=zl20) zeroValue104 rfl rfl ?_
  intro b34
  refine nwx [0] rfl ?_
  refine av rfl (r_build_struct (zs:=zl20) (cs:=zl12) underlying104 zeroValue104 rfl placesR_104 rfl rfl) ?_
  refine sa 3 (zl12) .z rfl rfl sizeOf104 rfl rfl rfl ?_
  refine nwq [0] rfl ?_
  refine at_ret ?_
  refine at_resI1 rfl (res_cell (c:=cK 3 (by decide)) (y:=ck 3 (zl12) rfl) rfl .z (Lens.whole _ _) isAgg104 sizeOf104 (.inl rfl)) ?_
  refine at_litG (cs:=zl5) underlying96 sizeOf104 zeroValue104 rfl rfl rfl (by kernel_rfl) rfl ?_
  intro b35
  refine av rfl (r_build_struct (zs:=zl19) (cs:=(zl18 b35)) underlying98 zeroValue98 rfl placesR_98 rfl rfl) ?_
  refine sa 2 ((zl18 b35)) (.s (.s .z)) rfl rfl sizeOf98 rfl rfl rfl ?_
  refine aa rfl rfl ?_
  refine at_nil ?_
  refine at_drop (H:=_) (.s .z) ?_
  refine wq [3,2] rfl ?_
  refine tn ?_
  refine at_ret ?_
  refine at_blk_ret (at_then_ret ?_)
  refine at_resI2 rfl (res_cell (c:=cK 2 (by decide)) (y:=ck 2 ((zl18 b35)) rfl) rfl (.s .z) (Lens.whole _ _) isAgg98 sizeOf98 (.inl rfl)) (res_tmp rfl) ?_
  refine am rfl rfl ?_
  refine av rfl (r_extract rfl rfl) ?_
  refine av rfl (r_extract rfl rfl) ?_
  refine at_alloc (cs:=zl19) zeroValue98 rfl rfl ?_
  intro b36
  refine sa 2 ((zl18 b35)) .z rfl rfl sizeOf98 rfl rfl rfl ?_
  refine aa rfl rfl ?_
  refine at_nil ?_
  refine at_drop (H:=_) (.s (.s .z)) ?_
  refine tn ?_
  refine at_seq ?_
  refine sr ?_
  refine fa 1 underlying98 rfl rfl sizeOf96 rfl rfl ?_
  refine av rfl (r_load_cell isAgg96 rfl (fun w1 hw=>cells_get (hw.ok (Upd.mem .z)) 1 _ rfl)) ?_
  refine av rfl (r_len_sl underlying96 rfl) ?_
  refine am rfl rfl ?_
  refine at_nil ?_
  refine dz ?_
  refine wq [16,15,14,4,1] rfl ?_
  refine tn ?_
  refine at_block ?_
  refine wq [16,15,14,4,1] rfl ?_
  refine at_loop ?_
  refine at_round ?_
  refine sr ?_
  refine av rfl (r_ilss rfl rfl) ?_
  refine at_fix (g:=17) rfl (show (decide (0 < 3)) = true from by decide) ?_
  refine nwq [17,16,15,14,4,1] rfl ?_
  refine at_seq ?_
  refine ct rfl rfl ?_
  refine sn ?_
  refine at_seq ?_
  refine at_block ?_
  refine sr ?_
  refine av rfl (r_idx underlying96 sizeOf104 rfl rfl (by decide) rfl) ?_
  refine av rfl (r_load_agg (l:=zl13) isAgg104 sizeOf104 rfl rfl (fun w1 hw=>cells_mid (pre:=[]) (suf:=zl7) (hw.ok (Upd.mem .z)) rfl rfl)) ?_
  refine at_alloc (cs:=zl20) zeroValue104 rfl rfl ?_
  intro b37
  refine sa 3 (zl13) .z rfl rfl sizeOf104 rfl rfl rfl ?_
  refine nwq [16,15,14,6,4,1] rfl ?_
  refine at_region ?_
  refine fa 2 underlying104 rfl rfl sizeOf102 rfl rfl ?_
  refine av rfl (r_load_cell isAgg102 rfl (fun w1 hw=>cells_get (hw.ok (Upd.mem .z)) 2 _ rfl)) ?_
  refine at_callee rfl ?_
  refine at_callI func135 rfl (by kernel_rfl) rfl rfl rfl rfl ?_
  refine dz ?_
  refine sr ?_
  refine am rfl rfl ?_
  refine av rfl (r_nilCheck rfl) ?_
  refine fa 2 underlying33 rfl rfl sizeOf27 rfl rfl ?_
  refine av rfl (r_load_aggc (c:=c_api_Endpoint) (z:=x0.f_From) isAgg27 sizeOf27 rfl (lens_cell (.s .z) (c_api_Item_f_From g0_ x0))) ?_
  obtain ⟨t38,ht38,hF⟩:=of_bindM hF
  refine at_callB func102 rfl (by kernel_rfl) rfl rfl (fun w hw=>hostport_Right_ok _ _ ht38 w) ?_
  refine nwq [6,0] rfl ?_
  rcases oi hF with ⟨h39,hF⟩|⟨h39,hF⟩
  ·refine ct rfl h39 ?_
   refine at_region ?_
   refine am rfl rfl ?_
   refine av rfl (r_build_struct (zs:=Cd.cs c_api_Endpoint zv3) (cs:=Cd.cs c_api_Endpoint zv3) underlying27 zeroValue27 rfl (places_api_Endpoint_27) rfl rfl) ?_
   refine av rfl (r_nilCheck rfl) ?_
   refine fa 2 underlying33 rfl rfl sizeOf27 rfl rfl ?_
   refine at_store (c:=c_api_Endpoint) (z:=zv3) (.s .z) (c_api_Item_f_From g0_ x0) sizeOf27 rfl rfl rfl ?_
   refine at_nil ?_
   refine at_weak [] trivial ?_
   refine at_retI0 rfl ?_
   refine at_nil ?_
   refine wq [16,15,14,4,1] rfl ?_
   refine at_blk_normal (at_then_normal ?_)
   refine at_region ?_
   refine av rfl (r_iadd rfl rfl) ?_
   refine at_ov (t:=23) rfl (show Value.int .i64 (wr .i64 (0 + 1)) = .int .i64 1 from by rfl) ?_
   refine am rfl rfl ?_
   refine nt ?_
   refine wq [16,15,14,4,1] rfl ?_
   refine at_round ?_
   refine sr ?_
   refine av rfl (r_ilss rfl rfl) ?_
   refine at_fix (g:=17) rfl (show (decide (1 < 3)) = true from by decide) ?_
   refine nwq [17,16,15,14,4,1] rfl ?_
   refine at_seq ?_
   refine ct rfl rfl ?_
   refine sn ?_
   refine at_seq ?_
   refine at_block ?_
   refine sr ?_
   refine av rfl (r_idx underlying96 sizeOf104 rfl rfl (by decide) rfl) ?_
   refine av rfl (r_load_agg (l:=zl11) isAgg104 sizeOf104 rfl rfl (fun w1 hw=>cells_mid (pre:=zl13) (suf:=zl12) (hw.ok (Upd.mem .z)) rfl rfl)) ?_
   refine at_alloc (cs:=zl20) zeroValue104 rfl rfl ?_
   intro b40
   refine sa 3 (zl11) .z rfl rfl sizeOf104 rfl rfl rfl ?_
   refine nwq [16,15,14,6,4,1] rfl ?_
   refine at_region ?_
   refine fa 2 underlying104 rfl rfl sizeOf102 rfl rfl ?_
   refine av rfl (r_load_cell isAgg102 rfl (fun w1 hw=>cells_get (hw.ok (Upd.mem .z)) 2 _ rfl)) ?_
   refine at_callee rfl ?_
   refine at_callI func129 rfl (by kernel_rfl) rfl rfl rfl rfl ?_
   refine dz ?_
   refine at_region ?_
   refine am rfl rfl ?_
   refine av rfl (r_nilCheck rfl) ?_
   refine fa 1 underlying33 rfl rfl sizeOf22 rfl rfl ?_
   refine at_store (c:=cSv Int) (z:=(zv2,([] : List Int))) (.s .z) (c_api_Item_f_Bytes_sv g0_ ({ x0 with f_From:=zv3 })) sizeOf22 rfl rfl rfl ?_
   refine at_nil ?_
   refine at_weak [] trivial ?_
   refine at_retI0 rfl ?_
   refine at_nil ?_
   refine wq [16,15,14,4,1] rfl ?_
   refine at_blk_normal (at_then_normal ?_)
   refine at_region ?_
   refine av rfl (r_iadd rfl rfl) ?_
   refine at_ov (t:=23) rfl (show Value.int .i64 (wr .i64 (1 + 1)) = .int .i64 2 from by rfl) ?_
   refine am rfl rfl ?_
   refine nt ?_
   refine wq [16,15,14,4,1] rfl ?_
   refine at_round ?_
   refine sr ?_
   refine av rfl (r_ilss rfl rfl) ?_
   refine at_fix (g:=17) rfl (show (decide (2 < 3)) = true from by decide) ?_
   refine nwq [17,16,15,14,4,1] rfl ?_
   refine at_seq ?_
   refine ct rfl rfl ?_
   refine sn ?_
   refine at_seq ?_
   refine at_block ?_
   refine sr ?_
   refine av rfl (r_idx underlying96 sizeOf104 rfl rfl (by decide) rfl) ?_
   refine av rfl (r_load_agg (l:=zl12) isAgg104 sizeOf104 rfl rfl (fun w1 hw=>cells_mid (pre:=zl8) (suf:=[]) (hw.ok (Upd.mem .z)) rfl rfl)) ?_
   refine at_alloc (cs:=zl20) zeroValue104 rfl rfl ?_
   intro b41
   refine sa 3 (zl12) .z rfl rfl sizeOf104 rfl rfl rfl ?_
   refine nwq [16,15,14,6,4,1] rfl ?_
   refine at_region ?_
   refine fa 2 underlying104 rfl rfl sizeOf102 rfl rfl ?_
   refine av rfl (r_load_cell isAgg102 rfl (fun w1 hw=>cells_get (hw.ok (Upd.mem .z)) 2 _ rfl)) ?_
   refine at_callee rfl ?_
   refine at_callI func132 rfl (by kernel_rfl) rfl rfl rfl rfl ?_
   refine dz ?_
   refine sr ?_
   refine am rfl rfl ?_
   refine av rfl (r_nilCheck rfl) ?_
   refine fa 21 underlying33 rfl rfl sizeOf4 rfl rfl ?_
   refine av rfl (r_load_cell isAgg4 rfl (lens_cell0 (c:=cBool) (y:=({ { x0 with f_From:=zv3 } with f_Bytes:=([] : List Int) }).f_Ok) (.s .z) (c_api_Item_f_Ok (zv2,(g0_.2.1,g0_.2.2)) ({ { x0 with f_From:=zv3 } with f_Bytes:=([] : List Int) })) rfl)) ?_
   refine nwq [5,0] rfl ?_
   rcases oi hF with ⟨h42,hF⟩|⟨h42,hF⟩
   ·refine ct rfl h42 ?_
    refine at_region ?_
    refine am rfl rfl ?_
    refine am rfl rfl ?_
    refine av rfl (r_nilCheck rfl) ?_
    refine fa 21 underlying33 rfl rfl sizeOf4 rfl rfl ?_
    refine at_store (c:=cBool) (z:=false) (.s .z) (c_api_Item_f_Ok (zv2,(g0_.2.1,g0_.2.2)) ({ { x0 with f_From:=zv3 } with f_Bytes:=([] : List Int) })) sizeOf4 rfl rfl rfl ?_
    refine av rfl (r_nilCheck rfl) ?_
    refine fa 20 underlying33 rfl rfl sizeOf22 rfl rfl ?_
    refine at_store (c:=cSv Int) (z:=(zv2,([] : List Int))) (.s .z) (c_api_Item_f_Result_sv (zv2,(g0_.2.1,g0_.2.2)) ({ { { x0 with f_From:=zv3 } with f_Bytes:=([] : List Int) } with f_Ok:=false })) sizeOf22 rfl rfl rfl ?_
    refine at_nil ?_
    refine at_weak [] trivial ?_
    refine at_retI0 rfl ?_
    refine at_nil ?_
    refine wq [16,15,14,4,1] rfl ?_
    refine at_blk_normal (at_then_normal ?_)
    refine at_region ?_
    refine av rfl (r_iadd rfl rfl) ?_
    refine at_ov (t:=23) rfl (show Value.int .i64 (wr .i64 (2 + 1)) = .int .i64 3 from by rfl) ?_
    refine am rfl rfl ?_
    refine nt ?_
    refine wq [16,15,14,4,1] rfl ?_
    refine at_round ?_
    refine sr ?_
    refine av rfl (r_ilss rfl rfl) ?_
    refine at_fix (g:=17) rfl (show (decide (3 < 3)) = false from by decide) ?_
    refine nwq [17,16,15,14,4,1] rfl ?_
    refine at_seq ?_
    refine cf rfl rfl ?_
    refine at_exit ?_
    refine at_then_exit (at_then_exit ?_)
    refine at_blk_same ?_
    refine dz ?_
    refine tn ?_
    refine sr ?_
    refine am rfl rfl ?_
    refine am rfl rfl ?_
    refine gy rfl rfl rfl ?_
    refine av rfl (r_load_aggc (c:=c_api_Item) (z:=(zv5,{ { { { x0 with f_From:=zv3 } with f_Bytes:=([] : List Int) } with f_Ok:=false } with f_Result:=([] : List Int) })) isAgg33 sizeOf33 rfl (lens_cell .z (Lens.whole _ _))) ?_
    refine gy rfl rfl rfl ?_
    refine fa 0 underlying33 rfl rfl sizeOf3 rfl rfl ?_
    refine gy rfl rfl rfl ?_
    refine av rfl (r_load_cell isAgg3 rfl (lens_cell0 (c:=(cInt .i64)) (y:=({ { { { x0 with f_From:=zv3 } with f_Bytes:=([] : List Int) } with f_Ok:=false } with f_Result:=([] : List Int) }).f_Kind) .z (c_api_Item_f_Kind zv5 ({ { { { x0 with f_From:=zv3 } with f_Bytes:=([] : List Int) } with f_Ok:=false } with f_Result:=([] : List Int) })) rfl)) ?_
    refine gy rfl rfl rfl ?_
    refine av rfl (r_build_struct (zs:=Cd.cs c_api_Item zv6) (cs:=Cd.cs c_api_Item (zv5,{ zv4 with f_Kind:=({ { { { x0 with f_From:=zv3 } with f_Bytes:=([] : List Int) } with f_Ok:=false } with f_Result:=([] : List Int) }).f_Kind })) underlying33 zeroValue33 rfl (places_api_Item_33) rfl (fill_step (c:=(cInt .i64)) (z:=({ { { { x0 with f_From:=zv3 } with f_Bytes:=([] : List Int) } with f_Ok:=false } with f_Result:=([] : List Int) }).f_Kind) rfl (c_api_Item_f_Kind zv5 zv4) rfl rfl)) ?_
    refine gy rfl rfl rfl ?_
    obtain ⟨t43,ht43,hF⟩:=of_bindM hF
    refine at_callB func12 rfl (by kernel_rfl) rfl rfl (fun w hw=>script_Same_ok _ _ _ _ _ ht43 w ⟨(Row.nil ..),(Row.nil ..)⟩ ⟨(Row.nil ..),(Row.nil ..)⟩) ?_
    refine av rfl (r_pick rfl rfl rfl) ?_
    refine aa rfl rfl ?_
    refine at_nil ?_
    refine dz ?_
    refine wq [2] rfl ?_
    refine tn ?_
    refine at_ret ?_
    have K:=of_some hF
    subst K
    exact at_return1 rfl rfl (fun w1 hw=>⟨rfl,hw.below⟩)
   refine cf rfl h42 ?_
   refine at_skip ?_
   refine at_retI0 rfl ?_
   refine at_nil ?_
   refine wq [16,15,14,4,1] rfl ?_
   refine at_blk_normal (at_then_normal ?_)
   refine at_region ?_
   refine av rfl (r_iadd rfl rfl) ?_
   refine at_ov (t:=23) rfl (show Value.int .i64 (wr .i64 (2 + 1)) = .int .i64 3 from by rfl) ?_
   refine am rfl rfl ?_
   refine nt ?_
   refine wq [16,15,14,4,1] rfl ?_
   refine at_round ?_
   refine sr ?_
   refine av rfl (r_ilss rfl rfl) ?_
   refine at_fix (g:=17) rfl (show (decide (3 < 3)) = false from by decide) ?_
   refine nwq [17,16,15,14,4,1] rfl ?_
   refine at_seq ?_
   refine cf rfl rfl ?_
   refine at_exit ?_
   refine at_then_exit (at_then_exit ?_)
   refine at_blk_same ?_
   refine dz ?_
   refine tn ?_
   refine sr ?_
   refine am rfl rfl ?_
   refine am rfl rfl ?_
   refine gy rfl rfl rfl ?_
   refine av rfl (r_load_aggc (c:=c_api_Item) (z:=((zv2,(g0_.2.1,g0_.2.2)),{ { x0 with f_From:=zv3 } with f_Bytes:=([] : List Int) })) isAgg33 sizeOf33 rfl (lens_cell .z (Lens.whole _ _))) ?_
   refine gy rfl rfl rfl ?_
   refine fa 0 underlying33 rfl rfl sizeOf3 rfl rfl ?_
   refine gy rfl rfl rfl ?_
   refine av rfl (r_load_cell isAgg3 rfl (lens_cell0 (c:=(cInt .i64)) (y:=({ { x0 with f_From:=zv3 } with f_Bytes:=([] : List Int) }).f_Kind) .z (c_api_Item_f_Kind (zv2,(g0_.2.1,g0_.2.2)) ({ { x0 with f_From:=zv3 } with f_Bytes:=([] : List Int) })) rfl)) ?_
   refine gy rfl rfl rfl ?_
   refine av rfl (r_build_struct (zs:=Cd.cs c_api_Item zv6) (cs:=Cd.cs c_api_Item (zv5,{ zv4 with f_Kind:=({ { x0 with f_From:=zv3 } with f_Bytes:=([] : List Int) }).f_Kind })) underlying33 zeroValue33 rfl (places_api_Item_33) rfl (fill_step (c:=(cInt .i64)) (z:=({ { x0 with f_From:=zv3 } with f_Bytes:=([] : List Int) }).f_Kind) rfl (c_api_Item_f_Kind zv5 zv4) rfl rfl)) ?_
   refine gy rfl rfl rfl ?_
   obtain ⟨t44,ht44,hF⟩:=of_bindM hF
   refine at_callB func12 rfl (by kernel_rfl) rfl rfl (fun w hw=>script_Same_ok _ _ _ _ _ ht44 w ⟨(Row.nil ..),(RowK.row (RowK.mono hz0.2 (frz_mono (.s .z) hw)))⟩ ⟨(Row.nil ..),(Row.nil ..)⟩) ?_
   refine av rfl (r_pick rfl rfl rfl) ?_
   refine aa rfl rfl ?_
   refine at_nil ?_
   refine dz ?_
   refine wq [2] rfl ?_
   refine tn ?_
   refine at_ret ?_
   have K:=of_some hF
   subst K
   exact at_return1 rfl rfl (fun w1 hw=>⟨rfl,hw.below⟩)
  refine cf rfl h39 ?_
  refine at_region ?_
  refine am rfl rfl ?_
  refine av rfl (r_nilCheck rfl) ?_
  refine fa 2 underlying33 rfl rfl sizeOf27 rfl rfl ?_
  refine fa 17 underlying27 rfl rfl sizeOf3 rfl rfl ?_
  refine at_store (c:=(cInt .i64)) (z:=(-1)) (.s .z) (Lens.comp (c_api_Item_f_From g0_ x0) (fun z=>{ x0.f_From with f_Port:=z }) (c_api_Endpoint_f_Port x0.f_From)) sizeOf3 rfl rfl rfl ?_
  refine at_nil ?_
  refine at_weak [] trivial ?_
  refine at_retI0 rfl ?_
  refine at_nil ?_
  refine wq [16,15,14,4,1] rfl ?_
  refine at_blk_normal (at_then_normal ?_)
  refine at_region ?_
  refine av rfl (r_iadd rfl rfl) ?_
  refine at_ov (t:=23) rfl (show Value.int .i64 (wr .i64 (0 + 1)) = .int .i64 1 from by rfl) ?_
  refine am rfl rfl ?_
  refine nt ?_
  refine wq [16,15,14,4,1] rfl ?_
  refine at_round ?_
  refine sr ?_
  refine av rfl (r_ilss rfl rfl) ?_
  refine at_fix (g:=17) rfl (show (decide (1 < 3)) = true from by decide) ?_
  refine nwq [17,16,15,14,4,1] rfl ?_
  refine at_seq ?_
  refine ct rfl rfl ?_
  refine sn ?_
  refine at_seq ?_
  refine at_block ?_
  refine sr ?_
  refine av rfl (r_idx underlying96 sizeOf104 rfl rfl (by decide) rfl) ?_
  refine av rfl (r_load_agg (l:=zl11) isAgg104 sizeOf104 rfl rfl (fun w1 hw=>cells_mid (pre:=zl13) (suf:=zl12) (hw.ok (Upd.mem .z)) rfl rfl)) ?_
  refine at_alloc (cs:=zl20) zeroValue104 rfl rfl ?_
  intro b45
  refine sa 3 (zl11) .z rfl rfl sizeOf104 rfl rfl rfl ?_
  refine nwq [16,15,14,6,4,1] rfl ?_
  refine at_region ?_
  refine fa 2 underlying104 rfl rfl sizeOf102 rfl rfl ?_
  refine av rfl (r_load_cell isAgg102 rfl (fun w1 hw=>cells_get (hw.ok (Upd.mem .z)) 2 _ rfl)) ?_
  refine at_callee rfl ?_
  refine at_callI func129 rfl (by kernel_rfl) rfl rfl rfl rfl ?_
  refine dz ?_
  refine at_region ?_
  refine am rfl rfl ?_
  refine av rfl (r_nilCheck rfl) ?_
  refine fa 1 underlying33 rfl rfl sizeOf22 rfl rfl ?_
  refine at_store (c:=cSv Int) (z:=(zv2,([] : List Int))) (.s .z) (c_api_Item_f_Bytes_sv g0_ ({ x0 with f_From:={ x0.f_From with f_Port:=(-1) } })) sizeOf22 rfl rfl rfl ?_
  refine at_nil ?_
  refine at_weak [] trivial ?_
  refine at_retI0 rfl ?_
  refine at_nil ?_
  refine wq [16,15,14,4,1] rfl ?_
  refine at_blk_normal (at_then_normal ?_)
  refine at_region ?_
  refine av rfl (r_iadd rfl rfl) ?_
  refine at_ov (t:=23) rfl (show Value.int .i64 (wr .i64 (1 + 1)) = .int .i64 2 from by rfl) ?_
  refine am rfl rfl ?_
  refine nt ?_
  refine wq [16,15,14,4,1] rfl ?_
  refine at_round ?_
  refine sr ?_
  refine av rfl (r_ilss rfl rfl) ?_
  refine at_fix (g:=17) rfl (show (decide (2 < 3)) = true from by decide) ?_
  refine nwq [17,16,15,14,4,1] rfl ?_
  refine at_seq ?_
  refine ct rfl rfl ?_
  refine sn ?_
  refine at_seq ?_
  refine at_block ?_
  refine sr ?_
  refine av rfl (r_idx underlying96 sizeOf104 rfl rfl (by decide) rfl) ?_
  refine av rfl (r_load_agg (l:=zl12) isAgg104 sizeOf104 rfl rfl (fun w1 hw=>cells_mid (pre:=zl8) (suf:=[]) (hw.ok (Upd.mem .z)) rfl rfl)) ?_
  refine at_alloc (cs:=zl20) zeroValue104 rfl rfl ?_
  intro b46
  refine sa 3 (zl12) .z rfl rfl sizeOf104 rfl rfl rfl ?_
  refine nwq [16,15,14,6,4,1] rfl ?_
  refine at_region ?_
  refine fa 2 underlying104 rfl rfl sizeOf102 rfl rfl ?_
  refine av rfl (r_load_cell isAgg102 rfl (fun w1 hw=>cells_get (hw.ok (Upd.mem .z)) 2 _ rfl)) ?_
  refine at_callee rfl ?_
  refine at_callI func132 rfl (by kernel_rfl) rfl rfl rfl rfl ?_
  refine dz ?_
  refine sr ?_
  refine am rfl rfl ?_
  refine av rfl (r_nilCheck rfl) ?_
  refine fa 21 underlying33 rfl rfl sizeOf4 rfl rfl ?_
  refine av rfl (r_load_cell isAgg4 rfl (lens_cell0 (c:=cBool) (y:=({ { x0 with f_From:={ x0.f_From with f_Port:=(-1) } } with f_Bytes:=([] : List Int) }).f_Ok) (.s .z) (c_api_Item_f_Ok (zv2,(g0_.2.1,g0_.2.2)) ({ { x0 with f_From:={ x0.f_From with f_Port:=(-1) } } with f_Bytes:=([] : List Int) })) rfl)) ?_
  refine nwq [5,0] rfl ?_
  rcases oi hF with ⟨h47,hF⟩|⟨h47,hF⟩
  ·refine ct rfl h47 ?_
   refine at_region ?_
   refine am rfl rfl ?_
   refine am rfl rfl ?_
   refine av rfl (r_nilCheck rfl) ?_
   refine fa 21 underlying33 rfl rfl sizeOf4 rfl rfl ?_
   refine at_store (c:=cBool) (z:=false) (.s .z) (c_api_Item_f_Ok (zv2,(g0_.2.1,g0_.2.2)) ({ { x0 with f_From:={ x0.f_From with f_Port:=(-1) } } with f_Bytes:=([] : List Int) })) sizeOf4 rfl rfl rfl ?_
   refine av rfl (r_nilCheck rfl) ?_
   refine fa 20 underlying33 rfl rfl sizeOf22 rfl rfl ?_
   refine at_store (c:=cSv Int) (z:=(zv2,([] : List Int))) (.s .z) (c_api_Item_f_Result_sv (zv2,(g0_.2.1,g0_.2.2)) ({ { { x0 with f_From:={ x0.f_From with f_Port:=(-1) } } with f_Bytes:=([] : List Int) } with f_Ok:=false })) sizeOf22 rfl rfl rfl ?_
   refine at_nil ?_
   refine at_weak [] trivial ?_
   refine at_retI0 rfl ?_
   refine at_nil ?_
   refine wq [16,15,14,4,1] rfl ?_
   refine at_blk_normal (at_then_normal ?_)
   refine at_region ?_
   refine av rfl (r_iadd rfl rfl) ?_
   refine at_ov (t:=23) rfl (show Value.int .i64 (wr .i64 (2 + 1)) = .int .i64 3 from by rfl) ?_
   refine am rfl rfl ?_
   refine nt ?_
   refine wq [16,15,14,4,1] rfl ?_
   refine at_round ?_
   refine sr ?_
   refine av rfl (r_ilss rfl rfl) ?_
   refine at_fix (g:=17) rfl (show (decide (3 < 3)) = false from by decide) ?_
   refine nwq [17,16,15,14,4,1] rfl ?_
   refine at_seq ?_
   refine cf rfl rfl ?_
   refine at_exit ?_
   refine at_then_exit (at_then_exit ?_)
   refine at_blk_same ?_
   refine dz ?_
   refine tn ?_
   refine sr ?_
   refine am rfl rfl ?_
   refine am rfl rfl ?_
   refine gy rfl rfl rfl ?_
   refine av rfl (r_load_aggc (c:=c_api_Item) (z:=(zv5,{ { { { x0 with f_From:={ x0.f_From with f_Port:=(-1) } } with f_Bytes:=([] : List Int) } with f_Ok:=false } with f_Result:=([] : List Int) })) isAgg33 sizeOf33 rfl (lens_cell .z (Lens.whole _ _))) ?_
   refine gy rfl rfl rfl ?_
   refine fa 0 underlying33 rfl rfl sizeOf3 rfl rfl ?_
   refine gy rfl rfl rfl ?_
   refine av rfl (r_load_cell isAgg3 rfl (lens_cell0 (c:=(cInt .i64)) (y:=({ { { { x0 with f_From:={ x0.f_From with f_Port:=(-1) } } with f_Bytes:=([] : List Int) } with f_Ok:=false } with f_Result:=([] : List Int) }).f_Kind) .z (c_api_Item_f_Kind zv5 ({ { { { x0 with f_From:={ x0.f_From with f_Port:=(-1) } } with f_Bytes:=([] : List Int) } with f_Ok:=false } with f_Result:=([] : List Int) })) rfl)) ?_
   refine gy rfl rfl rfl ?_
   refine av rfl (r_build_struct (zs:=Cd.cs c_api_Item zv6) (cs:=Cd.cs c_api_Item (zv5,{ zv4 with f_Kind:=({ { { { x0 with f_From:={ x0.f_From with f_Port:=(-1) } } with f_Bytes:=([] : List Int) } with f_Ok:=false } with f_Result:=([] : List Int) }).f_Kind })) underlying33 zeroValue33 rfl (places_api_Item_33) rfl (fill_step (c:=(cInt .i64)) (z:=({ { { { x0 with f_From:={ x0.f_From with f_Port:=(-1) } } with f_Bytes:=([] : List Int) } with f_Ok:=false } with f_Result:=([] : List Int) }).f_Kind) rfl (c_api_Item_f_Kind zv5 zv4) rfl rfl)) ?_
   refine gy rfl rfl rfl ?_
   obtain ⟨t48,ht48,hF⟩:=of_bindM hF
   refine at_callB func12 rfl (by kernel_rfl) rfl rfl (fun w hw=>script_Same_ok _ _ _ _ _ ht48 w ⟨(Row.nil ..),(Row.nil ..)⟩ ⟨(Row.nil ..),(Row.nil ..)⟩) ?_
   refine av rfl (r_pick rfl rfl rfl) ?_
   refine aa rfl rfl ?_
   refine at_nil ?_
   refine dz ?_
   refine wq [2] rfl ?_
   refine tn ?_
   refine at_ret ?_
   have K:=of_some hF
   subst K
   exact at_return1 rfl rfl (fun w1 hw=>⟨rfl,hw.below⟩)
  refine cf rfl h47 ?_
  refine at_skip ?_
  refine at_retI0 rfl ?_
  refine at_nil ?_
  refine wq [16,15,14,4,1] rfl ?_
  refine at_blk_normal (at_then_normal ?_)
  refine at_region ?_
  refine av rfl (r_iadd rfl rfl) ?_
  refine at_ov (t:=23) rfl (show Value.int .i64 (wr .i64 (2 + 1)) = .int .i64 3 from by rfl) ?_
  refine am rfl rfl ?_
  refine nt ?_
  refine wq [16,15,14,4,1] rfl ?_
  refine at_round ?_
  refine sr ?_
  refine av rfl (r_ilss rfl rfl) ?_
  refine at_fix (g:=17) rfl (show (decide (3 < 3)) = false from by decide) ?_
  refine nwq [17,16,15,14,4,1] rfl ?_
  refine at_seq ?_
  refine cf rfl rfl ?_
  refine at_exit ?_
  refine at_then_exit (at_then_exit ?_)
  refine at_blk_same ?_
  refine dz ?_
  refine tn ?_
  refine sr ?_
  refine am rfl rfl ?_
  refine am rfl rfl ?_
  refine gy rfl rfl rfl ?_
  refine av rfl (r_load_aggc (c:=c_api_Item) (z:=((zv2,(g0_.2.1,g0_.2.2)),{ { x0 with f_From:={ x0.f_From with f_Port:=(-1) } } with f_Bytes:=([] : List Int) })) isAgg33 sizeOf33 rfl (lens_cell .z (Lens.whole _ _))) ?_
  refine gy rfl rfl rfl ?_
  refine fa 0 underlying33 rfl rfl sizeOf3 rfl rfl ?_
  refine gy rfl rfl rfl ?_
  refine av rfl (r_load_cell isAgg3 rfl (lens_cell0 (c:=(cInt .i64)) (y:=({ { x0 with f_From:={ x0.f_From with f_Port:=(-1) } } with f_Bytes:=([] : List Int) }).f_Kind) .z (c_api_Item_f_Kind (zv2,(g0_.2.1,g0_.2.2)) ({ { x0 with f_From:={ x0.f_From with f_Port:=(-1) } } with f_Bytes:=([] : List Int) })) rfl)) ?_
  refine gy rfl rfl rfl ?_
  refine av rfl (r_build_struct (zs:=Cd.cs c_api_Item zv6) (cs:=Cd.cs c_api_Item (zv5,{ zv4 with f_Kind:=({ { x0 with f_From:={ x0.f_From with f_Port:=(-1) } } with f_Bytes:=([] : List Int) }).f_Kind })) underlying33 zeroValue33 rfl (places_api_Item_33) rfl (fill_step (c:=(cInt .i64)) (z:=({ { x0 with f_From:={ x0.f_From with f_Port:=(-1) } } with f_Bytes:=([] : List Int) }).f_Kind) rfl (c_api_Item_f_Kind zv5 zv4) rfl rfl)) ?_
  refine gy rfl rfl rfl ?_
  obtain ⟨t49,ht49,hF⟩:=of_bindM hF
  refine at_callB func12 rfl (by kernel_rfl) rfl rfl (fun w hw=>script_Same_ok _ _ _ _ _ ht49 w ⟨(Row.nil ..),(RowK.row (RowK.mono hz0.2 (frz_mono (.s .z) hw)))⟩ ⟨(Row.nil ..),(Row.nil ..)⟩) ?_
  refine av rfl (r_pick rfl rfl rfl) ?_
  refine aa rfl rfl ?_
  refine at_nil ?_
  refine dz ?_
  refine wq [2] rfl ?_
  refine tn ?_
  refine at_ret ?_
  have K:=of_some hF
  subst K
  exact at_return1 rfl rfl (fun w1 hw=>⟨rfl,hw.below⟩)
 refine cf rfl h31 ?_
 refine sr ?_
 refine av rfl (r_ieql rfl rfl) ?_
 refine aa rfl rfl ?_
 refine nwq [32,8,5,4,2] rfl ?_
 rcases oi hF with ⟨h50,hF⟩|⟨h50,hF⟩
 ·refine ct rfl h50 ?_
  refine at_seq ?_
  refine wq [5,4,2] rfl ?_
  refine at_inv [.q 34 (fun g52=>.agg (zl9).toArray) [] 0 0,.q 35 (fun g52=>.agg (zl6 b3).toArray) [] 0 0,.q 36 (fun g52=>.agg (zl6 b6).toArray) [] 0 0,.q 37 (fun g52=>.agg (zl10).toArray) [] 0 0,.al 0 38 (fun g52=>.slice (some ⟨((g52 0).1),0,none⟩) 4 4) [0,1,2,3],.q 39 (fun g52=>.agg #[.string (⟨#[105,110,115,116,97,108,108]⟩),.slice (some ⟨((g52 0).1),0,none⟩) 4 4]) [4] 1 1,.st 1 none [5],.q 3 (fun g52=>.bool true) [] 2 2] (fun g52 s=>match s with | 0=>(Wd w [cellsE b8 (zl6 b6) 104,cellsE b6 zl22 133,cellsE b5 (zl6 b3) 104,cellsE b3 zl21 133,cellsE b2 zl19 98,cellsE b1 (Cd.cs c_api_Item (g0_,x0)) 33,frzE w Z_ s_]) | 1=>(Wd w [cellsE ((g52 0).1) (zl0 b3 b6) 104,cellsE b8 (zl6 b6) 104,cellsE b6 zl22 133,cellsE b5 (zl6 b3) 104,cellsE b3 zl21 133,cellsE b2 zl19 98,cellsE b1 (Cd.cs c_api_Item (g0_,x0)) 33,frzE w Z_ s_]) | _=>(Wd w [cellsE ((g52 0).1) (zl0 b3 b6) 104,cellsE b8 (zl6 b6) 104,cellsE b6 zl22 133,cellsE b5 (zl6 b3) 104,cellsE b3 zl21 133,cellsE b2 [.string (⟨#[105,110,115,116,97,108,108]⟩),.slice (some ⟨((g52 0).1),0,none⟩) 4 4] 98,cellsE b1 (Cd.cs c_api_Item (g0_,x0)) 33,frzE w Z_ s_])) 2 (by kernel_rfl) (by kernel_rfl) (by kernel_rfl) (by kernel_rfl) (by kernel_rfl) ⟨fun _ _ _=>rfl,fun _ _ _=>rfl,fun _ _ _=>rfl,fun _ _ _=>rfl,fun g52 g2 h=>by show (.slice (some ⟨((g52 0).1),0,none⟩) 4 4 : Value) = .slice (some ⟨((g2 0).1),0,none⟩) 4 4; rw [h 0 (show 0 < 1 by decide)],fun g52 g2 h=>by show (.agg #[.string (⟨#[105,110,115,116,97,108,108]⟩),.slice (some ⟨((g52 0).1),0,none⟩) 4 4] : Value) = .agg #[.string (⟨#[105,110,115,116,97,108,108]⟩),.slice (some ⟨((g2 0).1),0,none⟩) 4 4]; rw [h 0 (show 0 < 1 by decide)],fun _ _ _=>rfl,fun _ _ _=>rfl,trivial⟩ (by kernel_rfl) (fun w_ h=>⟨fun _=>g3 0 none 0 none w_,h.drew⟩) ⟨?_,?_,?_,?_,?_,?_,?_,?_,trivial⟩ ?_
  ·intro Lx g52 s K hl hh k
   show At 46 ((2,_)::(4,_)::(5,_)::Lx) _ _
   obtain rfl : s = 0:=by omega
   refine at_callB func81 rfl (by kernel_rfl) rfl rfl (fun w1 hw=>script_key_ok () rfl w1) ?_
   exact at_nil k
  ·intro Lx g52 s K hl hh k
   show At 46 ((2,_)::(4,_)::(5,_)::Lx) _ _
   obtain rfl : s = 0:=by omega
   refine av rfl (r_load_agg (l:=(zl6 b3)) isAgg104 sizeOf104 rfl rfl (fun w1 hw=>cells_mid (pre:=[]) (suf:=[]) (hw.ok (Upd.mem (.s (.s .z)))) (List.append_nil _).symm rfl)) ?_
   exact at_nil k
  ·intro Lx g52 s K hl hh k
   show At 46 ((2,_)::(4,_)::(5,_)::Lx) _ _
   obtain rfl : s = 0:=by omega
   refine av rfl (r_load_agg (l:=(zl6 b6)) isAgg104 sizeOf104 rfl rfl (fun w1 hw=>cells_mid (pre:=[]) (suf:=[]) (hw.ok (Upd.mem .z)) (List.append_nil _).symm rfl)) ?_
   exact at_nil k
  ·intro Lx g52 s K hl hh k
   show At 46 ((2,_)::(4,_)::(5,_)::Lx) _ _
   obtain rfl : s = 0:=by omega
   refine at_callB func82 rfl (by kernel_rfl) rfl rfl (fun w1 hw=>script_next_ok () rfl w1) ?_
   exact at_nil k
  ·intro Lx g52 K k
   show At 46 ((34,_)::(35,_)::(36,_)::(37,_)::(2,_)::(4,_)::(5,_)::Lx) _ _
   refine at_litG (cs:=(zl0 b3 b6)) underlying96 sizeOf104 zeroValue104 rfl rfl rfl (by kernel_rfl) rfl ?_
   intro b51
   exact at_nil (k (g3 b51 none 0 none w))
  ·intro Lx g52 s K hl hh k
   show At 46 ((38,_)::(2,_)::(4,_)::(5,_)::Lx) _ _
   obtain rfl : s = 1:=by omega
   refine av rfl (r_build_struct (zs:=zl19) (cs:=[.string (⟨#[105,110,115,116,97,108,108]⟩),.slice (some ⟨((g52 0).1),0,none⟩) 4 4]) underlying98 zeroValue98 rfl placesR_98 rfl rfl) ?_
   exact at_nil k
  ·intro Lx g52 K k
   show At 46 ((39,_)::(2,_)::(4,_)::(5,_)::Lx) _ _
   refine sa 2 ([.string (⟨#[105,110,115,116,97,108,108]⟩),.slice (some ⟨((g52 0).1),0,none⟩) 4 4]) (.s (.s (.s (.s (.s .z))))) rfl rfl sizeOf98 rfl rfl rfl ?_
   exact at_nil k
  ·intro Lx g52 s K hl hh k
   show At 46 ((2,_)::(4,_)::(5,_)::Lx) _ _
   refine aa rfl rfl ?_
   exact at_nil k
  intro g52
  show At 46 [(34,_),(35,_),(36,_),(37,_),(38,_),(39,_),(3,_),(2,_),(4,_),(5,_)] _ _
  refine at_drop (H:=_) (.s .z) ?_
  refine at_drop (H:=_) (.s (.s .z)) ?_
  refine wq [3,2] rfl ?_
  refine tn ?_
  refine at_ret ?_
  refine at_blk_ret (at_then_ret ?_)
  refine at_resI2 rfl (res_cell (c:=cK 2 (by decide)) (y:=ck 2 ([.string (⟨#[105,110,115,116,97,108,108]⟩),.slice (some ⟨(g52 0).1,0,none⟩) 4 4]) rfl) rfl (.s (.s (.s .z))) (Lens.whole _ _) isAgg98 sizeOf98 (.inl rfl)) (res_tmp rfl) ?_
  refine am rfl rfl ?_
  refine av rfl (r_extract rfl rfl) ?_
  refine av rfl (r_extract rfl rfl) ?_
  refine at_alloc (cs:=zl19) zeroValue98 rfl rfl ?_
  intro b53
  refine sa 2 ([.string (⟨#[105,110,115,116,97,108,108]⟩),.slice (some ⟨(g52 0).1,0,none⟩) 4 4]) .z rfl rfl sizeOf98 rfl rfl rfl ?_
  refine aa rfl rfl ?_
  refine at_nil ?_
  refine at_drop (H:=_) (.s (.s (.s (.s .z)))) ?_
  refine tn ?_
  refine at_seq ?_
  refine sr ?_
  refine fa 1 underlying98 rfl rfl sizeOf96 rfl rfl ?_
  refine av rfl (r_load_cell isAgg96 rfl (fun w1 hw=>cells_get (hw.ok (Upd.mem .z)) 1 _ rfl)) ?_
  refine av rfl (r_len_sl underlying96 rfl) ?_
  refine am rfl rfl ?_
  refine at_nil ?_
  refine dz ?_
  refine wq [16,15,14,4,1] rfl ?_
  refine tn ?_
  refine at_block ?_
  refine wq [16,15,14,4,1] rfl ?_
  refine at_loop ?_
  refine at_round ?_
  refine sr ?_
  refine av rfl (r_ilss rfl rfl) ?_
  refine at_fix (g:=17) rfl (show (decide (0 < 4)) = true from by decide) ?_
  refine nwq [17,16,15,14,4,1] rfl ?_
  refine at_seq ?_
  refine ct rfl rfl ?_
  refine sn ?_
  refine at_seq ?_
  refine at_block ?_
  refine sr ?_
  refine av rfl (r_idx underlying96 sizeOf104 rfl rfl (by decide) rfl) ?_
  refine av rfl (r_load_agg (l:=zl9) isAgg104 sizeOf104 rfl rfl (fun w1 hw=>cells_mid (pre:=[]) (suf:=(zl1 b3 b6)) (hw.ok (Upd.mem .z)) rfl rfl)) ?_
  refine at_alloc (cs:=zl20) zeroValue104 rfl rfl ?_
  intro b54
  refine sa 3 (zl9) .z rfl rfl sizeOf104 rfl rfl rfl ?_
  refine nwq [16,15,14,6,4,1] rfl ?_
  refine at_region ?_
  refine fa 2 underlying104 rfl rfl sizeOf102 rfl rfl ?_
  refine av rfl (r_load_cell isAgg102 rfl (fun w1 hw=>cells_get (hw.ok (Upd.mem .z)) 2 _ rfl)) ?_
  refine at_callee rfl ?_
  refine at_callI func138 rfl (by kernel_rfl) rfl rfl rfl rfl ?_
  refine dz ?_
  refine at_region ?_
  refine am rfl rfl ?_
  refine av rfl (r_build_array (zs:=Cd.cs (cVec (cInt .u8) 32 (by decide)) (Vector.replicate 32 (0 : Int) : (Vector Int 32))) (cs:=Cd.cs (cVec (cInt .u8) 32 (by decide)) (Vector.replicate 32 (0 : Int) : (Vector Int 32))) underlying29 zeroValue29 rfl sizeOf5 rfl rfl) ?_
  refine av rfl (r_nilCheck rfl) ?_
  refine fa 22 underlying33 rfl rfl sizeOf29 rfl rfl ?_
  refine at_store (c:=(cVec (cInt .u8) 32 (by decide))) (z:=(Vector.replicate 32 (0 : Int) : (Vector Int 32))) (.s (.s (.s .z))) (c_api_Item_f_Key g0_ x0) sizeOf29 rfl rfl rfl ?_
  refine at_nil ?_
  refine at_weak [] trivial ?_
  refine at_retI0 rfl ?_
  refine at_nil ?_
  refine wq [16,15,14,4,1] rfl ?_
  refine at_blk_normal (at_then_normal ?_)
  refine at_region ?_
  refine av rfl (r_iadd rfl rfl) ?_
  refine at_ov (t:=23) rfl (show Value.int .i64 (wr .i64 (0 + 1)) = .int .i64 1 from by rfl) ?_
  refine am rfl rfl ?_
  refine nt ?_
  refine wq [16,15,14,4,1] rfl ?_
  refine at_round ?_
  refine sr ?_
  refine av rfl (r_ilss rfl rfl) ?_
  refine at_fix (g:=17) rfl (show (decide (1 < 4)) = true from by decide) ?_
  refine nwq [17,16,15,14,4,1] rfl ?_
  refine at_seq ?_
  refine ct rfl rfl ?_
  refine sn ?_
  refine at_seq ?_
  refine at_block ?_
  refine sr ?_
  refine av rfl (r_idx underlying96 sizeOf104 rfl rfl (by decide) rfl) ?_
  refine av rfl (r_load_agg (l:=(zl6 b3)) isAgg104 sizeOf104 rfl rfl (fun w1 hw=>cells_mid (pre:=zl9) (suf:=(zl3 b6)) (hw.ok (Upd.mem .z)) rfl rfl)) ?_
  refine at_alloc (cs:=zl20) zeroValue104 rfl rfl ?_
  intro b55
  refine sa 3 ((zl6 b3)) .z rfl rfl sizeOf104 rfl rfl rfl ?_
  refine nwq [16,15,14,6,4,1] rfl ?_
  refine at_region ?_
  refine fa 2 underlying104 rfl rfl sizeOf102 rfl rfl ?_
  refine av rfl (r_load_cell isAgg102 rfl (fun w1 hw=>cells_get (hw.ok (Upd.mem .z)) 2 _ rfl)) ?_
  refine at_calleeC (caps:=[.pointer (some ⟨b3,0,none⟩)]) rfl ?_
  refine at_callI func124 rfl (by kernel_rfl) rfl rfl rfl rfl ?_
  refine dz ?_
  refine wq [1,0] rfl ?_
  refine at_region ?_
  refine av rfl (r_load_cell isAgg133 rfl (fun w1 hw=>cells_get (hw.ok (Upd.mem (.s (.s .z)))) 0 _ rfl)) ?_
  refine am rfl rfl ?_
  refine at_callee rfl ?_
  refine at_callI func76 rfl (by kernel_rfl) rfl rfl rfl rfl ?_
  refine sr ?_
  refine aa rfl rfl ?_
  refine ns ?_
  refine am rfl rfl ?_
  refine av rfl (r_nilCheck rfl) ?_
  refine fa 54 underlying33 rfl rfl sizeOf30 rfl rfl ?_
  refine aa rfl rfl ?_
  refine nwq [2] rfl ?_
  refine at_ret ?_
  refine at_retI1 rfl rfl ?_
  refine av rfl (r_nilCheck rfl) ?_
  refine at_store (c:=(cInt .u32)) (z:=0) (.s (.s (.s .z))) (c_api_Item_f_Local g0_ ({ x0 with f_Key:=(Vector.replicate 32 (0 : Int) : (Vector Int 32)) })) sizeOf30 rfl rfl rfl ?_
  refine at_nil ?_
  refine at_weak [] trivial ?_
  refine at_retI0 rfl ?_
  refine at_nil ?_
  refine wq [16,15,14,4,1] rfl ?_
  refine at_blk_normal (at_then_normal ?_)
  refine at_region ?_
  refine av rfl (r_iadd rfl rfl) ?_
  refine at_ov (t:=23) rfl (show Value.int .i64 (wr .i64 (1 + 1)) = .int .i64 2 from by rfl) ?_
  refine am rfl rfl ?_
  refine nt ?_
  refine wq [16,15,14,4,1] rfl ?_
  refine at_round ?_
  refine sr ?_
  refine av rfl (r_ilss rfl rfl) ?_
  refine at_fix (g:=17) rfl (show (decide (2 < 4)) = true from by decide) ?_
  refine nwq [17,16,15,14,4,1] rfl ?_
  refine at_seq ?_
  refine ct rfl rfl ?_
  refine sn ?_
  refine at_seq ?_
  refine at_block ?_
  refine sr ?_
  refine av rfl (r_idx underlying96 sizeOf104 rfl rfl (by decide) rfl) ?_
  refine av rfl (r_load_agg (l:=(zl6 b6)) isAgg104 sizeOf104 rfl rfl (fun w1 hw=>cells_mid (pre:=(zl4 b3)) (suf:=zl10) (hw.ok (Upd.mem .z)) rfl rfl)) ?_
  refine at_alloc (cs:=zl20) zeroValue104 rfl rfl ?_
  intro b56
  refine sa 3 ((zl6 b6)) .z rfl rfl sizeOf104 rfl rfl rfl ?_
  refine nwq [16,15,14,6,4,1] rfl ?_
  refine at_region ?_
  refine fa 2 underlying104 rfl rfl sizeOf102 rfl rfl ?_
  refine av rfl (r_load_cell isAgg102 rfl (fun w1 hw=>cells_get (hw.ok (Upd.mem .z)) 2 _ rfl)) ?_
  refine at_calleeC (caps:=[.pointer (some ⟨b6,0,none⟩)]) rfl ?_
  refine at_callI func124 rfl (by kernel_rfl) rfl rfl rfl rfl ?_
  refine dz ?_
  refine wq [1,0] rfl ?_
  refine at_region ?_
  refine av rfl (r_load_cell isAgg133 rfl (fun w1 hw=>cells_get (hw.ok (Upd.mem (.s .z))) 0 _ rfl)) ?_
  refine am rfl rfl ?_
  refine at_callee rfl ?_
  refine at_callI func77 rfl (by kernel_rfl) rfl rfl rfl rfl ?_
  refine sr ?_
  refine aa rfl rfl ?_
  refine ns ?_
  refine am rfl rfl ?_
  refine av rfl (r_nilCheck rfl) ?_
  refine fa 55 underlying33 rfl rfl sizeOf30 rfl rfl ?_
  refine aa rfl rfl ?_
  refine nwq [2] rfl ?_
  refine at_ret ?_
  refine at_retI1 rfl rfl ?_
  refine av rfl (r_nilCheck rfl) ?_
  refine at_store (c:=(cInt .u32)) (z:=0) (.s (.s (.s .z))) (c_api_Item_f_Remote g0_ ({ { x0 with f_Key:=(Vector.replicate 32 (0 : Int) : (Vector Int 32)) } with f_Local:=0 })) sizeOf30 rfl rfl rfl ?_
  refine at_nil ?_
  refine at_weak [] trivial ?_
  refine at_retI0 rfl ?_
  refine at_nil ?_
  refine wq [16,15,14,4,1] rfl ?_
  refine at_blk_normal (at_then_normal ?_)
  refine at_region ?_
  refine av rfl (r_iadd rfl rfl) ?_
  refine at_ov (t:=23) rfl (show Value.int .i64 (wr .i64 (2 + 1)) = .int .i64 3 from by rfl) ?_
  refine am rfl rfl ?_
  refine nt ?_
  refine wq [16,15,14,4,1] rfl ?_
  refine at_round ?_
  refine sr ?_
  refine av rfl (r_ilss rfl rfl) ?_
  refine at_fix (g:=17) rfl (show (decide (3 < 4)) = true from by decide) ?_
  refine nwq [17,16,15,14,4,1] rfl ?_
  refine at_seq ?_
  refine ct rfl rfl ?_
  refine sn ?_
  refine at_seq ?_
  refine at_block ?_
  refine sr ?_
  refine av rfl (r_idx underlying96 sizeOf104 rfl rfl (by decide) rfl) ?_
  refine av rfl (r_load_agg (l:=zl10) isAgg104 sizeOf104 rfl rfl (fun w1 hw=>cells_mid (pre:=(zl2 b3 b6)) (suf:=[]) (hw.ok (Upd.mem .z)) rfl rfl)) ?_
  refine at_alloc (cs:=zl20) zeroValue104 rfl rfl ?_
  intro b57
  refine sa 3 (zl10) .z rfl rfl sizeOf104 rfl rfl rfl ?_
  refine nwq [16,15,14,6,4,1] rfl ?_
  refine at_region ?_
  refine fa 2 underlying104 rfl rfl sizeOf102 rfl rfl ?_
  refine av rfl (r_load_cell isAgg102 rfl (fun w1 hw=>cells_get (hw.ok (Upd.mem .z)) 2 _ rfl)) ?_
  refine at_callee rfl ?_
  refine at_callI func141 rfl (by kernel_rfl) rfl rfl rfl rfl ?_
  refine dz ?_
  refine at_region ?_
  refine am rfl rfl ?_
  refine av rfl (r_nilCheck rfl) ?_
  refine fa 56 underlying33 rfl rfl sizeOf31 rfl rfl ?_
  refine at_store (c:=(cInt .u64)) (z:=0) (.s (.s (.s .z))) (c_api_Item_f_Next g0_ ({ { { x0 with f_Key:=(Vector.replicate 32 (0 : Int) : (Vector Int 32)) } with f_Local:=0 } with f_Remote:=0 })) sizeOf31 rfl rfl rfl ?_
  refine at_nil ?_
  refine at_weak [] trivial ?_
  refine at_retI0 rfl ?_
  refine at_nil ?_
  refine wq [16,15,14,4,1] rfl ?_
  refine at_blk_normal (at_then_normal ?_)
  refine at_region ?_
  refine av rfl (r_iadd rfl rfl) ?_
  refine at_ov (t:=23) rfl (show Value.int .i64 (wr .i64 (3 + 1)) = .int .i64 4 from by rfl) ?_
  refine am rfl rfl ?_
  refine nt ?_
  refine wq [16,15,14,4,1] rfl ?_
  refine at_round ?_
  refine sr ?_
  refine av rfl (r_ilss rfl rfl) ?_
  refine at_fix (g:=17) rfl (show (decide (4 < 4)) = false from by decide) ?_
  refine nwq [17,16,15,14,4,1] rfl ?_
  refine at_seq ?_
  refine cf rfl rfl ?_
  refine at_exit ?_
  refine at_then_exit (at_then_exit ?_)
  refine at_blk_same ?_
  refine dz ?_
  refine dz ?_
  refine dz ?_
  refine tn ?_
  refine sr ?_
  refine am rfl rfl ?_
  refine am rfl rfl ?_
  refine gy rfl rfl rfl ?_
  refine av rfl (r_load_aggc (c:=c_api_Item) (z:=(g0_,{ { { { x0 with f_Key:=(Vector.replicate 32 (0 : Int) : (Vector Int 32)) } with f_Local:=0 } with f_Remote:=0 } with f_Next:=0 })) isAgg33 sizeOf33 rfl (lens_cell .z (Lens.whole _ _))) ?_
  refine gy rfl rfl rfl ?_
  refine fa 0 underlying33 rfl rfl sizeOf3 rfl rfl ?_
  refine gy rfl rfl rfl ?_
  refine av rfl (r_load_cell isAgg3 rfl (lens_cell0 (c:=(cInt .i64)) (y:=({ { { { x0 with f_Key:=(Vector.replicate 32 (0 : Int) : (Vector Int 32)) } with f_Local:=0 } with f_Remote:=0 } with f_Next:=0 }).f_Kind) .z (c_api_Item_f_Kind g0_ ({ { { { x0 with f_Key:=(Vector.replicate 32 (0 : Int) : (Vector Int 32)) } with f_Local:=0 } with f_Remote:=0 } with f_Next:=0 })) rfl)) ?_
  refine gy rfl rfl rfl ?_
  refine av rfl (r_build_struct (zs:=Cd.cs c_api_Item zv6) (cs:=Cd.cs c_api_Item (zv5,{ zv4 with f_Kind:=({ { { { x0 with f_Key:=(Vector.replicate 32 (0 : Int) : (Vector Int 32)) } with f_Local:=0 } with f_Remote:=0 } with f_Next:=0 }).f_Kind })) underlying33 zeroValue33 rfl (places_api_Item_33) rfl (fill_step (c:=(cInt .i64)) (z:=({ { { { x0 with f_Key:=(Vector.replicate 32 (0 : Int) : (Vector Int 32)) } with f_Local:=0 } with f_Remote:=0 } with f_Next:=0 }).f_Kind) rfl (c_api_Item_f_Kind zv5 zv4) rfl rfl)) ?_
  refine gy rfl rfl rfl ?_
  obtain ⟨t58,ht58,hF⟩:=of_bindM hF
  refine at_callB func12 rfl (by kernel_rfl) rfl rfl (fun w hw=>script_Same_ok _ _ _ _ _ ht58 w (NK_api_Item.n (NK_api_Item.mono hz0 (frz_mono (.s .z) hw))) ⟨(Row.nil ..),(Row.nil ..)⟩) ?_
  refine av rfl (r_pick rfl rfl rfl) ?_
  refine aa rfl rfl ?_
  refine at_nil ?_
  refine dz ?_
  refine wq [2] rfl ?_
  refine tn ?_
  refine at_ret ?_
  have K:=of_some hF
  subst K
  exact at_return1 rfl rfl (fun w1 hw=>⟨rfl,hw.below⟩)
 refine cf rfl h50 ?_
 refine sr ?_
 refine av rfl (r_ieql rfl rfl) ?_
 refine aa rfl rfl ?_
 refine at_nil ?_
 refine dz ?_
 refine dz ?_
 refine wq [40,4,2] rfl ?_
 refine tn ?_
 rcases oi hF with ⟨h59,hF⟩|⟨h59,hF⟩
 ·refine ct rfl h59 ?_
  refine sr ?_
  refine av rfl (r_load_agg (l:=(zl6 b3)) isAgg104 sizeOf104 rfl rfl (fun w1 hw=>cells_mid (pre:=[]) (suf:=[]) (hw.ok (Upd.mem .z)) (List.append_nil _).symm rfl)) ?_
  refine at_litG (cs:=(zl6 b3)) underlying96 sizeOf104 zeroValue104 rfl rfl rfl (by kernel_rfl) rfl ?_
  intro b60
  refine av rfl (r_build_struct (zs:=zl19) (cs:=(zl14 b60)) underlying98 zeroValue98 rfl placesR_98 rfl rfl) ?_
  refine sa 2 ((zl14 b60)) (.s (.s (.s .z))) rfl rfl sizeOf98 rfl rfl rfl ?_
  refine aa rfl rfl ?_
  refine at_nil ?_
  refine at_drop (H:=_) (.s .z) ?_
  refine wq [3,2] rfl ?_
  refine tn ?_
  refine at_ret ?_
  refine at_blk_ret (at_then_ret ?_)
  refine at_resI2 rfl (res_cell (c:=cK 2 (by decide)) (y:=ck 2 ((zl14 b60)) rfl) rfl (.s (.s .z)) (Lens.whole _ _) isAgg98 sizeOf98 (.inl rfl)) (res_tmp rfl) ?_
  refine am rfl rfl ?_
  refine av rfl (r_extract rfl rfl) ?_
  refine av rfl (r_extract rfl rfl) ?_
  refine at_alloc (cs:=zl19) zeroValue98 rfl rfl ?_
  intro b61
  refine sa 2 ((zl14 b60)) .z rfl rfl sizeOf98 rfl rfl rfl ?_
  refine aa rfl rfl ?_
  refine at_nil ?_
  refine at_drop (H:=_) (.s (.s (.s .z))) ?_
  refine tn ?_
  refine at_seq ?_
  refine sr ?_
  refine fa 1 underlying98 rfl rfl sizeOf96 rfl rfl ?_
  refine av rfl (r_load_cell isAgg96 rfl (fun w1 hw=>cells_get (hw.ok (Upd.mem .z)) 1 _ rfl)) ?_
  refine av rfl (r_len_sl underlying96 rfl) ?_
  refine am rfl rfl ?_
  refine at_nil ?_
  refine dz ?_
  refine wq [16,15,14,4,1] rfl ?_
  refine tn ?_
  refine at_block ?_
  refine wq [16,15,14,4,1] rfl ?_
  refine at_loop ?_
  refine at_round ?_
  refine sr ?_
  refine av rfl (r_ilss rfl rfl) ?_
  refine at_fix (g:=17) rfl (show (decide (0 < 1)) = true from by decide) ?_
  refine nwq [17,16,15,14,4,1] rfl ?_
  refine at_seq ?_
  refine ct rfl rfl ?_
  refine sn ?_
  refine at_seq ?_
  refine at_block ?_
  refine sr ?_
  refine av rfl (r_idx underlying96 sizeOf104 rfl rfl (by decide) rfl) ?_
  refine av rfl (r_load_agg (l:=(zl6 b3)) isAgg104 sizeOf104 rfl rfl (fun w1 hw=>cells_mid (pre:=[]) (suf:=[]) (hw.ok (Upd.mem .z)) rfl rfl)) ?_
  refine at_alloc (cs:=zl20) zeroValue104 rfl rfl ?_
  intro b62
  refine sa 3 ((zl6 b3)) .z rfl rfl sizeOf104 rfl rfl rfl ?_
  refine nwq [16,15,14,6,4,1] rfl ?_
  refine at_region ?_
  refine fa 2 underlying104 rfl rfl sizeOf102 rfl rfl ?_
  refine av rfl (r_load_cell isAgg102 rfl (fun w1 hw=>cells_get (hw.ok (Upd.mem .z)) 2 _ rfl)) ?_
  refine at_calleeC (caps:=[.pointer (some ⟨b3,0,none⟩)]) rfl ?_
  refine at_callI func124 rfl (by kernel_rfl) rfl rfl rfl rfl ?_
  refine dz ?_
  refine wq [1,0] rfl ?_
  refine at_region ?_
  refine av rfl (r_load_cell isAgg133 rfl (fun w1 hw=>cells_get (hw.ok (Upd.mem (.s .z))) 0 _ rfl)) ?_
  refine am rfl rfl ?_
  refine at_callee rfl ?_
  refine at_callI func76 rfl (by kernel_rfl) rfl rfl rfl rfl ?_
  refine sr ?_
  refine aa rfl rfl ?_
  refine ns ?_
  refine am rfl rfl ?_
  refine av rfl (r_nilCheck rfl) ?_
  refine fa 54 underlying33 rfl rfl sizeOf30 rfl rfl ?_
  refine aa rfl rfl ?_
  refine nwq [2] rfl ?_
  refine at_ret ?_
  refine at_retI1 rfl rfl ?_
  refine av rfl (r_nilCheck rfl) ?_
  refine at_store (c:=(cInt .u32)) (z:=0) (.s (.s .z)) (c_api_Item_f_Local g0_ x0) sizeOf30 rfl rfl rfl ?_
  refine at_nil ?_
  refine at_weak [] trivial ?_
  refine at_retI0 rfl ?_
  refine at_nil ?_
  refine wq [16,15,14,4,1] rfl ?_
  refine at_blk_normal (at_then_normal ?_)
  refine at_region ?_
  refine av rfl (r_iadd rfl rfl) ?_
  refine at_ov (t:=23) rfl (show Value.int .i64 (wr .i64 (0 + 1)) = .int .i64 1 from by rfl) ?_
  refine am rfl rfl ?_
  refine nt ?_
  refine wq [16,15,14,4,1] rfl ?_
  refine at_round ?_
  refine sr ?_
  refine av rfl (r_ilss rfl rfl) ?_
  refine at_fix (g:=17) rfl (show (decide (1 < 1)) = false from by decide) ?_
  refine nwq [17,16,15,14,4,1] rfl ?_
  refine at_seq ?_
  refine cf rfl rfl ?_
  refine at_exit ?_
  refine at_then_exit (at_then_exit ?_)
  refine at_blk_same ?_
  refine dz ?_
  refine dz ?_
  refine tn ?_
  refine sr ?_
  refine am rfl rfl ?_
  refine am rfl rfl ?_
  refine gy rfl rfl rfl ?_
  refine av rfl (r_load_aggc (c:=c_api_Item) (z:=(g0_,{ x0 with f_Local:=0 })) isAgg33 sizeOf33 rfl (lens_cell .z (Lens.whole _ _))) ?_
  refine gy rfl rfl rfl ?_
  refine fa 0 underlying33 rfl rfl sizeOf3 rfl rfl ?_
  refine gy rfl rfl rfl ?_
  refine av rfl (r_load_cell isAgg3 rfl (lens_cell0 (c:=(cInt .i64)) (y:=({ x0 with f_Local:=0 }).f_Kind) .z (c_api_Item_f_Kind g0_ ({ x0 with f_Local:=0 })) rfl)) ?_
  refine gy rfl rfl rfl ?_
  refine av rfl (r_build_struct (zs:=Cd.cs c_api_Item zv6) (cs:=Cd.cs c_api_Item (zv5,{ zv4 with f_Kind:=({ x0 with f_Local:=0 }).f_Kind })) underlying33 zeroValue33 rfl (places_api_Item_33) rfl (fill_step (c:=(cInt .i64)) (z:=({ x0 with f_Local:=0 }).f_Kind) rfl (c_api_Item_f_Kind zv5 zv4) rfl rfl)) ?_
  refine gy rfl rfl rfl ?_
  obtain ⟨t63,ht63,hF⟩:=of_bindM hF
  refine at_callB func12 rfl (by kernel_rfl) rfl rfl (fun w hw=>script_Same_ok _ _ _ _ _ ht63 w (NK_api_Item.n (NK_api_Item.mono hz0 (frz_mono (.s .z) hw))) ⟨(Row.nil ..),(Row.nil ..)⟩) ?_
  refine av rfl (r_pick rfl rfl rfl) ?_
  refine aa rfl rfl ?_
  refine at_nil ?_
  refine dz ?_
  refine wq [2] rfl ?_
  refine tn ?_
  refine at_ret ?_
  have K:=of_some hF
  subst K
  exact at_return1 rfl rfl (fun w1 hw=>⟨rfl,hw.below⟩)
 refine cf rfl h59 ?_
 refine at_skip ?_
 refine at_blk_normal (at_then_normal ?_)
 refine sr ?_
 refine av rfl (r_build_struct (zs:=zl19) (cs:=zl19) underlying98 zeroValue98 rfl placesR_98 rfl rfl) ?_
 refine sa 2 (zl19) (.s (.s .z)) rfl rfl sizeOf98 rfl rfl rfl ?_
 refine aa rfl rfl ?_
 refine at_nil ?_
 refine dz ?_
 refine dz ?_
 refine wq [3,2] rfl ?_
 refine tn ?_
 refine at_ret ?_
 refine at_resI2 rfl (res_cell (c:=cK 2 (by decide)) (y:=ck 2 (zl19) rfl) rfl .z (Lens.whole _ _) isAgg98 sizeOf98 (.inl rfl)) (res_tmp rfl) ?_
 refine am rfl rfl ?_
 refine av rfl (r_extract rfl rfl) ?_
 refine av rfl (r_extract rfl rfl) ?_
 refine at_alloc (cs:=zl19) zeroValue98 rfl rfl ?_
 intro b64
 refine sa 2 (zl19) .z rfl rfl sizeOf98 rfl rfl rfl ?_
 refine aa rfl rfl ?_
 refine at_nil ?_
 refine at_drop (H:=_) (.s .z) ?_
 refine tn ?_
 refine at_seq ?_
 refine sr ?_
 refine fa 1 underlying98 rfl rfl sizeOf96 rfl rfl ?_
 refine av rfl (r_load_cell isAgg96 rfl (fun w1 hw=>cells_get (hw.ok (Upd.mem .z)) 1 _ rfl)) ?_
 refine av rfl (r_len_sl underlying96 rfl) ?_
 refine am rfl rfl ?_
 refine at_nil ?_
 refine dz ?_
 refine wq [16,15,14,4,1] rfl ?_
 refine tn ?_
 refine at_block ?_
 refine wq [16,15,14,4,1] rfl ?_
 refine at_loop ?_
 refine at_round ?_
 refine sr ?_
 refine av rfl (r_ilss rfl rfl) ?_
 refine at_fix (g:=17) rfl (show (decide (0 < 0)) = false from by decide) ?_
 refine nwq [17,16,15,14,4,1] rfl ?_
 refine at_seq ?_
 refine cf rfl rfl ?_
 refine at_exit ?_
 refine at_then_exit (at_then_exit ?_)
 refine at_blk_same ?_
 refine tn ?_
 refine sr ?_
 refine am rfl rfl ?_
 refine am rfl rfl ?_
 refine gn rfl rfl rfl rfl rfl ?_
 refine gn rfl rfl rfl rfl rfl ?_
 refine gn rfl rfl rfl rfl rfl ?_
 refine gn rfl rfl rfl rfl rfl ?_
 refine gn rfl rfl rfl rfl rfl ?_
 refine av rfl (r_pick rfl rfl rfl) ?_
 refine aa rfl rfl ?_
 refine at_nil ?_
 refine dz ?_
 refine wq [2] rfl ?_
 refine tn ?_
 refine at_ret ?_
 have K:=of_some hF
 subst K
 exact at_return1 rfl rfl (fun w1 hw=>⟨rfl,hw.below⟩)
end Go.Proofs.YtkkmmpofdcccmaaGreatDoor
