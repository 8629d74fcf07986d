/- Addresses (chapter 10): both sides' functions in plain words: bytes, bits, masks, first differences. -/
import Derived.Test.YthccncpephpdjaaPure
import Derived.Test.YthccncpephpdjaaGt
set_option linter.unusedVariables false
set_option linter.unusedSimpArgs false
namespace Go.Proofs.Ythccncpephpdjaa.Adr
open E Go.RowKit

/-! ### bytes -/
def vb (l : List UInt8) : Vector Int 16 := lvec 16 (ob l)
theorem vb_toList {l : List UInt8} (h : l.length = 16) : (vb l).toList = ob l := by
  unfold vb
  rw [lvec_toList 16 (ob l) (by rw [ob_length]; omega), List.take_of_length_le (by rw [ob_length]; omega)]
theorem vb_of {v : Vector Int 16} {l : List UInt8} (h : v.toList = ob l) : v = vb l := by
  have hl : l.length = 16 := by have := congrArg List.length h; rw [ob_length] at this; simpa using this.symm
  apply Vector.toList_inj.1
  rw [vb_toList hl, h]
theorem vb_inj {l k : List UInt8} (hl : l.length = 16) (hk : k.length = 16) : vb l = vb k ↔ l = k := by
  constructor
  · intro h
    have := congrArg Vector.toList h
    rw [vb_toList hl, vb_toList hk] at this
    exact ob_inj this
  · intro h; rw [h]
def mkA (V : Int) (l : List UInt8) : S_api_Addr := { f_V := V, f_B := vb l }
theorem exists_mkA (a : S_api_Addr) (h : ok_api_Addr a) : ∃ V l, a = mkA V l ∧ l.length = 16 ∧ (Lit.int .i64 V).wf = true := by
  obtain ⟨l, hl⟩ := exists_ob a.f_B.toList h.2
  have hlen : l.length = 16 := by have := congrArg List.length hl; rw [ob_length] at this; simpa using this.symm
  refine ⟨a.f_V, l, ?_, hlen, h.1⟩
  cases a with | mk V B =>
  show S_api_Addr.mk V B = S_api_Addr.mk V (vb l)
  have hB : B = vb l := vb_of hl
  rw [hB]
theorem mkA_inj {V W : Int} {l k : List UInt8} (hl : l.length = 16) (hk : k.length = 16) : mkA V l = mkA W k ↔ V = W ∧ l = k := by
  unfold mkA
  rw [S_api_Addr.mk.injEq, vb_inj hl hk]
def bg (l : List UInt8) (i : Nat) : Nat := (l.getD i 0).toNat
theorem bg_lt (l : List UInt8) (i : Nat) : bg l i < 256 := (l.getD i 0).toNat_lt
theorem bg_get {l : List UInt8} {i : Nat} {c : UInt8} (h : l[i]? = some c) : bg l i = c.toNat := by
  unfold bg; rw [List.getD_eq_getElem?_getD, h]; rfl
theorem vget_vb {l : List UInt8} (hl : l.length = 16) (i : Nat) (hi : i < 16) : vget (vb l) (i : Int) = (bg l i : Int) := by
  unfold vget
  rw [vb_toList hl, Int.toNat_natCast]
  have hc : l[i]? = some l[i] := List.getElem?_eq_getElem (by omega)
  rw [bg_get hc, List.getD_eq_getElem?_getD]
  unfold ob
  rw [List.getElem?_map, hc]; rfl
theorem vset_vb {l : List UInt8} (hl : l.length = 16) (i : Nat) (c : UInt8) : vset (vb l) (i : Int) (c.toNat : Int) = vb (l.set i c) := by
  apply Vector.toList_inj.1
  rw [vset_toList, vb_toList hl, vb_toList (by simpa using hl), Int.toNat_natCast]
  unfold ob
  rw [List.map_set]
theorem zero_vb : (Vector.replicate 16 (0 : Int) : Vector Int 16) = vb (List.replicate 16 0) := by
  apply vb_of
  rfl
theorem zero_mkA : ({ f_V := (0 : Int), f_B := (Vector.replicate 16 (0 : Int) : (Vector Int 16)) } : S_api_Addr) = mkA 0 (List.replicate 16 0) := by
  unfold mkA; rw [zero_vb]
theorem ob_take (l : List UInt8) (n : Nat) : (ob l).take n = ob (l.take n) := by unfold ob; rw [List.map_take]
theorem ob_drop (l : List UInt8) (n : Nat) : (ob l).drop n = ob (l.drop n) := by unfold ob; rw [List.map_drop]
theorem lsub_ob (l : List UInt8) (n : Nat) : lsub (ob l) 0 (n : Int) = ob (l.take n) := by
  unfold lsub
  rw [Int.toNat_natCast, show (0 : Int).toNat = 0 from rfl, List.drop_zero, ob_take]

/-! ### which addresses may be -/
def fourL (m : List UInt8) : List UInt8 := m ++ List.replicate 12 0
theorem fourL_len {m : List UInt8} (h : m.length = 4) : (fourL m).length = 16 := by simp [fourL, h]
theorem four_eq (v : Vector Int 4) (m : List UInt8) (h : v.toList = ob m) : addr_Four v = some (mkA 4 (fourL m)) := by
  have hm : m.length = 4 := by have := congrArg List.length h; rw [ob_length] at this; simpa using this.symm
  unfold addr_Four mkA
  refine congrArg some ?_
  show S_api_Addr.mk 4 _ = S_api_Addr.mk 4 _
  congr 1
  apply vb_of
  show (vcopy (Vector.replicate 16 (0 : Int)) (Int.toNat 0) (List.take (Int.toNat (16 - 0)) v.toList)).toList = _
  rw [h, show Int.toNat (16 - 0) = 16 from rfl, List.take_of_length_le (by rw [ob_length]; omega), show Int.toNat 0 = 0 from rfl, vcopy_toList _ _ _ (by rw [ob_length]; omega)]
  rw [List.take_zero, List.nil_append, Nat.zero_add, ob_length, hm]
  unfold fourL
  rw [ob_append]; rfl
theorem take4 {l : List UInt8} (hl : l.length = 16) : (lvec 4 (lsub (vb l).toList 0 4)).toList = ob (l.take 4) := by
  have e : lsub (vb l).toList 0 4 = ob (l.take 4) := by rw [vb_toList hl]; exact lsub_ob l 4
  rw [e, lvec_toList 4 _ (by rw [ob_length]; simp; omega), List.take_of_length_le (by rw [ob_length]; simp; omega)]
theorem take4_len {l : List UInt8} (hl : l.length = 16) : 4 ≤ (lsub (vb l).toList 0 4).length := by
  have e : lsub (vb l).toList 0 4 = ob (l.take 4) := by rw [vb_toList hl]; exact lsub_ob l 4
  rw [e, ob_length]; simp; omega
def low (l : List UInt8) : Bool := (l.drop 4).all (· == 0)
def rightL (V : Int) (l : List UInt8) : Bool := V == 6 || (V == 4 && low l)
theorem all_zero : ∀ (k : List UInt8), k.all (· == 0) = true ↔ k = List.replicate k.length 0
  | [] => by simp
  | c :: r => by
    rw [List.all_cons, Bool.and_eq_true, all_zero r, List.length_cons, List.replicate_succ, List.cons.injEq, beq_iff_eq]
theorem low_iff {l : List UInt8} (hl : l.length = 16) : low l = true ↔ l = fourL (l.take 4) := by
  unfold low fourL
  rw [all_zero]
  have h12 : (l.drop 4).length = 12 := by simp; omega
  rw [h12]
  constructor
  · intro h
    rw [← h]; exact (List.take_append_drop 4 l).symm
  · intro h
    have h1 : l.drop 4 = (l.take 4 ++ List.replicate 12 0).drop 4 := congrArg (List.drop 4) h
    rw [h1]
    exact List.drop_left' (by simp; omega)
theorem right_code {V : Int} {l : List UInt8} (hl : l.length = 16) : addr_Right (mkA V l) = some (rightL V l) := by
  unfold addr_Right rightL
  show (if (V == 6) = true then some true else (if (V == 4) = true then (if 4 ≤ (lsub (vb l).toList 0 4).length then addr_Four (lvec 4 (lsub (vb l).toList 0 4)) >>= fun t8 => some (decide (mkA V l = t8)) else none) else some false)) = _
  cases h6 : (V == 6)
  · cases h4 : (V == 4)
    · rfl
    · have hV : V = 4 := by simpa using h4
      rw [if_neg Bool.false_ne_true, if_pos rfl, if_pos (take4_len hl), four_eq _ _ (take4 hl), bindM_some]
      congr 1
      rw [Bool.false_or, Bool.true_and, Bool.eq_iff_iff, decide_eq_true_eq, mkA_inj hl (fourL_len (by simp; omega)), low_iff hl]
      exact ⟨fun h => h.2, fun h => ⟨hV, h⟩⟩
  · rfl
theorem right_loop {V : Int} {l : List UInt8} (hl : l.length = 16) : ∀ (k i : Nat), i + k = 16 → crawlwayref10_Right.l0 (mkA V l) (i : Int) = some (if (l.drop i).all (· == 0) = true then .nx () else .ret false) := by
  intro k
  induction k with
  | zero =>
    intro i hi
    have hz : decide ((i : Int) < 16) = false := decide_eq_false (by omega)
    rw [crawlwayref10_Right.l0.eq_def, hz, List.drop_eq_nil_of_le (by omega)]; rfl
  | succ k ih =>
    intro i hi
    have hz : decide ((i : Int) < 16) = true := decide_eq_true (by omega)
    obtain ⟨c, hc, hd⟩ := drop_get l i (by omega)
    have hg : (0 : Int) ≤ (i : Int) ∧ (i : Int) < 16 := by omega
    rw [crawlwayref10_Right.l0.eq_def, hz, if_pos rfl, if_pos hg, hd, List.all_cons]
    show (if (vget (vb l) (i : Int) != 0) = true then _ else _) = _
    rw [vget_vb hl i (by omega), bg_get hc]
    by_cases h0 : c = 0
    · subst h0
      have e1 : (((0 : UInt8).toNat : Int) != 0) = false := rfl
      rw [e1, if_neg Bool.false_ne_true, wr_i64 (by omega) (by omega), show ((i : Int) + 1) = ((i + 1 : Nat) : Int) by omega, ih (i + 1) (by omega)]
      rw [show ((0 : UInt8) == 0) = true from rfl, Bool.true_and]
    · have hne : c.toNat ≠ 0 := fun e => h0 (UInt8.toNat.inj e)
      have e1 : ((c.toNat : Int) != 0) = true := by rw [bne_iff_ne]; omega
      have e2 : (c == 0) = false := by rw [beq_eq_false_iff_ne]; exact h0
      rw [e1, if_pos rfl, e2, Bool.false_and]; rfl
theorem right_ref {V : Int} {l : List UInt8} (hl : l.length = 16) : crawlwayref10_Right (mkA V l) = some (rightL V l) := by
  unfold crawlwayref10_Right rightL
  have h := right_loop (V := V) hl 12 4 rfl
  rw [show ((4 : Nat) : Int) = 4 from rfl] at h
  rw [h]
  show (if (V == 6) = true then some true else _) = _
  cases h6 : (V == 6)
  · rw [if_neg Bool.false_ne_true, bindM_some]
    unfold low
    by_cases hz : (l.drop 4).all (· == 0) = true
    · rw [if_pos hz, hz]
      show some (V == 4) = _
      rw [Bool.false_or, Bool.and_true]
    · rw [if_neg hz]
      have : (l.drop 4).all (· == 0) = false := by simpa using hz
      rw [this, Bool.and_false]; rfl
  · rfl
def widthL (V : Int) (l : List UInt8) : Nat := if rightL V l = true then (if V = 4 then 32 else 128) else 0
theorem width_code {V : Int} {l : List UInt8} (hl : l.length = 16) : addr_Width (mkA V l) = some ((widthL V l : Nat) : Int) := by
  unfold addr_Width widthL
  rw [right_code hl, bindM_some]
  cases rightL V l
  · rfl
  · show (if (V == 4) = true then some (32 : Int) else some 128) = _
    by_cases h : V = 4
    · rw [if_pos (by simpa using h), if_pos rfl, if_pos h]; rfl
    · rw [if_neg (by simpa using h), if_pos rfl, if_neg h]; rfl
theorem right_cases {V : Int} {l : List UInt8} (h : rightL V l = true) : V = 6 ∨ (V = 4 ∧ low l = true) := by
  unfold rightL at h
  rw [Bool.or_eq_true, Bool.and_eq_true, beq_iff_eq, beq_iff_eq] at h
  exact h
theorem width_le {V : Int} {l : List UInt8} : widthL V l ≤ 128 := by
  unfold widthL; split <;> (try split) <;> omega

end Go.Proofs.Ythccncpephpdjaa.Adr
