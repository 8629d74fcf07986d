/- Layer 4: texts of 64 signs: what Encode comes to, in the program and in the reference. -/
import Derived.Test.YtdhkcjddjmgciaaG2
import Derived.Test.YtdhkcjddjmgciaaHexQ
set_option linter.unusedVariables false
set_option linter.unusedSimpArgs false
namespace Go.Proofs.Ytdhkcjddjmgciaa.Six
open E Go.RowKit
open Hex (str str_size str_append str_push str_toList str_inj)

def sgn : List UInt8 := [65, 66, 67, 68, 69, 70, 71, 72, 73, 74, 75, 76, 77, 78, 79, 80, 81, 82, 83, 84, 85, 86, 87, 88, 89, 90, 97, 98, 99, 100, 101, 102, 103, 104, 105, 106, 107, 108, 109, 110, 111, 112, 113, 114, 115, 116, 117, 118, 119, 120, 121, 122, 48, 49, 50, 51, 52, 53, 54, 55, 56, 57, 43, 47]
def sg (n : Nat) : UInt8 := sgn.getD n 0
abbrev tab : ByteArray := (⟨#[65, 66, 67, 68, 69, 70, 71, 72, 73, 74, 75, 76, 77, 78, 79, 80, 81, 82, 83, 84, 85, 86, 87, 88, 89, 90, 97, 98, 99, 100, 101, 102, 103, 104, 105, 106, 107, 108, 109, 110, 111, 112, 113, 114, 115, 116, 117, 118, 119, 120, 121, 122, 48, 49, 50, 51, 52, 53, 54, 55, 56, 57, 43, 47]⟩ : ByteArray)
theorem tab_size : tab.size = 64 := rfl
theorem tab_bt (n : Nat) (h : n < 64) : bt tab n = (sg n).toNat := by
  have : ∀ n : Fin 64, bt tab (n.1 : Int) = (sg n.1).toNat := by decide +kernel
  exact this ⟨n, h⟩
theorem tab_ext (n : Nat) (h : n < 64) : tab.extract n (n + 1) = str [sg n] := by
  have : ∀ n : Fin 64, tab.extract n.1 (n.1 + 1) = str [sg n.1] := by decide +kernel
  exact this ⟨n, h⟩
/-- a, b and c as one number of 24 bits; what is missing is 0. -/
def gX (l : List UInt8) : Nat := (l.getD 0 0).toNat * 65536 + (l.getD 1 0).toNat * 256 + (l.getD 2 0).toNat
def sx (X i : Nat) : UInt8 := sg (X / 2 ^ (18 - 6 * i) % 64)
theorem gX_lt (l : List UInt8) : gX l < 2 ^ 24 := by
  have h0 := (l.getD 0 0).toNat_lt
  have h1 := (l.getD 1 0).toNat_lt
  have h2 := (l.getD 2 0).toNat_lt
  unfold gX; omega
def sgs (X : Nat) : Nat → Nat → List UInt8
  | _, 0 => []
  | i, k + 1 => sx X i :: sgs X (i + 1) k
/-- The signs of a group of n bytes. -/
def grpS (l : List UInt8) : List UInt8 := sgs (gX l) 0 (min l.length 3 + 1)
def enc (l : List UInt8) : List UInt8 := if h : l = [] then [] else grpS l ++ enc (l.drop 3)
termination_by l.length
decreasing_by
  have : 0 < l.length := List.length_pos_iff.2 h
  simp; omega
def encP (l : List UInt8) : List UInt8 := if h : l = [] then [] else (grpS l ++ List.replicate (3 - min l.length 3) 61) ++ encP (l.drop 3)
termination_by l.length
decreasing_by
  have : 0 < l.length := List.length_pos_iff.2 h
  simp; omega
theorem sgs_length (X : Nat) : ∀ i k, (sgs X i k).length = k
  | _, 0 => rfl
  | i, k + 1 => by simp [sgs, sgs_length X (i + 1) k]

/-! ### the program -/
theorem or_add (x b k : Nat) (hb : b < 2 ^ k) : x * 2 ^ k ||| b = x * 2 ^ k + b := by
  rw [show x * 2 ^ k = x <<< k by rw [Nat.shiftLeft_eq], ← Nat.shiftLeft_add_eq_or_of_lt hb]
theorem lget_ob' (l : List UInt8) (i : Nat) (h : i < l.length) : lget (ob l) i = (l.getD i 0).toNat := by
  have : l[i]? = some l[i] := List.getElem?_eq_getElem h
  rw [lget_ob l i _ this, List.getD_eq_getElem?_getD, this]; rfl
theorem min_eq (l : List UInt8) : (if 3 < ((ob l).length : Int) then (3 : Int) else ((ob l).length : Int)) = ((min l.length 3 : Nat) : Int) := by
  rw [ob_length]
  split <;> omega
theorem l1_step (l : List UInt8) (o : ByteArray) (x i : Nat) (hi : i < 3) (hx : x < 2 ^ (8 * i)) :
    sixtyfour_Encode.l1 (ob l) o x i = sixtyfour_Encode.l1 (ob l) o ((x * 256 + (l.getD i 0).toNat : Nat) : Int) ((i + 1 : Nat) : Int) := by
  have hx' : x < 2 ^ 16 := Nat.lt_of_lt_of_le hx (Nat.pow_le_pow_right (by decide) (by omega))
  have e1 : wr .i64 ((i : Int) + 1) = ((i + 1 : Nat) : Int) := by rw [wr_i64 (by omega) (by omega)]; omega
  have e2 : ishl .u32 (x : Int) 8 = ((x * 256 : Nat) : Int) := by
    rw [show (8 : Int) = ((8 : Nat) : Int) from rfl, ishl_nat .u32 rfl x 8 (by decide), Nat.mod_eq_of_lt (by show x * 2 ^ 8 < 2 ^ 32; omega)]
  have c1 : decide ((i : Int) < 3) = true := by simp; omega
  rw [sixtyfour_Encode.l1.eq_def, min_eq, e1, e2]
  by_cases h : i < l.length
  · have c2 : decide ((i : Int) < ((min l.length 3 : Nat) : Int)) = true := by simp; omega
    have c3 : (0 : Int) ≤ (i : Int) ∧ (i : Int) < ((ob l).length : Int) := by rw [ob_length]; omega
    have hb := (l.getD i 0).toNat_lt
    have e3 : wr .u32 (lget (ob l) i) = (((l.getD i 0).toNat : Nat) : Int) := by rw [lget_ob' l i h, wr_u32 (by omega) (by omega)]
    have e4 : ior .u32 ((x * 256 : Nat) : Int) (((l.getD i 0).toNat : Nat) : Int) = ((x * 256 + (l.getD i 0).toNat : Nat) : Int) := by
      rw [ior_nat .u32 rfl _ _ (by show x * 256 < 2 ^ 32; omega) (by show (l.getD i 0).toNat < 2 ^ 32; omega)]
      rw [or_add x _ 8 hb]
    simp only [c1, c2, c3, e3, e4, ↓reduceIte, and_self]
  · have c2 : decide ((i : Int) < ((min l.length 3 : Nat) : Int)) = false := by simp; omega
    have h0 : l.getD i 0 = 0 := by rw [List.getD_eq_getElem?_getD, List.getElem?_eq_none (by omega)]; rfl
    simp only [c1, c2, h0, ↓reduceIte, Bool.false_eq_true, UInt8.toNat_zero, Nat.add_zero]
theorem l1_eq (l : List UInt8) (o : ByteArray) : sixtyfour_Encode.l1 (ob l) o 0 0 = some ((gX l : Int), o) := by
  have h0 := (l.getD 0 0).toNat_lt
  have h1 := (l.getD 1 0).toNat_lt
  have s0 := l1_step l o 0 0 (by omega) (by decide)
  have s1 := l1_step l o (0 * 256 + (l.getD 0 0).toNat) 1 (by omega) (by omega)
  have s2 := l1_step l o ((0 * 256 + (l.getD 0 0).toNat) * 256 + (l.getD 1 0).toNat) 2 (by omega) (by omega)
  have s3 : sixtyfour_Encode.l1 (ob l) o ((((0 * 256 + (l.getD 0 0).toNat) * 256 + (l.getD 1 0).toNat) * 256 + (l.getD 2 0).toNat : Nat) : Int) ((2 + 1 : Nat) : Int) = some ((gX l : Int), o) := by
    rw [sixtyfour_Encode.l1.eq_def, if_neg (by decide)]
    have : ((0 * 256 + (l.getD 0 0).toNat) * 256 + (l.getD 1 0).toNat) * 256 + (l.getD 2 0).toNat = gX l := by unfold gX; omega
    rw [this]
  exact s0.trans (s1.trans (s2.trans s3))
theorem sh18 (i : Nat) (h : i ≤ 3) : wr .u64 (wr .i64 (18 - (wr .i64 (6 * (i : Int))))) = ((18 - 6 * i : Nat) : Int) := by
  have : ∀ i : Fin 4, wr .u64 (wr .i64 (18 - (wr .i64 (6 * (i.1 : Int))))) = ((18 - 6 * i.1 : Nat) : Int) := by decide +kernel
  exact this ⟨i, by omega⟩
theorem and63 (X i : Nat) (hX : X < 2 ^ 24) : iand .u32 (ishr .u32 (X : Int) ((18 - 6 * i : Nat) : Int)) 63 = ((X / 2 ^ (18 - 6 * i) % 64 : Nat) : Int) := by
  rw [ishr_nat .u32 X (18 - 6 * i) (by show 18 - 6 * i ≤ 32; omega), show (63 : Int) = ((63 : Nat) : Int) from rfl]
  have : X / 2 ^ (18 - 6 * i) ≤ X := Nat.div_le_self _ _
  rw [iand_nat .u32 rfl _ 63 (by show X / 2 ^ (18 - 6 * i) < 2 ^ 32; omega) (by decide), Nat.and_two_pow_sub_one_eq_mod _ 6]
theorem l2_eq (l : List UInt8) (q : ByteArray) (k : Nat) : ∀ (i : Nat) (o : ByteArray), i + k = min l.length 3 + 1 → o.size + k ≤ 1000000 →
    sixtyfour_Encode.l2 (ob l) ((gX l : Int), q) i o = some (o ++ str (sgs (gX l) i k)) := by
  induction k with
  | zero =>
    intro i o hi ho
    have c0 : wr .i64 (((min l.length 3 : Nat) : Int) + 1) = ((min l.length 3 + 1 : Nat) : Int) := by rw [wr_i64 (by omega) (by omega)]; omega
    have c1 : decide ((i : Int) < ((min l.length 3 + 1 : Nat) : Int)) = false := by simp; omega
    rw [sixtyfour_Encode.l2.eq_def, min_eq, c0]
    simp only [c1, Bool.false_eq_true, ↓reduceIte, sgs]
    congr 1; apply ByteArray.ext; simp [str]
  | succ k ih =>
    intro i o hi ho
    have c0 : wr .i64 (((min l.length 3 : Nat) : Int) + 1) = ((min l.length 3 + 1 : Nat) : Int) := by rw [wr_i64 (by omega) (by omega)]; omega
    have c1 : decide ((i : Int) < ((min l.length 3 + 1 : Nat) : Int)) = true := by simp; omega
    have e0 : wr .i64 ((i : Int) + 1) = ((i + 1 : Nat) : Int) := by rw [wr_i64 (by omega) (by omega)]; omega
    have hm : gX l / 2 ^ (18 - 6 * i) % 64 < 64 := Nat.mod_lt _ (by decide)
    have hl := (sg (gX l / 2 ^ (18 - 6 * i) % 64)).toNat_lt
    rw [sixtyfour_Encode.l2.eq_def, min_eq, c0]
    simp only [c1, e0, ↓reduceIte, sh18 i (by omega), and63 _ _ (gX_lt l), tab_bt _ hm, tab_size]
    rw [if_pos (by omega), if_pos (by omega), if_pos (by omega), if_pos (by omega), Int.toNat_natCast, UInt8.ofNat_toNat, ih (i + 1) _ (by omega) (by rw [ByteArray.size_push]; omega)]
    congr 1
    apply ByteArray.ext
    simp [sgs, str, sx, ByteArray.data_append]
theorem pad_eq (n : Nat) (h : n ≤ 3) : brep (⟨#[61]⟩ : ByteArray) (wr .i64 (3 - (n : Int))) = str (List.replicate (3 - n) 61) := by
  have : ∀ n : Fin 4, brep (⟨#[61]⟩ : ByteArray) (wr .i64 (3 - (n.1 : Int))) = str (List.replicate (3 - n.1) 61) := by decide +kernel
  exact this ⟨n, by omega⟩
theorem lsub_ob (l : List UInt8) (n : Nat) : lsub (ob l) (n : Int) (((ob l).length : Nat) : Int) = ob (l.drop n) := by
  unfold lsub
  rw [Int.toNat_natCast, Int.toNat_natCast, List.take_length]
  simp [ob]
theorem l0_eq (l : List UInt8) : ∀ o : ByteArray, o.size + 4 * l.length ≤ 100000 → sixtyfour_Encode.l0 (ob l) o = some (o ++ str (encP l)) := by
  generalize hn : l.length = n
  induction n using Nat.strongRecOn generalizing l with
  | _ n ih =>
    intro o ho
    rw [sixtyfour_Encode.l0.eq_def, encP]
    by_cases h : l = []
    · subst h
      have c1 : decide (((ob []).length : Int) > 0) = false := rfl
      simp only [c1, ↓reduceIte, Bool.false_eq_true, dif_pos]
      congr 1; apply ByteArray.ext; simp [str]
    · have hl : 0 < l.length := List.length_pos_iff.2 h
      have c1 : decide (((ob l).length : Int) > 0) = true := by rw [ob_length]; simp; omega
      have e3 : wr .i64 (3 - ((min l.length 3 : Nat) : Int)) = ((3 - min l.length 3 : Nat) : Int) := by rw [wr_i64 (by omega) (by omega)]; omega
      have hp := pad_eq (min l.length 3) (by omega)
      rw [e3] at hp
      have hz : ((⟨#[61]⟩ : ByteArray).size : Int) = 1 := rfl
      have hlen : ((ob l).length : Int) = (l.length : Int) := by rw [ob_length]
      simp only [min_eq, l1_eq, bindM_some, ↓reduceIte, dif_neg h]
      rw [if_pos c1]
      rw [show (0 : Int) = ((0 : Nat) : Int) from rfl, l2_eq l o (min l.length 3 + 1) 0 o (by omega) (by omega)]
      simp only [bindM_some, e3, hp, hz]
      have hsz : (str (sgs (gX l) 0 (min l.length 3 + 1))).size = min l.length 3 + 1 := by rw [str_size, sgs_length]
      have hsp : (str (List.replicate (3 - min l.length 3) 61)).size = 3 - min l.length 3 := by rw [str_size, List.length_replicate]
      rw [if_pos (by omega), if_pos (by rw [ByteArray.size_append, hsz, hsp]; omega), if_pos (by rw [ob_length]; omega)]
      rw [lsub_ob]
      have hd : l.drop (min l.length 3) = l.drop 3 := by
        by_cases h3 : l.length ≤ 3
        · rw [Nat.min_eq_left h3, List.drop_eq_nil_of_le (Nat.le_refl _), List.drop_eq_nil_of_le h3]
        · rw [Nat.min_eq_right (by omega)]
      rw [hd, ih (l.drop 3).length (by simp; omega) _ rfl _ (by rw [ByteArray.size_append, ByteArray.size_append, hsz, hsp]; simp; omega)]
      congr 1
      rw [str_append, str_append]
      simp only [ByteArray.append_assoc, grpS]
theorem encode_eq (l : List UInt8) (h : l.length ≤ 20000) : sixtyfour_Encode (ob l) = some (str (encP l)) := by
  unfold sixtyfour_Encode
  rw [l0_eq l ByteArray.empty (by show 0 + _ ≤ _; omega), bindM_some, ByteArray.empty_append]
theorem encP_enc (l : List UInt8) : encP l = enc l ++ List.replicate ((3 - l.length % 3) % 3) 61 := by
  generalize hn : l.length = n
  induction n using Nat.strongRecOn generalizing l with
  | _ n ih =>
    rw [encP, enc]
    by_cases h : l = []
    · subst h; simp at hn; subst hn; simp
    · have hl : 0 < l.length := List.length_pos_iff.2 h
      simp only [dif_neg h]
      rw [ih (l.drop 3).length (by simp; omega) _ rfl]
      by_cases h3 : l.length ≤ 3
      · rw [List.drop_eq_nil_of_le h3, enc]
        simp only [dif_pos, List.length_nil, List.append_nil, List.append_assoc, Nat.min_eq_left h3, Nat.zero_mod, Nat.sub_zero, Nat.mod_self, List.replicate_zero]
        congr 2
        omega
      · rw [Nat.min_eq_right (by omega)]
        simp only [Nat.sub_self, List.replicate_zero, List.append_nil, List.append_assoc, List.length_drop]
        congr 3
        omega
theorem enc_length (l : List UInt8) : (enc l).length = (4 * l.length + 2) / 3 := by
  generalize hn : l.length = n
  induction n using Nat.strongRecOn generalizing l with
  | _ n ih =>
    rw [enc]
    by_cases h : l = []
    · subst h; simp at hn; subst hn; simp
    · have hl : 0 < l.length := List.length_pos_iff.2 h
      simp only [dif_neg h, List.length_append, grpS, sgs_length]
      rw [ih (l.drop 3).length (by simp; omega) _ rfl, List.length_drop]
      omega
theorem encP_length (l : List UInt8) : (encP l).length = (l.length + 2) / 3 * 4 := by
  rw [encP_enc, List.length_append, enc_length, List.length_replicate]; omega
end Go.Proofs.Ytdhkcjddjmgciaa.Six
