/- Texts in parts between bytes (lines.Parts; the document's Parts). -/
import Derived.Test.YtecolkjlpklaaaaDoorDecF
import Derived.Test.YtecolkjlpklaaaaDoorGs
import Derived.Lib.IndexLaws
set_option linter.unusedVariables false
set_option linter.unusedSimpArgs false
namespace Go.Proofs.YtecolkjlpklaaaaDoor
open E Go.RowKit

def bs (l : List UInt8) : ByteArray := ⟨l.toArray⟩
theorem bs_list (l : List UInt8) : (bs l).data.toList = l := by simp [bs]
theorem bs_size (l : List UInt8) : (bs l).size = l.length := by
  show (bs l).data.size = _
  simp [bs]
theorem eq_bs (s : ByteArray) : s = bs s.data.toList := by apply mk_inj; rw [bs_list]
theorem bs_inj {l k : List UInt8} (h : bs l = bs k) : l = k := by rw [← bs_list l, h, bs_list]
theorem bs_extract (l : List UInt8) (i j : Nat) : (bs l).extract i j = bs ((l.take j).drop i) := by
  apply mk_inj
  rw [bs_list]
  simp [bs, ByteArray.data_extract, List.drop_take]
def parts (c : UInt8) : List UInt8 → List (List UInt8)
  | [] => [[]]
  | x :: r => if x = c then [] :: parts c r else (x :: (parts c r).headD []) :: (parts c r).tail
theorem parts_ne (c : UInt8) : ∀ (l : List UInt8), parts c l ≠ []
  | [] => by simp [parts]
  | x :: r => by unfold parts; split <;> simp
theorem parts_none (c : UInt8) : ∀ (l : List UInt8), (∀ x ∈ l, x ≠ c) → parts c l = [l]
  | [], _ => rfl
  | x :: r, h => by
    unfold parts
    rw [if_neg (h x (List.mem_cons_self ..)), parts_none c r fun y hy => h y (List.mem_cons_of_mem _ hy)]; rfl
theorem parts_cons (c : UInt8) (r : List UInt8) : ∀ (p : List UInt8), (∀ x ∈ p, x ≠ c) → parts c (p ++ c :: r) = p :: parts c r
  | [], _ => by
    show (if c = c then [] :: parts c r else (c :: (parts c r).headD []) :: (parts c r).tail) = _
    rw [if_pos rfl]
  | x :: p, h => by
    show parts c (x :: (p ++ c :: r)) = _
    rw [parts, if_neg (h x (List.mem_cons_self ..)), parts_cons c r p fun y hy => h y (List.mem_cons_of_mem _ hy)]; rfl
theorem parts_len (c : UInt8) : ∀ (l : List UInt8), (parts c l).length ≤ l.length + 1
  | [] => by simp [parts]
  | x :: r => by
    have h := parts_len c r
    have hne := parts_ne c r
    unfold parts
    split
    · simp; omega
    · cases hp : parts c r with
      | nil => exact absurd hp hne
      | cons a b => rw [hp] at h; simp at h ⊢; omega
theorem u8_back (c : UInt8) : Nat.toUInt8 (Int.toNat (c.toNat : Int)) = c := by
  rw [Int.toNat_natCast]; exact UInt8.ofNat_toNat
/-- A cut at the first such byte. -/
theorem cut_none (l : List UInt8) (c : UInt8) (h : ∀ x ∈ l, x ≠ c) : lines_Cut (bs l) (c.toNat : Int) = some (bs l, ⟨#[]⟩, false) := by
  unfold lines_Cut
  rw [u8_back, bs_list]
  have hi : Lib.indexByte l c = -1 := by
    have h1 := Lib.indexByte_ge l c
    by_cases h2 : Lib.indexByte l c = -1
    · exact h2
    · obtain ⟨o, ho⟩ := Int.eq_ofNat_of_zero_le (show 0 ≤ Lib.indexByte l c by omega)
      have := (Lib.indexByte_some ho).1
      exact absurd rfl (h c (List.mem_of_getElem? this))
  rw [hi, if_pos (by decide)]
theorem index_at (p r : List UInt8) (c : UInt8) (h : ∀ x ∈ p, x ≠ c) : Lib.indexByte (p ++ c :: r) c = (p.length : Int) := by
  have h1 := Lib.indexByte_ge (p ++ c :: r) c
  have hc : (p ++ c :: r)[p.length]? = some c := by rw [List.getElem?_append_right (Nat.le_refl _), Nat.sub_self]; rfl
  by_cases h2 : Lib.indexByte (p ++ c :: r) c = -1
  · exact absurd hc (Lib.indexByte_none h2 p.length)
  · obtain ⟨o, ho⟩ := Int.eq_ofNat_of_zero_le (show 0 ≤ Lib.indexByte (p ++ c :: r) c by omega)
    obtain ⟨ha, hb⟩ := Lib.indexByte_some ho
    have h3 : ¬ p.length < o := fun hlt => hb p.length hlt hc
    have h4 : ¬ o < p.length := fun hlt => by
      rw [List.getElem?_append_left hlt] at ha
      exact h c (List.mem_of_getElem? ha) rfl
    rw [ho]; omega
theorem cut_some (p r : List UInt8) (c : UInt8) (h : ∀ x ∈ p, x ≠ c) (hl : p.length + r.length < 1000000) : lines_Cut (bs (p ++ c :: r)) (c.toNat : Int) = some (bs p, bs r, true) := by
  unfold lines_Cut
  rw [u8_back, bs_list, index_at p r c h, bs_size]
  have hlen : (p ++ c :: r).length = p.length + (r.length + 1) := by simp
  have e1 : wr .i64 ((p.length : Int) + 1) = ((p.length + 1 : Nat) : Int) := by rw [wr_i64 (by omega) (by omega)]; omega
  have g1 : (0 : Int) ≤ 0 ∧ (0 : Int) ≤ (p.length : Int) ∧ (p.length : Int) ≤ ((p ++ c :: r).length : Int) := by omega
  have g2 : (0 : Int) ≤ ((p.length + 1 : Nat) : Int) ∧ ((p.length + 1 : Nat) : Int) ≤ ((p ++ c :: r).length : Int) ∧ ((p ++ c :: r).length : Int) ≤ ((p ++ c :: r).length : Int) := by omega
  rw [if_neg (by rw [decide_eq_true_eq]; omega), e1, if_pos g1, if_pos g2]
  refine congrArg some ?_
  simp only [Int.toNat_natCast, bs_extract, show (0 : Int).toNat = 0 from rfl, List.drop_zero]
  have t1 : (p ++ c :: r).take p.length = p := List.take_left' rfl
  have t2 : ((p ++ c :: r).take (p ++ c :: r).length).drop (p.length + 1) = r := by
    rw [List.take_of_length_le (Nat.le_refl _), List.drop_append, List.drop_eq_nil_of_le (by omega), show p.length + 1 - p.length = 1 by omega]; rfl
  rw [t1, t2]
theorem split_at (c : UInt8) : ∀ (l : List UInt8), (∀ x ∈ l, x ≠ c) ∨ ∃ p r, l = p ++ c :: r ∧ ∀ x ∈ p, x ≠ c
  | [] => .inl fun x h => by cases h
  | x :: l => by
    by_cases hx : x = c
    · exact .inr ⟨[], l, by rw [hx]; rfl, fun y h => by cases h⟩
    · rcases split_at c l with h | ⟨p, r, rfl, h⟩
      · refine .inl fun y hy => ?_
        rcases List.mem_cons.1 hy with rfl | hy
        · exact hx
        · exact h y hy
      · refine .inr ⟨x :: p, r, rfl, fun y hy => ?_⟩
        rcases List.mem_cons.1 hy with rfl | hy
        · exact hx
        · exact h y hy
theorem parts_loop (c : UInt8) : ∀ (k : Nat) (l : List UInt8) (acc : List ByteArray), l.length ≤ k → acc.length + l.length < 1000000 →
    lines_Parts.l0 (c.toNat : Int) (bs l) acc = some (acc ++ (parts c l).map bs) := by
  intro k
  induction k with
  | zero =>
    intro l acc hk hb
    obtain rfl : l = [] := List.eq_nil_of_length_eq_zero (by omega)
    rw [lines_Parts.l0.eq_def, cut_none [] c (fun x h => by cases h), bindM_some, if_pos (by simp at hb; omega)]; rfl
  | succ k ih =>
    intro l acc hk hb
    rcases split_at c l with h | ⟨p, r, rfl, h⟩
    · rw [lines_Parts.l0.eq_def, cut_none l c h, bindM_some, if_pos (by omega), parts_none c l h]; rfl
    · have hlen : (p ++ c :: r).length = p.length + (r.length + 1) := by simp
      rw [lines_Parts.l0.eq_def, cut_some p r c h (by omega), bindM_some, if_pos (by omega), parts_cons c r p h]
      show lines_Parts.l0 (c.toNat : Int) (bs r) (acc ++ [bs p]) = _
      rw [ih r (acc ++ [bs p]) (by omega) (by simp; omega)]
      simp
theorem parts_code (c : UInt8) (l : List UInt8) (h : l.length < 1000000) : lines_Parts (bs l) (c.toNat : Int) = some ((parts c l).map bs) := by
  unfold lines_Parts
  rw [parts_loop c l.length l [] (Nat.le_refl _) (by simp; omega)]; rfl
theorem refParts_loop (c : UInt8) (l : List UInt8) (hl : l.length < 1000000) : ∀ (k fr i : Nat) (out : List ByteArray), l.length - i = k → fr ≤ i → i ≤ l.length → out.length ≤ i → (∀ x ∈ (l.take i).drop fr, x ≠ c) →
    ∃ (fr' : Nat) (out' : List ByteArray), crawlwayref06_Parts.l0 (bs l) (c.toNat : Int) (fr : Int) out (i : Int) = some (((fr' : Nat) : Int), out') ∧ fr' ≤ l.length ∧ out'.length ≤ l.length ∧ out' ++ [bs (l.drop fr')] = out ++ (parts c (l.drop fr)).map bs := by
  intro k
  induction k with
  | zero =>
    intro fr i out hk hfi hi ho hx
    have hil : i = l.length := by omega
    subst hil
    rw [List.take_of_length_le (Nat.le_refl _)] at hx
    refine ⟨fr, out, ?_, by omega, by omega, by rw [parts_none c _ hx]; rfl⟩
    rw [crawlwayref06_Parts.l0.eq_def, bs_size, if_neg (by rw [decide_eq_true_eq]; omega)]
  | succ k ih =>
    intro fr i out hk hfi hi ho hx
    obtain ⟨b, hb, hd⟩ := drop_get l i (by omega)
    have hbt : bt (bs l) (i : Int) = (b.toNat : Int) := bt_at (by rw [bs_list]; exact hb)
    have hi1 : wr .i64 ((i : Int) + 1) = ((i + 1 : Nat) : Int) := by rw [wr_i64 (by omega) (by omega)]; omega
    have g0 : (0 : Int) ≤ (i : Int) ∧ (i : Int) < ((l.length : Nat) : Int) := by omega
    rw [crawlwayref06_Parts.l0.eq_def, bs_size, if_pos (decide_eq_true (by omega)), if_pos g0, hbt, hi1]
    by_cases hbc : b = c
    · subst hbc
      have g1 : (0 : Int) ≤ (fr : Int) ∧ (fr : Int) ≤ (i : Int) ∧ (i : Int) ≤ ((l.length : Nat) : Int) := by omega
      rw [if_pos (beq_self_eq_true _), if_pos g1, if_pos (by omega)]
      simp only [Int.toNat_natCast, bs_extract]
      obtain ⟨fr', out', h1, h2, h3, h4⟩ := ih (i + 1) (i + 1) (out ++ [bs ((l.take i).drop fr)]) (by omega) (Nat.le_refl _) (by omega) (by simp; omega) (by
        intro x hx2
        rw [List.drop_eq_nil_of_le (by simp; omega)] at hx2
        cases hx2)
      refine ⟨fr', out', h1, h2, h3, ?_⟩
      rw [h4]
      have hsplit : l.drop fr = (l.take i).drop fr ++ b :: l.drop (i + 1) := by
        rw [← hd]
        have := List.take_append_drop (i - fr) (l.drop fr)
        rw [List.drop_drop, show fr + (i - fr) = i by omega] at this
        rw [List.drop_take]
        exact this.symm
      rw [hsplit, parts_cons b _ _ hx]
      simp
    · have hne : ((b.toNat : Int) == (c.toNat : Int)) = false := by
        rw [beq_eq_false_iff_ne]
        intro e
        exact hbc (UInt8.toNat.inj (by omega))
      rw [hne, if_neg Bool.false_ne_true]
      refine ih fr (i + 1) out (by omega) (by omega) (by omega) (by omega) ?_
      intro x hx2
      have : (l.take (i + 1)).drop fr = (l.take i).drop fr ++ [b] := by
        rw [List.take_add_one, hb]
        rw [List.drop_append_of_le_length (by simp; omega)]; rfl
      rw [this] at hx2
      rcases List.mem_append.1 hx2 with h | h
      · exact hx x h
      · have : x = b := by simpa using h
        rw [this]; exact hbc
theorem parts_ref (c : UInt8) (l : List UInt8) (h : l.length < 1000000) : crawlwayref06_Parts (bs l) (c.toNat : Int) = some ((parts c l).map bs) := by
  obtain ⟨fr', out', h1, h2, h3, h4⟩ := refParts_loop c l h l.length 0 0 [] rfl (Nat.le_refl _) (Nat.zero_le _) (Nat.zero_le _) (by
    intro x hx; rw [List.take_zero] at hx; cases hx)
  rw [show ((0 : Nat) : Int) = 0 from rfl] at h1
  unfold crawlwayref06_Parts
  have g : (0 : Int) ≤ (fr' : Int) ∧ (fr' : Int) ≤ ((l.length : Nat) : Int) ∧ ((l.length : Nat) : Int) ≤ ((l.length : Nat) : Int) := by omega
  rw [h1, bindM_some, bs_size, if_pos g, if_pos (by show (out'.length + 1) * 16 ≤ _; omega)]
  simp only [Int.toNat_natCast, bs_extract]
  rw [List.take_of_length_le (Nat.le_refl _), h4, List.drop_zero]; rfl
end Go.Proofs.YtecolkjlpklaaaaDoor
