/- Chapter 37 in plain words: words and their numbers. -/
import Derived.Test.YtkkmmpofdcccmaaGreatDoorGA
import Derived.Test.YtkkmmpofdcccmaaGreatDoorDecF
set_option linter.unusedVariables false
set_option linter.unusedSimpArgs false
namespace Go.Proofs.YtkkmmpofdcccmaaGreatDoor.Fld
open E Go.RowKit

def NL : List ByteArray := Vector.toList gval_field_names
theorem names_ref : crawlwayref37_Names = some NL := rfl
theorem NL_len : NL.length = 17 := by unfold NL; simp
def fw (s : ByteArray) : List ByteArray → Int → Int
  | [], _ => -1
  | a :: r, i => if s = a then i else fw s r (i + 1)
def fr (s : ByteArray) : List ByteArray → Int → Int
  | [], _ => 0
  | a :: r, i => if s = a then i else fr s r (i + 1)
theorem fw_cons (s a : ByteArray) (r : List ByteArray) (i : Int) : fw s (a :: r) i = if s = a then i else fw s r (i + 1) := rfl
theorem fr_cons (s a : ByteArray) (r : List ByteArray) (i : Int) : fr s (a :: r) i = if s = a then i else fr s r (i + 1) := rfl
theorem fw_fr (s : ByteArray) : ∀ (l : List ByteArray) (i : Int), 0 ≤ i → (if fw s l i < 0 then 0 else fw s l i) = fr s l i
  | [], i, _ => rfl
  | a :: r, i, h => by
    unfold fw fr
    by_cases hs : s = a
    · rw [if_pos hs, if_pos hs, if_neg (by omega)]
    · rw [if_neg hs, if_neg hs]; exact fw_fr s r (i + 1) (by omega)
theorem lget_at (l : List ByteArray) (i : Nat) (h : i < l.length) : lget l (i : Int) = l[i] := by
  unfold lget
  rw [Int.toNat_natCast, List.getD_eq_getElem?_getD, List.getElem?_eq_getElem h]; rfl
theorem drop_at (l : List ByteArray) (i : Nat) (h : i < l.length) : l.drop i = lget l (i : Int) :: l.drop (i + 1) := by
  rw [lget_at l i h]; exact List.drop_eq_getElem_cons h
theorem seq_dec (a b : ByteArray) : seq a b = decide (a = b) := by rw [Bool.eq_iff_iff, seq_iff, decide_eq_true_eq]
theorem index_l0 (l : List ByteArray) (hl : l.length < 1000) (s : ByteArray) : ∀ (k i : Nat), i + k = l.length → slices_Index_string.l0 l s (i : Int) = some (if fw s (l.drop i) i < 0 then .nx () else .ret (fw s (l.drop i) i))
  | 0, i, h => by
    rw [slices_Index_string.l0.eq_def, decide_eq_false (by omega), if_neg Bool.false_ne_true, List.drop_eq_nil_of_le (by omega)]; rfl
  | k + 1, i, h => by
    have ih := index_l0 l hl s k (i + 1) (by omega)
    rw [slices_Index_string.l0.eq_def, decide_eq_true (by omega : (i : Int) < (l.length : Int)), if_pos rfl, if_pos (by omega), drop_at l i (by omega), seq_dec, wr_i64 (by omega) (by omega), show ((i : Int) + 1) = ((i + 1 : Nat) : Int) by omega, ih, fw_cons]
    by_cases hs : s = lget l (i : Int)
    · rw [if_pos (decide_eq_true hs), if_pos hs, if_neg (by omega)]
    · rw [if_neg (by rw [decide_eq_true_eq]; exact hs), if_neg hs]
      rw [show ((i + 1 : Nat) : Int) = (i : Int) + 1 by omega]
theorem word_code (s : ByteArray) : field_Word s = some (fr s NL 0) := by
  have h := index_l0 NL (by rw [NL_len]; omega) s NL.length 0 (by omega)
  rw [List.drop_zero, show ((0 : Nat) : Int) = 0 from rfl] at h
  unfold field_Word slices_Index_string
  show ((slices_Index_string.l0 NL s 0 >>= fun q1 => match q1 with | .ret r' => some r' | .nx sq1 => (some (-1))) >>= fun t1 => some (if t1 < 0 then 0 else t1)) = _
  rw [h, bindM_some, ← fw_fr s NL 0 (by omega)]
  by_cases h0 : fw s NL 0 < 0
  · rw [if_pos h0, if_pos h0]; rfl
  · rw [if_neg h0, if_neg h0]
    show some (if fw s NL 0 < 0 then 0 else fw s NL 0) = _
    rw [if_neg h0]
theorem ref_l0 (s : ByteArray) : ∀ (k i : Nat), i + k = 17 → crawlwayref37_Word.l0 s NL (i : Int) = some (if (NL.drop i).any (fun a => decide (s = a)) = true then .ret (fr s (NL.drop i) i) else .nx ())
  | 0, i, h => by
    rw [crawlwayref37_Word.l0.eq_def, decide_eq_false (by omega), if_neg Bool.false_ne_true, List.drop_eq_nil_of_le (by rw [NL_len]; omega)]; rfl
  | k + 1, i, h => by
    have ih := ref_l0 s k (i + 1) (by omega)
    have hl := NL_len
    rw [crawlwayref37_Word.l0.eq_def, decide_eq_true (by omega : (i : Int) ≤ 16), if_pos rfl, if_pos (by omega), drop_at NL i (by omega), seq_dec, wr_i64 (by omega) (by omega), show ((i : Int) + 1) = ((i + 1 : Nat) : Int) by omega, ih, List.any_cons, fr_cons]
    by_cases hs : s = lget NL (i : Int)
    · rw [if_pos (decide_eq_true hs.symm), decide_eq_true hs, Bool.true_or, if_pos rfl, if_pos hs]
    · rw [if_neg (by rw [decide_eq_true_eq]; exact fun e => hs e.symm), decide_eq_false hs, Bool.false_or, if_neg hs, show ((i + 1 : Nat) : Int) = (i : Int) + 1 by omega]
theorem fr_none (s : ByteArray) : ∀ (l : List ByteArray) (i : Int), l.any (fun a => decide (s = a)) = false → fr s l i = 0
  | [], i, _ => rfl
  | a :: r, i, h => by
    rw [List.any_cons, Bool.or_eq_false_iff] at h
    unfold fr
    rw [if_neg (of_decide_eq_false h.1)]
    exact fr_none s r (i + 1) h.2
theorem NL_cons : NL = (⟨#[]⟩ : ByteArray) :: NL.drop 1 := rfl
theorem fr_tail (s : ByteArray) : fr s NL 0 = fr s (NL.drop 1) 1 := by
  rw [NL_cons]
  show (if s = (⟨#[]⟩ : ByteArray) then (0 : Int) else fr s (NL.drop 1) (0 + 1)) = fr s (NL.drop 1) 1
  by_cases hs : s = (⟨#[]⟩ : ByteArray)
  · rw [if_pos hs]
    subst hs
    exact (fr_none _ _ _ (by decide +kernel)).symm
  · rw [if_neg hs]; rfl
theorem word_ref (s : ByteArray) : crawlwayref37_Word s = some (fr s NL 0) := by
  unfold crawlwayref37_Word
  have h := ref_l0 s 16 1 rfl
  rw [show ((1 : Nat) : Int) = 1 from rfl] at h
  rw [names_ref, bindM_some, h, bindM_some, fr_tail]
  cases hq : (NL.drop 1).any (fun a => decide (s = a))
  · rw [if_neg Bool.false_ne_true, fr_none _ _ _ hq]
  · rw [if_pos rfl]
theorem name_in (n : Nat) (h1 : 1 ≤ n) (h2 : n ≤ 16) : field_Name (n : Int) = some (lget NL (n : Int)) := by
  unfold field_Name
  rw [if_neg (by rw [decide_eq_true_eq]; omega), if_neg (by rw [decide_eq_true_eq]; omega), if_pos (by omega)]; rfl
theorem name_out (x : Int) (h : ¬ (1 ≤ x ∧ x ≤ 16)) : field_Name x = some ⟨#[]⟩ := by
  unfold field_Name
  by_cases h1 : x < 1
  · rw [if_pos (decide_eq_true h1)]
  · rw [if_neg (by rw [decide_eq_true_eq]; exact h1), if_pos (decide_eq_true (by omega))]
theorem back_fin : ∀ n : Fin 17, 1 ≤ n.1 → fr (lget NL (n.1 : Int)) NL 0 = (n.1 : Int) := by decide +kernel
theorem alive37 : crawlwaylaw37_alive = some true := by
  have w3 : fr (⟨#[102, 119, 109, 97, 114, 107]⟩ : ByteArray) NL 0 = 3 := by decide +kernel
  have w16 : fr (⟨#[101, 114, 114, 110, 111]⟩ : ByteArray) NL 0 = 16 := by decide +kernel
  have n1 := name_in 1 (by decide) (by decide)
  rw [show ((1 : Nat) : Int) = 1 from rfl] at n1
  have hr := read_code (⟨#[48, 120, 53]⟩ : ByteArray) 4294967295 (by decide) (by decide)
  rw [show ((4294967295 : Nat) : Int) = 4294967295 from rfl] at hr
  have e2 : iiOf (rdU [48, 120, 53] 4294967295) = (0, 5) := by decide +kernel
  simp only [] at hr
  rw [e2] at hr
  have hc : ∀ f, field_counted_1 (⟨#[48, 120, 53]⟩ : ByteArray) f 4294967295 0 = some (5, { f with f_N := 0 }) := fun f => by
    unfold field_counted_1
    rw [hr, bindM_some]; rfl
  unfold crawlwaylaw37_alive field_Read
  rw [word_code, bindM_some, show (⟨#[102, 119, 109, 97, 114, 107]⟩ : ByteArray) = ⟨#[102, 119, 109, 97, 114, 107]⟩ from rfl]
  simp only [w3]
  rw [if_neg (by decide), show field_shapeOf 3 = some (Sh_81.s3 4294967295 0) from rfl, bindM_some]
  dsimp only
  rw [hc, bindM_some, if_pos (by rfl), bindM_some, if_pos (by rfl), word_code, bindM_some, w16, if_pos (by rfl), n1, bindM_some, show lget NL 1 = (⟨#[112, 114, 105, 118, 97, 116, 101, 95, 107, 101, 121]⟩ : ByteArray) from by decide +kernel, seq_self]
theorem FieldNames_pure (a0 : Int) (w0 : (Lit.int .i64 a0).wf = true) (a1 : ByteArray) (w1 : a1.size ≤ maxLen) : crawlwaylaw37_FieldNames a0 a1 = some true := by
  unfold crawlwaylaw37_FieldNames
  have hs : seq (⟨#[]⟩ : ByteArray) (⟨#[]⟩ : ByteArray) = true := seq_self _
  by_cases h1 : a0 ≥ 1
  · rw [if_pos (decide_eq_true h1)]
    by_cases h2 : a0 ≤ 16
    · obtain ⟨n, rfl⟩ := Int.eq_ofNat_of_zero_le (by omega : 0 ≤ a0)
      rw [if_pos (decide_eq_true h2), names_ref, bindM_some, if_pos (by rw [NL_len]; omega), name_in n (by omega) (by omega), bindM_some, if_pos (seq_self _), word_code, bindM_some, word_ref, bindM_some, if_pos (beq_self_eq_true _), alive37, bindM_some]
      have hb := back_fin ⟨n, by omega⟩ (by show 1 ≤ n; omega)
      rw [word_code, bindM_some, hb, if_pos (beq_self_eq_true _), ite_self]
    · rw [if_neg (by rw [decide_eq_true_eq]; exact h2), name_out _ (by omega), bindM_some, if_pos hs, word_code, bindM_some, word_ref, bindM_some, if_pos (beq_self_eq_true _), if_pos hs, alive37, bindM_some]
  · rw [if_neg (by rw [decide_eq_true_eq]; exact h1), name_out _ (by omega), bindM_some, if_pos hs, word_code, bindM_some, word_ref, bindM_some, if_pos (beq_self_eq_true _), if_pos hs, alive37, bindM_some]
end Go.Proofs.YtkkmmpofdcccmaaGreatDoor.Fld
