/- Layer 7: the texts of keys, there and back. -/
import Derived.Test.YtdhkcjddjmgciaaKeyA
set_option linter.unusedVariables false
set_option linter.unusedSimpArgs false
namespace Go.Proofs.Ytdhkcjddjmgciaa.Key
open E Go.RowKit
open Hex (str str_size str_append str_push str_toList str_inj)

abbrev zk : Vector Int 32 := (Vector.replicate 32 (0 : Int) : Vector Int 32)
theorem lvec_vec (v : Vector Int 32) : lvec 32 v.toList = v := by
  rw [← Vector.toList_inj, lvec_toList _ _ (by simp), List.take_of_length_le (by simp)]
def ofR (xs : List Int) : Vector Int 32 × Int := if xs.length < 32 then (zk, 3) else if xs.length > 32 then (zk, 4) else (lvec 32 xs, 0)
theorem keysOf_eq (xs : List Int) : keys_Of xs = some (ofR xs) := by
  unfold keys_Of ofR
  by_cases h1 : xs.length < 32
  · rw [if_pos (decide_eq_true (by omega)), if_pos h1]
  · by_cases h2 : xs.length > 32
    · rw [if_neg (by simp; omega), if_pos (decide_eq_true (by omega)), if_neg h1, if_pos h2]
    · rw [if_neg (by simp; omega), if_neg (by simp; omega), if_pos (by omega), if_neg h1, if_neg h2]
theorem refOf_l0 (xs : List Int) (hx : xs.length = 32) (f : Nat) : ∀ (i : Nat) (v : Vector Int 32), i + f = 32 → (∀ j, j < i → vget v (j : Int) = lget xs j) → crawlwayref07_Of.l0 xs i v = some (lvec 32 xs) := by
  induction f with
  | zero =>
    intro i v hi hv
    obtain rfl : i = 32 := by omega
    rw [crawlwayref07_Of.l0.eq_def, if_neg (by decide)]
    refine congrArg some (Vector.ext fun j hj => ?_)
    have := hv j hj
    rw [vget_nat v j hj] at this
    rw [this]
    simp [lvec, lget]
  | succ f ih =>
    intro i v hi hv
    have e1 : wr .i64 ((i : Int) + 1) = ((i + 1 : Nat) : Int) := by rw [wr_i64 (by omega) (by omega)]; omega
    rw [crawlwayref07_Of.l0.eq_def, if_pos (decide_eq_true (by omega)), if_pos (by omega), if_pos (by omega), e1]
    refine ih (i + 1) _ (by omega) fun j hj => ?_
    rw [vget_set v i j _ (by omega) (by omega)]
    by_cases h : i = j
    · subst h; rw [if_pos rfl]
    · rw [if_neg h]; exact hv j (by omega)
theorem refOf_eq (xs : List Int) : crawlwayref07_Of xs = some (ofR xs) := by
  unfold crawlwayref07_Of ofR
  by_cases h1 : xs.length < 32
  · rw [if_pos (decide_eq_true (by omega)), if_pos h1]
  · by_cases h2 : xs.length > 32
    · rw [if_neg (by simp; omega), if_pos (decide_eq_true (by omega)), if_neg h1, if_pos h2]
    · have := refOf_l0 xs (by omega) 32 0 zk rfl (fun j hj => by omega)
      rw [show ((0 : Nat) : Int) = 0 from rfl] at this
      rw [if_neg (by simp; omega), if_neg (by simp; omega), this, bindM_some, if_neg h1, if_neg h2]
theorem bytes_l0 (v : Vector Int 32) (f : Nat) : ∀ i : Nat, i + f = 32 → crawlwayref07_Bytes.l0 v (v.toList.take i) i = some v.toList := by
  induction f with
  | zero =>
    intro i hi
    obtain rfl : i = 32 := by omega
    rw [crawlwayref07_Bytes.l0.eq_def, if_neg (by decide), List.take_of_length_le (by simp)]
  | succ f ih =>
    intro i hi
    have e1 : wr .i64 ((i : Int) + 1) = ((i + 1 : Nat) : Int) := by rw [wr_i64 (by omega) (by omega)]; omega
    have e2 : v.toList.take i ++ [vget v (i : Int)] = v.toList.take (i + 1) := by
      rw [vget_nat v i (by omega), List.take_add_one]
      simp [show i < 32 by omega]
    rw [crawlwayref07_Bytes.l0.eq_def, if_pos (decide_eq_true (by omega)), if_pos (by omega), if_pos (by simp; omega), e1, e2, ih (i + 1) (by omega)]
theorem bytes_eq (v : Vector Int 32) : crawlwayref07_Bytes v = some v.toList := by
  unfold crawlwayref07_Bytes
  have := bytes_l0 v 32 0 rfl
  rw [show ((0 : Nat) : Int) = 0 from rfl, List.take_zero] at this
  rw [this, bindM_some]
def par (D : List Int × Int) : Vector Int 32 × Int := if D.2 ≠ 0 then (zk, D.2) else ofR D.1
theorem parse_of (D : List Int × Int) (hO : ∀ xs, keys_Of xs = some (ofR xs)) : (if (D.2 != 0) = true then (some (zk, D.2)) else (keys_Of D.1 >>= fun t6 => some (t6.1, t6.2))) = some (par D) := by
  unfold par
  by_cases h : D.2 = 0
  · rw [if_neg (by simp [h]), if_neg (by simp [h]), keysOf_eq, bindM_some]
  · rw [if_pos (by simpa using h), if_pos h]
theorem parse_ref (D : List Int × Int) : (if (D.2 != 0) = true then (some (zk, D.2)) else (crawlwayref07_Of D.1 >>= fun t6 => some (t6.1, t6.2))) = some (par D) := by
  unfold par
  by_cases h : D.2 = 0
  · rw [if_neg (by simp [h]), if_neg (by simp [h]), refOf_eq, bindM_some]
  · rw [if_pos (by simpa using h), if_pos h]
theorem ofR_vec (v : Vector Int 32) : ofR v.toList = (v, 0) := by
  unfold ofR
  rw [if_neg (by simp), if_neg (by simp), lvec_vec]
theorem texts_law (v : Vector Int 32) (hv : IsB v) : crawlwaylaw07_KeysTexts v = some true := by
  obtain ⟨l, hl, h32⟩ := hv.ob
  unfold crawlwaylaw07_KeysTexts
  have k1 : keys_Text v = some (str (Six.encP l)) := by unfold keys_Text; rw [hl, Six.encode_eq _ (by omega), bindM_some]
  have k2 : keys_Hex v = some (str (Hex.encL l)) := by unfold keys_Hex; rw [hl, Hex.encode_eq _ (by omega), bindM_some]
  have k3 : keys_Parse (str (Six.encP l)) = some (v, 0) := by
    unfold keys_Parse
    rw [Six.decode_enc l (by omega), bindM_some]
    have := parse_of (ob l, 0) keysOf_eq
    rw [← hl] at this ⊢
    rw [this]
    unfold par
    rw [if_neg (by simp), ofR_vec]
  have k4 : keys_ParseHex (str (Hex.encL l)) = some (v, 0) := by
    unfold keys_ParseHex
    have hd : hexes_Decode (str (Hex.encL l)) = some (ob l, 0) := by
      rw [Hex.decode_eq _ (by rw [str_size, Hex.encL_length]; omega), Hex.dec_enc]
    rw [hd, bindM_some]
    have := parse_of (ob l, 0) keysOf_eq
    rw [← hl] at this ⊢
    rw [this]
    unfold par
    rw [if_neg (by simp), ofR_vec]
  simp only [k1, k2, k3, k4, bytes_eq, hl, Six.refEncode_eq l (by omega), Hex.refEncode_eq l (by omega), bindM_some, seq_self, ↓reduceIte, decide_true, BEq.rfl, alive_eq]
theorem par_zero (D : List Int × Int) (h : (par D).2 = 0) : D.2 = 0 ∧ (par D).1.toList = D.1 := by
  unfold par at h ⊢
  by_cases h0 : D.2 = 0
  · rw [if_neg (by simp [h0])] at h ⊢
    refine ⟨h0, ?_⟩
    unfold ofR at h ⊢
    by_cases h1 : D.1.length < 32
    · rw [if_pos h1] at h; simp at h
    · by_cases h2 : D.1.length > 32
      · rw [if_neg h1, if_pos h2] at h; simp at h
      · rw [if_neg h1, if_neg h2]
        simp only
        rw [lvec_toList _ _ (by omega), List.take_of_length_le (by omega)]
  · rw [if_pos h0] at h; exact absurd h h0
theorem reads_law (s : ByteArray) : crawlwaylaw07_KeysReads s = some true := by
  unfold crawlwaylaw07_KeysReads
  by_cases h : s.size > 200
  · have c1 : decide ((s.size : Int) > 200) = true := by simp; omega
    simp only [c1, ↓reduceIte, alive_eq, bindM_some]
  · have c1 : decide ((s.size : Int) > 200) = false := by simp; omega
    have hs : s = str s.data.toList := (str_toList s).symm
    have hl : s.data.toList.length ≤ 200 := by simp; omega
    generalize s.data.toList = l at hs hl
    subst hs
    obtain ⟨D, hD, hD1, hD2⟩ : ∃ D, sixtyfour_Decode (str l) = some D ∧ crawlwayref04_Decode (str l) = some D ∧ (D.2 = 0 → sixtyfour_Encode D.1 = some (str l)) := by
      refine ⟨_, Six.decode_eq l (by omega), Six.refDecode_eq l (by omega), fun h0 => ?_⟩
      by_cases h4 : l.length % 4 = 0
      · rw [if_neg (by omega)] at h0 ⊢
        cases hv : Six.vals (Six.strip l) with
        | none => rw [hv] at h0; simp [Six.fin] at h0
        | some vs =>
          rw [hv] at h0
          cases hz : (Six.dv vs).2 with
          | false => simp [Six.fin, hz] at h0
          | true =>
            obtain ⟨e1, e2⟩ := Six.encP_dec l h4 (by omega) vs hv hz
            simp only [Six.fin, hz, ↓reduceIte]
            rw [Six.encode_eq _ (by omega), e1]
      · rw [if_pos h4] at h0; simp at h0
    obtain ⟨E, hE, hE1, hE2⟩ : ∃ E, hexes_Decode (str l) = some E ∧ crawlwayref05_Decode (str l) = some E ∧ (E.2 = 0 → hexes_Encode E.1 = some (str l)) := by
      refine ⟨_, Hex.decode_eq (str l) (by omega), Hex.refDecode_eq (str l) (by omega), fun h0 => ?_⟩
      cases hd : Hex.dec (str l) with
      | none => rw [hd] at h0; simp at h0
      | some k =>
        have hk := Hex.dec_length _ k hd
        simp only
        rw [Hex.encode_eq k (by omega), Hex.enc_dec _ k hd]
    have p1 : keys_Parse (str l) = some (par D) := by unfold keys_Parse; rw [hD, bindM_some]; exact parse_of D keysOf_eq
    have p2 : keys_ParseHex (str l) = some (par E) := by unfold keys_ParseHex; rw [hE, bindM_some]; exact parse_of E keysOf_eq
    have p3 : crawlwayref07_Parse (str l) = some (par D) := by unfold crawlwayref07_Parse; rw [hD1, bindM_some]; exact parse_ref D
    have p4 : crawlwayref07_ParseHex (str l) = some (par E) := by unfold crawlwayref07_ParseHex; rw [hE1, bindM_some]; exact parse_ref E
    have t1 : (par D).2 = 0 → keys_Text (par D).1 = some (str l) := fun h0 => by
      obtain ⟨h1, h2⟩ := par_zero D h0
      unfold keys_Text; rw [h2, hD2 h1, bindM_some]
    have t2 : (par E).2 = 0 → keys_Hex (par E).1 = some (str l) := fun h0 => by
      obtain ⟨h1, h2⟩ := par_zero E h0
      unfold keys_Hex; rw [h2, hE2 h1, bindM_some]
    simp only [c1, ↓reduceIte, Bool.false_eq_true, p1, p2, p3, p4, bindM_some, decide_true, Bool.not_true, bne_self_eq_false, alive_eq]
    by_cases hd0 : (par D).2 = 0
    · by_cases he0 : (par E).2 = 0
      · simp [hd0, he0, t1 hd0, t2 he0, seq_self]
      · have : ((par E).2 != 0) = true := by simpa using he0
        simp [hd0, this, t1 hd0, seq_self]
    · have g : ((par D).2 != 0) = true := by simpa using hd0
      by_cases he0 : (par E).2 = 0
      · simp [g, he0, t2 he0, seq_self]
      · have : ((par E).2 != 0) = true := by simpa using he0
        simp [g, this]
theorem KeysTexts_pure (v : Vector Int 32) (hv : IsB v) : crawlwaylaw07_KeysTexts v = some true := texts_law v hv
theorem KeysReads_pure (s : ByteArray) (_ : s.size ≤ maxLen) : crawlwaylaw07_KeysReads s = some true := reads_law s
end Go.Proofs.Ytdhkcjddjmgciaa.Key
