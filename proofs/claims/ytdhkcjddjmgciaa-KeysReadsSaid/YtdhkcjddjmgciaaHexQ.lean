/- Layer 5: the text of bytes, there and back; the three statements' functions. -/
import Derived.Test.YtdhkcjddjmgciaaHexP
set_option linter.unusedVariables false
set_option linter.unusedSimpArgs false
namespace Go.Proofs.Ytdhkcjddjmgciaa.Hex
open E Go.RowKit

def encL (l : List UInt8) : List UInt8 := l.flatMap fun b => [dg (b.toNat / 16), dg (b.toNat % 16)]
theorem encL_cons (b : UInt8) (l : List UInt8) : encL (b :: l) = dg (b.toNat / 16) :: dg (b.toNat % 16) :: encL l := rfl
theorem encL_length (l : List UInt8) : (encL l).length = 2 * l.length := by
  induction l with
  | nil => rfl
  | cons b l ih => rw [encL_cons]; simp; omega
def str (l : List UInt8) : ByteArray := ⟨l.toArray⟩
theorem str_size (l : List UInt8) : (str l).size = l.length := by simp [str, ByteArray.size]
theorem str_append (l k : List UInt8) : str (l ++ k) = str l ++ str k := by
  apply ByteArray.ext; simp [str, ByteArray.data_append]
theorem str_push (l : List UInt8) (b : UInt8) : (str l).push b = str (l ++ [b]) := by
  apply ByteArray.ext; simp [str, ByteArray.push]
theorem str_toList (s : ByteArray) : str s.data.toList = s := by cases s; rfl
theorem str_inj {l k : List UInt8} (h : str l = str k) : l = k := by
  have := congrArg (fun s : ByteArray => s.data.toList) h; simpa [str] using this
theorem tab_push (n : Nat) (h : n < 16) : UInt8.ofNat (Int.toNat (bt (⟨#[48, 49, 50, 51, 52, 53, 54, 55, 56, 57, 97, 98, 99, 100, 101, 102]⟩ : ByteArray) n)) = dg n := by
  rw [tab_bt n h, Int.toNat_natCast, UInt8.ofNat_toNat]
theorem encode_l0 (l : List UInt8) (hl : l.length < 1000000) (f : Nat) : ∀ (i : Nat) (o : List UInt8), i + f = l.length → o.length ≤ 2 * i →
    hexes_Encode.l0 (ob l) i (str o) = some (str (o ++ encL (l.drop i))) := by
  induction f with
  | zero =>
    intro i o hi ho
    have c1 : decide ((i : Int) < ((ob l).length : Int)) = false := by rw [ob_length]; simp; omega
    rw [hexes_Encode.l0.eq_def, List.drop_eq_nil_of_le (by omega)]
    simp only [c1, ↓reduceIte, Bool.false_eq_true, encL, List.flatMap_nil, List.append_nil]
  | succ f ih =>
    intro i o hi ho
    obtain ⟨b, hb, hd⟩ := drop_get l i (by omega)
    have hbl := b.toNat_lt
    have e1 := lget_ob l i b hb
    have c1 : decide ((i : Int) < ((ob l).length : Int)) = true := by rw [ob_length]; simp; omega
    have c2 : (0 : Int) ≤ (i : Int) ∧ (i : Int) < ((ob l).length : Int) := by rw [ob_length]; omega
    have e2 : ishr .u8 (b.toNat : Int) 4 = ((b.toNat / 16 : Nat) : Int) := ishr_nat .u8 b.toNat 4 (by decide)
    have e3 : iand .u8 (b.toNat : Int) 15 = ((b.toNat % 16 : Nat) : Int) := by
      rw [show (15 : Int) = ((15 : Nat) : Int) from rfl, iand_nat .u8 rfl b.toNat 15 hbl (by decide), Nat.and_two_pow_sub_one_eq_mod b.toNat 4]
    have e4 : wr .i64 ((i : Int) + 1) = ((i + 1 : Nat) : Int) := by rw [wr_i64 (by omega) (by omega)]; omega
    have t1 := tab_bt (b.toNat / 16) (by omega)
    have t2 := tab_bt (b.toNat % 16) (by omega)
    have p1 := tab_push (b.toNat / 16) (by omega)
    have p2 := tab_push (b.toNat % 16) (by omega)
    have d1 := (dg (b.toNat / 16)).toNat_lt
    have d2 := (dg (b.toNat % 16)).toNat_lt
    rw [hexes_Encode.l0.eq_def]
    simp only [c1, c2, e1, e2, e3, e4, p1, p2, ↓reduceIte, and_self, tab_size, str_push, str_size]
    rw [if_pos, if_pos, if_pos, if_pos, if_pos, if_pos, ih (i + 1) _ (by omega) (by simp; omega), hd, encL_cons]
    all_goals first | omega | (rw [t1]; omega) | (rw [t2]; omega) | (simp; omega) | simp
theorem encode_eq (l : List UInt8) (hl : l.length < 1000000) : hexes_Encode (ob l) = some (str (encL l)) := by
  unfold hexes_Encode
  have := encode_l0 l hl l.length 0 [] (by omega) (by simp)
  rw [show ((0 : Nat) : Int) = 0 from rfl, List.drop_zero, List.nil_append, show str [] = ByteArray.empty from rfl] at this
  rw [this, bindM_some]
theorem dig_str (n : Nat) : dig n = str [dg n] := rfl
theorem refEncode_l0 (l : List UInt8) (hl : l.length < 1000000) (f : Nat) : ∀ (i : Nat) (o : List UInt8), i + f = l.length → o.length ≤ 2 * i →
    crawlwayref05_Encode.l0 (ob l) (str o) i = some (str (o ++ encL (l.drop i))) := by
  induction f with
  | zero =>
    intro i o hi ho
    have c1 : decide ((i : Int) < ((ob l).length : Int)) = false := by rw [ob_length]; simp; omega
    rw [crawlwayref05_Encode.l0.eq_def, List.drop_eq_nil_of_le (by omega)]
    simp only [c1, ↓reduceIte, Bool.false_eq_true, encL, List.flatMap_nil, List.append_nil]
  | succ f ih =>
    intro i o hi ho
    obtain ⟨b, hb, hd⟩ := drop_get l i (by omega)
    have hbl := b.toNat_lt
    have e1 := lget_ob l i b hb
    have c1 : decide ((i : Int) < ((ob l).length : Int)) = true := by rw [ob_length]; simp; omega
    have c2 : (0 : Int) ≤ (i : Int) ∧ (i : Int) < ((ob l).length : Int) := by rw [ob_length]; omega
    have e2 : wr .i64 (b.toNat : Int) = (b.toNat : Int) := wr_i64 (by omega) (by omega)
    have e3 : wr .i64 (Int.tdiv (b.toNat : Int) 16) = ((b.toNat / 16 : Nat) : Int) := by
      rw [Int.tdiv_eq_ediv_of_nonneg (by omega), wr_i64 (by omega) (by omega)]; omega
    have e5 : Int.tmod (b.toNat : Int) 16 = ((b.toNat % 16 : Nat) : Int) := by rw [Int.tmod_eq_emod_of_nonneg (by omega)]; omega
    have e4 : wr .i64 ((i : Int) + 1) = ((i + 1 : Nat) : Int) := by rw [wr_i64 (by omega) (by omega)]; omega
    rw [crawlwayref05_Encode.l0.eq_def]
    simp only [c1, c2, e1, e2, e3, e4, e5, ↓reduceIte, and_self, digit_eq (b.toNat / 16) (by omega), digit_eq (b.toNat % 16) (by omega), bindM_some, dig_str, ← str_append, str_size]
    rw [if_pos, if_pos, ih (i + 1) _ (by omega) (by simp; omega), hd, encL_cons]
    all_goals first | omega | (simp; omega) | simp
theorem refEncode_eq (l : List UInt8) (hl : l.length < 1000000) : crawlwayref05_Encode (ob l) = some (str (encL l)) := by
  unfold crawlwayref05_Encode
  have := refEncode_l0 l hl l.length 0 [] (by omega) (by simp)
  rw [show ((0 : Nat) : Int) = 0 from rfl, List.drop_zero, List.nil_append, show str [] = (⟨#[]⟩ : ByteArray) from rfl] at this
  rw [this, bindM_some]

/-- The bytes of a text of an even number of signs. -/
def decL : List UInt8 → Option (List UInt8)
  | a :: b :: l => if val a.toNat false < 0 ∨ val b.toNat false < 0 then none else (decL l).map fun k => UInt8.ofNat (16 * (val a.toNat false).toNat + (val b.toNat false).toNat) :: k
  | _ => some []
theorem decL_nil : decL [] = some [] := rfl
theorem decL_cons (a b : UInt8) (l : List UInt8) : decL (a :: b :: l) = if val a.toNat false < 0 ∨ val b.toNat false < 0 then none else (decL l).map fun k => UInt8.ofNat (16 * (val a.toNat false).toNat + (val b.toNat false).toNat) :: k := rfl
theorem decode_l0 (s : ByteArray) (hs : s.size < 1000000) (f : Nat) : ∀ (i : Nat) (o : List UInt8), i + 2 * f = s.size → o.length ≤ i →
    hexes_Decode.l0 s (ob o) i = some (match decL (s.data.toList.drop i) with | some k => .nx (ob (o ++ k)) | none => .ret ([], 5)) := by
  induction f with
  | zero =>
    intro i o hi ho
    have c1 : decide ((i : Int) < (s.size : Int)) = false := by simp; omega
    rw [hexes_Decode.l0.eq_def, List.drop_eq_nil_of_le (by simp; omega)]
    simp only [c1, ↓reduceIte, Bool.false_eq_true, decL_nil, List.append_nil]
  | succ f ih =>
    intro i o hi ho
    obtain ⟨a, ha, hda⟩ := drop_get s.data.toList i (by simp; omega)
    obtain ⟨b, hb, hdb⟩ := drop_get s.data.toList (i + 1) (by simp; omega)
    have hal := a.toNat_lt
    have hbl := b.toNat_lt
    have ea : bt s i = a.toNat := by rw [bt_nat, ha]; rfl
    have e4 : wr .i64 ((i : Int) + 1) = ((i + 1 : Nat) : Int) := by rw [wr_i64 (by omega) (by omega)]; omega
    have e5 : wr .i64 ((i : Int) + 2) = ((i + 2 : Nat) : Int) := by rw [wr_i64 (by omega) (by omega)]; omega
    have eb : bt s ((i + 1 : Nat) : Int) = b.toNat := by rw [bt_nat, hb]; rfl
    have c1 : decide ((i : Int) < (s.size : Int)) = true := by simp; omega
    have c2 : (0 : Int) ≤ (i : Int) ∧ (i : Int) < (s.size : Int) := by omega
    have c3 : (0 : Int) ≤ ((i + 1 : Nat) : Int) ∧ ((i + 1 : Nat) : Int) < (s.size : Int) := by omega
    have va1 : -1 ≤ val a.toNat false := (val_lt ⟨a.toNat, hal⟩ false).1
    have va2 : val a.toNat false < 16 := (val_lt ⟨a.toNat, hal⟩ false).2
    have vb1 : -1 ≤ val b.toNat false := (val_lt ⟨b.toNat, hbl⟩ false).1
    have vb2 : val b.toNat false < 16 := (val_lt ⟨b.toNat, hbl⟩ false).2
    rw [hexes_Decode.l0.eq_def, hda, hdb, decL_cons]
    simp only [c1, c2, c3, ea, e4, e5, eb, value_eq, value_val _ hal, value_val _ hbl, ↓reduceIte, and_self, bindM_some, decide_true]
    by_cases h1 : val a.toNat false < 0
    · have g1 : (!decide (val a.toNat false ≥ 0)) = true := by simp; omega
      simp only [g1, ↓reduceIte, h1, true_or]
    · by_cases h2 : val b.toNat false < 0
      · have g1 : (!decide (val a.toNat false ≥ 0)) = false := by simp; omega
        have g2 : (!decide (val b.toNat false ≥ 0)) = true := by simp; omega
        simp only [g1, g2, ↓reduceIte, h2, or_true, Bool.false_eq_true]
      · have g1 : (!decide (val a.toNat false ≥ 0)) = false := by simp; omega
        have g2 : (!decide (val b.toNat false ≥ 0)) = false := by simp; omega
        obtain ⟨u, hu⟩ : ∃ u : Nat, val a.toNat false = u := ⟨(val a.toNat false).toNat, by omega⟩
        obtain ⟨v, hv⟩ : ∃ v : Nat, val b.toNat false = v := ⟨(val b.toNat false).toNat, by omega⟩
        rw [hu] at va2
        rw [hv] at vb2
        have m1 : wr .u16 (u : Int) = u := wr_u16 (by omega) (by omega)
        have m2 : wr .u16 (v : Int) = v := wr_u16 (by omega) (by omega)
        have m3 : ishl .u16 (u : Int) 4 = ((u * 16 : Nat) : Int) := by
          rw [show (4 : Int) = ((4 : Nat) : Int) from rfl, ishl_nat .u16 rfl u 4 (by decide), Nat.mod_eq_of_lt (by show u * 2 ^ 4 < 2 ^ 16; omega)]
        have m4 : ior .u16 ((u * 16 : Nat) : Int) (v : Int) = ((16 * u + v : Nat) : Int) := by
          rw [ior_nat .u16 rfl _ _ (by show u * 16 < 2 ^ 16; omega) (by show v < 2 ^ 16; omega)]
          rw [show u * 16 = u <<< 4 by rw [Nat.shiftLeft_eq], ← Nat.shiftLeft_add_eq_or_of_lt (by omega : v < 2 ^ 4), Nat.shiftLeft_eq]
          congr 1; omega
        have m5 : wr .u8 ((16 * u + v : Nat) : Int) = ((16 * u + v : Nat) : Int) := wr_u8 (by omega) (by omega)
        have hob : ob o ++ [((16 * u + v : Nat) : Int)] = ob (o ++ [UInt8.ofNat (16 * u + v)]) := by
          rw [ob_append]; congr 1
          simp only [ob, List.map_cons, List.map_nil, UInt8.toNat_ofNat']
          rw [Nat.mod_eq_of_lt (by omega)]
        have hg1 : ¬ ((u : Int) < 0 ∨ (v : Int) < 0) := by omega
        simp only [g1, g2, hu, hv, m1, m2, m3, m4, m5, ↓reduceIte, Bool.false_eq_true, ob_length, hob, hg1, Int.toNat_natCast]
        simp only [hu, hv] at g1 g2
        simp only [g1, g2, ↓reduceIte, Bool.false_eq_true]
        rw [if_pos (by omega), ih (i + 2) _ (by omega) (by simp; omega)]
        cases decL (s.data.toList.drop (i + 1 + 1)) with
        | none => rfl
        | some k => simp
theorem refDecode_l0 (s : ByteArray) (hs : s.size < 1000000) (f : Nat) : ∀ (i : Nat) (o : List UInt8), i + 2 * f = s.size → o.length ≤ i →
    crawlwayref05_Decode.l0 s (ob o) i = some (match decL (s.data.toList.drop i) with | some k => .nx (ob (o ++ k)) | none => .ret ([], 5)) := by
  induction f with
  | zero =>
    intro i o hi ho
    have c1 : decide ((i : Int) < (s.size : Int)) = false := by simp; omega
    rw [crawlwayref05_Decode.l0.eq_def, List.drop_eq_nil_of_le (by simp; omega)]
    simp only [c1, ↓reduceIte, Bool.false_eq_true, decL_nil, List.append_nil]
  | succ f ih =>
    intro i o hi ho
    obtain ⟨a, ha, hda⟩ := drop_get s.data.toList i (by simp; omega)
    obtain ⟨b, hb, hdb⟩ := drop_get s.data.toList (i + 1) (by simp; omega)
    have hal := a.toNat_lt
    have hbl := b.toNat_lt
    have ea : bt s i = a.toNat := by rw [bt_nat, ha]; rfl
    have e4 : wr .i64 ((i : Int) + 1) = ((i + 1 : Nat) : Int) := by rw [wr_i64 (by omega) (by omega)]; omega
    have e5 : wr .i64 ((i : Int) + 2) = ((i + 2 : Nat) : Int) := by rw [wr_i64 (by omega) (by omega)]; omega
    have eb : bt s ((i + 1 : Nat) : Int) = b.toNat := by rw [bt_nat, hb]; rfl
    have c1 : decide ((i : Int) < (s.size : Int)) = true := by simp; omega
    have c2 : (0 : Int) ≤ (i : Int) ∧ (i : Int) < (s.size : Int) := by omega
    have c3 : (0 : Int) ≤ ((i + 1 : Nat) : Int) ∧ ((i + 1 : Nat) : Int) < (s.size : Int) := by omega
    have va1 : -1 ≤ val a.toNat false := (val_lt ⟨a.toNat, hal⟩ false).1
    have va2 : val a.toNat false < 16 := (val_lt ⟨a.toNat, hal⟩ false).2
    have vb1 : -1 ≤ val b.toNat false := (val_lt ⟨b.toNat, hbl⟩ false).1
    have vb2 : val b.toNat false < 16 := (val_lt ⟨b.toNat, hbl⟩ false).2
    rw [crawlwayref05_Decode.l0.eq_def, hda, hdb, decL_cons]
    simp only [c1, c2, c3, ea, e4, e5, eb, refValue_eq _ _ hal, refValue_eq _ _ hbl, ↓reduceIte, and_self, bindM_some, decide_true]
    by_cases h1 : val a.toNat false < 0
    · simp only [h1, ↓reduceIte, true_or, decide_true]
    · by_cases h2 : val b.toNat false < 0
      · simp only [h1, h2, ↓reduceIte, or_true, decide_true, decide_false, Bool.false_eq_true]
      · obtain ⟨u, hu⟩ : ∃ u : Nat, val a.toNat false = u := ⟨(val a.toNat false).toNat, by omega⟩
        obtain ⟨v, hv⟩ : ∃ v : Nat, val b.toNat false = v := ⟨(val b.toNat false).toNat, by omega⟩
        rw [hu] at va2 h1
        rw [hv] at vb2 h2
        have m1 : wr .i64 (16 * (u : Int)) = 16 * (u : Int) := wr_i64 (by omega) (by omega)
        have m2 : wr .i64 (16 * (u : Int) + (v : Int)) = ((16 * u + v : Nat) : Int) := by rw [wr_i64 (by omega) (by omega)]; omega
        have m5 : wr .u8 ((16 * u + v : Nat) : Int) = ((16 * u + v : Nat) : Int) := wr_u8 (by omega) (by omega)
        have hob : ob o ++ [((16 * u + v : Nat) : Int)] = ob (o ++ [UInt8.ofNat (16 * u + v)]) := by
          rw [ob_append]; congr 1
          simp only [ob, List.map_cons, List.map_nil, UInt8.toNat_ofNat']
          rw [Nat.mod_eq_of_lt (by omega)]
        simp only [hu, hv, m1, m2, m5, h1, h2, ↓reduceIte, Bool.false_eq_true, ob_length, hob, Int.toNat_natCast, decide_false, or_self]
        rw [if_pos (by omega), ih (i + 2) _ (by omega) (by simp; omega)]
        cases decL (s.data.toList.drop (i + 1 + 1)) with
        | none => rfl
        | some k => simp
def dec (s : ByteArray) : Option (List UInt8) := if s.size % 2 ≠ 0 then none else decL s.data.toList
theorem odd_c (n : Nat) : (Int.tmod (n : Int) 2 != 0) = decide (n % 2 ≠ 0) := by
  rw [Int.tmod_eq_emod_of_nonneg (by omega)]
  by_cases h : n % 2 = 0
  · have : ((n : Int) % 2) = 0 := by omega
    simp [h, this]
  · have : ((n : Int) % 2) = 1 := by omega
    simp [this]; omega
theorem decode_eq (s : ByteArray) (hs : s.size < 1000000) : hexes_Decode s = some (match dec s with | some k => (ob k, 0) | none => ([], 5)) := by
  unfold hexes_Decode dec
  rw [odd_c]
  by_cases h : s.size % 2 = 0
  · have := decode_l0 s hs (s.size / 2) 0 [] (by omega) (by simp)
    rw [show ((0 : Nat) : Int) = 0 from rfl, List.drop_zero, show ob [] = ([] : List Int) from rfl] at this
    simp only [h, ne_eq, not_true_eq_false, decide_false, ↓reduceIte, Bool.false_eq_true, this, bindM_some, List.nil_append]
    cases decL s.data.toList <;> rfl
  · simp [h]
theorem refDecode_eq (s : ByteArray) (hs : s.size < 1000000) : crawlwayref05_Decode s = some (match dec s with | some k => (ob k, 0) | none => ([], 5)) := by
  unfold crawlwayref05_Decode dec
  rw [odd_c]
  by_cases h : s.size % 2 = 0
  · have := refDecode_l0 s hs (s.size / 2) 0 [] (by omega) (by simp)
    rw [show ((0 : Nat) : Int) = 0 from rfl, List.drop_zero, show ob [] = ([] : List Int) from rfl] at this
    simp only [h, ne_eq, not_true_eq_false, decide_false, ↓reduceIte, Bool.false_eq_true, this, bindM_some, List.nil_append]
    cases decL s.data.toList <;> rfl
  · simp [h]
theorem decL_encL (l : List UInt8) : decL (encL l) = some l := by
  induction l with
  | nil => rfl
  | cons b l ih =>
    have hb := b.toNat_lt
    have h1 := val_dg ⟨b.toNat / 16, by omega⟩ false
    have h2 := val_dg ⟨b.toNat % 16, by omega⟩ false
    simp only at h1 h2
    rw [encL_cons, decL_cons, ih, h1, h2, if_neg (by omega)]
    simp only [Option.map_some, Int.toNat_natCast]
    rw [show 16 * (b.toNat / 16) + b.toNat % 16 = b.toNat by omega, UInt8.ofNat_toNat]
theorem encL_decL : ∀ (l k : List UInt8), l.length % 2 = 0 → decL l = some k → encL k = l
  | [], k, _, h => by simp [decL] at h; subst h; rfl
  | [a], k, hl, _ => by simp at hl
  | a :: b :: l, k, hl, h => by
    rw [decL_cons] at h
    split at h
    · cases h
    · next hn =>
      cases hk : decL l with
      | none => rw [hk] at h; cases h
      | some m =>
        rw [hk] at h
        cases h
        have ih := encL_decL l m (by simp at hl; omega) hk
        have hal := a.toNat_lt
        have hbl := b.toNat_lt
        have va2 : val a.toNat false < 16 := (val_lt ⟨a.toNat, hal⟩ false).2
        have vb2 : val b.toNat false < 16 := (val_lt ⟨b.toNat, hbl⟩ false).2
        have h1 := dg_val ⟨a.toNat, hal⟩ (by simp only; omega)
        have h2 := dg_val ⟨b.toNat, hbl⟩ (by simp only; omega)
        simp only at h1 h2
        rw [encL_cons, ih, UInt8.toNat_ofNat', Nat.mod_eq_of_lt (by omega)]
        rw [show (16 * (val a.toNat false).toNat + (val b.toNat false).toNat) / 16 = (val a.toNat false).toNat by omega]
        rw [show (16 * (val a.toNat false).toNat + (val b.toNat false).toNat) % 16 = (val b.toNat false).toNat by omega]
        rw [UInt8.toNat_inj.1 h1, UInt8.toNat_inj.1 h2]
theorem dec_enc (l : List UInt8) : dec (str (encL l)) = some l := by
  unfold dec
  rw [if_neg (by rw [str_size, encL_length]; omega)]
  exact decL_encL l
theorem enc_dec (s : ByteArray) (k : List UInt8) (h : dec s = some k) : str (encL k) = s := by
  unfold dec at h
  split at h
  · cases h
  · rw [encL_decL _ _ (by simp; omega) h, str_toList]
theorem dec_length (s : ByteArray) (k : List UInt8) (h : dec s = some k) : k.length ≤ s.size := by
  have := congrArg ByteArray.size (enc_dec s k h)
  rw [str_size, encL_length] at this
  omega

end Go.Proofs.Ytdhkcjddjmgciaa.Hex
