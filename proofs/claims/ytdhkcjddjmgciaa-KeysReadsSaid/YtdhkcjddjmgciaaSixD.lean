/- Layer 4: what Decode comes to in the program. -/
import Derived.Test.YtdhkcjddjmgciaaSixR
import Derived.Lib.Strings
set_option linter.unusedVariables false
set_option linter.unusedSimpArgs false
namespace Go.Proofs.Ytdhkcjddjmgciaa.Six
open E Go.RowKit
open Hex (str str_size str_append str_push str_toList str_inj)

def sv (c : Nat) : Int := Lib.indexByte sgn c.toUInt8
theorem sv_lt : ∀ c : Fin 256, -1 ≤ sv c.1 ∧ sv c.1 < 64 := by decide +kernel
theorem sv_sg : ∀ n : Fin 64, sv (sg n.1).toNat = n.1 := by decide +kernel
theorem sg_sv : ∀ c : Fin 256, sv c.1 ≥ 0 → (sg (sv c.1).toNat).toNat = c.1 := by decide +kernel
theorem sv61 : sv 61 = -1 := by decide +kernel
theorem value_eq (c : Nat) : sixtyfour_value (c : Int) = some (wr .u32 (sv c), decide (sv c ≥ 0)) := rfl
/-- The values of signs. -/
def vals : List UInt8 → Option (List Nat)
  | [] => some []
  | c :: l => if sv c.toNat < 0 then none else (vals l).map ((sv c.toNat).toNat :: ·)
theorem vals_nil : vals [] = some [] := rfl
theorem vals_cons (c : UInt8) (l : List UInt8) : vals (c :: l) = if sv c.toNat < 0 then none else (vals l).map ((sv c.toNat).toNat :: ·) := rfl
theorem vals_append (l k : List UInt8) : vals (l ++ k) = (vals l).bind fun a => (vals k).map (a ++ ·) := by
  induction l with
  | nil => simp [vals_nil]
  | cons c l ih =>
    rw [List.cons_append, vals_cons, vals_cons, ih]
    split
    · rfl
    · cases vals l with
      | none => rfl
      | some a => cases vals k <;> rfl
theorem vals_length : ∀ (l : List UInt8) (vs : List Nat), vals l = some vs → vs.length = l.length
  | [], vs, h => by simp [vals_nil] at h; subst h; rfl
  | c :: l, vs, h => by
    rw [vals_cons] at h
    split at h
    · cases h
    · cases hv : vals l with
      | none => rw [hv] at h; cases h
      | some a => rw [hv] at h; cases h; simp [vals_length l a hv]
theorem vals_lt : ∀ (l : List UInt8) (vs : List Nat), vals l = some vs → ∀ v ∈ vs, v < 64
  | [], vs, h => by simp [vals_nil] at h; subst h; simp
  | c :: l, vs, h => by
    rw [vals_cons] at h
    split at h
    · cases h
    · cases hv : vals l with
      | none => rw [hv] at h; cases h
      | some a =>
        rw [hv] at h; cases h
        have := (sv_lt ⟨c.toNat, c.toNat_lt⟩).2
        simp only at this
        intro v hm
        rcases List.mem_cons.1 hm with rfl | hm
        · omega
        · exact vals_lt l a hv v hm
theorem vals_sg : ∀ (l : List UInt8) (vs : List Nat), vals l = some vs → vs.map sg = l
  | [], vs, h => by simp [vals_nil] at h; subst h; rfl
  | c :: l, vs, h => by
    rw [vals_cons] at h
    split at h
    · cases h
    · next hn =>
      cases hv : vals l with
      | none => rw [hv] at h; cases h
      | some a =>
        rw [hv] at h; cases h
        have := sg_sv ⟨c.toNat, c.toNat_lt⟩ (by simp only; omega)
        simp only at this
        rw [List.map_cons, vals_sg l a hv, UInt8.toNat_inj.1 this]
theorem vals_map (vs : List Nat) (h : ∀ v ∈ vs, v < 64) : vals (vs.map sg) = some vs := by
  induction vs with
  | nil => rfl
  | cons v vs ih =>
    have := sv_sg ⟨v, h v (List.mem_cons_self ..)⟩
    simp only at this
    rw [List.map_cons, vals_cons, ih fun u hu => h u (List.mem_cons_of_mem _ hu), this, if_neg (by omega)]
    simp

/-- Values as one number. -/
def cat (vs : List Nat) (y : Nat) : Nat := vs.foldl (fun n v => 64 * n + v) y
theorem cat_cons (v : Nat) (vs : List Nat) (y : Nat) : cat (v :: vs) y = cat vs (64 * y + v) := rfl
theorem cat_lt (vs : List Nat) (h : ∀ v ∈ vs, v < 64) : ∀ y i, y < 64 ^ i → cat vs y < 64 ^ (i + vs.length) := by
  induction vs with
  | nil => intro y i hy; simpa [cat] using hy
  | cons v vs ih =>
    intro y i hy
    rw [cat_cons, List.length_cons, show i + (vs.length + 1) = (i + 1) + vs.length by omega]
    have := h v (List.mem_cons_self ..)
    exact ih (fun u hu => h u (List.mem_cons_of_mem _ hu)) _ _ (by rw [Nat.pow_succ]; omega)
def gY (vs : List Nat) : Nat := cat vs 0 * 2 ^ (24 - 6 * vs.length)
def zf (vs : List Nat) : Bool := decide (gY vs * 2 ^ (8 * vs.length) % 2 ^ 32 = 0)
def bys (X : Nat) : Nat → Nat → List UInt8
  | _, 0 => []
  | i, k + 1 => UInt8.ofNat (X / 2 ^ (16 - 8 * i)) :: bys X (i + 1) k
theorem bys_length (X : Nat) : ∀ i k, (bys X i k).length = k
  | _, 0 => rfl
  | i, k + 1 => by simp [bys, bys_length X (i + 1) k]
theorem str_get (s : List UInt8) (i : Nat) (c : UInt8) (h : s[i]? = some c) : bt (str s) i = c.toNat := by
  rw [bt_nat]; simp [str, h]
theorem four_l0 (s : List UInt8) (hs : s.length ≤ 4) (f : Nat) : ∀ (i y : Nat), i + f = s.length → y < 64 ^ i →
    sixtyfour_four.l0 (str s) ((y * 2 ^ (24 - 6 * i) : Nat) : Int) i = some (match vals (s.drop i) with | none => .ret ([], false, 5) | some vs => .nx (((cat vs y * 2 ^ (24 - 6 * s.length) : Nat)) : Int)) := by
  induction f with
  | zero =>
    intro i y hi hy
    have hi' : i = s.length := by omega
    subst hi'
    have c1 : decide ((s.length : Int) < ((str s).size : Int)) = false := by rw [str_size]; simp
    rw [sixtyfour_four.l0.eq_def, List.drop_eq_nil_of_le (by omega)]
    simp only [c1, Bool.false_eq_true, ↓reduceIte, vals_nil, cat, List.foldl_nil]
  | succ f ih =>
    intro i y hi hy
    obtain ⟨c, hc, hd⟩ := drop_get s i (by omega)
    have hcl := c.toNat_lt
    have h1 := (sv_lt ⟨c.toNat, hcl⟩).1
    have h2 := (sv_lt ⟨c.toNat, hcl⟩).2
    simp only at h1 h2
    have c1 : decide ((i : Int) < ((str s).size : Int)) = true := by rw [str_size]; simp; omega
    have e0 : wr .i64 ((i : Int) + 1) = ((i + 1 : Nat) : Int) := by rw [wr_i64 (by omega) (by omega)]; omega
    rw [sixtyfour_four.l0.eq_def, hd, vals_cons]
    simp only [c1, ↓reduceIte, str_get s i c hc, value_eq, bindM_some, e0, sh18 i (by omega)]
    rw [if_pos (by rw [str_size]; omega)]
    by_cases hneg : sv c.toNat < 0
    · have g1 : (!decide (sv c.toNat ≥ 0)) = true := by simp; omega
      simp only [g1, ↓reduceIte, hneg]
    · have g1 : (!decide (sv c.toNat ≥ 0)) = false := by simp; omega
      obtain ⟨v, hv⟩ : ∃ v : Nat, sv c.toNat = v := ⟨(sv c.toNat).toNat, by omega⟩
      rw [hv] at h2 hneg
      have e1 : wr .u32 (v : Int) = v := wr_u32 (by omega) (by omega)
      have hp : 2 ^ (18 - 6 * i) ≤ 2 ^ 18 := Nat.pow_le_pow_right (by decide) (by omega)
      have hvp : v * 2 ^ (18 - 6 * i) < 2 ^ (24 - 6 * i) := by
        rw [show 24 - 6 * i = 6 + (18 - 6 * i) by omega, Nat.pow_add]
        exact Nat.mul_lt_mul_of_pos_right (by omega) (Nat.two_pow_pos _)
      have hyp : y * 2 ^ (24 - 6 * i) < 2 ^ 24 := by
        have : (64 : Nat) ^ i = 2 ^ (6 * i) := by rw [Nat.pow_mul]
        calc y * 2 ^ (24 - 6 * i) < 2 ^ (6 * i) * 2 ^ (24 - 6 * i) := Nat.mul_lt_mul_of_pos_right (by rw [← this]; exact hy) (Nat.two_pow_pos _)
          _ = 2 ^ 24 := by rw [← Nat.pow_add]; congr 1; omega
      have hp24 : 2 ^ (24 - 6 * i) ≤ 2 ^ 24 := Nat.pow_le_pow_right (by decide) (by omega)
      have e2 : ishl .u32 (v : Int) ((18 - 6 * i : Nat) : Int) = ((v * 2 ^ (18 - 6 * i) : Nat) : Int) := by
        rw [ishl_nat .u32 rfl v _ (by show 18 - 6 * i ≤ 32; omega), Nat.mod_eq_of_lt (by show _ < 2 ^ 32; omega)]
      have e3 : ior .u32 ((y * 2 ^ (24 - 6 * i) : Nat) : Int) ((v * 2 ^ (18 - 6 * i) : Nat) : Int) = (((64 * y + v) * 2 ^ (24 - 6 * (i + 1)) : Nat) : Int) := by
        rw [ior_nat .u32 rfl _ _ (by show _ < 2 ^ 32; omega) (by show _ < 2 ^ 32; omega), or_add _ _ _ hvp]
        congr 1
        rw [show 24 - 6 * i = 6 + (18 - 6 * i) by omega, Nat.pow_add, show 24 - 6 * (i + 1) = 18 - 6 * i by omega, Nat.add_mul]
        rw [show 64 * y = y * 2 ^ 6 by omega, Nat.mul_assoc]
      simp only [hv] at g1
      simp only [hv, g1, ↓reduceIte, Bool.false_eq_true, hneg, e1, e2, e3]
      rw [if_pos (by omega), ih (i + 1) (64 * y + v) (by omega) (by rw [Nat.pow_succ]; omega)]
      cases vals (s.drop (i + 1)) with
      | none => rfl
      | some vs => simp [cat_cons]
theorem sh16 (i : Nat) (h : i ≤ 2) : wr .u64 (wr .i64 (16 - (wr .i64 (8 * (i : Int))))) = ((16 - 8 * i : Nat) : Int) := by
  have : ∀ i : Fin 3, wr .u64 (wr .i64 (16 - (wr .i64 (8 * (i.1 : Int))))) = ((16 - 8 * i.1 : Nat) : Int) := by decide +kernel
  exact this ⟨i, by omega⟩
theorem four_l1 (s : List UInt8) (hs : 1 ≤ s.length ∧ s.length ≤ 4) (X : Nat) (hX : X < 2 ^ 24) (f : Nat) : ∀ (i : Nat) (o : List UInt8), i + f = s.length - 1 → o.length ≤ i →
    sixtyfour_four.l1 (str s) X (ob o) i = some (ob (o ++ bys X i f)) := by
  have e1 : wr .i64 (((str s).size : Int) - 1) = ((s.length - 1 : Nat) : Int) := by rw [str_size, wr_i64 (by omega) (by omega)]; omega
  induction f with
  | zero =>
    intro i o hi ho
    have c1 : decide ((i : Int) < ((s.length - 1 : Nat) : Int)) = false := by simp; omega
    rw [sixtyfour_four.l1.eq_def, e1]
    simp only [c1, Bool.false_eq_true, ↓reduceIte, bys, List.append_nil]
  | succ f ih =>
    intro i o hi ho
    have c1 : decide ((i : Int) < ((s.length - 1 : Nat) : Int)) = true := by simp; omega
    have e0 : wr .i64 ((i : Int) + 1) = ((i + 1 : Nat) : Int) := by rw [wr_i64 (by omega) (by omega)]; omega
    have e2 : ishr .u32 (X : Int) ((16 - 8 * i : Nat) : Int) = ((X / 2 ^ (16 - 8 * i) : Nat) : Int) := ishr_nat .u32 X _ (by show 16 - 8 * i ≤ 32; omega)
    have hob : ob o ++ [wr .u8 ((X / 2 ^ (16 - 8 * i) : Nat) : Int)] = ob (o ++ [UInt8.ofNat (X / 2 ^ (16 - 8 * i))]) := by
      rw [ob_append, wr_u8_mod]; congr 1
    rw [sixtyfour_four.l1.eq_def, e1]
    simp only [c1, ↓reduceIte, sh16 i (by omega), e0, e2, hob, ob_length]
    rw [if_pos (by omega), if_pos (by omega), ih (i + 1) _ (by omega) (by simp; omega)]
    simp [bys]
theorem gY_lt (vs : List Nat) (h : ∀ v ∈ vs, v < 64) (hl : vs.length ≤ 4) : gY vs < 2 ^ 24 := by
  unfold gY
  have h1 := cat_lt vs h 0 0 (by decide)
  have : (64 : Nat) ^ (0 + vs.length) = 2 ^ (6 * vs.length) := by rw [Nat.zero_add, Nat.pow_mul]
  calc cat vs 0 * 2 ^ (24 - 6 * vs.length) < 2 ^ (6 * vs.length) * 2 ^ (24 - 6 * vs.length) := Nat.mul_lt_mul_of_pos_right (by rw [← this]; exact h1) (Nat.two_pow_pos _)
    _ = 2 ^ 24 := by rw [← Nat.pow_add]; congr 1; omega
theorem four_eq (s : List UInt8) (hs : 1 ≤ s.length ∧ s.length ≤ 4) :
    sixtyfour_four (str s) = some (match vals s with | none => ([], false, 5) | some vs => (ob (bys (gY vs) 0 (s.length - 1)), zf vs, 0)) := by
  unfold sixtyfour_four
  have h0 := four_l0 s hs.2 s.length 0 0 (by omega) (by decide)
  rw [show ((0 * 2 ^ (24 - 6 * 0) : Nat) : Int) = 0 from rfl, List.drop_zero] at h0
  rw [h0, bindM_some]
  cases hv : vals s with
  | none => rfl
  | some vs =>
    have hl := vals_length _ _ hv
    have hg : cat vs 0 * 2 ^ (24 - 6 * s.length) = gY vs := by unfold gY; rw [hl]
    have hlt := gY_lt vs (vals_lt _ _ hv) (by omega)
    simp only [hg]
    have h1 := four_l1 s hs (gY vs) hlt (s.length - 1) 0 [] (by omega) (by simp)
    rw [show ((0 : Nat) : Int) = 0 from rfl, show ob [] = ([] : List Int) from rfl, List.nil_append] at h1
    have e1 : wr .u64 (wr .i64 (8 + wr .i64 (8 * wr .i64 (((str s).size : Int) - 1)))) = ((8 * vs.length : Nat) : Int) := by
      rw [str_size, wr_i64 (x := (s.length : Int) - 1) (by omega) (by omega), wr_i64 (x := 8 * ((s.length : Int) - 1)) (by omega) (by omega), wr_i64 (by omega) (by omega), wr_u64 (by omega) (by omega)]
      omega
    have e2 : ishl .u32 ((gY vs : Nat) : Int) ((8 * vs.length : Nat) : Int) = ((gY vs * 2 ^ (8 * vs.length) % 2 ^ 32 : Nat) : Int) := ishl_nat .u32 rfl _ _ (by show 8 * vs.length ≤ 32; omega)
    have e3 : (((gY vs * 2 ^ (8 * vs.length) % 2 ^ 32 : Nat) : Int) == 0) = zf vs := by
      unfold zf
      rw [Bool.eq_iff_iff]; simp only [beq_iff_eq, decide_eq_true_eq]; omega
    simp only [h1, bindM_some, e1, e2, e3]
    rw [if_pos (by omega)]

/-- What values come to, four by four. -/
def dv (vs : List Nat) : List UInt8 × Bool := if h : vs = [] then ([], true) else
  (bys (gY (vs.take 4)) 0 (min vs.length 4 - 1) ++ (dv (vs.drop 4)).1, zf (vs.take 4) && (dv (vs.drop 4)).2)
termination_by vs.length
decreasing_by
  all_goals
    have : 0 < vs.length := List.length_pos_iff.2 h
    simp; omega
theorem str_extract (l : List UInt8) (i j : Nat) : (str l).extract i j = str ((l.take j).drop i) := by
  apply ByteArray.ext
  simp only [str, ByteArray.data_extract]
  apply Array.toList_inj.1
  simp only [Array.toList_extract, List.extract_eq_take_drop]
  rw [List.drop_take]
theorem min4_eq (l : List UInt8) : (if 4 < ((str l).size : Int) then (4 : Int) else ((str l).size : Int)) = ((min l.length 4 : Nat) : Int) := by
  rw [str_size]
  split <;> omega
theorem dl0_eq (b : List UInt8) : ∀ (o : List UInt8) (cl : Bool), o.length + b.length ≤ 100000 →
    sixtyfour_Decode.l0 (str b) (ob o) cl = some (match vals b with | none => .ret ([], 5) | some vs => .nx (ob (o ++ (dv vs).1), cl && (dv vs).2)) := by
  generalize hn : b.length = n
  induction n using Nat.strongRecOn generalizing b with
  | _ n ih =>
    intro o cl ho
    rw [sixtyfour_Decode.l0.eq_def, min4_eq]
    by_cases h : b = []
    · subst h
      have c1 : decide (((str []).size : Int) > 0) = false := rfl
      rw [vals_nil]
      simp only [c1, ↓reduceIte, Bool.false_eq_true]
      rw [dv]; simp
    · have hl : 0 < b.length := List.length_pos_iff.2 h
      have c1 : decide (((str b).size : Int) > 0) = true := by rw [str_size]; simp; omega
      have e1 : (str b).extract (Int.toNat 0) (Int.toNat ((min b.length 4 : Nat) : Int)) = str (b.take 4) := by
        rw [Int.toNat_natCast, str_extract]
        show str ((b.take (min b.length 4)).drop 0) = _
        rw [List.drop_zero]
        congr 1
        by_cases h4 : b.length ≤ 4
        · rw [Nat.min_eq_left h4, List.take_length, List.take_of_length_le h4]
        · rw [Nat.min_eq_right (by omega)]
      have e2 : (str b).extract (Int.toNat ((min b.length 4 : Nat) : Int)) (Int.toNat ((str b).size : Int)) = str (b.drop 4) := by
        rw [Int.toNat_natCast, Int.toNat_natCast, str_extract, str_size, List.take_length]
        congr 1
        by_cases h4 : b.length ≤ 4
        · rw [Nat.min_eq_left h4, List.drop_length, List.drop_eq_nil_of_le h4]
        · rw [Nat.min_eq_right (by omega)]
      have hb : b = b.take 4 ++ b.drop 4 := (List.take_append_drop 4 b).symm
      have htl : (b.take 4).length = min b.length 4 := by rw [List.length_take, Nat.min_comm]
      have hva : vals b = (vals (b.take 4)).bind fun a => (vals (b.drop 4)).map (a ++ ·) := by rw [← vals_append, ← hb]
      have c2 : (0 : Int) ≤ 0 ∧ (0 : Int) ≤ ((min b.length 4 : Nat) : Int) ∧ ((min b.length 4 : Nat) : Int) ≤ ((str b).size : Int) := by rw [str_size]; omega
      have c3 : (0 : Int) ≤ ((min b.length 4 : Nat) : Int) ∧ ((min b.length 4 : Nat) : Int) ≤ ((str b).size : Int) ∧ ((str b).size : Int) ≤ ((str b).size : Int) := by rw [str_size]; omega
      rw [if_pos c1, if_pos c2, e1, e2, four_eq (b.take 4) (by omega), bindM_some, hva]
      cases hv : vals (b.take 4) with
      | none => rfl
      | some vs =>
        have hvl := vals_length _ _ hv
        have hvn : vs ≠ [] := by intro he; subst he; simp at hvl; omega
        simp only [Option.bind_some, bne_self_eq_false, Bool.false_eq_true, ↓reduceIte, ob_length, bys_length, htl]
        rw [if_pos (by omega), if_pos c3, if_pos c3]
        have hi := fun cl' => ih (b.drop 4).length (by simp; omega) (b.drop 4) rfl (o ++ bys (gY vs) 0 (min b.length 4 - 1)) cl' (by simp [bys_length]; omega)
        rw [← ob_append, hi, hi]
        cases hw : vals (b.drop 4) with
        | none => cases cl <;> rfl
        | some us =>
          have hus := vals_length _ _ hw
          simp only [Option.map_some]
          have hdv : dv (vs ++ us) = (bys (gY vs) 0 (min b.length 4 - 1) ++ (dv us).1, zf vs && (dv us).2) := by
            rw [dv]
            by_cases h4 : 4 ≤ b.length
            · have h5 : vs.length = 4 := by omega
              have t1 : (vs ++ us).take 4 = vs := by rw [← h5]; simp
              have t2 : (vs ++ us).drop 4 = us := by rw [← h5]; simp
              simp only [dif_neg (show ¬ vs ++ us = [] by simp [hvn]), t1, t2]
              rw [Nat.min_eq_right (by simp; omega), Nat.min_eq_right h4]
            · have h6 : us = [] := List.eq_nil_of_length_eq_zero (by rw [hus]; simp; omega)
              subst h6
              simp only [List.append_nil, dif_neg hvn]
              rw [List.take_of_length_le (by omega), List.drop_eq_nil_of_le (by omega), Nat.min_eq_left (by omega), Nat.min_eq_left (by omega)]
              rw [show vs.length = b.length by omega]
          rw [hdv]
          cases cl <;> simp [Bool.and_assoc]
def strip (l : List UInt8) : List UInt8 := Lib.trimSuffix (Lib.trimSuffix l [61]) [61]
theorem tm4 (n : Nat) : (Int.tmod (n : Int) 4 != 0) = decide (n % 4 ≠ 0) := by
  rw [Int.tmod_eq_emod_of_nonneg (by omega)]
  by_cases h : n % 4 = 0
  · have : ((n : Int) % 4) = 0 := by omega
    simp [h, this]
  · have : ¬ ((n : Int) % 4) = 0 := by omega
    simp [h, this]
theorem trim_len (l : List UInt8) : (Lib.trimSuffix l [61]).length ≤ l.length := by
  unfold Lib.trimSuffix; split <;> simp
def fin (z : Option (List Nat)) : List Int × Int := match z with | none => ([], 5) | some vs => if (dv vs).2 then (ob (dv vs).1, 0) else ([], 10)
theorem decode_eq (l : List UInt8) (h : l.length ≤ 100000) : sixtyfour_Decode (str l) = some (if l.length % 4 ≠ 0 then ([], 5) else fin (vals (strip l))) := by
  unfold sixtyfour_Decode
  rw [str_size, tm4]
  by_cases h4 : l.length % 4 = 0
  · have t1 := trim_len l
    have t2 := trim_len (Lib.trimSuffix l [61])
    have e1 : (⟨(Lib.trimSuffix (str l).data.toList (⟨#[61]⟩ : ByteArray).data.toList).toArray⟩ : ByteArray) = str (Lib.trimSuffix l [61]) := rfl
    have e2 : (⟨(Lib.trimSuffix (str (Lib.trimSuffix l [61])).data.toList (⟨#[61]⟩ : ByteArray).data.toList).toArray⟩ : ByteArray) = str (strip l) := rfl
    rw [if_neg (by simp [h4]), e1, if_pos (by omega), str_size, if_pos (by omega), e2, show ([] : List Int) = ob [] from rfl, dl0_eq (strip l) [] true (by unfold strip; simp; omega), bindM_some, if_neg (by omega)]
    cases vals (strip l) with
    | none => rfl
    | some vs =>
      simp only [List.nil_append, Bool.true_and, fin]
      cases (dv vs).2 <;> rfl
  · rw [if_pos (by simp [h4]), if_pos h4]
end Go.Proofs.Ytdhkcjddjmgciaa.Six
