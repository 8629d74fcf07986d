/- Layer 4: the reference's Decode, bit by bit, comes to the same. -/
import Derived.Test.YtdhkcjddjmgciaaSixD
set_option linter.unusedVariables false
set_option linter.unusedSimpArgs false
namespace Go.Proofs.Ytdhkcjddjmgciaa.Six
open E Go.RowKit
open Hex (str str_size str_append str_push str_toList str_inj)

def vf (c : Nat) : Nat → Nat → Int
  | 0, _ => -1
  | f + 1, i => if (sg i).toNat = c then (i : Int) else vf c f (i + 1)
theorem sv_vf : ∀ c : Fin 256, vf c.1 64 0 = sv c.1 := by decide +kernel
theorem rval_l0 (c : Nat) (f : Nat) : ∀ i : Nat, i + f = 64 → crawlwayref04_Value.l0 c tab i = some (if vf c f i = -1 then .nx () else .ret (vf c f i)) := by
  induction f with
  | zero =>
    intro i hi
    obtain rfl : i = 64 := by omega
    rw [crawlwayref04_Value.l0.eq_def]
    simp [vf]
  | succ f ih =>
    intro i hi
    have h1 : decide ((i : Int) < 64) = true := by simp; omega
    have e1 : wr .i64 ((i : Int) + 1) = ((i + 1 : Nat) : Int) := by rw [wr_i64 (by omega) (by omega)]; omega
    rw [crawlwayref04_Value.l0.eq_def, if_pos h1, tab_size, if_pos (by omega), tab_bt i (by omega), e1, ih (i + 1) (by omega)]
    have hv : vf c (f + 1) i = if (sg i).toNat = c then (i : Int) else vf c f (i + 1) := rfl
    by_cases hA : (sg i).toNat = c
    · have hA' : (((sg i).toNat : Int) == (c : Int)) = true := by simp; omega
      rw [if_pos hA] at hv
      have : ¬ (i : Int) = -1 := by omega
      simp only [hA', hv, this, ↓reduceIte]
    · have hA' : (((sg i).toNat : Int) == (c : Int)) = false := by simp; omega
      rw [if_neg hA] at hv
      simp only [hA', hv, ↓reduceIte, Bool.false_eq_true]
theorem refValue_eq (c : Nat) (hc : c < 256) : crawlwayref04_Value c = some (sv c) := by
  unfold crawlwayref04_Value
  have := rval_l0 c 64 0 rfl
  rw [show ((0 : Nat) : Int) = 0 from rfl] at this
  have hS : crawlwayref04_Signs = some tab := rfl
  rw [hS, bindM_some, this, bindM_some]
  have h2 := sv_vf ⟨c, hc⟩
  simp only at h2
  rw [h2]
  by_cases hv : sv c = -1
  · simp only [hv, ↓reduceIte]
  · simp only [hv, ↓reduceIte]

def vb (v : Nat) : List Nat := [v / 32 % 2, v / 16 % 2, v / 8 % 2, v / 4 % 2, v / 2 % 2, v % 2]
def bi (L : List Nat) : List Int := L.map fun (n : Nat) => (n : Int)
theorem bi_length (L : List Nat) : (bi L).length = L.length := by simp [bi]
theorem bi_append (L M : List Nat) : bi (L ++ M) = bi L ++ bi M := by simp [bi]
theorem lget_bi (L : List Nat) (i : Nat) (h : i < L.length) : lget (bi L) i = ((L.getD i 0 : Nat) : Int) := by
  unfold lget bi
  rw [Int.toNat_natCast, List.getD_eq_getElem?_getD, List.getElem?_map, List.getD_eq_getElem?_getD, List.getElem?_eq_getElem h]
  rfl
theorem rdl1_step (v : Nat) (hv : v < 64) (B : List Nat) (d : Nat) (hd : 0 < d ∧ d ≤ 32) (hB : B.length ≤ 1000000) :
    crawlwayref04_Decode.l1 (v : Int) (bi B) (d : Int) = crawlwayref04_Decode.l1 (v : Int) (bi (B ++ [v / d % 2])) ((d / 2 : Nat) : Int) := by
  have c1 : decide ((d : Int) > 0) = true := by simp; omega
  have hq : v / d ≤ v := Nat.div_le_self _ _
  have e1 : wr .i64 (Int.tdiv (v : Int) (d : Int)) = ((v / d : Nat) : Int) := by
    rw [Int.tdiv_eq_ediv_of_nonneg (by omega), ← Int.natCast_ediv]
    exact wr_i64 (Int.le_trans (by decide) (Int.natCast_nonneg _)) (Int.lt_of_le_of_lt (Int.ofNat_le.2 hq) (by omega))
  have e2 : Int.tmod ((v / d : Nat) : Int) 2 = ((v / d % 2 : Nat) : Int) := by rw [Int.tmod_eq_emod_of_nonneg (Int.natCast_nonneg _)]; rfl
  rw [crawlwayref04_Decode.l1.eq_def, if_pos c1, if_pos (by omega), bi_length, if_pos (by omega), e1, e2, tdiv2 d (by omega), bi_append]
  rfl
theorem rdl1_eq (v : Nat) (hv : v < 64) (B : List Nat) (hB : B.length ≤ 100000) : crawlwayref04_Decode.l1 (v : Int) (bi B) 32 = some (bi (B ++ vb v)) := by
  have s0 := rdl1_step v hv B 32 (by omega) (by omega)
  have s1 := rdl1_step v hv (B ++ [v / 32 % 2]) 16 (by omega) (by simp; omega)
  have s2 := rdl1_step v hv (B ++ [v / 32 % 2] ++ [v / 16 % 2]) 8 (by omega) (by simp; omega)
  have s3 := rdl1_step v hv (B ++ [v / 32 % 2] ++ [v / 16 % 2] ++ [v / 8 % 2]) 4 (by omega) (by simp; omega)
  have s4 := rdl1_step v hv (B ++ [v / 32 % 2] ++ [v / 16 % 2] ++ [v / 8 % 2] ++ [v / 4 % 2]) 2 (by omega) (by simp; omega)
  have s5 := rdl1_step v hv (B ++ [v / 32 % 2] ++ [v / 16 % 2] ++ [v / 8 % 2] ++ [v / 4 % 2] ++ [v / 2 % 2]) 1 (by omega) (by simp; omega)
  refine s0.trans (s1.trans (s2.trans (s3.trans (s4.trans (s5.trans ?_)))))
  rw [crawlwayref04_Decode.l1.eq_def, if_neg (by decide)]
  simp [vb]
theorem rdl0_eq (s : List UInt8) (n : Nat) (hs : n ≤ s.length) (hl : s.length ≤ 10000) (f : Nat) : ∀ (i : Nat) (B : List Nat), i + f = n → B.length ≤ 6 * i →
    crawlwayref04_Decode.l0 (str s) n (bi B) i = some (match vals ((s.take n).drop i) with | none => .ret ([], 5) | some vs => .nx (bi (B ++ vs.flatMap vb))) := by
  induction f with
  | zero =>
    intro i B hi hB
    have c1 : decide ((i : Int) < (n : Int)) = false := by simp; omega
    rw [crawlwayref04_Decode.l0.eq_def, List.drop_eq_nil_of_le (by simp; omega)]
    simp only [c1, Bool.false_eq_true, ↓reduceIte, vals_nil, List.flatMap_nil, List.append_nil]
  | succ f ih =>
    intro i B hi hB
    have c1 : decide ((i : Int) < (n : Int)) = true := by simp; omega
    obtain ⟨c, hc, hd⟩ := drop_get (s.take n) i (by simp; omega)
    have hc' : s[i]? = some c := by rw [List.getElem?_take, if_pos (by omega)] at hc; exact hc
    have hcl := c.toNat_lt
    have h1 := (sv_lt ⟨c.toNat, hcl⟩).1
    have h2 := (sv_lt ⟨c.toNat, hcl⟩).2
    simp only at h1 h2
    have e0 : wr .i64 ((i : Int) + 1) = ((i + 1 : Nat) : Int) := by rw [wr_i64 (by omega) (by omega)]; omega
    rw [crawlwayref04_Decode.l0.eq_def, hd, vals_cons, if_pos c1, if_pos (by rw [str_size]; omega), str_get s i c hc', refValue_eq _ hcl, bindM_some, e0]
    by_cases hneg : sv c.toNat < 0
    · simp only [↓reduceIte, hneg, decide_true]
    · have g1 : decide (sv c.toNat < 0) = false := by simp; omega
      obtain ⟨v, hv⟩ : ∃ v : Nat, sv c.toNat = v := ⟨(sv c.toNat).toNat, by omega⟩
      rw [hv] at h2 hneg g1
      simp only [hv, g1, ↓reduceIte, Bool.false_eq_true, hneg, rdl1_eq v (by omega) B (by omega), bindM_some]
      rw [ih (i + 1) _ (by omega) (by simp [vb]; omega)]
      cases vals ((s.take n).drop (i + 1)) with
      | none => rfl
      | some vs => simp
/-- Eight bits as a number. -/
def c8 (L : List Nat) (i : Nat) : Nat := 128 * L.getD i 0 + 64 * L.getD (i + 1) 0 + 32 * L.getD (i + 2) 0 + 16 * L.getD (i + 3) 0 + 8 * L.getD (i + 4) 0 + 4 * L.getD (i + 5) 0 + 2 * L.getD (i + 6) 0 + L.getD (i + 7) 0
theorem bit_get (L : List Nat) (hb : ∀ b ∈ L, b < 2) (i : Nat) : L.getD i 0 < 2 := by
  rw [List.getD_eq_getElem?_getD]
  cases h : L[i]? with
  | none => simp
  | some b => simp only [Option.getD_some]; exact hb b (List.mem_of_getElem? h)
theorem rdl3_step (L : List Nat) (hL : L.length < 100000) (hb : ∀ b ∈ L, b < 2) (i n k : Nat) (hk : k < i + 8) (hkL : k < L.length) (hn : n < 1000) (hi : i < 100000) :
    crawlwayref04_Decode.l3 (bi L) i n k = crawlwayref04_Decode.l3 (bi L) i ((2 * n + L.getD k 0 : Nat) : Int) ((k + 1 : Nat) : Int) := by
  have e8 : wr .i64 ((i : Int) + 8) = ((i + 8 : Nat) : Int) := by rw [wr_i64 (by omega) (by omega)]; omega
  have c1 : decide ((k : Int) < ((i + 8 : Nat) : Int)) = true := by simp; omega
  have e1 : wr .i64 ((k : Int) + 1) = ((k + 1 : Nat) : Int) := by rw [wr_i64 (by omega) (by omega)]; omega
  have e2 : wr .i64 (2 * (n : Int)) = ((2 * n : Nat) : Int) := by rw [wr_i64 (by omega) (by omega)]; omega
  have hg := bit_get L hb k
  have e3 : wr .i64 (((2 * n : Nat) : Int) + ((L.getD k 0 : Nat) : Int)) = ((2 * n + L.getD k 0 : Nat) : Int) := by rw [wr_i64 (by omega) (by omega)]; omega
  rw [crawlwayref04_Decode.l3.eq_def, e8, if_pos c1, if_pos (by rw [bi_length]; omega), lget_bi L k hkL, e1, e2, e3]
theorem rdl3_eq (L : List Nat) (hL : L.length < 100000) (hb : ∀ b ∈ L, b < 2) (i : Nat) (hi : i + 8 ≤ L.length) : crawlwayref04_Decode.l3 (bi L) i 0 i = some ((c8 L i : Nat) : Int) := by
  have h0 := bit_get L hb i
  have h1 := bit_get L hb (i + 1)
  have h2 := bit_get L hb (i + 2)
  have h3 := bit_get L hb (i + 3)
  have h4 := bit_get L hb (i + 4)
  have h5 := bit_get L hb (i + 5)
  have h6 := bit_get L hb (i + 6)
  have s0 := rdl3_step L hL hb i 0 i (by omega) (by omega) (by omega) (by omega)
  have s1 := rdl3_step L hL hb i (2 * 0 + L.getD i 0) (i + 1) (by omega) (by omega) (by omega) (by omega)
  have s2 := rdl3_step L hL hb i (2 * (2 * 0 + L.getD i 0) + L.getD (i + 1) 0) (i + 2) (by omega) (by omega) (by omega) (by omega)
  have s3 := rdl3_step L hL hb i (2 * (2 * (2 * 0 + L.getD i 0) + L.getD (i + 1) 0) + L.getD (i + 2) 0) (i + 3) (by omega) (by omega) (by omega) (by omega)
  have s4 := rdl3_step L hL hb i (2 * (2 * (2 * (2 * 0 + L.getD i 0) + L.getD (i + 1) 0) + L.getD (i + 2) 0) + L.getD (i + 3) 0) (i + 4) (by omega) (by omega) (by omega) (by omega)
  have s5 := rdl3_step L hL hb i (2 * (2 * (2 * (2 * (2 * 0 + L.getD i 0) + L.getD (i + 1) 0) + L.getD (i + 2) 0) + L.getD (i + 3) 0) + L.getD (i + 4) 0) (i + 5) (by omega) (by omega) (by omega) (by omega)
  have s6 := rdl3_step L hL hb i (2 * (2 * (2 * (2 * (2 * (2 * 0 + L.getD i 0) + L.getD (i + 1) 0) + L.getD (i + 2) 0) + L.getD (i + 3) 0) + L.getD (i + 4) 0) + L.getD (i + 5) 0) (i + 6) (by omega) (by omega) (by omega) (by omega)
  have s7 := rdl3_step L hL hb i (2 * (2 * (2 * (2 * (2 * (2 * (2 * 0 + L.getD i 0) + L.getD (i + 1) 0) + L.getD (i + 2) 0) + L.getD (i + 3) 0) + L.getD (i + 4) 0) + L.getD (i + 5) 0) + L.getD (i + 6) 0) (i + 7) (by omega) (by omega) (by omega) (by omega)
  refine s0.trans (s1.trans (s2.trans (s3.trans (s4.trans (s5.trans (s6.trans (s7.trans ?_)))))))
  have e8 : wr .i64 ((i : Int) + 8) = ((i + 8 : Nat) : Int) := by rw [wr_i64 (by omega) (by omega)]; omega
  have c1 : decide (((i + 7 + 1 : Nat) : Int) < ((i + 8 : Nat) : Int)) = false := decide_eq_false (by omega)
  rw [crawlwayref04_Decode.l3.eq_def, e8]
  simp only [c1, Bool.false_eq_true, ↓reduceIte]
  congr 2
  unfold c8; omega
/-- The bytes from bit 8t on. -/
def chs (L : List Nat) : Nat → Nat → List UInt8
  | 0, _ => []
  | f + 1, t => if 8 * t + 8 ≤ L.length then UInt8.ofNat (c8 L (8 * t)) :: chs L f (t + 1) else []
theorem rdl2_eq (L : List Nat) (hL : L.length < 60000) (hb : ∀ b ∈ L, b < 2) (f : Nat) : ∀ (t : Nat) (o : List UInt8), L.length ≤ 8 * (t + f) + 7 → 8 * t ≤ L.length + 8 → o.length = t →
    crawlwayref04_Decode.l2 (bi L) (ob o) ((8 * t : Nat) : Int) = some (ob (o ++ chs L f t)) := by
  have e8 : ∀ t : Nat, 8 * t ≤ L.length + 8 → wr .i64 (((8 * t : Nat) : Int) + 8) = ((8 * t + 8 : Nat) : Int) := fun t ht => by rw [wr_i64 (by omega) (by omega)]; omega
  induction f with
  | zero =>
    intro t o h1 h3 h2
    have c1 : decide (((8 * t + 8 : Nat) : Int) ≤ ((bi L).length : Int)) = false := decide_eq_false (by rw [bi_length]; omega)
    rw [crawlwayref04_Decode.l2.eq_def, e8 t h3]
    simp only [c1, Bool.false_eq_true, ↓reduceIte, chs, List.append_nil]
  | succ f ih =>
    intro t o h1 h3 h2
    rw [crawlwayref04_Decode.l2.eq_def, e8 t h3]
    by_cases h : 8 * t + 8 ≤ L.length
    · have c1 : decide (((8 * t + 8 : Nat) : Int) ≤ ((bi L).length : Int)) = true := decide_eq_true (by rw [bi_length]; omega)
      have hob : ob o ++ [wr .u8 ((c8 L (8 * t) : Nat) : Int)] = ob (o ++ [UInt8.ofNat (c8 L (8 * t))]) := by
        rw [ob_append, wr_u8_mod]; congr 1
      simp only [c1, ↓reduceIte, rdl3_eq L (by omega) hb (8 * t) h, bindM_some, hob, ob_length]
      rw [if_pos (by omega), show 8 * t + 8 = 8 * (t + 1) by omega, ih (t + 1) _ (by omega) (by omega) (by simp; omega), chs, if_pos h]
      simp
    · have c1 : decide (((8 * t + 8 : Nat) : Int) ≤ ((bi L).length : Int)) = false := decide_eq_false (by rw [bi_length]; omega)
      simp only [c1, Bool.false_eq_true, ↓reduceIte, chs, if_neg h, List.append_nil]
/-- All bits are 0. -/
def nul (L : List Nat) : Bool := L.all (· == 0)
theorem rdl4_eq (L : List Nat) (hL : L.length < 60000) (f : Nat) : ∀ i : Nat, L.length ≤ i + f → i ≤ 100000 →
    crawlwayref04_Decode.l4 (bi L) i = some (if nul (L.drop i) then .nx () else .ret ([], 10)) := by
  induction f with
  | zero =>
    intro i hi h2
    have c1 : decide ((i : Int) < ((bi L).length : Int)) = false := decide_eq_false (by rw [bi_length]; omega)
    rw [crawlwayref04_Decode.l4.eq_def, List.drop_eq_nil_of_le (by omega)]
    simp only [c1, Bool.false_eq_true, ↓reduceIte, nul, List.all_nil]
  | succ f ih =>
    intro i hi h2
    rw [crawlwayref04_Decode.l4.eq_def]
    by_cases h : i < L.length
    · have c1 : decide ((i : Int) < ((bi L).length : Int)) = true := decide_eq_true (by rw [bi_length]; omega)
      obtain ⟨b, hb, hd⟩ := drop_get L i h
      have e0 : wr .i64 ((i : Int) + 1) = ((i + 1 : Nat) : Int) := by rw [wr_i64 (by omega) (by omega)]; omega
      have hg : L.getD i 0 = b := by rw [List.getD_eq_getElem?_getD, hb]; rfl
      rw [if_pos c1, if_pos (by rw [bi_length]; omega), lget_bi L i h, hg, e0, ih (i + 1) (by omega) (by omega), hd]
      by_cases hb0 : b = 0
      · subst hb0; simp [nul]
      · have c2 : ((b : Int) != 0) = true := by simp; omega
        simp [c2, nul, hb0]
    · have c1 : decide ((i : Int) < ((bi L).length : Int)) = false := decide_eq_false (by rw [bi_length]; omega)
      rw [List.drop_eq_nil_of_le (by omega)]
      simp only [c1, Bool.false_eq_true, ↓reduceIte, nul, List.all_nil]

/-! ### by fours -/
theorem c8_app (A L : List Nat) (i : Nat) : c8 (A ++ L) (A.length + i) = c8 L i := by
  have : ∀ k, (A ++ L).getD (A.length + k) 0 = L.getD k 0 := fun k => by rw [List.getD_eq_getElem?_getD, List.getElem?_append_right (Nat.le_add_right _ _), Nat.add_sub_cancel_left, List.getD_eq_getElem?_getD]
  unfold c8
  simp only [Nat.add_assoc, this]
theorem chs_app (A L : List Nat) (hA : A.length = 24) (f : Nat) : ∀ t, chs (A ++ L) f (3 + t) = chs L f t := by
  induction f with
  | zero => intro t; rfl
  | succ f ih =>
    intro t
    rw [chs, chs, List.length_append, hA, show 3 + t + 1 = 3 + (t + 1) by omega, ih]
    have : c8 (A ++ L) (8 * (3 + t)) = c8 L (8 * t) := by
      rw [show 8 * (3 + t) = A.length + 8 * t by omega]; exact c8_app A L _
    rw [this]
    by_cases h : 8 * t + 8 ≤ L.length
    · rw [if_pos h, if_pos (by omega)]
    · rw [if_neg h, if_neg (by omega)]
theorem vb_lt (v : Nat) : ∀ b ∈ vb v, b < 2 := by
  intro b hb
  simp only [vb, List.mem_cons, List.not_mem_nil, or_false] at hb
  omega
theorem flat_lt (vs : List Nat) : ∀ b ∈ vs.flatMap vb, b < 2 := by
  intro b hb
  obtain ⟨v, _, hv⟩ := List.mem_flatMap.1 hb
  exact vb_lt v b hv
theorem flat_length (vs : List Nat) : (vs.flatMap vb).length = 6 * vs.length := by
  induction vs with
  | nil => rfl
  | cons v vs ih => rw [List.flatMap_cons, List.length_append, ih]; simp [vb]; omega
theorem getD_app (A L : List Nat) (i : Nat) (h : i < A.length) : (A ++ L).getD i 0 = A.getD i 0 := by
  simp [List.getD_eq_getElem?_getD, List.getElem?_append_left h]
theorem chs_length (L : List Nat) (f : Nat) : ∀ t, L.length < 8 * (t + f) + 8 → 8 * t ≤ L.length → (chs L f t).length = L.length / 8 - t := by
  induction f with
  | zero => intro t h1 h2; simp [chs]; omega
  | succ f ih =>
    intro t h1 h2
    rw [chs]
    split
    · rw [List.length_cons, ih (t + 1) (by omega) (by omega)]; omega
    · simp; omega
theorem n1 (a b : Nat) (ha : a < 64) (hb : b < 64) : 128 * (a / 32 % 2) + 64 * (a / 16 % 2) + 32 * (a / 8 % 2) + 16 * (a / 4 % 2) + 8 * (a / 2 % 2) + 4 * (a % 2) + 2 * (b / 32 % 2) + b / 16 % 2 = a * 4 + b / 16 := by omega
theorem n2 (b c : Nat) (hb : b < 64) (hc : c < 64) : 128 * (b / 8 % 2) + 64 * (b / 4 % 2) + 32 * (b / 2 % 2) + 16 * (b % 2) + 8 * (c / 32 % 2) + 4 * (c / 16 % 2) + 2 * (c / 8 % 2) + c / 4 % 2 = b % 16 * 16 + c / 4 := by omega
theorem n3 (c d : Nat) (hc : c < 64) (hd : d < 64) : 128 * (c / 2 % 2) + 64 * (c % 2) + 32 * (d / 32 % 2) + 16 * (d / 16 % 2) + 8 * (d / 8 % 2) + 4 * (d / 4 % 2) + 2 * (d / 2 % 2) + d % 2 = c % 4 * 64 + d := by omega
theorem gY2 (a b : Nat) : gY [a, b] = (a * 64 + b) * 4096 := by
  unfold gY cat
  simp only [List.foldl_cons, List.foldl_nil, List.length_cons, List.length_nil, Nat.reduceAdd, Nat.reduceMul, Nat.reduceSub, Nat.reducePow, Nat.mul_zero, Nat.zero_add]
  omega
theorem gY3 (a b c : Nat) : gY [a, b, c] = ((a * 64 + b) * 64 + c) * 64 := by
  unfold gY cat
  simp only [List.foldl_cons, List.foldl_nil, List.length_cons, List.length_nil, Nat.reduceAdd, Nat.reduceMul, Nat.reduceSub, Nat.reducePow, Nat.mul_zero, Nat.zero_add]
  omega
theorem gY4 (a b c d : Nat) : gY [a, b, c, d] = ((a * 64 + b) * 64 + c) * 64 + d := by
  unfold gY cat
  simp only [List.foldl_cons, List.foldl_nil, List.length_cons, List.length_nil, Nat.reduceAdd, Nat.reduceMul, Nat.reduceSub, Nat.reducePow, Nat.mul_zero, Nat.zero_add]
  omega
theorem zf4 (vs : List Nat) (h : vs.length = 4) : zf vs = true := by
  unfold zf
  rw [h]
  exact decide_eq_true (Nat.mul_mod_left _ _)
theorem drop24 (A L : List Nat) (hA : A.length = 24) (m : Nat) : (A ++ L).drop (8 * (6 * (m + 4) / 8)) = L.drop (8 * (6 * m / 8)) := by
  rw [List.drop_append, List.drop_eq_nil_of_le (by omega), List.nil_append]
  congr 1; omega
set_option maxHeartbeats 1000000 in
/-- The bytes and the rest of bits come to what the program finds. -/
theorem dv_ref : ∀ (vs : List Nat), (∀ v ∈ vs, v < 64) → ∀ f, 6 * vs.length < 8 * f + 8 → chs (vs.flatMap vb) f 0 = (dv vs).1 ∧ nul ((vs.flatMap vb).drop (8 * (6 * vs.length / 8))) = (dv vs).2
  | [], _, f, _ => by rw [dv]; cases f <;> simp [chs, nul]
  | [a], h, f, hf => by
    have ha := h a (by simp)
    rw [dv, dv]
    have h1 : chs ([a].flatMap vb) f 0 = [] := by
      cases f with
      | zero => rfl
      | succ f => rw [chs, if_neg (by simp [vb])]
    refine ⟨by rw [h1]; simp [bys], ?_⟩
    have hz : zf [a] = decide (a = 0) := by
      unfold zf gY cat
      simp only [List.foldl_cons, List.foldl_nil, List.length_singleton, Nat.reduceMul, Nat.reduceSub, Nat.reducePow, Nat.mul_zero, Nat.zero_add]
      rw [decide_eq_decide]; omega
    simp only [List.flatMap_cons, List.flatMap_nil, List.append_nil, vb, List.length_singleton, Nat.reduceMul, Nat.reduceDiv, List.drop_zero, List.take_succ_cons, List.take_nil, List.drop_succ_cons, List.drop_nil, dif_pos, Bool.and_true, hz, nul, List.all_cons, List.all_nil, dif_neg (show ¬ [a] = [] by simp)]
    rw [Bool.eq_iff_iff]; simp only [Bool.and_eq_true, beq_iff_eq, decide_eq_true_eq]; omega
  | [a, b], h, f, hf => by
    have ha := h a (by simp)
    have hb := h b (by simp)
    obtain ⟨f, rfl⟩ : ∃ k, f = k + 1 := ⟨f - 1, by simp at hf; omega⟩
    rw [dv, dv]
    have h1 : chs ([a, b].flatMap vb) (f + 1) 0 = [UInt8.ofNat (c8 ([a, b].flatMap vb) 0)] := by
      rw [chs, if_pos (by simp [vb])]
      cases f with
      | zero => rfl
      | succ f => rw [chs, if_neg (by simp [vb])]
    have h2 : c8 ([a, b].flatMap vb) 0 = gY [a, b] / 2 ^ 16 := by
      unfold c8
      simp only [List.flatMap_cons, List.flatMap_nil, List.append_nil, vb, List.cons_append, List.nil_append, List.getD_cons_zero, List.getD_cons_succ, Nat.zero_add, Nat.reduceAdd]
      rw [gY2, n1 a b ha hb]
      omega
    have hz : zf [a, b] = decide (b % 16 = 0) := by
      unfold zf gY cat
      simp only [List.foldl_cons, List.foldl_nil, List.length_cons, List.length_nil, Nat.reduceAdd, Nat.reduceMul, Nat.reduceSub, Nat.reducePow, Nat.mul_zero, Nat.zero_add]
      rw [decide_eq_decide]; omega
    refine ⟨by rw [h1, h2]; simp [bys], ?_⟩
    simp only [List.flatMap_cons, List.flatMap_nil, List.append_nil, vb, List.cons_append, List.nil_append, List.length_cons, List.length_nil, Nat.reduceAdd, Nat.reduceMul, Nat.reduceDiv, List.take_succ_cons, List.take_nil, List.drop_succ_cons, List.drop_nil, List.drop_zero, dif_pos, Bool.and_true, hz, nul, List.all_cons, List.all_nil, dif_neg (show ¬ [a, b] = [] by simp)]
    rw [Bool.eq_iff_iff]; simp only [Bool.and_eq_true, beq_iff_eq, decide_eq_true_eq]; omega
  | [a, b, c], h, f, hf => by
    have ha := h a (by simp)
    have hb := h b (by simp)
    have hc := h c (by simp)
    obtain ⟨f, rfl⟩ : ∃ k, f = k + 2 := ⟨f - 2, by simp at hf; omega⟩
    rw [dv, dv]
    have h1 : chs ([a, b, c].flatMap vb) (f + 2) 0 = [UInt8.ofNat (c8 ([a, b, c].flatMap vb) 0), UInt8.ofNat (c8 ([a, b, c].flatMap vb) 8)] := by
      rw [chs, if_pos (by simp [vb]), chs, if_pos (by simp [vb])]
      cases f with
      | zero => rfl
      | succ f => rw [chs, if_neg (by simp [vb])]
    have h2 : c8 ([a, b, c].flatMap vb) 0 = gY [a, b, c] / 2 ^ 16 := by
      unfold c8
      simp only [List.flatMap_cons, List.flatMap_nil, List.append_nil, vb, List.cons_append, List.nil_append, List.getD_cons_zero, List.getD_cons_succ, Nat.zero_add, Nat.reduceAdd]
      rw [gY3, n1 a b ha hb]
      omega
    have h3 : c8 ([a, b, c].flatMap vb) 8 = gY [a, b, c] / 2 ^ 8 % 256 := by
      unfold c8
      simp only [List.flatMap_cons, List.flatMap_nil, List.append_nil, vb, List.cons_append, List.nil_append, List.getD_cons_zero, List.getD_cons_succ, Nat.zero_add, Nat.reduceAdd]
      rw [gY3, n2 b c hb hc]
      omega
    have h4 : UInt8.ofNat (gY [a, b, c] / 2 ^ 8 % 256) = UInt8.ofNat (gY [a, b, c] / 2 ^ 8) := by
      apply UInt8.toNat_inj.1; simp
    have hz : zf [a, b, c] = decide (c % 4 = 0) := by
      unfold zf gY cat
      simp only [List.foldl_cons, List.foldl_nil, List.length_cons, List.length_nil, Nat.reduceAdd, Nat.reduceMul, Nat.reduceSub, Nat.reducePow, Nat.mul_zero, Nat.zero_add]
      rw [decide_eq_decide]; omega
    refine ⟨by rw [h1, h2, h3, h4]; simp [bys], ?_⟩
    simp only [List.flatMap_cons, List.flatMap_nil, List.append_nil, vb, List.cons_append, List.nil_append, List.length_cons, List.length_nil, Nat.reduceAdd, Nat.reduceMul, Nat.reduceDiv, List.take_succ_cons, List.take_nil, List.drop_succ_cons, List.drop_nil, List.drop_zero, dif_pos, Bool.and_true, hz, nul, List.all_cons, List.all_nil, dif_neg (show ¬ [a, b, c] = [] by simp)]
    rw [Bool.eq_iff_iff]; simp only [Bool.and_eq_true, beq_iff_eq, decide_eq_true_eq]; omega
  | a :: b :: c :: d :: vs, h, f, hf => by
    have ha := h a (by simp)
    have hb := h b (by simp)
    have hc := h c (by simp)
    have hd := h d (by simp)
    obtain ⟨f, rfl⟩ : ∃ k, f = k + 3 := ⟨f - 3, by simp at hf; omega⟩
    have ih := dv_ref vs (fun v hv => h v (by simp [hv])) f (by simp at hf; omega)
    have hfl : (a :: b :: c :: d :: vs).flatMap vb = ([a, b, c, d].flatMap vb) ++ vs.flatMap vb := by simp
    have hA : ([a, b, c, d].flatMap vb).length = 24 := by rw [flat_length]; rfl
    rw [dv, hfl]
    have h1 : chs (([a, b, c, d].flatMap vb) ++ vs.flatMap vb) (f + 3) 0 = UInt8.ofNat (c8 ([a, b, c, d].flatMap vb) 0) :: UInt8.ofNat (c8 ([a, b, c, d].flatMap vb) 8) :: UInt8.ofNat (c8 ([a, b, c, d].flatMap vb) 16) :: chs (vs.flatMap vb) f 0 := by
      have hc8 : ∀ i, i + 8 ≤ 24 → c8 (([a, b, c, d].flatMap vb) ++ vs.flatMap vb) i = c8 ([a, b, c, d].flatMap vb) i := fun i hi => by
        have hg : ∀ j, j < 24 → (([a, b, c, d].flatMap vb) ++ vs.flatMap vb).getD j 0 = ([a, b, c, d].flatMap vb).getD j 0 := fun j hj => getD_app _ _ _ (by rw [hA]; exact hj)
        unfold c8; rw [hg i (by omega), hg (i + 1) (by omega), hg (i + 2) (by omega), hg (i + 3) (by omega), hg (i + 4) (by omega), hg (i + 5) (by omega), hg (i + 6) (by omega), hg (i + 7) (by omega)]
      have ht := chs_app ([a, b, c, d].flatMap vb) (vs.flatMap vb) hA f 0
      rw [chs, if_pos (by rw [List.length_append, hA]; omega), chs, if_pos (by rw [List.length_append, hA]; omega), chs, if_pos (by rw [List.length_append, hA]; omega)]
      simp only [Nat.mul_zero, Nat.zero_add, Nat.mul_one, Nat.reduceAdd, Nat.reduceMul, Nat.add_zero] at ht ⊢
      rw [ht, hc8 0 (by omega), hc8 8 (by omega), hc8 16 (by omega)]
    have h2 : c8 ([a, b, c, d].flatMap vb) 0 = gY [a, b, c, d] / 2 ^ 16 := by
      unfold c8
      simp only [List.flatMap_cons, List.flatMap_nil, List.append_nil, vb, List.cons_append, List.nil_append, List.getD_cons_zero, List.getD_cons_succ, Nat.zero_add, Nat.reduceAdd]
      rw [gY4, n1 a b ha hb]
      omega
    have h3 : c8 ([a, b, c, d].flatMap vb) 8 = gY [a, b, c, d] / 2 ^ 8 % 256 := by
      unfold c8
      simp only [List.flatMap_cons, List.flatMap_nil, List.append_nil, vb, List.cons_append, List.nil_append, List.getD_cons_zero, List.getD_cons_succ, Nat.zero_add, Nat.reduceAdd]
      rw [gY4, n2 b c hb hc]
      omega
    have h4 : c8 ([a, b, c, d].flatMap vb) 16 = gY [a, b, c, d] % 256 := by
      unfold c8
      simp only [List.flatMap_cons, List.flatMap_nil, List.append_nil, vb, List.cons_append, List.nil_append, List.getD_cons_zero, List.getD_cons_succ, Nat.zero_add, Nat.reduceAdd]
      rw [gY4, n3 c d hc hd]
      omega
    have h5 : UInt8.ofNat (gY [a, b, c, d] / 2 ^ 8 % 256) = UInt8.ofNat (gY [a, b, c, d] / 2 ^ 8) := by
      apply UInt8.toNat_inj.1; simp
    have h6 : UInt8.ofNat (gY [a, b, c, d] % 256) = UInt8.ofNat (gY [a, b, c, d]) := by
      apply UInt8.toNat_inj.1; simp
    have hz : zf [a, b, c, d] = true := zf4 _ rfl
    have hm : min (vs.length + 1 + 1 + 1 + 1) 4 - 1 = 3 := by omega
    have hdr := drop24 ([a, b, c, d].flatMap vb) (vs.flatMap vb) hA vs.length
    generalize [a, b, c, d].flatMap vb = A at *
    simp only [dif_neg (show ¬ a :: b :: c :: d :: vs = [] by simp), List.take_succ_cons, List.take_zero, List.drop_succ_cons, List.drop_zero, hz, Bool.true_and, List.length_cons, hm]
    refine ⟨by rw [h1, h2, h3, h4, h5, h6, ih.1]; simp [bys], ?_⟩
    rw [show vs.length + 1 + 1 + 1 + 1 = vs.length + 4 from rfl, hdr]
    exact ih.2
theorem trim61 (l : List UInt8) : Lib.trimSuffix l [61] = if l.getLast? = some 61 then l.take (l.length - 1) else l := by
  unfold Lib.trimSuffix
  rw [← Lib.hasSuffix_of_drop l [61]]
  rcases List.eq_nil_or_concat l with rfl | ⟨k, x, rfl⟩
  · rfl
  · have hd : (k ++ [x]).drop ((k ++ [x]).length - 1) = [x] := by
      rw [List.length_append, List.length_singleton, Nat.add_sub_cancel]
      simp
    simp only [List.length_singleton, hd]
    by_cases hx : x = 61
    · subst hx; simp
    · simp [hx]
end Go.Proofs.Ytdhkcjddjmgciaa.Six
