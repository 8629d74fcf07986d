/- Sizes as people read them (chapter 56, Size): both functions come to one text. -/
import Derived.Test.YtnojjenpggdadaaDoorDecP
import Derived.Test.YtnojjenpggdadaaDoorG2
namespace Go.Proofs.YtnojjenpggdadaaDoor
open E

theorem wr_nat64 {m : Nat} (h : m < 18446744073709551616) : wr .u64 (m : Int) = (m : Int) := wr_u64 (by omega) (by omega)
/-- Which unit: how often 1024 goes in, at most five times more. -/
def unitK (n : Nat) : Nat → Nat → Nat
  | 0, j => j
  | f + 1, j => if 0 < n / 2 ^ (10 * (j + 2)) then unitK n f (j + 1) else j
theorem unitK_le (n : Nat) : ∀ (f j : Nat), unitK n f j ≤ j + f
  | 0, j => Nat.le_refl _
  | f + 1, j => by
    unfold unitK
    split
    · have := unitK_le n f (j + 1); omega
    · omega
theorem pow_le60 (j : Nat) (h : j ≤ 5) : 2 ^ (10 * (j + 1)) ≤ 1152921504606846976 := by
  have : 2 ^ (10 * (j + 1)) ≤ 2 ^ 60 := Nat.pow_le_pow_right (by omega) (by omega)
  simpa using this
theorem pow_pos' (j : Nat) : 0 < 2 ^ (10 * (j + 1)) := Nat.pow_pos (by omega)
theorem sh_eq (j : Nat) (h : j ≤ 5) (m : Nat) (hm : m ≤ 2) : wr .u64 (wr .i64 (10 * (wr .i64 ((j : Int) + (m : Int))))) = ((10 * (j + m) : Nat) : Int) := by
  have e1 : wr .i64 ((j : Int) + (m : Int)) = ((j + m : Nat) : Int) := by rw [wr_i64 (by omega) (by omega)]; omega
  have e2 : wr .i64 (10 * ((j + m : Nat) : Int)) = ((10 * (j + m) : Nat) : Int) := by rw [wr_i64 (by omega) (by omega)]; omega
  rw [e1, e2, wr_u64 (by omega) (by omega)]
theorem show_l0 (n : Nat) (hn : n < 18446744073709551616) : ∀ (f j : Nat), j + f = 5 → show_Size.l0 (n : Int) (j : Int) = some ((unitK n f j : Nat) : Int) := by
  intro f
  induction f with
  | zero =>
    intro j hj
    have hz : decide ((j : Int) < 5) = false := decide_eq_false (by omega)
    rw [show_Size.l0.eq_def, hz]; rfl
  | succ f ih =>
    intro j hj
    have hz : decide ((j : Int) < 5) = true := decide_eq_true (by omega)
    have hs := sh_eq j (by omega) 2 (by omega)
    rw [show ((2 : Nat) : Int) = 2 from rfl] at hs
    have hsr : ishr .u64 (n : Int) ((10 * (j + 2) : Nat) : Int) = ((n / 2 ^ (10 * (j + 2)) : Nat) : Int) := ishr_nat .u64 n _ (by show 10 * (j + 2) ≤ 64; omega)
    have hg : (0 : Int) ≤ ((10 * (j + 2) : Nat) : Int) := by omega
    rw [show_Size.l0.eq_def, hz, hs, hsr, if_pos rfl, if_pos hg]
    unfold unitK
    by_cases h : 0 < n / 2 ^ (10 * (j + 2))
    · have h' : decide (((n / 2 ^ (10 * (j + 2)) : Nat) : Int) > 0) = true := decide_eq_true (by omega)
      rw [h', if_pos rfl, if_pos h, wr_i64 (by omega) (by omega), show ((j : Int) + 1) = ((j + 1 : Nat) : Int) by omega]
      exact ih (j + 1) (by omega)
    · have h' : decide (((n / 2 ^ (10 * (j + 2)) : Nat) : Int) > 0) = false := decide_eq_false (by omega)
      rw [h', if_neg Bool.false_ne_true, if_neg h]
theorem ref_l0 (n : Nat) (hn : n < 18446744073709551616) : ∀ (f j : Nat), j + f = 5 →
    crawlwayref56_Size.l0 (n : Int) ((2 ^ (10 * (j + 1)) : Nat) : Int) (j : Int) = some (((2 ^ (10 * (unitK n f j + 1)) : Nat) : Int), ((unitK n f j : Nat) : Int)) := by
  intro f
  induction f with
  | zero =>
    intro j hj
    have hz : decide ((j : Int) < 5) = false := decide_eq_false (by omega)
    rw [crawlwayref56_Size.l0.eq_def, hz]; rfl
  | succ f ih =>
    intro j hj
    have hp := pow_pos' j
    have hle := pow_le60 j (by omega)
    have hz : decide ((j : Int) < 5) = true := decide_eq_true (by omega)
    have hne : ((2 ^ (10 * (j + 1)) : Nat) : Int) ≠ 0 := by omega
    have hq : Int.tdiv (n : Int) ((2 ^ (10 * (j + 1)) : Nat) : Int) = ((n / 2 ^ (10 * (j + 1)) : Nat) : Int) := by rw [Int.tdiv_eq_ediv_of_nonneg (by omega)]; exact (Int.natCast_ediv ..).symm
    have hqle : n / 2 ^ (10 * (j + 1)) ≤ n := Nat.div_le_self _ _
    have hmul : 2 ^ (10 * (j + 1)) * 1024 = 2 ^ (10 * (j + 2)) := by
      rw [show 10 * (j + 2) = 10 * (j + 1) + 10 by omega, Nat.pow_add]
    have hiff : n / 2 ^ (10 * (j + 1)) ≥ 1024 ↔ 0 < n / 2 ^ (10 * (j + 2)) := by
      rw [← hmul, ← Nat.div_div_eq_div_mul]
      omega
    have hle2 := pow_le60 (j + 1) (by omega)
    rw [crawlwayref56_Size.l0.eq_def, hz, if_pos rfl, if_pos hne, hq, wr_nat64 (by omega)]
    unfold unitK
    by_cases h : 0 < n / 2 ^ (10 * (j + 2))
    · have hh := hiff.2 h
      have h' : decide (((n / 2 ^ (10 * (j + 1)) : Nat) : Int) ≥ 1024) = true := decide_eq_true (by omega)
      have e1 : ((2 ^ (10 * (j + 1)) : Nat) : Int) * 1024 = ((2 ^ (10 * (j + 1 + 1)) : Nat) : Int) := by
        rw [show 10 * (j + 1 + 1) = 10 * (j + 2) by omega, ← hmul]; omega
      rw [h', if_pos rfl, if_pos h, e1, wr_u64 (by omega) (by omega), wr_i64 (by omega) (by omega), show ((j : Int) + 1) = ((j + 1 : Nat) : Int) by omega]
      exact ih (j + 1) (by omega)
    · have hh : ¬ n / 2 ^ (10 * (j + 1)) ≥ 1024 := fun e => h (hiff.1 e)
      have h' : decide (((n / 2 ^ (10 * (j + 1)) : Nat) : Int) ≥ 1024) = false := decide_eq_false (by omega)
      rw [h', if_neg Bool.false_ne_true, if_neg h]
/-- The text. -/
def unitT (k : Nat) : ByteArray := vget gval_show_units (k : Int)
def bigT (n k : Nat) : ByteArray :=
  let u := 2 ^ (10 * (k + 1))
  let r := n % u * 10
  (((((fmtU ((n / u : Nat) : Int)) ++ ⟨#[46]⟩) ++ fmtU ((r / u : Nat) : Int)) ++ fmtU ((r % u * 10 / u : Nat) : Int)) ++ ⟨#[32]⟩) ++ unitT k
theorem unitT_ref (k : Nat) (h : k ≤ 5) : lget ([⟨#[75, 105, 66]⟩, ⟨#[77, 105, 66]⟩, ⟨#[71, 105, 66]⟩, ⟨#[84, 105, 66]⟩, ⟨#[80, 105, 66]⟩, ⟨#[69, 105, 66]⟩] : List ByteArray) (k : Int) = unitT k := by
  have : k = 0 ∨ k = 1 ∨ k = 2 ∨ k = 3 ∨ k = 4 ∨ k = 5 := by omega
  rcases this with rfl | rfl | rfl | rfl | rfl | rfl <;> rfl
theorem unitT_size (k : Nat) (h : k ≤ 5) : (unitT k).size = 3 := by
  have : k = 0 ∨ k = 1 ∨ k = 2 ∨ k = 3 ∨ k = 4 ∨ k = 5 := by omega
  rcases this with rfl | rfl | rfl | rfl | rfl | rfl <;> rfl
theorem size_app (a b : ByteArray) : (a ++ b).size = a.size + b.size := by
  rw [← size_toList, append_list, List.length_append, size_toList, size_toList]
theorem app_assoc (a b c : ByteArray) : (a ++ b) ++ c = a ++ (b ++ c) := by
  apply mk_inj; rw [append_list, append_list, append_list, append_list, List.append_assoc]
theorem empty_app (a : ByteArray) : (⟨#[]⟩ : ByteArray) ++ a = a := by
  apply mk_inj; rw [append_list]; rfl
theorem show_size (n : Nat) (hn : n < 18446744073709551616) : show_Size (n : Int) = some (if n < 1024 then fmtU (n : Int) ++ ⟨#[32, 66]⟩ else bigT n (unitK n 5 0)) := by
  unfold show_Size
  by_cases h : n < 1024
  · have h1 : decide ((n : Int) < 1024) = true := decide_eq_true (by omega)
    have := fmtU_size n hn
    have h2 : (fmtU (n : Int)).size + (⟨#[32, 66]⟩ : ByteArray).size ≤ 140737488355328 := by
      show (fmtU (n : Int)).size + 2 ≤ _; omega
    rw [h1, if_pos rfl, text_code n hn, bindM_some, if_pos h2, if_pos h]
  · have h1 : decide ((n : Int) < 1024) = false := decide_eq_false (by omega)
    have hl0 := show_l0 n hn 5 0 rfl
    rw [show ((0 : Nat) : Int) = 0 from rfl] at hl0
    rw [h1, if_neg Bool.false_ne_true, hl0, bindM_some, if_neg h]
    have hk := unitK_le n 5 0
    generalize hkk : unitK n 5 0 = k at hk ⊢
    have hk5 : k ≤ 5 := by omega
    have hs := sh_eq k hk5 1 (by omega)
    rw [show ((1 : Nat) : Int) = 1 from rfl] at hs
    have hg : (0 : Int) ≤ ((10 * (k + 1) : Nat) : Int) := by omega
    have hb : 10 * (k + 1) ≤ IntKind.u64.bits := by show 10 * (k + 1) ≤ 64; omega
    have hp := pow_pos' k
    have hle := pow_le60 k hk5
    generalize hu : 2 ^ (10 * (k + 1)) = u at hp hle
    have hshl : wr .u64 ((ishl .u64 1 ((10 * (k + 1) : Nat) : Int)) - 1) = ((2 ^ (10 * (k + 1)) - 1 : Nat) : Int) := by
      have := ishl_nat .u64 rfl 1 (10 * (k + 1)) hb
      rw [show ((1 : Nat) : Int) = 1 from rfl] at this
      rw [this, Nat.one_mul, hu, show (2 : Nat) ^ IntKind.u64.bits = 18446744073709551616 from rfl, Nat.mod_eq_of_lt (by omega), wr_u64 (by omega) (by omega)]
      omega
    have hand : ∀ m : Nat, m < 18446744073709551616 → iand .u64 (m : Int) ((2 ^ (10 * (k + 1)) - 1 : Nat) : Int) = ((m % u : Nat) : Int) := fun m hm => by
      rw [iand_nat .u64 rfl m _ hm (by show 2 ^ (10 * (k + 1)) - 1 < 18446744073709551616; rw [hu]; omega), Nat.and_two_pow_sub_one_eq_mod, hu]
    have hsr : ∀ m : Nat, ishr .u64 (m : Int) ((10 * (k + 1) : Nat) : Int) = ((m / u : Nat) : Int) := fun m => by rw [ishr_nat .u64 m _ hb, hu]
    rw [hs, if_pos hg, if_pos hg, hshl, hand n hn]
    have hr1 : n % u < u := Nat.mod_lt _ hp
    have e10 : ∀ m : Nat, m < u → wr .u64 ((m : Int) * 10) = ((m * 10 : Nat) : Int) := fun m hm => by rw [wr_u64 (by omega) (by omega)]; omega
    have hd1 : n % u * 10 / u < 18446744073709551616 := Nat.lt_of_le_of_lt (Nat.div_le_self _ _) (by omega)
    have hr2 : n % u * 10 % u < u := Nat.mod_lt _ hp
    have hd2 : n % u * 10 % u * 10 / u < 18446744073709551616 := Nat.lt_of_le_of_lt (Nat.div_le_self _ _) (by omega)
    have hl1 : show_Size.l1 (k : Int) ((n % u : Nat) : Int) (⟨#[]⟩) 0 = some (fmtU ((n % u * 10 / u : Nat) : Int) ++ fmtU ((n % u * 10 % u * 10 / u : Nat) : Int)) := by
      have s1 := fmtU_size _ hd1
      have s2 := fmtU_size _ hd2
      have g1 : (⟨#[]⟩ : ByteArray).size + (fmtU ((n % u * 10 / u : Nat) : Int)).size ≤ 140737488355328 := by show 0 + _ ≤ _; omega
      have g2 : (fmtU ((n % u * 10 / u : Nat) : Int)).size + (fmtU ((n % u * 10 % u * 10 / u : Nat) : Int)).size ≤ 140737488355328 := by omega
      have w1 : wr .i64 ((0 : Int) + 1) = 1 := by rw [wr_i64 (by omega) (by omega)]; rfl
      have w2 : wr .i64 ((1 : Int) + 1) = 2 := by rw [wr_i64 (by omega) (by omega)]; rfl
      have d0 : decide ((0 : Int) < 2) = true := rfl
      have d1 : decide ((1 : Int) < 2) = true := rfl
      have d2 : decide ((2 : Int) < 2) = false := rfl
      rw [show_Size.l1.eq_def, d0, if_pos rfl, hs, if_pos hg, e10 _ hr1, hsr, text_code _ hd1, bindM_some, if_pos g1, if_pos hg, hshl, hand _ (by omega), w1, empty_app]
      rw [show_Size.l1.eq_def, d1, if_pos rfl, hs, if_pos hg, e10 _ hr2, hsr, text_code _ hd2, bindM_some, if_pos g2, if_pos hg, hshl, hand _ (by omega), w2]
      rw [show_Size.l1.eq_def, d2, if_neg Bool.false_ne_true]
    have hd0 : n / u < 18446744073709551616 := Nat.lt_of_le_of_lt (Nat.div_le_self _ _) hn
    have s0 := fmtU_size _ hd0
    have s1 := fmtU_size _ hd1
    have s2 := fmtU_size _ hd2
    have s3 := unitT_size k hk5
    have s3' : (vget gval_show_units (k : Int)).size = 3 := s3
    have z1 : (⟨#[46]⟩ : ByteArray).size = 1 := rfl
    have z2 : (⟨#[32]⟩ : ByteArray).size = 1 := rfl
    rw [hl1, bindM_some, hsr, text_code _ hd0, bindM_some]
    rw [if_pos (by omega), if_pos (by rw [size_app, size_app]; omega), if_pos (by rw [size_app, size_app, size_app]; omega), if_pos (by omega), if_pos (by rw [size_app, size_app, size_app, size_app]; omega)]
    unfold bigT
    simp only [hu]
    refine congrArg some ?_
    have tri : ∀ (X A B S V : ByteArray), (((X ++ (A ++ B)) ++ S) ++ V) = ((((X ++ A) ++ B) ++ S) ++ V) := fun X A B S V => by rw [app_assoc X A B]
    exact tri _ _ _ _ _
theorem ref_size (n : Nat) (hn : n < 18446744073709551616) : crawlwayref56_Size (n : Int) = some (if n < 1024 then fmtU (n : Int) ++ ⟨#[32, 66]⟩ else bigT n (unitK n 5 0)) := by
  unfold crawlwayref56_Size
  by_cases h : n < 1024
  · have h1 : decide ((n : Int) < 1024) = true := decide_eq_true (by omega)
    have := fmtU_size n hn
    have h2 : (fmtU (n : Int)).size + (⟨#[32, 66]⟩ : ByteArray).size ≤ 140737488355328 := by
      show (fmtU (n : Int)).size + 2 ≤ _; omega
    rw [h1, if_pos rfl, text_ref n hn, bindM_some, if_pos h2, if_pos h]
  · have h1 : decide ((n : Int) < 1024) = false := decide_eq_false (by omega)
    have hl0 := ref_l0 n hn 5 0 rfl
    rw [show ((0 : Nat) : Int) = 0 from rfl, show ((2 ^ (10 * (0 + 1)) : Nat) : Int) = 1024 from rfl] at hl0
    rw [h1, if_neg Bool.false_ne_true, hl0, bindM_some, if_neg h]
    have hk := unitK_le n 5 0
    generalize hkk : unitK n 5 0 = k at hk ⊢
    have hk5 : k ≤ 5 := by omega
    have hp := pow_pos' k
    have hle := pow_le60 k hk5
    unfold bigT
    generalize hu : 2 ^ (10 * (k + 1)) = u at hp hle ⊢
    have hne : (u : Int) ≠ 0 := by omega
    have hq : ∀ m : Nat, m < 18446744073709551616 → wr .u64 (Int.tdiv (m : Int) (u : Int)) = ((m / u : Nat) : Int) := fun m hm => by
      have := Nat.div_le_self m u
      rw [Int.tdiv_eq_ediv_of_nonneg (by omega), ← Int.natCast_ediv, wr_nat64 (by omega)]
    have hr : ∀ m : Nat, Int.tmod (m : Int) (u : Int) = ((m % u : Nat) : Int) := fun m => by
      rw [Int.tmod_eq_emod_of_nonneg (by omega), ← Int.natCast_emod]
    have hr1 : n % u < u := Nat.mod_lt _ hp
    have hr2 : n % u * 10 % u < u := Nat.mod_lt _ hp
    have e10 : ∀ m : Nat, m < u → wr .u64 ((m : Int) * 10) = ((m * 10 : Nat) : Int) := fun m hm => by rw [wr_u64 (by omega) (by omega)]; omega
    have hd0 : n / u < 18446744073709551616 := Nat.lt_of_le_of_lt (Nat.div_le_self _ _) hn
    have hd1 : n % u * 10 / u < 18446744073709551616 := Nat.lt_of_le_of_lt (Nat.div_le_self _ _) (by omega)
    have hd2 : n % u * 10 % u * 10 / u < 18446744073709551616 := Nat.lt_of_le_of_lt (Nat.div_le_self _ _) (by omega)
    have s0 := fmtU_size _ hd0
    have s1 := fmtU_size _ hd1
    have s2 := fmtU_size _ hd2
    have s3 := unitT_size k hk5
    have z1 : (⟨#[46]⟩ : ByteArray).size = 1 := rfl
    have z2 : (⟨#[32]⟩ : ByteArray).size = 1 := rfl
    have hun := unitT_ref k hk5
    rw [if_pos hne, if_pos hne, if_pos hne, if_pos hne, if_pos hne]
    simp only [hr, e10 _ hr1, e10 _ hr2]
    rw [hq n hn, hq _ (by omega), hq _ (by omega), text_ref _ hd0, bindM_some, if_pos (by omega), text_ref _ hd1, bindM_some, if_pos (by rw [size_app]; omega), text_ref _ hd2, bindM_some,
      if_pos (by rw [size_app, size_app]; omega), if_pos (by rw [size_app, size_app, size_app]; omega), if_pos (by show (0 : Int) ≤ (k : Int) ∧ (k : Int) < 6; omega), hun, if_pos (by rw [size_app, size_app, size_app, size_app]; omega)]
theorem fmtU_one (n : Nat) (h : n < 10) : fmtU (n : Int) = ⟨#[UInt8.ofNat (48 + n)]⟩ := by
  apply mk_inj; rw [fmtU_list, decDigits_small h]
theorem alive56 : crawlwaylaw56_alive = some true := by
  unfold crawlwaylaw56_alive
  have h1 := show_size 1536 (by decide)
  have h2 := show_size 18446744073709551615 (by decide)
  have h3 := show_size 7 (by decide)
  have k1 : unitK 1536 5 0 = 0 := by decide +kernel
  have k2 : unitK 18446744073709551615 5 0 = 5 := by decide +kernel
  have a1 : fmtU ((1536 / 2 ^ (10 * (0 + 1)) : Nat) : Int) = ⟨#[49]⟩ := fmtU_one 1 (by decide)
  have a2 : fmtU ((1536 % 2 ^ (10 * (0 + 1)) * 10 / 2 ^ (10 * (0 + 1)) : Nat) : Int) = ⟨#[53]⟩ := fmtU_one 5 (by decide)
  have a3 : fmtU ((1536 % 2 ^ (10 * (0 + 1)) * 10 % 2 ^ (10 * (0 + 1)) * 10 / 2 ^ (10 * (0 + 1)) : Nat) : Int) = ⟨#[48]⟩ := fmtU_one 0 (by decide)
  have b1 : fmtU ((18446744073709551615 / 2 ^ (10 * (5 + 1)) : Nat) : Int) = ⟨#[49, 53]⟩ := by
    show fmtU ((15 : Nat) : Int) = _
    apply mk_inj; rw [fmtU_list, decDigits_big (by decide), decDigits_small (by decide)]; rfl
  have b2 : fmtU ((18446744073709551615 % 2 ^ (10 * (5 + 1)) * 10 / 2 ^ (10 * (5 + 1)) : Nat) : Int) = ⟨#[57]⟩ := fmtU_one 9 (by decide)
  have b3 : fmtU ((18446744073709551615 % 2 ^ (10 * (5 + 1)) * 10 % 2 ^ (10 * (5 + 1)) * 10 / 2 ^ (10 * (5 + 1)) : Nat) : Int) = ⟨#[57]⟩ := fmtU_one 9 (by decide)
  have c1 : fmtU ((7 : Nat) : Int) = ⟨#[55]⟩ := fmtU_one 7 (by decide)
  rw [if_neg (by decide), k1] at h1
  rw [if_neg (by decide), k2] at h2
  rw [if_pos (by decide), c1] at h3
  unfold bigT at h1 h2
  simp only [a1, a2, a3] at h1
  simp only [b1, b2, b3] at h2
  rw [show ((1536 : Nat) : Int) = 1536 from rfl] at h1
  rw [show ((18446744073709551615 : Nat) : Int) = 18446744073709551615 from rfl] at h2
  rw [show ((7 : Nat) : Int) = 7 from rfl] at h3
  rw [h1, bindM_some, if_pos ((seq_iff _ _).2 (by rfl)), h2, bindM_some, if_pos ((seq_iff _ _).2 (by rfl)), h3, bindM_some, (seq_iff _ _).2 (by rfl)]
theorem ShowSizes_pure (a0 : Int) (w0 : (Lit.int .u64 a0).wf = true) : crawlwaylaw56_ShowSizes a0 = some true := by
  obtain ⟨p0, q0⟩ := wf_u64 w0
  obtain ⟨n, rfl⟩ := Int.eq_ofNat_of_zero_le p0
  unfold crawlwaylaw56_ShowSizes
  rw [show_size n (by omega), bindM_some, ref_size n (by omega), bindM_some, if_pos (seq_self _), alive56]; rfl
end Go.Proofs.YtnojjenpggdadaaDoor
