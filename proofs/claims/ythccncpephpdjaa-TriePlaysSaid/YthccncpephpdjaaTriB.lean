/- Addresses and prefixes by their bits: what is common, what is less, who has whom. -/
import Derived.Test.YthccncpephpdjaaCidA
set_option linter.unusedVariables false
set_option linter.unusedSimpArgs false
namespace Go.Proofs.Ythccncpephpdjaa.Adr
open E Go.RowKit Cid

/-! ### masks -/
/-! ### bits -/
theorem bit_code {V i : Int} {l : List UInt8} (hl : l.length = 16) (hi : -9223372036854775808 ≤ i ∧ i < 9223372036854775808) :
    addr_Bit (mkA V l) i = some (if 0 ≤ i ∧ i < (widthL V l : Int) then ((bit l i.toNat : Nat) : Int) else -1) := by
  unfold addr_Bit
  rw [width_code hl, bindM_some]
  have hw := width_le (V := V) (l := l)
  by_cases h0 : i < 0
  · rw [if_pos (decide_eq_true h0), if_neg (by omega)]
  · rw [if_neg (by rw [decide_eq_true_eq]; exact h0)]
    by_cases h1 : i ≥ (widthL V l : Int)
    · rw [if_pos (decide_eq_true h1), if_neg (by omega)]
    · rw [if_neg (by rw [decide_eq_true_eq]; exact h1)]
      obtain ⟨n, rfl⟩ := Int.eq_ofNat_of_zero_le (show 0 ≤ i by omega)
      have hn : n < 128 := by omega
      have e1 : ishr .i64 (n : Int) 3 = ((n / 8 : Nat) : Int) := ishr_nat .i64 n 3 (by decide)
      have e2 : iand .i64 (n : Int) 7 = ((n % 8 : Nat) : Int) := by
        unfold iand
        have h7 : (BitVec.ofInt IntKind.i64.bits (7 : Int)).toNat = 7 := by decide
        have hb : (BitVec.ofInt IntKind.i64.bits (n : Int)).toNat = n := toNat_ofInt 64 n (by omega)
        rw [BitVec.toNat_and, h7, hb, show (7 : Nat) = 2 ^ 3 - 1 from rfl, Nat.and_two_pow_sub_one_eq_mod]
        have := wr_i64 (x := ((n % 2 ^ 3 : Nat) : Int)) (by omega) (by omega)
        exact this
      have e3 : wr .u64 (wr .i64 (7 - ((n % 8 : Nat) : Int))) = ((7 - n % 8 : Nat) : Int) := by rw [wr_i64 (by omega) (by omega), wr_u64 (by omega) (by omega)]; omega
      have hb := bg_lt l (n / 8)
      have h3 : (0 : Int) ≤ (n : Int) ∧ (n : Int) < (widthL V l : Int) := by omega
      rw [e1, e2, e3, if_pos (by omega), if_pos (by omega), if_pos h3]
      refine congrArg some ?_
      show iand .i64 (wr .i64 (ishr .u8 (vget (vb l) ((n / 8 : Nat) : Int)) ((7 - n % 8 : Nat) : Int))) 1 = _
      rw [vget_vb hl _ (by omega), ishr_nat .u8 _ _ (by show 7 - n % 8 ≤ 8; omega)]
      have hdl : bg l (n / 8) / 2 ^ (7 - n % 8) < 256 := Nat.lt_of_le_of_lt (Nat.div_le_self _ _) hb
      generalize hx : bg l (n / 8) / 2 ^ (7 - n % 8) = x at hdl
      rw [wr_i64 (by omega) (by omega)]
      have e4 : iand .i64 (x : Int) 1 = ((x % 2 : Nat) : Int) := by
        unfold iand
        have h1 : (BitVec.ofInt IntKind.i64.bits (1 : Int)).toNat = 1 := by decide
        have hb : (BitVec.ofInt IntKind.i64.bits (x : Int)).toNat = x := toNat_ofInt 64 x (by omega)
        rw [BitVec.toNat_and, h1, hb, Nat.and_one_is_mod]
        have := wr_i64 (x := ((x % 2 : Nat) : Int)) (by omega) (by omega)
        exact this
      rw [e4]
      unfold bit
      rw [Int.toNat_natCast, hx]
/-! ### the document's masks -/
/-! ### the first place where something fails -/
def fd (p : Nat → Bool) : Nat → Nat → Nat
  | 0, i => i
  | f + 1, i => if p i = true then fd p f (i + 1) else i
theorem fd_ge (p : Nat → Bool) : ∀ (f i : Nat), i ≤ fd p f i
  | 0, i => Nat.le_refl _
  | f + 1, i => by
    unfold fd
    split
    · have := fd_ge p f (i + 1); omega
    · omega
theorem fd_le (p : Nat → Bool) : ∀ (f i : Nat), fd p f i ≤ i + f
  | 0, i => Nat.le_refl _
  | f + 1, i => by
    unfold fd
    split
    · have := fd_le p f (i + 1); omega
    · omega
theorem fd_all (p : Nat → Bool) : ∀ (f i j : Nat), i ≤ j → j < fd p f i → p j = true
  | 0, i, j, h1, h2 => by unfold fd at h2; omega
  | f + 1, i, j, h1, h2 => by
    unfold fd at h2
    by_cases hp : p i = true
    · rw [if_pos hp] at h2
      by_cases hj : j = i
      · subst hj; exact hp
      · exact fd_all p f (i + 1) j (by omega) h2
    · rw [if_neg hp] at h2; omega
theorem fd_stop (p : Nat → Bool) : ∀ (f i : Nat), fd p f i < i + f → p (fd p f i) = false
  | 0, i, h => by unfold fd at h; omega
  | f + 1, i, h => by
    unfold fd at h ⊢
    by_cases hp : p i = true
    · rw [if_pos hp] at h ⊢
      exact fd_stop p f (i + 1) (by omega)
    · rw [if_neg hp]; simpa using hp
theorem fd_succ (p : Nat → Bool) (f i : Nat) : fd p (f + 1) i = if p i = true then fd p f (i + 1) else i := rfl
theorem fd_split (p : Nat → Bool) (g : Nat) : ∀ (f i : Nat), fd p (f + g) i = if fd p f i < i + f then fd p f i else fd p g (i + f)
  | 0, i => by
    rw [Nat.zero_add, if_neg (by unfold fd; omega)]; rfl
  | f + 1, i => by
    rw [show f + 1 + g = (f + g) + 1 by omega, fd_succ, fd_succ]
    by_cases hp : p i = true
    · rw [if_pos hp, if_pos hp, fd_split p g f (i + 1)]
      have e : i + 1 + f = i + (f + 1) := by omega
      rw [e]
    · rw [if_neg hp, if_neg hp, if_pos (by omega)]
/-- Are the bits at a place alike? -/
def alikeB (l k : List UInt8) (i : Nat) : Bool := decide (bit l i = bit k i)
theorem refCommon_loop {V W : Int} {l k : List UInt8} (hl : l.length = 16) (hk : k.length = 16) (t : Nat) (ht : t ≤ 128) : ∀ (f i : Nat), i + f = t →
    crawlwayref10_Common.l0 (mkA V l) (mkA W k) (t : Int) (i : Int) = some ((fd (alikeB l k) f i : Nat) : Int) := by
  intro f
  induction f with
  | zero =>
    intro i hi
    rw [crawlwayref10_Common.l0.eq_def, if_neg (by rw [decide_eq_true_eq]; omega)]; rfl
  | succ f ih =>
    intro i hi
    rw [crawlwayref10_Common.l0.eq_def, if_pos (decide_eq_true (by omega)), digit_ref hl i (by omega), bindM_some, digit_ref hk i (by omega), bindM_some]
    unfold fd
    by_cases h : bit l i = bit k i
    · have h1 : (((bit l i : Nat) : Int) == ((bit k i : Nat) : Int)) = true := by rw [h]; exact beq_self_eq_true _
      have h2 : alikeB l k i = true := decide_eq_true h
      rw [h1, if_pos rfl, h2, if_pos rfl, wr_i64 (by omega) (by omega), show ((i : Int) + 1) = ((i + 1 : Nat) : Int) by omega]
      exact ih (i + 1) (by omega)
    · have h1 : (((bit l i : Nat) : Int) == ((bit k i : Nat) : Int)) = false := by rw [beq_eq_false_iff_ne]; omega
      have h2 : alikeB l k i = false := decide_eq_false h
      rw [h1, if_neg Bool.false_ne_true, h2, if_neg Bool.false_ne_true]
def commonL (V : Int) (l : List UInt8) (W : Int) (k : List UInt8) : Int :=
  if rightL V l = true ∧ rightL W k = true ∧ V = W then ((fd (alikeB l k) (widthL V l) 0 : Nat) : Int) else -1
theorem width_cases {V : Int} {l : List UInt8} (h : rightL V l = true) : widthL V l = 32 ∨ widthL V l = 128 := by
  unfold widthL; rw [if_pos h]; split
  · exact .inl rfl
  · exact .inr rfl
theorem common_ref {V W : Int} {l k : List UInt8} (hl : l.length = 16) (hk : k.length = 16) : crawlwayref10_Common (mkA V l) (mkA W k) = some (commonL V l W k) := by
  unfold crawlwayref10_Common commonL
  rw [right_ref hl, bindM_some]
  cases hr : rightL V l
  · show some (-1 : Int) = _
    rw [if_neg (by simp)]
  · show (crawlwayref10_Right (mkA W k) >>= fun t5 => _) = _
    rw [right_ref hk, bindM_some]
    cases hs : rightL W k
    · show some (-1 : Int) = _
      rw [if_neg (by simp)]
    · show (if (V != W) = true then _ else _) = _
      by_cases hv : V = W
      · subst hv
        have hne : (V != V) = false := by simp
        rw [hne, if_neg Bool.false_ne_true, width_ref hl, bindM_some]
        have h1 := refCommon_loop (V := V) (W := V) hl hk (widthL V l) width_le (widthL V l) 0 (by omega)
        rw [show ((0 : Nat) : Int) = 0 from rfl] at h1
        rw [h1, bindM_some, if_pos ⟨rfl, rfl, rfl⟩]
      · have hne : (V != W) = true := by simpa using hv
        rw [hne, if_pos rfl, if_neg (fun h => hv h.2.2)]

/-! ### order -/
def lessL : List UInt8 → List UInt8 → Bool
  | x :: a, y :: b => if x ≠ y then decide (x < y) else lessL a b
  | _, _ => false
theorem less_cmp : ∀ (a b : List UInt8), a.length = b.length → decide (Lib.compareBytes a b < 0) = lessL a b
  | [], [], _ => rfl
  | [], _ :: _, h => by simp at h
  | _ :: _, [], h => by simp at h
  | x :: a, y :: b, h => by
    unfold Lib.compareBytes lessL
    by_cases hxy : x = y
    · subst hxy
      have : ¬ x < x := UInt8.lt_irrefl x
      simp only [this, if_false, ne_eq, not_true_eq_false]
      exact less_cmp a b (by simpa using h)
    · by_cases hlt : x < y
      · simp [hxy, hlt]
      · have : y < x := UInt8.lt_of_le_of_ne (UInt8.not_lt.1 hlt) (Ne.symm hxy)
        simp [hxy, hlt, this]
def lessA (V : Int) (l : List UInt8) (W : Int) (k : List UInt8) : Bool := if V = W then lessL l k else decide (V < W)
theorem refLess_loop {V W : Int} {l k : List UInt8} (hl : l.length = 16) (hk : k.length = 16) (f : Nat) : ∀ i : Nat, i + f = 16 →
    ∃ q, crawlwayref10_Less.l0 (mkA V l) (mkA W k) i = some q ∧ (match q with | .ret r => r = lessL (l.drop i) (k.drop i) | .nx _ => lessL (l.drop i) (k.drop i) = false) := by
  induction f with
  | zero =>
    intro i hi
    have hz : decide ((i : Int) < 16) = false := decide_eq_false (by omega)
    rw [crawlwayref10_Less.l0.eq_def, hz]
    refine ⟨_, rfl, ?_⟩
    rw [List.drop_eq_nil_of_le (by omega)]; rfl
  | succ f ih =>
    intro i hi
    have hz : decide ((i : Int) < 16) = true := decide_eq_true (by omega)
    obtain ⟨x, hx, hdx⟩ := drop_get l i (by omega)
    obtain ⟨y, hy, hdy⟩ := drop_get k i (by omega)
    have hg : (0 : Int) ≤ (i : Int) ∧ (i : Int) < 16 := by omega
    have ex : vget (mkA V l).f_B (i : Int) = x.toNat := by show vget (vb l) (i : Int) = _; rw [vget_vb hl i (by omega), bg_get hx]
    have ey : vget (mkA W k).f_B (i : Int) = y.toNat := by show vget (vb k) (i : Int) = _; rw [vget_vb hk i (by omega), bg_get hy]
    rw [crawlwayref10_Less.l0.eq_def, hz, if_pos rfl, if_pos hg, if_pos hg, ex, ey, hdx, hdy]
    unfold lessL
    by_cases hxy : x = y
    · subst hxy
      have h1 : ((x.toNat : Int) != (x.toNat : Int)) = false := by simp
      obtain ⟨q, hq, hm⟩ := ih (i + 1) (by omega)
      rw [h1, if_neg Bool.false_ne_true, wr_i64 (by omega) (by omega), show ((i : Int) + 1) = ((i + 1 : Nat) : Int) by omega]
      refine ⟨q, hq, ?_⟩
      rw [if_neg (by simp)]
      exact hm
    · have hne : x.toNat ≠ y.toNat := fun e => hxy (UInt8.toNat.inj e)
      have h1 : ((x.toNat : Int) != (y.toNat : Int)) = true := by rw [bne_iff_ne]; omega
      rw [h1, if_pos rfl, if_pos hg, if_pos hg]
      refine ⟨_, rfl, ?_⟩
      show decide ((x.toNat : Int) < (y.toNat : Int)) = _
      rw [if_pos hxy, Bool.eq_iff_iff, decide_eq_true_eq, decide_eq_true_eq, UInt8.lt_iff_toNat_lt]
      omega
theorem less_ref {V W : Int} {l k : List UInt8} (hl : l.length = 16) (hk : k.length = 16) : crawlwayref10_Less (mkA V l) (mkA W k) = some (lessA V l W k) := by
  unfold crawlwayref10_Less lessA
  show (if (V != W) = true then some (decide (V < W)) else _) = _
  by_cases h : V = W
  · have hne : (V != W) = false := by simpa using h
    obtain ⟨q, hq, hm⟩ := refLess_loop (V := V) (W := W) hl hk 16 0 rfl
    rw [show ((0 : Nat) : Int) = 0 from rfl] at hq
    rw [hne, if_neg Bool.false_ne_true, if_pos h, hq, bindM_some]
    rw [List.drop_zero, List.drop_zero] at hm
    cases q with
    | ret r => show some r = _; rw [show r = _ from hm]
    | nx u => show some false = _; rw [show lessL l k = false from hm]
  · have hne : (V != W) = true := by simpa using h
    rw [hne, if_pos rfl, if_neg h]

/-! ### masked to what both have -/
theorem mb_alike (x y : UInt8) : ∀ (k : Nat), k ≤ 8 → (∀ j, j < k → x.toNat / 2 ^ (7 - j) % 2 = y.toNat / 2 ^ (7 - j) % 2) → mb x k = mb y k
  | 0, _, _ => by rw [mb_zero, mb_zero]
  | k + 1, hk, h => by
    apply UInt8.toNat.inj
    rw [mb_step x k (by omega), mb_step y k (by omega), mb_alike x y k (by omega) (fun j hj => h j (by omega)), h k (by omega)]
theorem mfull_alike {l k : List UInt8} (hl : l.length = 16) (hk : k.length = 16) (c : Nat) (hc : c ≤ 128) (h : ∀ j, j < c → bit l j = bit k j) : mfull l (c : Int) = mfull k (c : Int) := by
  apply List.ext_getElem?
  intro j
  rw [mfull_get, mfull_get]
  by_cases hj : j < 16
  · have hx : l[j]? = some l[j] := List.getElem?_eq_getElem (by omega)
    have hy : k[j]? = some k[j] := List.getElem?_eq_getElem (by omega)
    generalize l[j] = x at hx
    generalize k[j] = y at hy
    rw [hx, hy]
    show some _ = some _
    congr 1
    refine mb_alike x y _ (lft_le _ _) fun i hi => ?_
    have hlt : i < 8 := by have := lft_le (c : Int) j; omega
    have hb := h (8 * j + i) (by unfold lft at hi; omega)
    unfold bit at hb
    rw [show (8 * j + i) / 8 = j by omega, show (8 * j + i) % 8 = i by omega, bg_get hx, bg_get hy] at hb
    exact hb
  · rw [List.getElem?_eq_none (by omega), List.getElem?_eq_none (by omega)]

/-! ### texts of four bytes -/
/-! ### the prefix of some bits -/
theorem width_mfull {V b : Int} {l : List UInt8} (hl : l.length = 16) (hr : rightL V l = true) : widthL V (mfull l b) = widthL V l := by
  unfold widthL
  rw [if_pos hr, if_pos (right_mfull hl hr)]
theorem rightP_of {V b : Int} {l : List UInt8} (hl : l.length = 16) (hf : fits V l b = true) : rightP V (mfull l b) b = true := by
  obtain ⟨hr, h0, h1⟩ := fits_iff.1 hf
  exact rightP_iff.2 ⟨⟨right_mfull hl hr, h0, by rw [width_mfull hl hr]; exact h1⟩, mfull_idem l b⟩
/-! ### whose address -/
theorem mb_bit_fin : ∀ (x : Fin 256) (m : Fin 9) (j : Fin 8), j.val < m.val → (x.val - x.val % 2 ^ (8 - m.val)) / 2 ^ (7 - j.val) % 2 = x.val / 2 ^ (7 - j.val) % 2 := by decide +kernel
theorem bit_mfull {l : List UInt8} (hl : l.length = 16) (b : Int) (i : Nat) (hi : (i : Int) < b) (h128 : i < 128) : bit (mfull l b) i = bit l i := by
  unfold bit
  obtain ⟨c, hc⟩ : ∃ c, l[i / 8]? = some c := ⟨_, List.getElem?_eq_getElem (by omega)⟩
  have hm : (mfull l b)[i / 8]? = some (mb c (lft b (i / 8))) := by rw [mfull_get, hc]; rfl
  rw [bg_get hc, bg_get hm, mb_toNat]
  have hle := lft_le b (i / 8)
  have hlt : i % 8 < lft b (i / 8) := by unfold lft; omega
  exact mb_bit_fin ⟨c.toNat, c.toNat_lt⟩ ⟨lft b (i / 8), by omega⟩ ⟨i % 8, by omega⟩ hlt
theorem fd_far (p : Nat → Bool) (f c : Nat) (hc : c ≤ f) (h : ∀ j, j < c → p j = true) : c ≤ fd p f 0 := by
  rcases Nat.lt_or_ge (fd p f 0) c with hlt | hge
  · have h1 := fd_stop p f 0 (by omega)
    rw [h _ hlt] at h1; cases h1
  · exact hge
theorem same_bits {V W : Int} {l k : List UInt8} {b : Int} (hl : l.length = 16) (hk : k.length = 16) (hp : rightP V l b = true) (hV : V = W) (hr : rightL W k = true) : decide (mfull k b = l) = decide (commonL V l W k ≥ b) := by
  subst hV
  obtain ⟨⟨hrl, h0, h1⟩, hm⟩ := rightP_iff.1 hp
  have hw := width_le (V := V) (l := l)
  obtain ⟨c, rfl⟩ := Int.eq_ofNat_of_zero_le h0
  have hc : commonL V l V k = ((fd (alikeB l k) (widthL V l) 0 : Nat) : Int) := by unfold commonL; rw [if_pos ⟨hrl, hr, rfl⟩]
  rw [hc, decide_eq_decide]
  constructor
  · intro h
    have := fd_far (alikeB l k) (widthL V l) c (by omega) fun j hj => by
      unfold alikeB
      refine decide_eq_true ?_
      rw [← h, bit_mfull hk (c : Int) j (by omega) (by omega)]
    omega
  · intro h
    have hall := fd_all (alikeB l k) (widthL V l) 0
    have := mfull_alike hl hk c (by omega) fun j hj => of_decide_eq_true (hall j (by omega) (by omega))
    rw [← this, hm]
def hasP (V : Int) (l : List UInt8) (b W : Int) (k : List UInt8) : Bool := rightP V l b && (rightL W k && (decide (W = V) && decide (mfull k b = l)))
theorem has_ref {V b W : Int} {l k : List UInt8} (hl : l.length = 16) (hk : k.length = 16) : crawlwayref11_Has (mkP (mkA V l) b) (mkA W k) = some (hasP V l b W k) := by
  unfold crawlwayref11_Has hasP
  rw [cright_ref hl, bindM_some]
  cases hp : rightP V l b with
  | false => rfl
  | true =>
    obtain ⟨⟨hrl, h0, h1⟩, hm⟩ := rightP_iff.1 hp
    rw [if_pos rfl, Bool.true_and]
    show (crawlwayref10_Common (mkA V l) (mkA W k) >>= fun t5 => some (decide (t5 ≥ b))) = _
    rw [common_ref hl hk, bindM_some]
    refine congrArg some ?_
    cases hr : rightL W k with
    | false =>
      have hc : commonL V l W k = -1 := by unfold commonL; rw [if_neg (by rw [hr]; simp)]
      rw [hc, Bool.false_and]
      exact decide_eq_false (by omega)
    | true =>
      rw [Bool.true_and]
      by_cases hV : W = V
      · rw [decide_eq_true hV, Bool.true_and]
        exact (same_bits hl hk hp hV.symm hr).symm
      · have hc : commonL V l W k = -1 := by unfold commonL; rw [if_neg (fun h => hV h.2.2.symm)]
        rw [hc, decide_eq_false hV, Bool.false_and]
        exact decide_eq_false (by omega)
/-! ### texts -/
/-! ### prefixes out of texts -/
end Go.Proofs.Ythccncpephpdjaa.Adr
