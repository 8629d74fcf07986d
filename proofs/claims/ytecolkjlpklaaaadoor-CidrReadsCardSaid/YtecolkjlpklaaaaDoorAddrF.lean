/- Addresses (chapter 10): first differences, order. -/
import Derived.Test.YtecolkjlpklaaaaDoorAddr
set_option linter.unusedVariables false
set_option linter.unusedSimpArgs false
namespace Go.Proofs.YtecolkjlpklaaaaDoor.Adr
open E Go.RowKit

/-! ### the first place where something fails -/
def fd (p : Nat → Bool) : Nat → Nat → Nat
  | 0, i => i
  | f + 1, i => if p i = true then fd p f (i + 1) else i
theorem fd_ge (p : Nat → Bool) : ∀ (f i : Nat), i ≤ fd p f i
  | 0, i => Nat.le_refl _
  | f + 1, i => by
    unfold fd
    split
    · have := fd_ge p f (i + 1); omega
    · omega
theorem fd_le (p : Nat → Bool) : ∀ (f i : Nat), fd p f i ≤ i + f
  | 0, i => Nat.le_refl _
  | f + 1, i => by
    unfold fd
    split
    · have := fd_le p f (i + 1); omega
    · omega
theorem fd_all (p : Nat → Bool) : ∀ (f i j : Nat), i ≤ j → j < fd p f i → p j = true
  | 0, i, j, h1, h2 => by unfold fd at h2; omega
  | f + 1, i, j, h1, h2 => by
    unfold fd at h2
    by_cases hp : p i = true
    · rw [if_pos hp] at h2
      by_cases hj : j = i
      · subst hj; exact hp
      · exact fd_all p f (i + 1) j (by omega) h2
    · rw [if_neg hp] at h2; omega
theorem fd_stop (p : Nat → Bool) : ∀ (f i : Nat), fd p f i < i + f → p (fd p f i) = false
  | 0, i, h => by unfold fd at h; omega
  | f + 1, i, h => by
    unfold fd at h ⊢
    by_cases hp : p i = true
    · rw [if_pos hp] at h ⊢
      exact fd_stop p f (i + 1) (by omega)
    · rw [if_neg hp]; simpa using hp
theorem fd_succ (p : Nat → Bool) (f i : Nat) : fd p (f + 1) i = if p i = true then fd p f (i + 1) else i := rfl
theorem fd_split (p : Nat → Bool) (g : Nat) : ∀ (f i : Nat), fd p (f + g) i = if fd p f i < i + f then fd p f i else fd p g (i + f)
  | 0, i => by
    rw [Nat.zero_add, if_neg (by unfold fd; omega)]; rfl
  | f + 1, i => by
    rw [show f + 1 + g = (f + g) + 1 by omega, fd_succ, fd_succ]
    by_cases hp : p i = true
    · rw [if_pos hp, if_pos hp, fd_split p g f (i + 1)]
      have e : i + 1 + f = i + (f + 1) := by omega
      rw [e]
    · rw [if_neg hp, if_neg hp, if_pos (by omega)]
/-- Are the bits at a place alike? -/
def alikeB (l k : List UInt8) (i : Nat) : Bool := decide (bit l i = bit k i)
theorem refCommon_loop {V W : Int} {l k : List UInt8} (hl : l.length = 16) (hk : k.length = 16) (t : Nat) (ht : t ≤ 128) : ∀ (f i : Nat), i + f = t →
    crawlwayref10_Common.l0 (mkA V l) (mkA W k) (t : Int) (i : Int) = some ((fd (alikeB l k) f i : Nat) : Int) := by
  intro f
  induction f with
  | zero =>
    intro i hi
    rw [crawlwayref10_Common.l0.eq_def, if_neg (by rw [decide_eq_true_eq]; omega)]; rfl
  | succ f ih =>
    intro i hi
    rw [crawlwayref10_Common.l0.eq_def, if_pos (decide_eq_true (by omega)), digit_ref hl i (by omega), bindM_some, digit_ref hk i (by omega), bindM_some]
    unfold fd
    by_cases h : bit l i = bit k i
    · have h1 : (((bit l i : Nat) : Int) == ((bit k i : Nat) : Int)) = true := by rw [h]; exact beq_self_eq_true _
      have h2 : alikeB l k i = true := decide_eq_true h
      rw [h1, if_pos rfl, h2, if_pos rfl, wr_i64 (by omega) (by omega), show ((i : Int) + 1) = ((i + 1 : Nat) : Int) by omega]
      exact ih (i + 1) (by omega)
    · have h1 : (((bit l i : Nat) : Int) == ((bit k i : Nat) : Int)) = false := by rw [beq_eq_false_iff_ne]; omega
      have h2 : alikeB l k i = false := decide_eq_false h
      rw [h1, if_neg Bool.false_ne_true, h2, if_neg Bool.false_ne_true]
/-- Where the bits of two bytes are alike. -/
def sameB (x y : UInt8) : UInt8 := UInt8.ofNat (255 ^^^ (x.toNat ^^^ y.toNat))
theorem sameB_toNat (x y : UInt8) : (sameB x y).toNat = 255 ^^^ (x.toNat ^^^ y.toNat) := by
  unfold sameB
  have h1 : x.toNat ^^^ y.toNat < 2 ^ 8 := Nat.xor_lt_two_pow x.toNat_lt y.toNat_lt
  have h2 : 255 ^^^ (x.toNat ^^^ y.toNat) < 2 ^ 8 := Nat.xor_lt_two_pow (by omega) h1
  rw [UInt8.toNat_ofNat', Nat.mod_eq_of_lt h2]
theorem sameB_code (x y : UInt8) : ixor .u8 (IntKind.max .u8) (ixor .u8 (x.toNat : Int) (y.toNat : Int)) = ((sameB x y).toNat : Int) := by
  have h1 : x.toNat ^^^ y.toNat < 2 ^ 8 := Nat.xor_lt_two_pow x.toNat_lt y.toNat_lt
  rw [ixor_nat .u8 rfl _ _ x.toNat_lt y.toNat_lt, show IntKind.max .u8 = ((255 : Nat) : Int) from by decide, ixor_nat .u8 rfl _ _ (by decide) h1, sameB_toNat]
theorem sameB_bit (x y : UInt8) (m : Nat) (hm : m < 8) : ((sameB x y).toNat / 2 ^ m % 2 = 0) ↔ ¬ (x.toNat / 2 ^ m % 2 = y.toNat / 2 ^ m % 2) := by
  have hT : ∀ n : Nat, n.testBit m = decide (n / 2 ^ m % 2 = 1) := fun n => Nat.testBit_eq_decide_div_mod_eq
  have h255 : (255 : Nat).testBit m = true := by
    have : m = 0 ∨ m = 1 ∨ m = 2 ∨ m = 3 ∨ m = 4 ∨ m = 5 ∨ m = 6 ∨ m = 7 := by omega
    rcases this with rfl | rfl | rfl | rfl | rfl | rfl | rfl | rfl <;> rfl
  have hx : (255 ^^^ (x.toNat ^^^ y.toNat)).testBit m = ((255 : Nat).testBit m ^^ (x.toNat.testBit m ^^ y.toNat.testBit m)) := by rw [Nat.testBit_xor, Nat.testBit_xor]
  rw [h255, ← sameB_toNat, hT, hT, hT] at hx
  have a0 := Nat.mod_lt (x.toNat / 2 ^ m) (show 0 < 2 by omega)
  have b0 := Nat.mod_lt (y.toNat / 2 ^ m) (show 0 < 2 by omega)
  have c0 := Nat.mod_lt ((sameB x y).toNat / 2 ^ m) (show 0 < 2 by omega)
  generalize (sameB x y).toNat / 2 ^ m % 2 = c at hx c0 ⊢
  generalize x.toNat / 2 ^ m % 2 = a at hx a0 ⊢
  generalize y.toNat / 2 ^ m % 2 = b at hx b0 ⊢
  have ha : a = 0 ∨ a = 1 := by omega
  have hb : b = 0 ∨ b = 1 := by omega
  have hc : c = 0 ∨ c = 1 := by omega
  rcases ha with rfl | rfl <;> rcases hb with rfl | rfl <;> rcases hc with rfl | rfl <;> simp at hx ⊢
def sm (l k : List UInt8) : List UInt8 := List.zipWith sameB l k
theorem sm_len {l k : List UInt8} (hl : l.length = 16) (hk : k.length = 16) : (sm l k).length = 16 := by simp [sm, hl, hk]
theorem sm_get {l k : List UInt8} {i : Nat} {x y : UInt8} (hx : l[i]? = some x) (hy : k[i]? = some y) : (sm l k)[i]? = some (sameB x y) := by
  unfold sm; rw [List.getElem?_zipWith, hx, hy]
theorem common_loop {V W : Int} {l k : List UInt8} (hl : l.length = 16) (hk : k.length = 16) : ∀ (f i : Nat), i + f = 16 →
    addr_Common.l0 (mkA V l) (mkA W k) (i : Int) (vb ((sm l k).take i ++ (List.replicate 16 (0 : UInt8)).drop i)) = some (vb (sm l k)) := by
  have hsl := sm_len hl hk
  intro f
  induction f with
  | zero =>
    intro i hi
    have hz : decide ((i : Int) < 16) = false := decide_eq_false (by omega)
    rw [addr_Common.l0.eq_def, hz, if_neg Bool.false_ne_true, List.drop_eq_nil_of_le (by simp; omega), List.append_nil, List.take_of_length_le (by omega)]
  | succ f ih =>
    intro i hi
    have hz : decide ((i : Int) < 16) = true := decide_eq_true (by omega)
    have hx : l[i]? = some l[i] := List.getElem?_eq_getElem (by omega)
    have hy : k[i]? = some k[i] := List.getElem?_eq_getElem (by omega)
    generalize l[i] = x at hx
    generalize k[i] = y at hy
    have hg : (0 : Int) ≤ (i : Int) ∧ (i : Int) < 16 := by omega
    have hA : ((sm l k).take i ++ (List.replicate 16 (0 : UInt8)).drop i).length = 16 := by simp; omega
    have hstep := set_step (sm l k) (List.replicate 16 (0 : UInt8)) i (sameB x y) (by simp; omega) (sm_get hx hy)
    rw [addr_Common.l0.eq_def, hz, if_pos rfl, if_pos hg, if_pos hg, if_pos hg]
    show addr_Common.l0 (mkA V l) (mkA W k) (wr .i64 ((i : Int) + 1)) (vset _ (i : Int) (ixor .u8 (IntKind.max .u8) (ixor .u8 (vget (vb l) (i : Int)) (vget (vb k) (i : Int))))) = _
    rw [vget_vb hl i (by omega), vget_vb hk i (by omega), bg_get hx, bg_get hy, sameB_code, vset_vb hA, hstep, wr_i64 (by omega) (by omega), show ((i : Int) + 1) = ((i + 1 : Nat) : Int) by omega]
    exact ih (i + 1) (by omega)
theorem ones_l1 {l k : List UInt8} (hl : l.length = 16) (hk : k.length = 16) (n q : Nat) (hq : q < n) (hn : n ≤ 16) : ∀ (f j : Nat), j + f = 8 →
    endian_Ones.l1 (ob ((sm l k).take n)) (q : Int) ((8 * q + j : Nat) : Int) (7 - (j : Int)) =
      some (if fd (alikeB l k) f (8 * q + j) < 8 * q + 8 then .ret ((fd (alikeB l k) f (8 * q + j) : Nat) : Int) else .nx ((8 * q + 8 : Nat) : Int)) := by
  have hx : l[q]? = some l[q] := List.getElem?_eq_getElem (by omega)
  have hy : k[q]? = some k[q] := List.getElem?_eq_getElem (by omega)
  generalize l[q] = x at hx
  generalize k[q] = y at hy
  have hg : lget (ob ((sm l k).take n)) (q : Int) = ((sameB x y).toNat : Int) := lget_ob _ q _ (by rw [List.getElem?_take, if_pos hq]; exact sm_get hx hy)
  intro f
  induction f with
  | zero =>
    intro j hj
    have hz : decide ((7 : Int) - (j : Int) ≥ 0) = false := decide_eq_false (by omega)
    rw [endian_Ones.l1.eq_def, hz, if_neg Bool.false_ne_true]
    unfold fd
    rw [if_neg (by omega), show 8 * q + j = 8 * q + 8 by omega]
  | succ f ih =>
    intro j hj
    have hz : decide ((7 : Int) - (j : Int) ≥ 0) = true := decide_eq_true (by omega)
    have e7 : wr .u64 (7 - (j : Int)) = ((7 - j : Nat) : Int) := by rw [wr_u64 (by omega) (by omega)]; omega
    have hle : (sameB x y).toNat / 2 ^ (7 - j) < 256 := Nat.lt_of_le_of_lt (Nat.div_le_self _ _) (sameB x y).toNat_lt
    have hcond : iand .u8 (ishr .u8 ((sameB x y).toNat : Int) ((7 - j : Nat) : Int)) 1 = (((sameB x y).toNat / 2 ^ (7 - j) % 2 : Nat) : Int) := by
      rw [ishr_nat .u8 _ _ (by show 7 - j ≤ 8; omega)]
      have := iand_nat .u8 rfl ((sameB x y).toNat / 2 ^ (7 - j)) 1 hle (by decide)
      rw [show ((1 : Nat) : Int) = 1 from rfl] at this
      rw [this, Nat.and_one_is_mod]
    have hbl : bit l (8 * q + j) = x.toNat / 2 ^ (7 - j) % 2 := by
      unfold bit
      rw [show (8 * q + j) / 8 = q by omega, show (8 * q + j) % 8 = j by omega, bg_get hx]
    have hbk : bit k (8 * q + j) = y.toNat / 2 ^ (7 - j) % 2 := by
      unfold bit
      rw [show (8 * q + j) / 8 = q by omega, show (8 * q + j) % 8 = j by omega, bg_get hy]
    have hiff := sameB_bit x y (7 - j) (by omega)
    rw [endian_Ones.l1.eq_def, hz, if_pos rfl, e7, if_pos (by omega), hg, hcond]
    unfold fd
    by_cases h : bit l (8 * q + j) = bit k (8 * q + j)
    · have h1 : ((((sameB x y).toNat / 2 ^ (7 - j) % 2 : Nat) : Int) == 0) = false := by
        rw [beq_eq_false_iff_ne]
        intro e
        rw [hbl, hbk] at h
        exact hiff.1 (by omega) h
      have h2 : alikeB l k (8 * q + j) = true := decide_eq_true h
      have e1 : wr .i64 (((8 * q + j : Nat) : Int) + 1) = ((8 * q + (j + 1) : Nat) : Int) := by rw [wr_i64 (by omega) (by omega)]; omega
      have e2 : wr .i64 ((7 : Int) - (j : Int) - 1) = 7 - ((j + 1 : Nat) : Int) := by rw [wr_i64 (by omega) (by omega)]; omega
      rw [h1, if_neg Bool.false_ne_true, h2, if_pos rfl, e1, e2]
      exact ih (j + 1) (by omega)
    · have h1 : ((((sameB x y).toNat / 2 ^ (7 - j) % 2 : Nat) : Int) == 0) = true := by
        rw [beq_iff_eq]
        rw [hbl, hbk] at h
        have := hiff.2 h
        omega
      have h2 : alikeB l k (8 * q + j) = false := decide_eq_false h
      rw [h1, if_pos rfl, h2, if_neg Bool.false_ne_true, if_pos (by omega)]
theorem ones_l0 {l k : List UInt8} (hl : l.length = 16) (hk : k.length = 16) (n : Nat) (hn : n ≤ 16) : ∀ (f q : Nat), q + f = n →
    endian_Ones.l0 (ob ((sm l k).take n)) ((8 * q : Nat) : Int) (q : Int) =
      some (if fd (alikeB l k) (8 * f) (8 * q) < 8 * n then .ret ((fd (alikeB l k) (8 * f) (8 * q) : Nat) : Int) else .nx ((8 * n : Nat) : Int)) := by
  have hlen : (ob ((sm l k).take n)).length = n := by rw [ob_length]; have := sm_len hl hk; simp; omega
  intro f
  induction f with
  | zero =>
    intro q hq
    rw [endian_Ones.l0.eq_def, hlen, if_neg (by rw [decide_eq_true_eq]; omega), Nat.mul_zero]
    unfold fd
    rw [if_neg (by omega), show 8 * q = 8 * n by omega]
  | succ f ih =>
    intro q hq
    have h1 := ones_l1 hl hk n q (by omega) hn 8 0 rfl
    rw [Nat.add_zero, show (7 : Int) - ((0 : Nat) : Int) = 7 from rfl] at h1
    rw [endian_Ones.l0.eq_def, hlen, if_pos (decide_eq_true (by omega)), if_pos (by omega), h1, bindM_some]
    rw [show 8 * (f + 1) = 8 + 8 * f by omega, fd_split]
    by_cases h : fd (alikeB l k) 8 (8 * q) < 8 * q + 8
    · rw [if_pos h, if_pos h, if_pos (by omega)]
    · rw [if_neg h, if_neg h]
      show endian_Ones.l0 _ _ (wr .i64 ((q : Int) + 1)) = _
      rw [wr_i64 (by omega) (by omega), show ((q : Int) + 1) = ((q + 1 : Nat) : Int) by omega, show 8 * q + 8 = 8 * (q + 1) by omega]
      exact ih (q + 1) (by omega)
def commonL (V : Int) (l : List UInt8) (W : Int) (k : List UInt8) : Int :=
  if rightL V l = true ∧ rightL W k = true ∧ V = W then ((fd (alikeB l k) (widthL V l) 0 : Nat) : Int) else -1
theorem width_cases {V : Int} {l : List UInt8} (h : rightL V l = true) : widthL V l = 32 ∨ widthL V l = 128 := by
  unfold widthL; rw [if_pos h]; split
  · exact .inl rfl
  · exact .inr rfl
theorem common_code {V W : Int} {l k : List UInt8} (hl : l.length = 16) (hk : k.length = 16) : addr_Common (mkA V l) (mkA W k) = some (commonL V l W k) := by
  unfold addr_Common commonL
  rw [right_code hl, bindM_some]
  cases hr : rightL V l
  · show some (-1 : Int) = _
    rw [if_neg (by simp)]
  · show (addr_Right (mkA W k) >>= fun t5 => _) = _
    rw [right_code hk, bindM_some]
    cases hs : rightL W k
    · show some (-1 : Int) = _
      rw [if_neg (by simp)]
    · show (if (V != W) = true then _ else _) = _
      by_cases hv : V = W
      · subst hv
        have hne : (V != V) = false := by simp
        have h0 := common_loop (V := V) (W := V) hl hk 16 0 rfl
        rw [List.take_zero, List.nil_append, List.drop_zero, show ((0 : Nat) : Int) = 0 from rfl, ← zero_vb] at h0
        rw [hne, if_neg Bool.false_ne_true, h0, bindM_some, width_code hl, bindM_some]
        have hw := width_cases hr
        have hd : wr .i64 (Int.tdiv ((widthL V l : Nat) : Int) 8) = ((widthL V l / 8 : Nat) : Int) := by
          have : Int.tdiv ((widthL V l : Nat) : Int) 8 = ((widthL V l / 8 : Nat) : Int) := by rw [Int.tdiv_eq_ediv_of_nonneg (by omega)]; omega
          rw [this, wr_i64 (by omega) (by omega)]
        rw [hd, if_pos (by omega), if_pos ⟨rfl, rfl, rfl⟩, vb_toList (sm_len hl hk), lsub_ob]
        unfold endian_Ones
        have h1 := ones_l0 hl hk (widthL V l / 8) (by omega) (widthL V l / 8) 0 (by omega)
        rw [Nat.mul_zero, show ((0 : Nat) : Int) = 0 from rfl, show 8 * (widthL V l / 8) = widthL V l by omega] at h1
        have hle := fd_le (alikeB l k) (widthL V l) 0
        rw [h1, bindM_some]
        by_cases h : fd (alikeB l k) (widthL V l) 0 < widthL V l
        · rw [if_pos h]; rfl
        · rw [if_neg h]
          show some _ = some _
          congr 2; omega
      · have hne : (V != W) = true := by simpa using hv
        rw [hne, if_pos rfl, if_neg (fun h => hv h.2.2)]
theorem common_ref {V W : Int} {l k : List UInt8} (hl : l.length = 16) (hk : k.length = 16) : crawlwayref10_Common (mkA V l) (mkA W k) = some (commonL V l W k) := by
  unfold crawlwayref10_Common commonL
  rw [right_ref hl, bindM_some]
  cases hr : rightL V l
  · show some (-1 : Int) = _
    rw [if_neg (by simp)]
  · show (crawlwayref10_Right (mkA W k) >>= fun t5 => _) = _
    rw [right_ref hk, bindM_some]
    cases hs : rightL W k
    · show some (-1 : Int) = _
      rw [if_neg (by simp)]
    · show (if (V != W) = true then _ else _) = _
      by_cases hv : V = W
      · subst hv
        have hne : (V != V) = false := by simp
        rw [hne, if_neg Bool.false_ne_true, width_ref hl, bindM_some]
        have h1 := refCommon_loop (V := V) (W := V) hl hk (widthL V l) width_le (widthL V l) 0 (by omega)
        rw [show ((0 : Nat) : Int) = 0 from rfl] at h1
        rw [h1, bindM_some, if_pos ⟨rfl, rfl, rfl⟩]
      · have hne : (V != W) = true := by simpa using hv
        rw [hne, if_pos rfl, if_neg (fun h => hv h.2.2)]

/-! ### order -/
def lessL : List UInt8 → List UInt8 → Bool
  | x :: a, y :: b => if x ≠ y then decide (x < y) else lessL a b
  | _, _ => false
theorem less_cmp : ∀ (a b : List UInt8), a.length = b.length → decide (Lib.compareBytes a b < 0) = lessL a b
  | [], [], _ => rfl
  | [], _ :: _, h => by simp at h
  | _ :: _, [], h => by simp at h
  | x :: a, y :: b, h => by
    unfold Lib.compareBytes lessL
    by_cases hxy : x = y
    · subst hxy
      have : ¬ x < x := UInt8.lt_irrefl x
      simp only [this, if_false, ne_eq, not_true_eq_false]
      exact less_cmp a b (by simpa using h)
    · by_cases hlt : x < y
      · simp [hxy, hlt]
      · have : y < x := UInt8.lt_of_le_of_ne (UInt8.not_lt.1 hlt) (Ne.symm hxy)
        simp [hxy, hlt, this]
theorem unb_ob (l : List UInt8) : unb (ob l) = l := by
  unfold unb ob
  rw [List.map_map]
  conv => rhs; rw [← List.map_id l]
  apply List.map_congr_left
  intro b _
  show UInt8.ofNat ((b.toNat : Int).toNat) = b
  rw [Int.toNat_natCast]; exact UInt8.ofNat_toNat
def lessA (V : Int) (l : List UInt8) (W : Int) (k : List UInt8) : Bool := if V = W then lessL l k else decide (V < W)
theorem less_code {V W : Int} {l k : List UInt8} (hl : l.length = 16) (hk : k.length = 16) : addr_Less (mkA V l) (mkA W k) = some (lessA V l W k) := by
  unfold addr_Less lessA
  show (if (V != W) = true then some (decide (V < W)) else (bytes_Compare (vb l).toList (vb k).toList >>= fun t4 => some (decide (t4 < 0)))) = _
  by_cases h : V = W
  · have hne : (V != W) = false := by simpa using h
    rw [hne, if_neg Bool.false_ne_true, if_pos h]
    unfold bytes_Compare
    rw [bindM_some, vb_toList hl, vb_toList hk, unb_ob, unb_ob, less_cmp l k (by omega)]
  · have hne : (V != W) = true := by simpa using h
    rw [hne, if_pos rfl, if_neg h]
theorem refLess_loop {V W : Int} {l k : List UInt8} (hl : l.length = 16) (hk : k.length = 16) (f : Nat) : ∀ i : Nat, i + f = 16 →
    ∃ q, crawlwayref10_Less.l0 (mkA V l) (mkA W k) i = some q ∧ (match q with | .ret r => r = lessL (l.drop i) (k.drop i) | .nx _ => lessL (l.drop i) (k.drop i) = false) := by
  induction f with
  | zero =>
    intro i hi
    have hz : decide ((i : Int) < 16) = false := decide_eq_false (by omega)
    rw [crawlwayref10_Less.l0.eq_def, hz]
    refine ⟨_, rfl, ?_⟩
    rw [List.drop_eq_nil_of_le (by omega)]; rfl
  | succ f ih =>
    intro i hi
    have hz : decide ((i : Int) < 16) = true := decide_eq_true (by omega)
    obtain ⟨x, hx, hdx⟩ := drop_get l i (by omega)
    obtain ⟨y, hy, hdy⟩ := drop_get k i (by omega)
    have hg : (0 : Int) ≤ (i : Int) ∧ (i : Int) < 16 := by omega
    have ex : vget (mkA V l).f_B (i : Int) = x.toNat := by show vget (vb l) (i : Int) = _; rw [vget_vb hl i (by omega), bg_get hx]
    have ey : vget (mkA W k).f_B (i : Int) = y.toNat := by show vget (vb k) (i : Int) = _; rw [vget_vb hk i (by omega), bg_get hy]
    rw [crawlwayref10_Less.l0.eq_def, hz, if_pos rfl, if_pos hg, if_pos hg, ex, ey, hdx, hdy]
    unfold lessL
    by_cases hxy : x = y
    · subst hxy
      have h1 : ((x.toNat : Int) != (x.toNat : Int)) = false := by simp
      obtain ⟨q, hq, hm⟩ := ih (i + 1) (by omega)
      rw [h1, if_neg Bool.false_ne_true, wr_i64 (by omega) (by omega), show ((i : Int) + 1) = ((i + 1 : Nat) : Int) by omega]
      refine ⟨q, hq, ?_⟩
      rw [if_neg (by simp)]
      exact hm
    · have hne : x.toNat ≠ y.toNat := fun e => hxy (UInt8.toNat.inj e)
      have h1 : ((x.toNat : Int) != (y.toNat : Int)) = true := by rw [bne_iff_ne]; omega
      rw [h1, if_pos rfl, if_pos hg, if_pos hg]
      refine ⟨_, rfl, ?_⟩
      show decide ((x.toNat : Int) < (y.toNat : Int)) = _
      rw [if_pos hxy, Bool.eq_iff_iff, decide_eq_true_eq, decide_eq_true_eq, UInt8.lt_iff_toNat_lt]
      omega
theorem less_ref {V W : Int} {l k : List UInt8} (hl : l.length = 16) (hk : k.length = 16) : crawlwayref10_Less (mkA V l) (mkA W k) = some (lessA V l W k) := by
  unfold crawlwayref10_Less lessA
  show (if (V != W) = true then some (decide (V < W)) else _) = _
  by_cases h : V = W
  · have hne : (V != W) = false := by simpa using h
    obtain ⟨q, hq, hm⟩ := refLess_loop (V := V) (W := W) hl hk 16 0 rfl
    rw [show ((0 : Nat) : Int) = 0 from rfl] at hq
    rw [hne, if_neg Bool.false_ne_true, if_pos h, hq, bindM_some]
    rw [List.drop_zero, List.drop_zero] at hm
    cases q with
    | ret r => show some r = _; rw [show r = _ from hm]
    | nx u => show some false = _; rw [show lessL l k = false from hm]
  · have hne : (V != W) = true := by simpa using h
    rw [hne, if_pos rfl, if_neg h]

/-! ### masked to what both have -/
theorem mb_alike (x y : UInt8) : ∀ (k : Nat), k ≤ 8 → (∀ j, j < k → x.toNat / 2 ^ (7 - j) % 2 = y.toNat / 2 ^ (7 - j) % 2) → mb x k = mb y k
  | 0, _, _ => by rw [mb_zero, mb_zero]
  | k + 1, hk, h => by
    apply UInt8.toNat.inj
    rw [mb_step x k (by omega), mb_step y k (by omega), mb_alike x y k (by omega) (fun j hj => h j (by omega)), h k (by omega)]
theorem mfull_alike {l k : List UInt8} (hl : l.length = 16) (hk : k.length = 16) (c : Nat) (hc : c ≤ 128) (h : ∀ j, j < c → bit l j = bit k j) : mfull l (c : Int) = mfull k (c : Int) := by
  apply List.ext_getElem?
  intro j
  rw [mfull_get, mfull_get]
  by_cases hj : j < 16
  · have hx : l[j]? = some l[j] := List.getElem?_eq_getElem (by omega)
    have hy : k[j]? = some k[j] := List.getElem?_eq_getElem (by omega)
    generalize l[j] = x at hx
    generalize k[j] = y at hy
    rw [hx, hy]
    show some _ = some _
    congr 1
    refine mb_alike x y _ (lft_le _ _) fun i hi => ?_
    have hlt : i < 8 := by have := lft_le (c : Int) j; omega
    have hb := h (8 * j + i) (by unfold lft at hi; omega)
    unfold bit at hb
    rw [show (8 * j + i) / 8 = j by omega, show (8 * j + i) % 8 = i by omega, bg_get hx, bg_get hy] at hb
    exact hb
  · rw [List.getElem?_eq_none (by omega), List.getElem?_eq_none (by omega)]

/-! ### texts of four bytes -/
end Go.Proofs.YtecolkjlpklaaaaDoor.Adr
