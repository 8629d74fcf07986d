/- Addresses (chapter 10): first differences, order, kinds; the plain laws of AddrBits, AddrKinds, AddrPairs. -/
import Derived.Test.YtecolkjlpklaaaaDoorAddr
set_option linter.unusedVariables false
set_option linter.unusedSimpArgs false
namespace Go.Proofs.YtecolkjlpklaaaaDoor.Adr
open E Go.RowKit

/-! ### the first place where something fails -/
def fd (p : Nat → Bool) : Nat → Nat → Nat
  | 0, i => i
  | f + 1, i => if p i = true then fd p f (i + 1) else i
theorem fd_ge (p : Nat → Bool) : ∀ (f i : Nat), i ≤ fd p f i
  | 0, i => Nat.le_refl _
  | f + 1, i => by
    unfold fd
    split
    · have := fd_ge p f (i + 1); omega
    · omega
theorem fd_le (p : Nat → Bool) : ∀ (f i : Nat), fd p f i ≤ i + f
  | 0, i => Nat.le_refl _
  | f + 1, i => by
    unfold fd
    split
    · have := fd_le p f (i + 1); omega
    · omega
theorem fd_all (p : Nat → Bool) : ∀ (f i j : Nat), i ≤ j → j < fd p f i → p j = true
  | 0, i, j, h1, h2 => by unfold fd at h2; omega
  | f + 1, i, j, h1, h2 => by
    unfold fd at h2
    by_cases hp : p i = true
    · rw [if_pos hp] at h2
      by_cases hj : j = i
      · subst hj; exact hp
      · exact fd_all p f (i + 1) j (by omega) h2
    · rw [if_neg hp] at h2; omega
theorem fd_stop (p : Nat → Bool) : ∀ (f i : Nat), fd p f i < i + f → p (fd p f i) = false
  | 0, i, h => by unfold fd at h; omega
  | f + 1, i, h => by
    unfold fd at h ⊢
    by_cases hp : p i = true
    · rw [if_pos hp] at h ⊢
      exact fd_stop p f (i + 1) (by omega)
    · rw [if_neg hp]; simpa using hp
theorem fd_succ (p : Nat → Bool) (f i : Nat) : fd p (f + 1) i = if p i = true then fd p f (i + 1) else i := rfl
theorem fd_split (p : Nat → Bool) (g : Nat) : ∀ (f i : Nat), fd p (f + g) i = if fd p f i < i + f then fd p f i else fd p g (i + f)
  | 0, i => by
    rw [Nat.zero_add, if_neg (by unfold fd; omega)]; rfl
  | f + 1, i => by
    rw [show f + 1 + g = (f + g) + 1 by omega, fd_succ, fd_succ]
    by_cases hp : p i = true
    · rw [if_pos hp, if_pos hp, fd_split p g f (i + 1)]
      have e : i + 1 + f = i + (f + 1) := by omega
      rw [e]
    · rw [if_neg hp, if_neg hp, if_pos (by omega)]
/-- Are the bits at a place alike? -/
def alikeB (l k : List UInt8) (i : Nat) : Bool := decide (bit l i = bit k i)
theorem refCommon_loop {V W : Int} {l k : List UInt8} (hl : l.length = 16) (hk : k.length = 16) (t : Nat) (ht : t ≤ 128) : ∀ (f i : Nat), i + f = t →
    crawlwayref10_Common.l0 (mkA V l) (mkA W k) (t : Int) (i : Int) = some ((fd (alikeB l k) f i : Nat) : Int) := by
  intro f
  induction f with
  | zero =>
    intro i hi
    rw [crawlwayref10_Common.l0.eq_def, if_neg (by rw [decide_eq_true_eq]; omega)]; rfl
  | succ f ih =>
    intro i hi
    rw [crawlwayref10_Common.l0.eq_def, if_pos (decide_eq_true (by omega)), digit_ref hl i (by omega), bindM_some, digit_ref hk i (by omega), bindM_some]
    unfold fd
    by_cases h : bit l i = bit k i
    · have h1 : (((bit l i : Nat) : Int) == ((bit k i : Nat) : Int)) = true := by rw [h]; exact beq_self_eq_true _
      have h2 : alikeB l k i = true := decide_eq_true h
      rw [h1, if_pos rfl, h2, if_pos rfl, wr_i64 (by omega) (by omega), show ((i : Int) + 1) = ((i + 1 : Nat) : Int) by omega]
      exact ih (i + 1) (by omega)
    · have h1 : (((bit l i : Nat) : Int) == ((bit k i : Nat) : Int)) = false := by rw [beq_eq_false_iff_ne]; omega
      have h2 : alikeB l k i = false := decide_eq_false h
      rw [h1, if_neg Bool.false_ne_true, h2, if_neg Bool.false_ne_true]
/-- Where the bits of two bytes are alike. -/
def sameB (x y : UInt8) : UInt8 := UInt8.ofNat (255 ^^^ (x.toNat ^^^ y.toNat))
theorem sameB_toNat (x y : UInt8) : (sameB x y).toNat = 255 ^^^ (x.toNat ^^^ y.toNat) := by
  unfold sameB
  have h1 : x.toNat ^^^ y.toNat < 2 ^ 8 := Nat.xor_lt_two_pow x.toNat_lt y.toNat_lt
  have h2 : 255 ^^^ (x.toNat ^^^ y.toNat) < 2 ^ 8 := Nat.xor_lt_two_pow (by omega) h1
  rw [UInt8.toNat_ofNat', Nat.mod_eq_of_lt h2]
theorem sameB_code (x y : UInt8) : ixor .u8 (IntKind.max .u8) (ixor .u8 (x.toNat : Int) (y.toNat : Int)) = ((sameB x y).toNat : Int) := by
  have h1 : x.toNat ^^^ y.toNat < 2 ^ 8 := Nat.xor_lt_two_pow x.toNat_lt y.toNat_lt
  rw [ixor_nat .u8 rfl _ _ x.toNat_lt y.toNat_lt, show IntKind.max .u8 = ((255 : Nat) : Int) from by decide, ixor_nat .u8 rfl _ _ (by decide) h1, sameB_toNat]
theorem sameB_bit (x y : UInt8) (m : Nat) (hm : m < 8) : ((sameB x y).toNat / 2 ^ m % 2 = 0) ↔ ¬ (x.toNat / 2 ^ m % 2 = y.toNat / 2 ^ m % 2) := by
  have hT : ∀ n : Nat, n.testBit m = decide (n / 2 ^ m % 2 = 1) := fun n => Nat.testBit_eq_decide_div_mod_eq
  have h255 : (255 : Nat).testBit m = true := by
    have : m = 0 ∨ m = 1 ∨ m = 2 ∨ m = 3 ∨ m = 4 ∨ m = 5 ∨ m = 6 ∨ m = 7 := by omega
    rcases this with rfl | rfl | rfl | rfl | rfl | rfl | rfl | rfl <;> rfl
  have hx : (255 ^^^ (x.toNat ^^^ y.toNat)).testBit m = ((255 : Nat).testBit m ^^ (x.toNat.testBit m ^^ y.toNat.testBit m)) := by rw [Nat.testBit_xor, Nat.testBit_xor]
  rw [h255, ← sameB_toNat, hT, hT, hT] at hx
  have a0 := Nat.mod_lt (x.toNat / 2 ^ m) (show 0 < 2 by omega)
  have b0 := Nat.mod_lt (y.toNat / 2 ^ m) (show 0 < 2 by omega)
  have c0 := Nat.mod_lt ((sameB x y).toNat / 2 ^ m) (show 0 < 2 by omega)
  generalize (sameB x y).toNat / 2 ^ m % 2 = c at hx c0 ⊢
  generalize x.toNat / 2 ^ m % 2 = a at hx a0 ⊢
  generalize y.toNat / 2 ^ m % 2 = b at hx b0 ⊢
  have ha : a = 0 ∨ a = 1 := by omega
  have hb : b = 0 ∨ b = 1 := by omega
  have hc : c = 0 ∨ c = 1 := by omega
  rcases ha with rfl | rfl <;> rcases hb with rfl | rfl <;> rcases hc with rfl | rfl <;> simp at hx ⊢
def sm (l k : List UInt8) : List UInt8 := List.zipWith sameB l k
theorem sm_len {l k : List UInt8} (hl : l.length = 16) (hk : k.length = 16) : (sm l k).length = 16 := by simp [sm, hl, hk]
theorem sm_get {l k : List UInt8} {i : Nat} {x y : UInt8} (hx : l[i]? = some x) (hy : k[i]? = some y) : (sm l k)[i]? = some (sameB x y) := by
  unfold sm; rw [List.getElem?_zipWith, hx, hy]
theorem common_loop {V W : Int} {l k : List UInt8} (hl : l.length = 16) (hk : k.length = 16) : ∀ (f i : Nat), i + f = 16 →
    addr_Common.l0 (mkA V l) (mkA W k) (i : Int) (vb ((sm l k).take i ++ (List.replicate 16 (0 : UInt8)).drop i)) = some (vb (sm l k)) := by
  have hsl := sm_len hl hk
  intro f
  induction f with
  | zero =>
    intro i hi
    have hz : decide ((i : Int) < 16) = false := decide_eq_false (by omega)
    rw [addr_Common.l0.eq_def, hz, if_neg Bool.false_ne_true, List.drop_eq_nil_of_le (by simp; omega), List.append_nil, List.take_of_length_le (by omega)]
  | succ f ih =>
    intro i hi
    have hz : decide ((i : Int) < 16) = true := decide_eq_true (by omega)
    have hx : l[i]? = some l[i] := List.getElem?_eq_getElem (by omega)
    have hy : k[i]? = some k[i] := List.getElem?_eq_getElem (by omega)
    generalize l[i] = x at hx
    generalize k[i] = y at hy
    have hg : (0 : Int) ≤ (i : Int) ∧ (i : Int) < 16 := by omega
    have hA : ((sm l k).take i ++ (List.replicate 16 (0 : UInt8)).drop i).length = 16 := by simp; omega
    have hstep := set_step (sm l k) (List.replicate 16 (0 : UInt8)) i (sameB x y) (by simp; omega) (sm_get hx hy)
    rw [addr_Common.l0.eq_def, hz, if_pos rfl, if_pos hg, if_pos hg, if_pos hg]
    show addr_Common.l0 (mkA V l) (mkA W k) (wr .i64 ((i : Int) + 1)) (vset _ (i : Int) (ixor .u8 (IntKind.max .u8) (ixor .u8 (vget (vb l) (i : Int)) (vget (vb k) (i : Int))))) = _
    rw [vget_vb hl i (by omega), vget_vb hk i (by omega), bg_get hx, bg_get hy, sameB_code, vset_vb hA, hstep, wr_i64 (by omega) (by omega), show ((i : Int) + 1) = ((i + 1 : Nat) : Int) by omega]
    exact ih (i + 1) (by omega)
theorem ones_l1 {l k : List UInt8} (hl : l.length = 16) (hk : k.length = 16) (n q : Nat) (hq : q < n) (hn : n ≤ 16) : ∀ (f j : Nat), j + f = 8 →
    endian_Ones.l1 (ob ((sm l k).take n)) (q : Int) ((8 * q + j : Nat) : Int) (7 - (j : Int)) =
      some (if fd (alikeB l k) f (8 * q + j) < 8 * q + 8 then .ret ((fd (alikeB l k) f (8 * q + j) : Nat) : Int) else .nx ((8 * q + 8 : Nat) : Int)) := by
  have hx : l[q]? = some l[q] := List.getElem?_eq_getElem (by omega)
  have hy : k[q]? = some k[q] := List.getElem?_eq_getElem (by omega)
  generalize l[q] = x at hx
  generalize k[q] = y at hy
  have hg : lget (ob ((sm l k).take n)) (q : Int) = ((sameB x y).toNat : Int) := lget_ob _ q _ (by rw [List.getElem?_take, if_pos hq]; exact sm_get hx hy)
  intro f
  induction f with
  | zero =>
    intro j hj
    have hz : decide ((7 : Int) - (j : Int) ≥ 0) = false := decide_eq_false (by omega)
    rw [endian_Ones.l1.eq_def, hz, if_neg Bool.false_ne_true]
    unfold fd
    rw [if_neg (by omega), show 8 * q + j = 8 * q + 8 by omega]
  | succ f ih =>
    intro j hj
    have hz : decide ((7 : Int) - (j : Int) ≥ 0) = true := decide_eq_true (by omega)
    have e7 : wr .u64 (7 - (j : Int)) = ((7 - j : Nat) : Int) := by rw [wr_u64 (by omega) (by omega)]; omega
    have hle : (sameB x y).toNat / 2 ^ (7 - j) < 256 := Nat.lt_of_le_of_lt (Nat.div_le_self _ _) (sameB x y).toNat_lt
    have hcond : iand .u8 (ishr .u8 ((sameB x y).toNat : Int) ((7 - j : Nat) : Int)) 1 = (((sameB x y).toNat / 2 ^ (7 - j) % 2 : Nat) : Int) := by
      rw [ishr_nat .u8 _ _ (by show 7 - j ≤ 8; omega)]
      have := iand_nat .u8 rfl ((sameB x y).toNat / 2 ^ (7 - j)) 1 hle (by decide)
      rw [show ((1 : Nat) : Int) = 1 from rfl] at this
      rw [this, Nat.and_one_is_mod]
    have hbl : bit l (8 * q + j) = x.toNat / 2 ^ (7 - j) % 2 := by
      unfold bit
      rw [show (8 * q + j) / 8 = q by omega, show (8 * q + j) % 8 = j by omega, bg_get hx]
    have hbk : bit k (8 * q + j) = y.toNat / 2 ^ (7 - j) % 2 := by
      unfold bit
      rw [show (8 * q + j) / 8 = q by omega, show (8 * q + j) % 8 = j by omega, bg_get hy]
    have hiff := sameB_bit x y (7 - j) (by omega)
    rw [endian_Ones.l1.eq_def, hz, if_pos rfl, e7, if_pos (by omega), hg, hcond]
    unfold fd
    by_cases h : bit l (8 * q + j) = bit k (8 * q + j)
    · have h1 : ((((sameB x y).toNat / 2 ^ (7 - j) % 2 : Nat) : Int) == 0) = false := by
        rw [beq_eq_false_iff_ne]
        intro e
        rw [hbl, hbk] at h
        exact hiff.1 (by omega) h
      have h2 : alikeB l k (8 * q + j) = true := decide_eq_true h
      have e1 : wr .i64 (((8 * q + j : Nat) : Int) + 1) = ((8 * q + (j + 1) : Nat) : Int) := by rw [wr_i64 (by omega) (by omega)]; omega
      have e2 : wr .i64 ((7 : Int) - (j : Int) - 1) = 7 - ((j + 1 : Nat) : Int) := by rw [wr_i64 (by omega) (by omega)]; omega
      rw [h1, if_neg Bool.false_ne_true, h2, if_pos rfl, e1, e2]
      exact ih (j + 1) (by omega)
    · have h1 : ((((sameB x y).toNat / 2 ^ (7 - j) % 2 : Nat) : Int) == 0) = true := by
        rw [beq_iff_eq]
        rw [hbl, hbk] at h
        have := hiff.2 h
        omega
      have h2 : alikeB l k (8 * q + j) = false := decide_eq_false h
      rw [h1, if_pos rfl, h2, if_neg Bool.false_ne_true, if_pos (by omega)]
theorem ones_l0 {l k : List UInt8} (hl : l.length = 16) (hk : k.length = 16) (n : Nat) (hn : n ≤ 16) : ∀ (f q : Nat), q + f = n →
    endian_Ones.l0 (ob ((sm l k).take n)) ((8 * q : Nat) : Int) (q : Int) =
      some (if fd (alikeB l k) (8 * f) (8 * q) < 8 * n then .ret ((fd (alikeB l k) (8 * f) (8 * q) : Nat) : Int) else .nx ((8 * n : Nat) : Int)) := by
  have hlen : (ob ((sm l k).take n)).length = n := by rw [ob_length]; have := sm_len hl hk; simp; omega
  intro f
  induction f with
  | zero =>
    intro q hq
    rw [endian_Ones.l0.eq_def, hlen, if_neg (by rw [decide_eq_true_eq]; omega), Nat.mul_zero]
    unfold fd
    rw [if_neg (by omega), show 8 * q = 8 * n by omega]
  | succ f ih =>
    intro q hq
    have h1 := ones_l1 hl hk n q (by omega) hn 8 0 rfl
    rw [Nat.add_zero, show (7 : Int) - ((0 : Nat) : Int) = 7 from rfl] at h1
    rw [endian_Ones.l0.eq_def, hlen, if_pos (decide_eq_true (by omega)), if_pos (by omega), h1, bindM_some]
    rw [show 8 * (f + 1) = 8 + 8 * f by omega, fd_split]
    by_cases h : fd (alikeB l k) 8 (8 * q) < 8 * q + 8
    · rw [if_pos h, if_pos h, if_pos (by omega)]
    · rw [if_neg h, if_neg h]
      show endian_Ones.l0 _ _ (wr .i64 ((q : Int) + 1)) = _
      rw [wr_i64 (by omega) (by omega), show ((q : Int) + 1) = ((q + 1 : Nat) : Int) by omega, show 8 * q + 8 = 8 * (q + 1) by omega]
      exact ih (q + 1) (by omega)
def commonL (V : Int) (l : List UInt8) (W : Int) (k : List UInt8) : Int :=
  if rightL V l = true ∧ rightL W k = true ∧ V = W then ((fd (alikeB l k) (widthL V l) 0 : Nat) : Int) else -1
theorem width_cases {V : Int} {l : List UInt8} (h : rightL V l = true) : widthL V l = 32 ∨ widthL V l = 128 := by
  unfold widthL; rw [if_pos h]; split
  · exact .inl rfl
  · exact .inr rfl
theorem common_code {V W : Int} {l k : List UInt8} (hl : l.length = 16) (hk : k.length = 16) : addr_Common (mkA V l) (mkA W k) = some (commonL V l W k) := by
  unfold addr_Common commonL
  rw [right_code hl, bindM_some]
  cases hr : rightL V l
  · show some (-1 : Int) = _
    rw [if_neg (by simp)]
  · show (addr_Right (mkA W k) >>= fun t5 => _) = _
    rw [right_code hk, bindM_some]
    cases hs : rightL W k
    · show some (-1 : Int) = _
      rw [if_neg (by simp)]
    · show (if (V != W) = true then _ else _) = _
      by_cases hv : V = W
      · subst hv
        have hne : (V != V) = false := by simp
        have h0 := common_loop (V := V) (W := V) hl hk 16 0 rfl
        rw [List.take_zero, List.nil_append, List.drop_zero, show ((0 : Nat) : Int) = 0 from rfl, ← zero_vb] at h0
        rw [hne, if_neg Bool.false_ne_true, h0, bindM_some, width_code hl, bindM_some]
        have hw := width_cases hr
        have hd : wr .i64 (Int.tdiv ((widthL V l : Nat) : Int) 8) = ((widthL V l / 8 : Nat) : Int) := by
          have : Int.tdiv ((widthL V l : Nat) : Int) 8 = ((widthL V l / 8 : Nat) : Int) := by rw [Int.tdiv_eq_ediv_of_nonneg (by omega)]; omega
          rw [this, wr_i64 (by omega) (by omega)]
        rw [hd, if_pos (by omega), if_pos ⟨rfl, rfl, rfl⟩, vb_toList (sm_len hl hk), lsub_ob]
        unfold endian_Ones
        have h1 := ones_l0 hl hk (widthL V l / 8) (by omega) (widthL V l / 8) 0 (by omega)
        rw [Nat.mul_zero, show ((0 : Nat) : Int) = 0 from rfl, show 8 * (widthL V l / 8) = widthL V l by omega] at h1
        have hle := fd_le (alikeB l k) (widthL V l) 0
        rw [h1, bindM_some]
        by_cases h : fd (alikeB l k) (widthL V l) 0 < widthL V l
        · rw [if_pos h]; rfl
        · rw [if_neg h]
          show some _ = some _
          congr 2; omega
      · have hne : (V != W) = true := by simpa using hv
        rw [hne, if_pos rfl, if_neg (fun h => hv h.2.2)]
theorem common_ref {V W : Int} {l k : List UInt8} (hl : l.length = 16) (hk : k.length = 16) : crawlwayref10_Common (mkA V l) (mkA W k) = some (commonL V l W k) := by
  unfold crawlwayref10_Common commonL
  rw [right_ref hl, bindM_some]
  cases hr : rightL V l
  · show some (-1 : Int) = _
    rw [if_neg (by simp)]
  · show (crawlwayref10_Right (mkA W k) >>= fun t5 => _) = _
    rw [right_ref hk, bindM_some]
    cases hs : rightL W k
    · show some (-1 : Int) = _
      rw [if_neg (by simp)]
    · show (if (V != W) = true then _ else _) = _
      by_cases hv : V = W
      · subst hv
        have hne : (V != V) = false := by simp
        rw [hne, if_neg Bool.false_ne_true, width_ref hl, bindM_some]
        have h1 := refCommon_loop (V := V) (W := V) hl hk (widthL V l) width_le (widthL V l) 0 (by omega)
        rw [show ((0 : Nat) : Int) = 0 from rfl] at h1
        rw [h1, bindM_some, if_pos ⟨rfl, rfl, rfl⟩]
      · have hne : (V != W) = true := by simpa using hv
        rw [hne, if_pos rfl, if_neg (fun h => hv h.2.2)]

/-! ### order -/
def lessL : List UInt8 → List UInt8 → Bool
  | x :: a, y :: b => if x ≠ y then decide (x < y) else lessL a b
  | _, _ => false
theorem less_cmp : ∀ (a b : List UInt8), a.length = b.length → decide (Lib.compareBytes a b < 0) = lessL a b
  | [], [], _ => rfl
  | [], _ :: _, h => by simp at h
  | _ :: _, [], h => by simp at h
  | x :: a, y :: b, h => by
    unfold Lib.compareBytes lessL
    by_cases hxy : x = y
    · subst hxy
      have : ¬ x < x := UInt8.lt_irrefl x
      simp only [this, if_false, ne_eq, not_true_eq_false]
      exact less_cmp a b (by simpa using h)
    · by_cases hlt : x < y
      · simp [hxy, hlt]
      · have : y < x := UInt8.lt_of_le_of_ne (UInt8.not_lt.1 hlt) (Ne.symm hxy)
        simp [hxy, hlt, this]
theorem unb_ob (l : List UInt8) : unb (ob l) = l := by
  unfold unb ob
  rw [List.map_map]
  conv => rhs; rw [← List.map_id l]
  apply List.map_congr_left
  intro b _
  show UInt8.ofNat ((b.toNat : Int).toNat) = b
  rw [Int.toNat_natCast]; exact UInt8.ofNat_toNat
def lessA (V : Int) (l : List UInt8) (W : Int) (k : List UInt8) : Bool := if V = W then lessL l k else decide (V < W)
theorem less_code {V W : Int} {l k : List UInt8} (hl : l.length = 16) (hk : k.length = 16) : addr_Less (mkA V l) (mkA W k) = some (lessA V l W k) := by
  unfold addr_Less lessA
  show (if (V != W) = true then some (decide (V < W)) else (bytes_Compare (vb l).toList (vb k).toList >>= fun t4 => some (decide (t4 < 0)))) = _
  by_cases h : V = W
  · have hne : (V != W) = false := by simpa using h
    rw [hne, if_neg Bool.false_ne_true, if_pos h]
    unfold bytes_Compare
    rw [bindM_some, vb_toList hl, vb_toList hk, unb_ob, unb_ob, less_cmp l k (by omega)]
  · have hne : (V != W) = true := by simpa using h
    rw [hne, if_pos rfl, if_neg h]
theorem refLess_loop {V W : Int} {l k : List UInt8} (hl : l.length = 16) (hk : k.length = 16) (f : Nat) : ∀ i : Nat, i + f = 16 →
    ∃ q, crawlwayref10_Less.l0 (mkA V l) (mkA W k) i = some q ∧ (match q with | .ret r => r = lessL (l.drop i) (k.drop i) | .nx _ => lessL (l.drop i) (k.drop i) = false) := by
  induction f with
  | zero =>
    intro i hi
    have hz : decide ((i : Int) < 16) = false := decide_eq_false (by omega)
    rw [crawlwayref10_Less.l0.eq_def, hz]
    refine ⟨_, rfl, ?_⟩
    rw [List.drop_eq_nil_of_le (by omega)]; rfl
  | succ f ih =>
    intro i hi
    have hz : decide ((i : Int) < 16) = true := decide_eq_true (by omega)
    obtain ⟨x, hx, hdx⟩ := drop_get l i (by omega)
    obtain ⟨y, hy, hdy⟩ := drop_get k i (by omega)
    have hg : (0 : Int) ≤ (i : Int) ∧ (i : Int) < 16 := by omega
    have ex : vget (mkA V l).f_B (i : Int) = x.toNat := by show vget (vb l) (i : Int) = _; rw [vget_vb hl i (by omega), bg_get hx]
    have ey : vget (mkA W k).f_B (i : Int) = y.toNat := by show vget (vb k) (i : Int) = _; rw [vget_vb hk i (by omega), bg_get hy]
    rw [crawlwayref10_Less.l0.eq_def, hz, if_pos rfl, if_pos hg, if_pos hg, ex, ey, hdx, hdy]
    unfold lessL
    by_cases hxy : x = y
    · subst hxy
      have h1 : ((x.toNat : Int) != (x.toNat : Int)) = false := by simp
      obtain ⟨q, hq, hm⟩ := ih (i + 1) (by omega)
      rw [h1, if_neg Bool.false_ne_true, wr_i64 (by omega) (by omega), show ((i : Int) + 1) = ((i + 1 : Nat) : Int) by omega]
      refine ⟨q, hq, ?_⟩
      rw [if_neg (by simp)]
      exact hm
    · have hne : x.toNat ≠ y.toNat := fun e => hxy (UInt8.toNat.inj e)
      have h1 : ((x.toNat : Int) != (y.toNat : Int)) = true := by rw [bne_iff_ne]; omega
      rw [h1, if_pos rfl, if_pos hg, if_pos hg]
      refine ⟨_, rfl, ?_⟩
      show decide ((x.toNat : Int) < (y.toNat : Int)) = _
      rw [if_pos hxy, Bool.eq_iff_iff, decide_eq_true_eq, decide_eq_true_eq, UInt8.lt_iff_toNat_lt]
      omega
theorem less_ref {V W : Int} {l k : List UInt8} (hl : l.length = 16) (hk : k.length = 16) : crawlwayref10_Less (mkA V l) (mkA W k) = some (lessA V l W k) := by
  unfold crawlwayref10_Less lessA
  show (if (V != W) = true then some (decide (V < W)) else _) = _
  by_cases h : V = W
  · have hne : (V != W) = false := by simpa using h
    obtain ⟨q, hq, hm⟩ := refLess_loop (V := V) (W := W) hl hk 16 0 rfl
    rw [show ((0 : Nat) : Int) = 0 from rfl] at hq
    rw [hne, if_neg Bool.false_ne_true, if_pos h, hq, bindM_some]
    rw [List.drop_zero, List.drop_zero] at hm
    cases q with
    | ret r => show some r = _; rw [show r = _ from hm]
    | nx u => show some false = _; rw [show lessL l k = false from hm]
  · have hne : (V != W) = true := by simpa using h
    rw [hne, if_pos rfl, if_neg h]

/-! ### masked to what both have -/
theorem mb_alike (x y : UInt8) : ∀ (k : Nat), k ≤ 8 → (∀ j, j < k → x.toNat / 2 ^ (7 - j) % 2 = y.toNat / 2 ^ (7 - j) % 2) → mb x k = mb y k
  | 0, _, _ => by rw [mb_zero, mb_zero]
  | k + 1, hk, h => by
    apply UInt8.toNat.inj
    rw [mb_step x k (by omega), mb_step y k (by omega), mb_alike x y k (by omega) (fun j hj => h j (by omega)), h k (by omega)]
theorem mfull_alike {l k : List UInt8} (hl : l.length = 16) (hk : k.length = 16) (c : Nat) (hc : c ≤ 128) (h : ∀ j, j < c → bit l j = bit k j) : mfull l (c : Int) = mfull k (c : Int) := by
  apply List.ext_getElem?
  intro j
  rw [mfull_get, mfull_get]
  by_cases hj : j < 16
  · have hx : l[j]? = some l[j] := List.getElem?_eq_getElem (by omega)
    have hy : k[j]? = some k[j] := List.getElem?_eq_getElem (by omega)
    generalize l[j] = x at hx
    generalize k[j] = y at hy
    rw [hx, hy]
    show some _ = some _
    congr 1
    refine mb_alike x y _ (lft_le _ _) fun i hi => ?_
    have hlt : i < 8 := by have := lft_le (c : Int) j; omega
    have hb := h (8 * j + i) (by unfold lft at hi; omega)
    unfold bit at hb
    rw [show (8 * j + i) / 8 = j by omega, show (8 * j + i) % 8 = i by omega, bg_get hx, bg_get hy] at hb
    exact hb
  · rw [List.getElem?_eq_none (by omega), List.getElem?_eq_none (by omega)]

/-! ### texts of four bytes -/
theorem q_size (n : Nat) (h : n < 256) : (fmtU (n : Int)).size ≤ 3 := by
  have key : ∀ n : Nat, n < 256 → (Lib.decDigits n).length ≤ 3 := by
    intro n hn
    by_cases h1 : n < 10
    · rw [decDigits_small h1]; simp
    · rw [decDigits_big h1, List.length_append]
      by_cases h2 : n / 10 < 10
      · rw [decDigits_small h2]; simp
      · rw [decDigits_big h2, decDigits_small (by omega), List.length_append]; simp
  have := key n h
  show (fmtU (n : Int)).data.size ≤ 3
  have e : (fmtU (n : Int)).data.size = (Lib.decDigits n).length := by simp [fmtU]
  omega
def qT (m : List UInt8) : List ByteArray := m.map fun b => fmtU (b.toNat : Int)
def v4 (m : List UInt8) : Vector Int 4 := lvec 4 (ob m)
theorem v4_of {v : Vector Int 4} {m : List UInt8} (h : v.toList = ob m) : v = v4 m := by
  have hl : m.length = 4 := by have := congrArg List.length h; rw [ob_length] at this; simpa using this.symm
  apply Vector.toList_inj.1
  unfold v4
  rw [lvec_toList 4 _ (by rw [ob_length]; omega), List.take_of_length_le (by rw [ob_length]; omega), h]
theorem v4_toList {m : List UInt8} (hm : m.length = 4) : (v4 m).toList = ob m := by
  unfold v4
  rw [lvec_toList 4 _ (by rw [ob_length]; omega), List.take_of_length_le (by rw [ob_length]; omega)]
theorem vget_v4 {m : List UInt8} (hm : m.length = 4) (i : Nat) (c : UInt8) (hc : m[i]? = some c) : vget (v4 m) (i : Int) = (c.toNat : Int) := by
  unfold vget
  rw [v4_toList hm, Int.toNat_natCast, List.getD_eq_getElem?_getD]
  unfold ob
  rw [List.getElem?_map, hc]; rfl
def vs4 (xs : List ByteArray) : Vector ByteArray 4 := lvec 4 xs
theorem vs4_toList {xs : List ByteArray} (h : xs.length = 4) : (vs4 xs).toList = xs := by
  unfold vs4
  rw [lvec_toList 4 _ (by omega), List.take_of_length_le (by omega)]
theorem vset_vs4 {xs : List ByteArray} (h : xs.length = 4) (i : Nat) (t : ByteArray) : vset (vs4 xs) (i : Int) t = vs4 (xs.set i t) := by
  apply Vector.toList_inj.1
  rw [vset_toList, vs4_toList h, vs4_toList (by simpa using h), Int.toNat_natCast]
theorem quad_loop {m : List UInt8} (hm : m.length = 4) : ∀ (k i : Nat), i + k = 4 →
    quad_Text.l0 (v4 m) (i : Int) (vs4 ((qT m).take i ++ (List.replicate 4 (⟨#[]⟩ : ByteArray)).drop i)) = some (vs4 (qT m)) := by
  have hql : (qT m).length = 4 := by simp [qT, hm]
  intro k
  induction k with
  | zero =>
    intro i hi
    have hz : decide ((i : Int) < 4) = false := decide_eq_false (by omega)
    rw [quad_Text.l0.eq_def, hz, if_neg Bool.false_ne_true, List.drop_eq_nil_of_le (by simp; omega), List.append_nil, List.take_of_length_le (by omega)]
  | succ k ih =>
    intro i hi
    have hz : decide ((i : Int) < 4) = true := decide_eq_true (by omega)
    have hc : m[i]? = some m[i] := List.getElem?_eq_getElem (by omega)
    generalize m[i] = c at hc
    have hcl := c.toNat_lt
    have hg : (0 : Int) ≤ (i : Int) ∧ (i : Int) < 4 := by omega
    have hA : ((qT m).take i ++ (List.replicate 4 (⟨#[]⟩ : ByteArray)).drop i).length = 4 := by simp; omega
    have hstep := set_step (qT m) (List.replicate 4 (⟨#[]⟩ : ByteArray)) i (fmtU (c.toNat : Int)) (by simp; omega) (by unfold qT; rw [List.getElem?_map, hc]; rfl)
    have ht : decimal_Text (c.toNat : Int) = some (fmtU (c.toNat : Int)) := by unfold decimal_Text; rw [if_pos (by omega)]
    rw [quad_Text.l0.eq_def, hz, if_pos rfl, if_pos hg, vget_v4 hm i c hc, wr_u64 (by omega) (by omega), ht, bindM_some, if_pos hg, vset_vs4 hA, hstep, wr_i64 (by omega) (by omega), show ((i : Int) + 1) = ((i + 1 : Nat) : Int) by omega]
    exact ih (i + 1) (by omega)
theorem bjoin_four (a b c d s : ByteArray) : bjoin [a, b, c, d] s = a ++ s ++ b ++ s ++ c ++ s ++ d := by
  cases a with | mk a => cases b with | mk b => cases c with | mk c => cases d with | mk d => cases s with | mk s =>
  unfold bjoin Lib.join
  apply ByteArray.ext
  show _ = _
  simp [ByteArray.data_append, List.intercalate, List.intersperse]
theorem quad_text {m : List UInt8} (hm : m.length = 4) : quad_Text (v4 m) = some (bjoin (qT m) ⟨#[46]⟩) := by
  have hql : (qT m).length = 4 := by simp [qT, hm]
  unfold quad_Text
  have h := quad_loop hm 4 0 rfl
  rw [List.take_zero, List.nil_append, List.drop_zero, show ((0 : Nat) : Int) = 0 from rfl] at h
  have hz : (Vector.replicate 4 (⟨#[]⟩ : ByteArray) : Vector ByteArray 4) = vs4 (List.replicate 4 (⟨#[]⟩ : ByteArray)) := by
    apply Vector.toList_inj.1; rw [vs4_toList (by simp)]; rfl
  rw [hz, h, bindM_some, vs4_toList hql, if_pos (by omega), if_pos]
  -- its size
  match m, hm with
  | [a, b, c, d], _ =>
    show (bjoin [fmtU (a.toNat : Int), fmtU (b.toNat : Int), fmtU (c.toNat : Int), fmtU (d.toNat : Int)] ⟨#[46]⟩).size ≤ _
    rw [bjoin_four]
    have h1 := q_size a.toNat a.toNat_lt
    have h2 := q_size b.toNat b.toNat_lt
    have h3 := q_size c.toNat c.toNat_lt
    have h4 := q_size d.toNat d.toNat_lt
    have hs : (⟨#[46]⟩ : ByteArray).size = 1 := rfl
    simp only [ByteArray.size_append]
    omega

/-! ### the laws -/
theorem rep4 (a b c d : UInt8) : (vset (vset (vset (vset (Vector.replicate 4 (0 : Int) : (Vector Int 4)) 0 (a.toNat : Int)) 1 (b.toNat : Int)) 2 (c.toNat : Int)) 3 (d.toNat : Int)).toList = ob [a, b, c, d] := by
  simp only [vset_toList]; rfl
theorem alive10 : crawlwaylaw10_alive = some true := by
  unfold crawlwaylaw10_alive
  have f1 := four_eq _ _ (rep4 10 1 2 3)
  have f2 : addr_Four (vset (Vector.replicate 4 (0 : Int) : (Vector Int 4)) 0 10) = some (mkA 4 (fourL [10, 0, 0, 0])) := four_eq _ [10, 0, 0, 0] (by rw [vset_toList]; rfl)
  have f3 := four_eq _ _ (rep4 10 0 0 1)
  have f4 := four_eq _ _ (rep4 10 0 0 2)
  have m1 := mask_code (V := 4) (bits := 9) (l := fourL [10, 1, 2, 3]) rfl (by omega)
  have e1 : maskA 4 (fourL [10, 1, 2, 3]) 9 = mkA 4 (fourL [10, 0, 0, 0]) := by
    unfold maskA
    rw [if_pos (by decide +kernel)]
    exact congrArg (mkA 4) (by decide +kernel)
  rw [e1] at m1
  have c1 := common_code (V := 4) (W := 4) (l := fourL [10, 0, 0, 1]) (k := fourL [10, 0, 0, 2]) rfl rfl
  have e2 : commonL 4 (fourL [10, 0, 0, 1]) 4 (fourL [10, 0, 0, 2]) = 30 := by decide +kernel
  rw [e2] at c1
  have t1 : addr_Text (mkA 4 (fourL [10, 1, 2, 3])) = some (⟨#[49, 48, 46, 49, 46, 50, 46, 51]⟩ : ByteArray) := by
    have hR := right_code (V := 4) (l := fourL [10, 1, 2, 3]) rfl
    rw [show rightL 4 (fourL [10, 1, 2, 3]) = true from by decide +kernel] at hR
    unfold addr_Text
    rw [hR, bindM_some]
    rw [if_neg (by decide), if_pos (by rfl)]
    show (if 4 ≤ (lsub (vb (fourL [10, 1, 2, 3])).toList 0 4).length then (quad_Text (lvec 4 (lsub (vb (fourL [10, 1, 2, 3])).toList 0 4)) >>= fun t9 => some t9) else none) = _
    rw [if_pos (take4_len rfl), v4_of (take4 (l := fourL [10, 1, 2, 3]) rfl)]
    have := quad_text (m := [10, 1, 2, 3]) rfl
    rw [show (fourL [10, 1, 2, 3]).take 4 = [10, 1, 2, 3] from rfl, this, bindM_some]
    refine congrArg some ?_
    show bjoin [fmtU ((10 : Nat) : Int), fmtU ((1 : Nat) : Int), fmtU ((2 : Nat) : Int), fmtU ((3 : Nat) : Int)] ⟨#[46]⟩ = _
    have g10 : fmtU ((10 : Nat) : Int) = ⟨#[49, 48]⟩ := by unfold fmtU; rw [Int.toNat_natCast, decDigits_big (by decide), decDigits_small (by decide)]; rfl
    have g1 : fmtU ((1 : Nat) : Int) = ⟨#[49]⟩ := by unfold fmtU; rw [Int.toNat_natCast, decDigits_small (by decide)]; rfl
    have g2 : fmtU ((2 : Nat) : Int) = ⟨#[50]⟩ := by unfold fmtU; rw [Int.toNat_natCast, decDigits_small (by decide)]; rfl
    have g3 : fmtU ((3 : Nat) : Int) = ⟨#[51]⟩ := by unfold fmtU; rw [Int.toNat_natCast, decDigits_small (by decide)]; rfl
    rw [g10, g1, g2, g3, bjoin_four]; rfl
  have n10 : ((10 : UInt8).toNat : Int) = 10 := rfl
  have n0 : ((0 : UInt8).toNat : Int) = 0 := rfl
  have n1 : ((1 : UInt8).toNat : Int) = 1 := rfl
  have n2 : ((2 : UInt8).toNat : Int) = 2 := rfl
  have n3 : ((3 : UInt8).toNat : Int) = 3 := rfl
  rw [n10, n1, n2, n3] at f1
  rw [n10, n0, n1] at f3
  rw [n10, n0, n2] at f4
  rw [f1, bindM_some, m1, bindM_some, f2, bindM_some, if_pos (decide_eq_true rfl), f3, bindM_some, f4, bindM_some, c1, bindM_some, if_pos (by rfl), t1, bindM_some, seq_self]
theorem alive_then : (crawlwaylaw10_alive >>= fun t => some t) = some true := by rw [alive10]; rfl
theorem wf_i64 {n : Int} (h : (Lit.int .i64 n).wf = true) : -9223372036854775808 ≤ n ∧ n < 9223372036854775808 := by
  simp [Lit.wf, IntKind.min, IntKind.max, IntKind.signed, IntKind.bits] at h
  omega
theorem AddrBits_pure (a0 : S_api_Addr) (w0 : ok_api_Addr a0) (a1 : Int) (w1 : (Lit.int .i64 a1).wf = true) : crawlwaylaw10_AddrBits a0 a1 = some true := by
  obtain ⟨V, l, rfl, hl, hV⟩ := exists_mkA a0 w0
  have hb := wf_i64 w1
  unfold crawlwaylaw10_AddrBits
  rw [mask_code hl hb, bindM_some, bit_code hl hb, bindM_some, bit_ref hl hb, bindM_some, if_pos (beq_self_eq_true _), mask_ref hl, bindM_some, if_pos (decide_eq_true rfl), mask_again hl hb, bindM_some, if_pos (decide_eq_true rfl)]
  exact alive_then
theorem AddrKinds_pure (a0 : S_api_Addr) (w0 : ok_api_Addr a0) : crawlwaylaw10_AddrKinds a0 = some true := by
  obtain ⟨V, l, rfl, hl, hV⟩ := exists_mkA a0 w0
  have hU : crawlwayref10_Unspecified (mkA V l) = addr_Unspecified (mkA V l) := by
    unfold crawlwayref10_Unspecified addr_Unspecified
    rw [right_ref hl, right_code hl]
  have hv0 : vget (vb l) 0 = (bg l 0 : Int) := vget_vb hl 0 (by omega)
  have hb := bg_lt l 0
  have hM : ∃ b, addr_Multicast (mkA V l) = some b ∧ crawlwayref10_Multicast (mkA V l) = some b := by
    unfold addr_Multicast crawlwayref10_Multicast
    rw [right_code hl, right_ref hl]
    show ∃ b, ((some (rightL V l) : Option Bool) >>= fun t2 => if (!t2) = true then some false else (if (V == 4) = true then some (ishr .u8 (vget (vb l) 0) 4 == 14) else some (vget (vb l) 0 == 255))) = some b ∧
      (if (V == 6) = true then some (vget (vb l) 0 == 255) else ((some (rightL V l) : Option Bool) >>= fun t3 => if t3 = true then (if decide (vget (vb l) 0 ≥ 224) = true then some (decide (vget (vb l) 0 ≤ 239)) else some false) else some false)) = some b
    rw [bindM_some, bindM_some, hv0]
    cases hr : rightL V l
    · have h6 : (V == 6) = false := by
        unfold rightL at hr
        cases h : (V == 6)
        · rfl
        · rw [h] at hr; cases hr
      exact ⟨false, rfl, by rw [h6]; rfl⟩
    · rcases right_cases hr with h6 | ⟨h4, _⟩
      · subst h6; exact ⟨_, rfl, rfl⟩
      · subst h4
        have e : ishr .u8 ((bg l 0 : Nat) : Int) 4 = ((bg l 0 / 16 : Nat) : Int) := ishr_nat .u8 _ 4 (by decide)
        refine ⟨decide (bg l 0 / 16 = 14), ?_, ?_⟩
        · show some (ishr .u8 ((bg l 0 : Nat) : Int) 4 == 14) = _
          rw [e]
          congr 1
          rw [Bool.eq_iff_iff, beq_iff_eq, decide_eq_true_eq]; omega
        · show (if decide (((bg l 0 : Nat) : Int) ≥ 224) = true then some (decide (((bg l 0 : Nat) : Int) ≤ 239)) else some false) = _
          by_cases h1 : bg l 0 ≥ 224
          · rw [if_pos (decide_eq_true (by omega))]
            congr 1
            rw [Bool.eq_iff_iff, decide_eq_true_eq, decide_eq_true_eq]; omega
          · rw [if_neg (by rw [decide_eq_true_eq]; omega)]
            congr 1
            symm
            exact decide_eq_false (by omega)
  have hU2 : ∃ b, addr_Unspecified (mkA V l) = some b := by
    unfold addr_Unspecified
    rw [right_code hl, bindM_some]
    cases rightL V l
    · exact ⟨_, rfl⟩
    · exact ⟨_, rfl⟩
  obtain ⟨u, hu⟩ := hU2
  obtain ⟨b, hb1, hb2⟩ := hM
  unfold crawlwaylaw10_AddrKinds
  rw [hU, hu, bindM_some, bindM_some, if_pos (beq_self_eq_true _), hb1, bindM_some, hb2, bindM_some, if_pos (beq_self_eq_true _)]
  exact alive_then
theorem AddrPairs_pure (a0 : S_api_Addr) (w0 : ok_api_Addr a0) (a1 : S_api_Addr) (w1 : ok_api_Addr a1) : crawlwaylaw10_AddrPairs a0 a1 = some true := by
  obtain ⟨V, l, rfl, hl, hV⟩ := exists_mkA a0 w0
  obtain ⟨W, k, rfl, hk, hW⟩ := exists_mkA a1 w1
  unfold crawlwaylaw10_AddrPairs
  rw [common_code hl hk, bindM_some, common_ref hl hk, bindM_some]
  have hne : (commonL V l W k != commonL V l W k) = false := by simp
  rw [hne, if_neg Bool.false_ne_true, right_ref hl, bindM_some]
  cases hr : rightL V l
  · have hc : commonL V l W k = -1 := by unfold commonL; rw [if_neg (by rw [hr]; simp)]
    rw [hc]
    exact alive_then
  · show (crawlwayref10_Right (mkA W k) >>= fun t10 => _) = _
    rw [right_ref hk, bindM_some]
    cases hs : rightL W k
    · have hc : commonL V l W k = -1 := by unfold commonL; rw [if_neg (by rw [hs]; simp)]
      rw [hc]
      exact alive_then
    · show (addr_Less (mkA V l) (mkA W k) >>= fun t14 => _) = _
      have hne2 : (lessA V l W k != lessA V l W k) = false := by simp
      rw [less_code hl hk, bindM_some, less_ref hl hk, bindM_some, hne2, if_neg Bool.false_ne_true]
      by_cases hv : V = W
      · subst hv
        have hw := width_cases hr
        have hc : commonL V l V k = ((fd (alikeB l k) (widthL V l) 0 : Nat) : Int) := by unfold commonL; rw [if_pos ⟨hr, hs, rfl⟩]
        have hle := fd_le (alikeB l k) (widthL V l) 0
        have hall := fd_all (alikeB l k) (widthL V l) 0
        have hstop := fd_stop (alikeB l k) (widthL V l) 0
        rw [hc]
        generalize fd (alikeB l k) (widthL V l) 0 = c at hle hall hstop
        have hcb : -9223372036854775808 ≤ (c : Int) ∧ (c : Int) < 9223372036854775808 := by omega
        have hm : maskA V k (c : Int) = maskA V l (c : Int) := by
          unfold maskA
          rw [if_pos hs, if_pos hr, mfull_alike hl hk c (by omega) fun j hj => of_decide_eq_true (hall j (by omega) hj)]
        rw [if_neg (by rw [decide_eq_true_eq]; omega), mask_code hl hcb, bindM_some, mask_code hk hcb, bindM_some, hm, if_pos (decide_eq_true rfl), width_ref hl, bindM_some]
        by_cases he : c = widthL V l
        · rw [if_pos (by rw [beq_iff_eq]; omega)]
          exact alive_then
        · rw [if_neg (by rw [beq_iff_eq]; omega), bit_code hl hcb, bindM_some, bit_code hk hcb, bindM_some]
          have hwk : widthL V k = widthL V l := by unfold widthL; rw [if_pos hs, if_pos hr]
          have hst := of_decide_eq_false (hstop (by omega))
          have h3 : (0 : Int) ≤ (c : Int) ∧ (c : Int) < (widthL V l : Int) := by omega
          rw [hwk, if_pos h3, if_pos h3, Int.toNat_natCast, if_pos (by rw [bne_iff_ne]; omega)]
          exact alive_then
      · have hc : commonL V l W k = -1 := by unfold commonL; rw [if_neg (fun h => hv h.2.2)]
        rw [hc, if_pos (by decide)]
        exact alive_then
end Go.Proofs.YtecolkjlpklaaaaDoor.Adr
