/- Trees of bits: what is put, taken out, cut off, and the list of what is in one, in order. -/
import Derived.Test.YthccncpephpdjaaTriB
set_option linter.unusedVariables false
set_option linter.unusedSimpArgs false
namespace Go.Proofs.Ythccncpephpdjaa.Tri
open E Go.RowKit
open Adr Cid

/-! ### bits -/
def sbb (b : UInt8) (k : Nat) : UInt8 := UInt8.ofNat (b.toNat ||| 128 / 2 ^ k)
theorem sbb_fin : ∀ (b : Fin 256) (k : Fin 8), (b.val ||| 128 / 2 ^ k.val) < 256 ∧ ∀ j : Fin 8, (b.val ||| 128 / 2 ^ k.val) / 2 ^ (7 - j.val) % 2 = if j = k then 1 else b.val / 2 ^ (7 - j.val) % 2 := by decide +kernel
theorem sbb_toNat (b : UInt8) (k : Nat) (hk : k < 8) : (sbb b k).toNat = (b.toNat ||| 128 / 2 ^ k) := by
  unfold sbb
  rw [UInt8.toNat_ofNat', Nat.mod_eq_of_lt]
  exact (sbb_fin ⟨b.toNat, b.toNat_lt⟩ ⟨k, hk⟩).1
theorem sbb_bit (b : UInt8) (k j : Nat) (hk : k < 8) (hj : j < 8) : (sbb b k).toNat / 2 ^ (7 - j) % 2 = if j = k then 1 else b.toNat / 2 ^ (7 - j) % 2 := by
  rw [sbb_toNat b k hk]
  have := (sbb_fin ⟨b.toNat, b.toNat_lt⟩ ⟨k, hk⟩).2 ⟨j, hj⟩
  simpa using this
def sb (l : List UInt8) (d : Nat) : List UInt8 := l.set (d / 8) (sbb (l.getD (d / 8) 0) (d % 8))
theorem sb_len (l : List UInt8) (d : Nat) : (sb l d).length = l.length := by simp [sb]
theorem bit_sb {l : List UInt8} (hl : l.length = 16) {d : Nat} (hd : d < 128) (i : Nat) : bit (sb l d) i = if i = d then 1 else bit l i := by
  unfold bit bg sb
  by_cases h8 : i / 8 = d / 8
  · have e1 : ((l.set (d / 8) (sbb (l.getD (d / 8) 0) (d % 8))).getD (i / 8) 0) = sbb (l.getD (d / 8) 0) (d % 8) := by
      rw [h8, List.getD_eq_getElem?_getD, List.getElem?_set_self (by omega)]; rfl
    rw [e1, sbb_bit _ _ _ (by omega) (by omega), h8]
    by_cases hi : i = d
    · subst hi; simp
    · rw [if_neg (by omega), if_neg hi]
  · rw [if_neg (by intro e; subst e; exact h8 rfl), List.getD_eq_getElem?_getD, List.getElem?_set_ne (by omega), ← List.getD_eq_getElem?_getD]
theorem mb_eight (b : UInt8) : mb b 8 = b := by
  apply UInt8.toNat_inj.1
  rw [mb_toNat]
  simp; omega
theorem mfull_all {l : List UInt8} (hl : l.length = 16) : mfull l 128 = l := by
  apply List.ext_getElem?
  intro i
  rw [mfull_get]
  cases h : l[i]? with
  | none => rfl
  | some b =>
    have : i < 16 := by rw [← hl]; exact (List.getElem?_eq_some_iff.1 h).1
    have e : lft 128 i = 8 := by unfold lft; omega
    rw [e, Option.map_some, mb_eight]
theorem bits_ext {l k : List UInt8} (hl : l.length = 16) (hk : k.length = 16) (h : ∀ i, i < 128 → bit l i = bit k i) : l = k := by
  have := mfull_alike hl hk 128 (Nat.le_refl _) h
  rw [show ((128 : Nat) : Int) = 128 from rfl] at this
  rwa [mfull_all hl, mfull_all hk] at this
def zl : List UInt8 := List.replicate 16 0
theorem zl_len : zl.length = 16 := by simp [zl]
theorem bit_zl (i : Nat) : bit zl i = 0 := by
  unfold bit bg zl
  have : (List.replicate 16 (0 : UInt8)).getD (i / 8) 0 = 0 := by
    rw [List.getD_eq_getElem?_getD, List.getElem?_replicate]
    split <;> rfl
  rw [this]; simp
/-- The address behind a path. -/
def adrG : List UInt8 → Nat → List Nat → List UInt8
  | l, _, [] => l
  | l, d, b :: p => adrG (if b = 1 then sb l d else l) (d + 1) p
theorem adrG_len : ∀ (p : List Nat) (l : List UInt8) (d : Nat), (adrG l d p).length = l.length
  | [], _, _ => rfl
  | b :: p, l, d => by
    unfold adrG
    rw [adrG_len p]
    split
    · exact sb_len l d
    · rfl
theorem bit_adrG : ∀ (p : List Nat) (l : List UInt8) (d : Nat), l.length = 16 → d + p.length ≤ 128 → (∀ b ∈ p, b < 2) → (∀ i, d ≤ i → bit l i = 0) → ∀ i, bit (adrG l d p) i = if i < d then bit l i else p.getD (i - d) 0
  | [], l, d, _, _, _, h0, i => by
    unfold adrG
    split
    · rfl
    · rw [h0 i (by omega)]; simp
  | b :: p, l, d, hl, hd, hb, h0, i => by
    unfold adrG
    simp only [List.length_cons] at hd
    have hb0 := hb b (List.mem_cons_self ..)
    have e := bit_sb hl (d := d) (by omega)
    rw [bit_adrG p _ (d + 1) (by split; rw [sb_len, hl]; exact hl) (by omega) (fun x hx => hb x (List.mem_cons_of_mem _ hx)) (fun j hj => by
      split
      · rw [e j, if_neg (by omega)]; exact h0 j (by omega)
      · exact h0 j (by omega))]
    by_cases h1 : i < d
    · rw [if_pos (by omega), if_pos h1]
      split
      · rw [e, if_neg (by omega)]
      · rfl
    · rw [if_neg h1]
      by_cases h2 : i = d
      · subst h2
        rw [if_pos (by omega), Nat.sub_self]
        simp only [List.getD_cons_zero]
        split
        · next h => rw [e, if_pos rfl, h]
        · rw [h0 _ (Nat.le_refl _)]; omega
      · rw [if_neg (by omega), show i - d = (i - (d + 1)) + 1 by omega, List.getD_cons_succ]
/-! ### order -/
theorem lessL_at : ∀ (q : Nat) (l k : List UInt8) (x y : UInt8), (∀ i, i < q → l[i]? = k[i]?) → l[q]? = some x → k[q]? = some y → x < y → lessL l k = true
  | 0, l, k, x, y, _, hx, hy, hxy => by
    cases l with
    | nil => simp at hx
    | cons a l =>
      cases k with
      | nil => simp at hy
      | cons b k =>
        simp at hx hy
        subst hx hy
        unfold lessL
        simp [UInt8.ne_of_lt hxy, hxy]
  | q + 1, l, k, x, y, h, hx, hy, hxy => by
    cases l with
    | nil => simp at hx
    | cons a l =>
      cases k with
      | nil => simp at hy
      | cons b k =>
        have e := h 0 (by omega)
        simp at e hx hy
        subst e
        unfold lessL
        simp
        exact lessL_at q l k x y (fun i hi => by have := h (i + 1) (by omega); simpa using this) hx hy hxy
theorem byte_less {x y : UInt8} {m : Nat} (hm : m < 8) (h : ∀ j, j < m → x.toNat / 2 ^ (7 - j) % 2 = y.toNat / 2 ^ (7 - j) % 2) (h0 : x.toNat / 2 ^ (7 - m) % 2 = 0) (h1 : y.toNat / 2 ^ (7 - m) % 2 = 1) : x < y := by
  have e := congrArg UInt8.toNat (mb_alike x y m (by omega) h)
  rw [mb_toNat, mb_toNat] at e
  have hx := x.toNat_lt
  have hy := y.toNat_lt
  show x.toNat < y.toNat
  have : m = 0 ∨ m = 1 ∨ m = 2 ∨ m = 3 ∨ m = 4 ∨ m = 5 ∨ m = 6 ∨ m = 7 := by omega
  rcases this with rfl | rfl | rfl | rfl | rfl | rfl | rfl | rfl <;> simp at e h0 h1 <;> omega
theorem less_bits {l k : List UInt8} (hl : l.length = 16) (hk : k.length = 16) {d : Nat} (hd : d < 128) (h : ∀ i, i < d → bit l i = bit k i) (h0 : bit l d = 0) (h1 : bit k d = 1) : lessL l k = true := by
  have gl : ∀ q, q < 16 → l[q]? = some (l.getD q 0) := fun q hq => by rw [List.getD_eq_getElem?_getD, List.getElem?_eq_getElem (by omega)]; rfl
  have gk : ∀ q, q < 16 → k[q]? = some (k.getD q 0) := fun q hq => by rw [List.getD_eq_getElem?_getD, List.getElem?_eq_getElem (by omega)]; rfl
  refine lessL_at (d / 8) l k _ _ (fun q hq => ?_) (gl _ (by omega)) (gk _ (by omega)) (byte_less (m := d % 8) (by omega) (fun j hj => ?_) h0 h1)
  · rw [gl q (by omega), gk q (by omega)]
    have e := mb_alike (l.getD q 0) (k.getD q 0) 8 (by omega) fun j hj => by
      have := h (8 * q + j) (by omega)
      unfold bit bg at this
      rwa [show (8 * q + j) / 8 = q by omega, show (8 * q + j) % 8 = j by omega] at this
    rw [mb_eight, mb_eight] at e
    rw [e]
  · have := h (8 * (d / 8) + j) (by omega)
    unfold bit bg at this
    rwa [show (8 * (d / 8) + j) / 8 = d / 8 by omega, show (8 * (d / 8) + j) % 8 = j by omega] at this
theorem lessL_cons (x y : UInt8) (l k : List UInt8) : lessL (x :: l) (y :: k) = if x = y then lessL l k else decide (x < y) := by
  show (if x ≠ y then decide (x < y) else lessL l k) = _
  by_cases e : x = y <;> simp [e]
theorem lessL_irr : ∀ (l : List UInt8), lessL l l = false
  | [] => rfl
  | x :: l => by unfold lessL; simp [lessL_irr l]
theorem lessL_asym : ∀ (l k : List UInt8), lessL l k = true → lessL k l = false
  | [], [], h => by simp [lessL] at h
  | [], _ :: _, h => by simp [lessL] at h
  | _ :: _, [], h => by simp [lessL] at h
  | x :: l, y :: k, h => by
    rw [lessL_cons] at h ⊢
    by_cases e : x = y
    · subst e; simp at h ⊢; exact lessL_asym l k h
    · rw [if_neg e] at h
      rw [if_neg (Ne.symm e)]
      simp at h ⊢
      exact UInt8.le_of_lt h
theorem lessL_trans : ∀ (l k m : List UInt8), lessL l k = true → lessL k m = true → lessL l m = true
  | [], k, m, h, _ => by cases k <;> simp [lessL] at h
  | _ :: _, [], m, h, _ => by simp [lessL] at h
  | _ :: _, _ :: _, [], _, h => by simp [lessL] at h
  | x :: l, y :: k, z :: m, h, g => by
    rw [lessL_cons] at h g ⊢
    by_cases e : x = y
    · subst e
      by_cases e2 : x = z
      · subst e2; simp at h g ⊢; exact lessL_trans l k m h g
      · rw [if_neg e2] at g ⊢; exact g
    · rw [if_neg e] at h
      by_cases e2 : y = z
      · subst e2; rw [if_neg e]; exact h
      · rw [if_neg e2] at g
        simp at h g
        have hxz := UInt8.lt_trans h g
        rw [if_neg (UInt8.ne_of_lt hxz)]
        simpa using hxz
theorem lessL_total : ∀ (l k : List UInt8), l.length = k.length → l ≠ k → lessL l k = false → lessL k l = true
  | [], [], _, h, _ => absurd rfl h
  | [], _ :: _, h, _, _ => by simp at h
  | _ :: _, [], h, _, _ => by simp at h
  | x :: l, y :: k, hl, hn, h => by
    rw [lessL_cons] at h ⊢
    by_cases e : x = y
    · subst e
      simp at h ⊢
      exact lessL_total l k (by simpa using hl) (by intro e; subst e; exact hn rfl) h
    · rw [if_neg e] at h
      rw [if_neg (Ne.symm e)]
      simp at h ⊢
      exact UInt8.lt_of_le_of_ne h (Ne.symm e)
theorem le_bits {l k : List UInt8} (hl : l.length = 16) (hk : k.length = 16) (h : ∀ i, i < 128 → bit l i ≤ bit k i) : l = k ∨ lessL l k = true := by
  by_cases e : fd (alikeB l k) 128 0 < 128
  · right
    have hs := fd_stop (alikeB l k) 128 0 (by omega)
    have ha := fd_all (alikeB l k) 128 0
    generalize fd (alikeB l k) 128 0 = d at e hs ha
    have hne : bit l d ≠ bit k d := by simpa [alikeB] using hs
    have h1 := h d e
    have h2 := bit_lt l d
    have h3 := bit_lt k d
    exact less_bits hl hk e (fun i hi => by simpa [alikeB] using ha i (by omega) hi) (by omega) (by omega)
  · left
    have hge := fd_le (alikeB l k) 128 0
    exact bits_ext hl hk fun i hi => by simpa [alikeB] using fd_all (alikeB l k) 128 0 i (by omega) (by omega)
/-! ### lists in order -/
abbrev Tr := List UInt8 × Nat × Int
def lessE (x y : Tr) : Bool := if x.1 = y.1 then decide (x.2.1 < y.2.1) else lessL x.1 y.1
theorem lessE_asym {x y : Tr} (h : lessE x y = true) : lessE y x = false := by
  unfold lessE at h ⊢
  by_cases e : x.1 = y.1
  · rw [if_pos e] at h; rw [if_pos e.symm]; simp at h ⊢; omega
  · rw [if_neg e] at h; rw [if_neg (Ne.symm e)]; exact lessL_asym _ _ h
theorem lessE_trans {x y z : Tr} (h : lessE x y = true) (g : lessE y z = true) : lessE x z = true := by
  unfold lessE at h g ⊢
  by_cases e : x.1 = y.1
  · rw [if_pos e] at h
    by_cases e2 : y.1 = z.1
    · rw [if_pos e2] at g; rw [if_pos (e.trans e2)]; simp at h g ⊢; omega
    · rw [if_neg e2] at g; rw [if_neg (by rw [e]; exact e2), e]; exact g
  · rw [if_neg e] at h
    by_cases e2 : y.1 = z.1
    · rw [if_neg (by rw [← e2]; exact e), ← e2]; exact h
    · rw [if_neg e2] at g
      have t := lessL_trans _ _ _ h g
      rw [if_neg (by intro e3; rw [e3, lessL_irr] at t; cases t)]; exact t
theorem lessE_total {x y : Tr} (hl : x.1.length = y.1.length) (hn : ¬ (x.1 = y.1 ∧ x.2.1 = y.2.1)) (h : lessE x y = false) : lessE y x = true := by
  unfold lessE at h ⊢
  by_cases e : x.1 = y.1
  · have hn' : x.2.1 ≠ y.2.1 := fun h' => hn ⟨e, h'⟩
    rw [if_pos e] at h; rw [if_pos e.symm]; simp at h ⊢; omega
  · rw [if_neg e] at h; rw [if_neg (Ne.symm e)]; exact lessL_total _ _ hl e h
theorem lessE_irr (x : Tr) : lessE x x = false := by unfold lessE; simp
theorem sorted_ext : ∀ (l k : List Tr), l.Pairwise (fun x y => lessE x y = true) → k.Pairwise (fun x y => lessE x y = true) → (∀ x, x ∈ l ↔ x ∈ k) → l = k
  | [], [], _, _, _ => rfl
  | [], y :: k, _, _, h => by have := (h y).2 (List.mem_cons_self ..); simp at this
  | x :: l, [], _, _, h => by have := (h x).1 (List.mem_cons_self ..); simp at this
  | x :: l, y :: k, hl, hk, h => by
    rw [List.pairwise_cons] at hl hk
    have exy : x = y := by
      rcases List.mem_cons.1 ((h x).1 (List.mem_cons_self ..)) with e | hx
      · exact e
      · rcases List.mem_cons.1 ((h y).2 (List.mem_cons_self ..)) with e | hy
        · exact e.symm
        · have h1 := hk.1 x hx
          have h2 := hl.1 y hy
          rw [lessE_asym h1] at h2; cases h2
    subst exy
    rw [sorted_ext l k hl.2 hk.2 fun z => ⟨fun hz => ?_, fun hz => ?_⟩]
    · rcases List.mem_cons.1 ((h z).1 (List.mem_cons_of_mem _ hz)) with e | hz'
      · subst e; have := hl.1 z hz; rw [lessE_irr] at this; cases this
      · exact hz'
    · rcases List.mem_cons.1 ((h z).2 (List.mem_cons_of_mem _ hz)) with e | hz'
      · subst e; have := hk.1 z hz; rw [lessE_irr] at this; cases this
      · exact hz'
/-! ### trees -/
inductive T where
  | nil
  | nd (is : Bool) (own : Int) (l r : T)
  deriving DecidableEq
namespace T
def val : T → List Nat → Option Int
  | nil, _ => none
  | nd is o _ _, [] => if is = true then some o else none
  | nd _ _ l r, b :: p => if b = 0 then l.val p else r.val p
def list : T → List UInt8 → Nat → List Tr
  | nil, _, _ => []
  | nd is o a b, l, d => (if is = true then [(l, d, o)] else []) ++ (a.list l (d + 1) ++ b.list (sb l d) (d + 1))
/-- No deeper than this. -/
def dok : T → Nat → Prop
  | nil, _ => True
  | nd _ _ a b, 0 => a = nil ∧ b = nil
  | nd _ _ a b, n + 1 => a.dok n ∧ b.dok n
theorem mem_list : ∀ (t : T) (l : List UInt8) (d : Nat) (x : Tr), x ∈ t.list l d ↔ ∃ p, (∀ b ∈ p, b < 2) ∧ t.val p = some x.2.2 ∧ x.1 = adrG l d p ∧ x.2.1 = d + p.length
  | nil, l, d, x => by simp [list, val]
  | nd is o a b, l, d, x => by
    unfold list
    rw [List.mem_append, List.mem_append, mem_list a, mem_list b]
    constructor
    · rintro (h | ⟨p, h1, h2, h3, h4⟩ | ⟨p, h1, h2, h3, h4⟩)
      · cases is with
        | false => simp at h
        | true => simp at h; subst h; exact ⟨[], by simp, by simp [val], rfl, by simp⟩
      · exact ⟨0 :: p, fun c hc => by rcases List.mem_cons.1 hc with rfl | hc; omega; exact h1 c hc, by simp [val, h2], by simpa [adrG] using h3, by simp [h4]; omega⟩
      · exact ⟨1 :: p, fun c hc => by rcases List.mem_cons.1 hc with rfl | hc; omega; exact h1 c hc, by simp [val, h2], by simpa [adrG] using h3, by simp [h4]; omega⟩
    · rintro ⟨p, h1, h2, h3, h4⟩
      cases p with
      | nil =>
        left
        obtain ⟨x1, x2, x3⟩ := x
        simp [val] at h2
        simp [adrG] at h3 h4
        simp [h2, h3, h4]
      | cons c p =>
        right
        have hc := h1 c (List.mem_cons_self ..)
        have h1' : ∀ b ∈ p, b < 2 := fun b hb => h1 b (List.mem_cons_of_mem _ hb)
        unfold adrG at h3
        rw [List.length_cons] at h4
        by_cases h0 : c = 0
        · subst h0; left
          exact ⟨p, h1', by simpa [val] using h2, by simpa using h3, by omega⟩
        · have : c = 1 := by omega
          subst this; right
          exact ⟨p, h1', by simpa [val] using h2, by simpa using h3, by omega⟩
theorem val_len : ∀ (t : T) (n : Nat) (p : List Nat) (o : Int), t.dok n → t.val p = some o → p.length ≤ n
  | nil, _, _, _, _, h => by simp [val] at h
  | nd .., _, [], _, _, _ => by simp
  | nd is o a b, 0, c :: p, o', hd, h => by
    obtain ⟨rfl, rfl⟩ := hd
    simp [val] at h
  | nd is o a b, n + 1, c :: p, o', hd, h => by
    unfold val at h
    rw [List.length_cons]
    split at h
    · have := val_len a n p o' hd.1 h; omega
    · have := val_len b n p o' hd.2 h; omega
theorem sorted : ∀ (t : T) (n : Nat) (l : List UInt8) (d : Nat), t.dok n → d + n ≤ 128 → l.length = 16 → (∀ i, d ≤ i → bit l i = 0) → (t.list l d).Pairwise (fun x y => lessE x y = true)
  | nil, _, _, _, _, _, _, _ => by simp [list]
  | nd is o a b, n, l, d, hd, hn, hl, h0 => by
    cases n with
    | zero =>
      obtain ⟨rfl, rfl⟩ := hd
      cases is <;> simp [list]
    | succ n =>
      have h0' : ∀ i, d + 1 ≤ i → bit (sb l d) i = 0 := fun i hi => by rw [bit_sb hl (by omega), if_neg (by omega)]; exact h0 i (by omega)
      have ia := sorted a n l (d + 1) hd.1 (by omega) hl fun i hi => h0 i (by omega)
      have ib := sorted b n (sb l d) (d + 1) hd.2 (by omega) (by rw [sb_len, hl]) h0'
      have fa : ∀ y ∈ a.list l (d + 1), y.1.length = 16 ∧ d < y.2.1 ∧ (∀ i, i < d + 1 → bit y.1 i = bit l i) ∧ ∀ i, bit l i ≤ bit y.1 i := fun y hy => by
        obtain ⟨p, h1, h2, h3, h4⟩ := (mem_list a l (d + 1) y).1 hy
        have hpl := val_len a n p _ hd.1 h2
        have e := bit_adrG p l (d + 1) hl (by omega) h1 fun i hi => h0 i (by omega)
        rw [h3]
        refine ⟨by rw [adrG_len, hl], by omega, fun i hi => by rw [e i, if_pos hi], fun i => ?_⟩
        rw [e i]
        split
        · exact Nat.le_refl _
        · rw [h0 i (by omega)]; exact Nat.zero_le _
      have fb : ∀ y ∈ b.list (sb l d) (d + 1), y.1.length = 16 ∧ d < y.2.1 ∧ (∀ i, i < d → bit y.1 i = bit l i) ∧ bit y.1 d = 1 ∧ ∀ i, bit l i ≤ bit y.1 i := fun y hy => by
        obtain ⟨p, h1, h2, h3, h4⟩ := (mem_list b (sb l d) (d + 1) y).1 hy
        have hpl := val_len b n p _ hd.2 h2
        have e := bit_adrG p (sb l d) (d + 1) (by rw [sb_len, hl]) (by omega) h1 h0'
        have es := bit_sb hl (d := d) (by omega)
        rw [h3]
        refine ⟨by rw [adrG_len, sb_len, hl], by omega, fun i hi => by rw [e i, if_pos (by omega), es, if_neg (by omega)], by rw [e d, if_pos (by omega), es, if_pos rfl], fun i => ?_⟩
        rw [e i]
        split
        · rw [es]
          split
          · have := bit_lt l i; omega
          · exact Nat.le_refl _
        · rw [h0 i (by omega)]; exact Nat.zero_le _
      have own : ∀ (y : Tr) (o : Int), y.1.length = 16 → d < y.2.1 → (∀ i, bit l i ≤ bit y.1 i) → lessE (l, d, o) y = true := fun y o hy hd hb => by
        unfold lessE
        split
        · simpa using hd
        · next hne => exact (le_bits hl hy fun i _ => hb i).resolve_left hne
      unfold list
      rw [List.pairwise_append, List.pairwise_append]
      refine ⟨by cases is <;> simp, ⟨ia, ib, fun x hx y hy => ?_⟩, fun x hx y hy => ?_⟩
      · obtain ⟨a1, a2, a3, a4⟩ := fa x hx
        obtain ⟨b1, b2, b3, b4, b5⟩ := fb y hy
        have : lessL x.1 y.1 = true := less_bits a1 b1 (d := d) (by omega) (fun i hi => by rw [a3 i (by omega), b3 i hi]) (by rw [a3 d (by omega)]; exact h0 d (Nat.le_refl _)) b4
        unfold lessE
        rw [if_neg (by intro e; rw [e, lessL_irr] at this; cases this)]
        exact this
      · cases is with
        | false => simp at hx
        | true =>
          simp at hx
          subst hx
          rcases List.mem_append.1 hy with hy | hy
          · obtain ⟨a1, a2, a3, a4⟩ := fa y hy; exact own y o a1 a2 a4
          · obtain ⟨b1, b2, b3, b4, b5⟩ := fb y hy; exact own y o b1 b2 b5
/-! ### what is put and taken out -/
/-- The places along a path are there. -/
def ext : T → List Nat → T
  | nil, [] => nd false 0 nil nil
  | nil, b :: p => if b = 0 then nd false 0 (ext nil p) nil else nd false 0 nil (ext nil p)
  | nd is o l r, [] => nd is o l r
  | nd is o l r, b :: p => if b = 0 then nd is o (l.ext p) r else nd is o l (r.ext p)
/-- What stands at a path is another. -/
def put : T → List Nat → Bool → Int → T
  | nil, _, _, _ => nil
  | nd _ _ l r, [], is, o => nd is o l r
  | nd i q l r, b :: p, is, o => if b = 0 then nd i q (l.put p is o) r else nd i q l (r.put p is o)
/-- What leads nowhere is cut off. -/
def cut : T → T
  | nil => nil
  | nd is o l r => if is = false ∧ l.cut = nil ∧ r.cut = nil then nil else nd is o l.cut r.cut
/-- Is there a place at the path's end? -/
def has : T → List Nat → Bool
  | nil, _ => false
  | nd .., [] => true
  | nd _ _ l r, b :: p => if b = 0 then l.has p else r.has p
theorem val_ext_nil : ∀ (p q : List Nat), (ext nil p).val q = none
  | [], [] => by simp [ext, val]
  | [], c :: q => by simp [ext, val]
  | b :: p, [] => by unfold ext; split <;> simp [val]
  | b :: p, c :: q => by
    unfold ext
    split <;> simp only [val] <;> split <;> first | exact val_ext_nil p q | rfl
theorem val_ext : ∀ (t : T) (p q : List Nat), (t.ext p).val q = t.val q
  | nil, p, q => by rw [val_ext_nil]; rfl
  | nd .., [], _ => rfl
  | nd is o l r, b :: p, [] => by unfold ext; split <;> rfl
  | nd is o l r, b :: p, c :: q => by
    unfold ext
    split <;> simp only [val, val_ext l p q, val_ext r p q]
theorem has_ext_nil : ∀ (p : List Nat), (ext nil p).has p = true
  | [] => rfl
  | b :: p => by
    unfold ext
    split
    · next h => simp [has, h, has_ext_nil p]
    · next h => simp [has, h, has_ext_nil p]
theorem has_ext : ∀ (t : T) (p : List Nat), (t.ext p).has p = true
  | nil, p => has_ext_nil p
  | nd .., [] => rfl
  | nd is o l r, b :: p => by
    unfold ext
    split
    · next h => simp [has, h, has_ext l p]
    · next h => simp [has, h, has_ext r p]
theorem val_put : ∀ (t : T) (p : List Nat) (is : Bool) (o : Int) (q : List Nat), (∀ b ∈ p, b < 2) → (∀ b ∈ q, b < 2) → t.has p = true → (t.put p is o).val q = if q = p then (if is = true then some o else none) else t.val q
  | nil, p, is, o, q, _, _, h => by simp [has] at h
  | nd i u l r, [], is, o, [], _, _, _ => by simp [put, val]
  | nd i u l r, [], is, o, c :: q, _, _, _ => by simp [put, val]
  | nd i u l r, b :: p, is, o, [], _, _, _ => by
    unfold put
    split <;> simp [val]
  | nd i u l r, b :: p, is, o, c :: q, hp, hq, h => by
    have hb := hp b (List.mem_cons_self ..)
    have hc := hq c (List.mem_cons_self ..)
    have hp' : ∀ b ∈ p, b < 2 := fun b hb => hp b (List.mem_cons_of_mem _ hb)
    have hq' : ∀ b ∈ q, b < 2 := fun b hb => hq b (List.mem_cons_of_mem _ hb)
    unfold put
    unfold has at h
    by_cases h0 : b = 0
    · rw [if_pos h0] at h ⊢
      unfold val
      by_cases h1 : c = 0
      · rw [if_pos h1, val_put l p is o q hp' hq' h, if_pos h1]
        simp [h0, h1]
      · rw [if_neg h1, if_neg h1]
        rw [if_neg (by rw [List.cons.injEq]; omega)]
    · rw [if_neg h0] at h ⊢
      unfold val
      by_cases h1 : c = 0
      · rw [if_pos h1, if_pos h1]
        rw [if_neg (by rw [List.cons.injEq]; omega)]
      · rw [if_neg h1, val_put r p is o q hp' hq' h, if_neg h1]
        have : c = b := by omega
        simp [this]
theorem val_cut : ∀ (t : T) (q : List Nat), t.cut.val q = t.val q
  | nil, q => rfl
  | nd is o l r, q => by
    have il := val_cut l
    have ir := val_cut r
    unfold cut
    split
    · next h =>
      obtain ⟨h1, h2, h3⟩ := h
      rw [h2] at il
      rw [h3] at ir
      cases q with
      | nil => simp [val, h1]
      | cons c q =>
        have a := il q
        have b := ir q
        simp only [val] at a b ⊢
        rw [← a, ← b]; simp
    · cases q with
      | nil => rfl
      | cons c q => simp only [val, il, ir]
theorem dok_nil (n : Nat) : nil.dok n := by cases n <;> trivial
theorem dok_ext : ∀ (t : T) (n : Nat) (p : List Nat), t.dok n → p.length ≤ n → (t.ext p).dok n
  | nil, n, [], _, _ => by cases n <;> simp [ext, dok]
  | nil, 0, b :: p, _, h => by simp at h
  | nil, n + 1, b :: p, _, h => by
    have := dok_ext nil n p (dok_nil n) (by simpa using h)
    unfold ext
    split <;> simp [dok, this, dok_nil]
  | nd is o l r, n, [], h, _ => h
  | nd is o l r, 0, b :: p, _, h => by simp at h
  | nd is o l r, n + 1, b :: p, hd, h => by
    have h1 := dok_ext l n p hd.1 (by simpa using h)
    have h2 := dok_ext r n p hd.2 (by simpa using h)
    unfold ext
    split
    · exact ⟨h1, hd.2⟩
    · exact ⟨hd.1, h2⟩
theorem put_nil : ∀ (t : T) (p : List Nat) (is : Bool) (o : Int), t.put p is o = nil ↔ t = nil
  | nil, _, _, _ => by simp [put]
  | nd .., [], _, _ => by simp [put]
  | nd .., b :: p, _, _ => by unfold put; split <;> simp
theorem dok_put : ∀ (t : T) (n : Nat) (p : List Nat) (is : Bool) (o : Int), t.dok n → (t.put p is o).dok n
  | nil, n, p, is, o, h => h
  | nd i u l r, 0, [], is, o, h => h
  | nd i u l r, n + 1, [], is, o, h => h
  | nd i u l r, 0, b :: p, is, o, h => by
    unfold put
    split
    · exact ⟨(put_nil ..).2 h.1, h.2⟩
    · exact ⟨h.1, (put_nil ..).2 h.2⟩
  | nd i u l r, n + 1, b :: p, is, o, h => by
    unfold put
    split
    · exact ⟨dok_put l n p is o h.1, h.2⟩
    · exact ⟨h.1, dok_put r n p is o h.2⟩
theorem dok_cut : ∀ (t : T) (n : Nat), t.dok n → t.cut.dok n
  | nil, n, h => h
  | nd is o l r, n, h => by
    unfold cut
    split
    · exact dok_nil n
    · cases n with
      | zero =>
        obtain ⟨rfl, rfl⟩ := h
        exact ⟨rfl, rfl⟩
      | succ n => exact ⟨dok_cut l n h.1, dok_cut r n h.2⟩
end T
end Go.Proofs.Ythccncpephpdjaa.Tri
