/- Layer 7: the order of keys, zero, clamping. -/
import Derived.Test.YtnojjenpggdadaaG3
import Derived.Test.YtnojjenpggdadaaSixL
set_option linter.unusedVariables false
set_option linter.unusedSimpArgs false
namespace Go.Proofs.Ytnojjenpggdadaa.Key
open E Go.RowKit
open Hex (str str_size str_append str_push str_toList str_inj same_eq)

/-! ### arrays of bytes -/
theorem vget_lget {m : Nat} (v : Vector Int m) (i : Int) : vget v i = lget v.toList i := rfl
theorem vget_nat {m : Nat} (v : Vector Int m) (i : Nat) (h : i < m) : vget v (i : Int) = v[i] := by
  unfold vget; rw [Int.toNat_natCast]; simp [List.getD_eq_getElem?_getD, h]
theorem vget_set {m : Nat} (v : Vector Int m) (i j : Nat) (z : Int) (hi : i < m) (hj : j < m) : vget (vset v (i : Int) z) (j : Int) = if i = j then z else vget v (j : Int) := by
  rw [vget_nat _ j hj, vget_nat _ j hj]
  unfold vset
  simp only [Int.toNat_natCast]
  rw [Vector.getElem_setIfInBounds]
theorem vset_self {m : Nat} (v : Vector Int m) (i : Nat) (z : Int) (hi : i < m) (h : vget v (i : Int) = z) : vset v (i : Int) z = v := by
  rw [vget_nat v i hi] at h
  apply Vector.ext
  intro j hj
  unfold vset
  simp only [Int.toNat_natCast]
  rw [Vector.getElem_setIfInBounds]
  split
  · next e => subst e; exact h.symm
  · rfl
def IsB {m : Nat} (v : Vector Int m) : Prop := ∀ n ∈ v.toList, (Lit.int .u8 n).wf = true
theorem IsB.ob {m : Nat} {v : Vector Int m} (h : IsB v) : ∃ l : List UInt8, v.toList = ob l ∧ l.length = m := by
  obtain ⟨l, hl⟩ := exists_ob v.toList h
  refine ⟨l, hl, ?_⟩
  have := congrArg List.length hl
  rw [ob_length, Vector.length_toList] at this
  exact this.symm
theorem IsB.get {m : Nat} {v : Vector Int m} (h : IsB v) (i : Nat) (hi : i < m) : ∃ b : Fin 256, vget v (i : Int) = (b.1 : Int) := by
  have := wf_u8 (h (v[i]) (by simp))
  rw [vget_nat v i hi]
  exact ⟨⟨v[i].toNat, by omega⟩, by simp only; omega⟩
theorem unb_ob (l : List UInt8) : unb (ob l) = l := by
  unfold unb ob
  rw [List.map_map]
  conv => rhs; rw [← List.map_id l]
  apply List.map_congr_left
  intro b _
  simp [Function.comp]
theorem vec_inj {m : Nat} {v u : Vector Int m} : v.toList = u.toList ↔ v = u := Vector.toList_inj

/-! ### order -/
def lessL : List UInt8 → List UInt8 → Bool
  | x :: a, y :: b => if x ≠ y then decide (x < y) else lessL a b
  | _, _ => false
theorem less_cmp : ∀ (a b : List UInt8), a.length = b.length → decide (Lib.compareBytes a b < 0) = lessL a b
  | [], [], _ => rfl
  | [], _ :: _, h => by simp at h
  | _ :: _, [], h => by simp at h
  | x :: a, y :: b, h => by
    unfold Lib.compareBytes lessL
    by_cases hxy : x = y
    · subst hxy
      have : ¬ x < x := UInt8.lt_irrefl x
      simp only [this, if_false, ne_eq, not_true_eq_false]
      exact less_cmp a b (by simpa using h)
    · by_cases hlt : x < y
      · simp [hxy, hlt]
      · have : y < x := UInt8.lt_of_le_of_ne (UInt8.not_lt.1 hlt) (Ne.symm hxy)
        simp [hxy, hlt, this]
theorem less_eq : ∀ (a b : List UInt8), a.length = b.length → ((lessL a b = false ∧ lessL b a = false) ↔ a = b)
  | [], [], _ => by simp [lessL]
  | [], _ :: _, h => by simp at h
  | _ :: _, [], h => by simp at h
  | x :: a, y :: b, h => by
    unfold lessL
    by_cases hxy : x = y
    · subst hxy
      simp only [ne_eq, not_true_eq_false, if_false, List.cons.injEq, true_and]
      exact less_eq a b (by simpa using h)
    · have hyx : ¬ y = x := fun e => hxy e.symm
      simp only [ne_eq, hxy, hyx, not_false_eq_true, if_true, List.cons.injEq, false_and, iff_false]
      rintro ⟨h1, h2⟩
      have h1 := of_decide_eq_false h1
      have h2 := of_decide_eq_false h2
      exact hxy (UInt8.le_antisymm (UInt8.not_lt.1 h2) (UInt8.not_lt.1 h1))
theorem keysLess_eq (u v : Vector Int 32) (a b : List UInt8) (ha : u.toList = ob a) (hb : v.toList = ob b) (hl : a.length = b.length) : keys_Less u v = some (lessL a b) := by
  unfold keys_Less bytes_Compare
  rw [bindM_some, ha, hb, unb_ob, unb_ob, less_cmp a b hl]
theorem refLess_l0 (u v : Vector Int 32) (a b : List UInt8) (ha : u.toList = ob a) (hb : v.toList = ob b) (la : a.length = 32) (lb : b.length = 32) (f : Nat) : ∀ i : Nat, i + f = 32 →
    ∃ q, crawlwayref07_Less.l0 u v i = some q ∧ (match q with | .ret r => r = lessL (a.drop i) (b.drop i) | .nx _ => lessL (a.drop i) (b.drop i) = false) := by
  induction f with
  | zero =>
    intro i hi
    obtain rfl : i = 32 := by omega
    rw [crawlwayref07_Less.l0.eq_def, if_neg (by decide)]
    refine ⟨_, rfl, ?_⟩
    rw [List.drop_eq_nil_of_le (by omega)]; rfl
  | succ f ih =>
    intro i hi
    obtain ⟨x, hx, hdx⟩ := drop_get a i (by omega)
    obtain ⟨y, hy, hdy⟩ := drop_get b i (by omega)
    have ex : vget u (i : Int) = x.toNat := by rw [vget_lget, ha]; exact lget_ob a i x hx
    have ey : vget v (i : Int) = y.toNat := by rw [vget_lget, hb]; exact lget_ob b i y hy
    have e1 : wr .i64 ((i : Int) + 1) = ((i + 1 : Nat) : Int) := by rw [wr_i64 (by omega) (by omega)]; omega
    have c1 : decide ((i : Int) < 32) = true := decide_eq_true (by omega)
    have c2 : (0 : Int) ≤ (i : Int) ∧ (i : Int) < 32 := by omega
    rw [crawlwayref07_Less.l0.eq_def, if_pos c1, if_pos c2, if_pos c2, ex, ey, e1, if_pos c2, if_pos c2, hdx, hdy, lessL]
    by_cases hxy : x = y
    · subst hxy
      simp only [bne_self_eq_false, Bool.false_eq_true, ↓reduceIte, ne_eq, not_true_eq_false]
      exact ih (i + 1) (by omega)
    · have hne : (((x.toNat : Nat) : Int) != ((y.toNat : Nat) : Int)) = true := by
        simp only [bne_iff_ne, ne_eq]; intro h; exact hxy (UInt8.toNat_inj.1 (by omega))
      rw [if_pos hne]
      refine ⟨_, rfl, ?_⟩
      simp only [ne_eq, hxy, not_false_eq_true, if_true]
      rw [decide_eq_decide, UInt8.lt_iff_toNat_lt]; omega
theorem refLess_eq (u v : Vector Int 32) (a b : List UInt8) (ha : u.toList = ob a) (hb : v.toList = ob b) (la : a.length = 32) (lb : b.length = 32) : crawlwayref07_Less u v = some (lessL a b) := by
  unfold crawlwayref07_Less
  obtain ⟨q, hq, h⟩ := refLess_l0 u v a b ha hb la lb 32 0 rfl
  rw [show ((0 : Nat) : Int) = 0 from rfl] at hq
  rw [hq, bindM_some]
  cases q with
  | ret r => simp only [List.drop_zero] at h; rw [h]
  | nx s => simp only [List.drop_zero] at h; rw [h]

/-! ### zero -/
theorem refZero_l0 (v : Vector Int 32) (f : Nat) : ∀ i : Nat, i + f = 32 → crawlwayref07_Zero.l0 v i = some (if ∀ x ∈ v.toList.drop i, x = 0 then .nx () else .ret false) := by
  induction f with
  | zero =>
    intro i hi
    obtain rfl : i = 32 := by omega
    rw [crawlwayref07_Zero.l0.eq_def, if_neg (by decide), List.drop_eq_nil_of_le (by simp), if_pos (by simp)]
  | succ f ih =>
    intro i hi
    obtain ⟨x, hx, hdx⟩ := drop_get v.toList i (by simp; omega)
    have ex : vget v (i : Int) = x := by rw [vget_lget]; unfold lget; rw [Int.toNat_natCast, List.getD_eq_getElem?_getD, hx]; rfl
    have e1 : wr .i64 ((i : Int) + 1) = ((i + 1 : Nat) : Int) := by rw [wr_i64 (by omega) (by omega)]; omega
    rw [crawlwayref07_Zero.l0.eq_def, if_pos (decide_eq_true (by omega)), if_pos (by omega), ex, e1, ih (i + 1) (by omega), hdx]
    by_cases h0 : x = 0
    · subst h0; simp
    · have : (x != 0) = true := by simpa using h0
      rw [if_pos this, if_neg (by simp [h0])]
theorem zero_iff (v : Vector Int 32) : v = (Vector.replicate 32 (0 : Int) : Vector Int 32) ↔ ∀ x ∈ v.toList, x = 0 := by
  rw [← Vector.toList_inj, Vector.toList_replicate]
  constructor
  · intro h x hx; rw [h] at hx; exact List.eq_of_mem_replicate hx
  · intro h; exact List.eq_replicate_iff.2 ⟨by simp, h⟩
theorem keysZero_eq (v : Vector Int 32) : keys_Zero v = some (decide (∀ x ∈ v.toList, x = 0)) := by
  unfold keys_Zero
  congr 1
  rw [decide_eq_decide]; exact zero_iff v
theorem refZero_eq (v : Vector Int 32) : crawlwayref07_Zero v = some (decide (∀ x ∈ v.toList, x = 0)) := by
  unfold crawlwayref07_Zero
  have := refZero_l0 v 32 0 rfl
  rw [show ((0 : Nat) : Int) = 0 from rfl, List.drop_zero] at this
  rw [this, bindM_some]
  by_cases h : ∀ x ∈ v.toList, x = 0
  · rw [if_pos h, decide_eq_true h]
  · rw [if_neg h, decide_eq_false h]

/-! ### clamping -/
theorem low_eq : ∀ b : Fin 256, iand .u8 (b.1 : Int) 248 = wr .u8 ((b.1 : Int) - Int.tmod (b.1 : Int) 8) := by decide +kernel
theorem high_eq : ∀ b : Fin 256, ior .u8 (iand .u8 (b.1 : Int) 127) 64 = wr .u8 (Int.tmod (b.1 : Int) 64 + 64) := by decide +kernel
theorem low_low : ∀ b : Fin 256, iand .u8 (iand .u8 (b.1 : Int) 248) 248 = iand .u8 (b.1 : Int) 248 := by decide +kernel
theorem high_high : ∀ b : Fin 256, ior .u8 (iand .u8 (ior .u8 (iand .u8 (b.1 : Int) 127) 64) 127) 64 = ior .u8 (iand .u8 (b.1 : Int) 127) 64 := by decide +kernel
def clamp (v : Vector Int 32) : Vector Int 32 := vset (vset v ((0 : Nat) : Int) (iand .u8 (vget v ((0 : Nat) : Int)) 248)) ((31 : Nat) : Int) (ior .u8 (iand .u8 (vget v ((31 : Nat) : Int)) 127) 64)
theorem keysClamp_eq (v : Vector Int 32) : keys_Clamp v = some (clamp v) := by
  unfold keys_Clamp clamp
  have := vget_set v 0 31 (iand .u8 (vget v 0) 248) (by decide) (by decide)
  rw [if_neg (by decide)] at this
  rw [show vget (vset v 0 (iand .u8 (vget v 0) 248)) 31 = vget v ((31 : Nat) : Int) from this]
  rfl
theorem refClamp_eq (v : Vector Int 32) (h : IsB v) : crawlwayref07_Clamp v = some (clamp v) := by
  unfold crawlwayref07_Clamp clamp
  obtain ⟨a, ha⟩ := h.get 0 (by decide)
  obtain ⟨b, hb⟩ := h.get 31 (by decide)
  have h1 := low_eq a
  have h2 := high_eq b
  rw [← ha] at h1
  rw [← hb] at h2
  rw [h1, h2]
  have := vget_set v 0 31 (wr .u8 (vget v 0 - Int.tmod (vget v 0) 8)) (by decide) (by decide)
  rw [if_neg (by decide)] at this
  rw [show vget (vset v 0 (wr .u8 (vget v 0 - Int.tmod (vget v 0) 8))) 31 = vget v ((31 : Nat) : Int) from this]
  rfl
theorem clamp_clamp (v : Vector Int 32) (h : IsB v) : clamp (clamp v) = clamp v := by
  obtain ⟨a, ha⟩ := h.get 0 (by decide)
  obtain ⟨b, hb⟩ := h.get 31 (by decide)
  have g0 : vget (clamp v) ((0 : Nat) : Int) = iand .u8 (vget v ((0 : Nat) : Int)) 248 := by
    unfold clamp; rw [vget_set _ 31 0 _ (by decide) (by decide), if_neg (by decide), vget_set _ 0 0 _ (by decide) (by decide), if_pos rfl]
  have g1 : vget (clamp v) ((31 : Nat) : Int) = ior .u8 (iand .u8 (vget v ((31 : Nat) : Int)) 127) 64 := by
    unfold clamp; rw [vget_set _ 31 31 _ (by decide) (by decide), if_pos rfl]
  have e0 : iand .u8 (vget (clamp v) ((0 : Nat) : Int)) 248 = vget (clamp v) ((0 : Nat) : Int) := by rw [g0, ha]; exact low_low a
  have e1 : ior .u8 (iand .u8 (vget (clamp v) ((31 : Nat) : Int)) 127) 64 = vget (clamp v) ((31 : Nat) : Int) := by rw [g1, hb]; exact high_high b
  show vset (vset (clamp v) ((0 : Nat) : Int) (iand .u8 (vget (clamp v) ((0 : Nat) : Int)) 248)) ((31 : Nat) : Int) (ior .u8 (iand .u8 (vget (clamp v) ((31 : Nat) : Int)) 127) 64) = clamp v
  rw [e0, e1, vset_self (clamp v) 0 _ (by decide) rfl, vset_self (clamp v) 31 _ (by decide) rfl]

/-! ### the statement's function -/
theorem text_zero : keys_Text (Vector.replicate 32 (0 : Int) : Vector Int 32) = some (str (List.replicate 43 65 ++ [61])) := by
  unfold keys_Text
  have e1 : (Vector.replicate 32 (0 : Int) : Vector Int 32).toList = ob (List.replicate 32 0) := by rw [Vector.toList_replicate]; rfl
  have e2 : Six.encP (List.replicate 32 0) = List.replicate 43 65 ++ [61] := by
    rw [Six.encP_enc, Six.enc_map]
    simp only [List.replicate, Six.encV3, Six.encV2, Six.encV_nil]
    decide +kernel
  rw [e1, Six.encode_eq _ (by simp), e2, bindM_some]
theorem alive_eq : crawlwaylaw07_alive = some true := by
  unfold crawlwaylaw07_alive
  have e1 : ∃ l : List UInt8, (vset (Vector.replicate 32 (0 : Int) : Vector Int 32) 0 1).toList = ob l ∧ l.length = 32 := ⟨1 :: List.replicate 31 0, by decide +kernel, by simp⟩
  obtain ⟨l, hl, hl32⟩ := e1
  have e2 : keys_Hex (vset (Vector.replicate 32 (0 : Int) : Vector Int 32) 0 1) = some (str (Hex.encL l)) := by
    unfold keys_Hex; rw [hl, Hex.encode_eq _ (by omega), bindM_some]
  have e3 : ((str (Hex.encL l)).size : Int) = 64 := by rw [str_size, Hex.encL_length]; omega
  have e4 : ((str (List.replicate 43 65 ++ [61])).size : Int) = 44 := by rw [str_size]; simp
  have e5 : bt (str (List.replicate 43 65 ++ [61])) 43 = 61 := by decide +kernel
  have e6 : bt (str (List.replicate 43 65 ++ [61])) 42 = 65 := by decide +kernel
  have e7 : keys_Zero (Vector.replicate 32 (0 : Int) : Vector Int 32) = some true := by
    unfold keys_Zero; rw [decide_eq_true rfl]
  rw [text_zero, bindM_some, e4, e5, e6, e2, e7]
  simp only [bindM_some, e3, BEq.rfl, ↓reduceIte]
  rfl
theorem order_law (u v : Vector Int 32) (hu : IsB u) (hv : IsB v) : crawlwaylaw07_KeysOrder u v = some true := by
  obtain ⟨a, ha, la⟩ := hu.ob
  obtain ⟨b, hb, lb⟩ := hv.ob
  unfold crawlwaylaw07_KeysOrder
  have k1 := keysLess_eq u v a b ha hb (by omega)
  have k2 := keysLess_eq v u b a hb ha (by omega)
  have k3 := refLess_eq u v a b ha hb la lb
  have hab : u = v ↔ a = b := by
    rw [← Vector.toList_inj, ha, hb]
    exact ⟨ob_inj, fun h => by rw [h]⟩
  have hle := less_eq a b (by omega)
  simp only [keysClamp_eq, refClamp_eq u hu, k1, k2, k3, keysZero_eq, refZero_eq, clamp_clamp u hu, bindM_some, BEq.rfl, ↓reduceIte, decide_true, alive_eq]
  cases h1 : lessL a b with
  | true =>
    have hne : ¬ u = v := fun h => by
      have := (hle.2 (hab.1 h)).1
      rw [h1] at this; cases this
    simp [hne]
  | false =>
    cases h2 : lessL b a with
    | true =>
      have hne : ¬ u = v := fun h => by
        have := (hle.2 (hab.1 h)).2
        rw [h2] at this; cases this
      simp [hne]
    | false =>
      have he : u = v := hab.2 (hle.1 ⟨h1, h2⟩)
      simp [he]
theorem KeysOrder_pure (u : Vector Int 32) (hu : IsB u) (v : Vector Int 32) (hv : IsB v) : crawlwaylaw07_KeysOrder u v = some true := order_law u v hu hv
end Go.Proofs.Ytnojjenpggdadaa.Key
