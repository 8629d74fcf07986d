/- Layer 4: there and back; the two statements. -/
import Derived.Test.YtdhkcjddjmgciaaSixF
set_option linter.unusedVariables false
set_option linter.unusedSimpArgs false
namespace Go.Proofs.Ytdhkcjddjmgciaa.Six
open E Go.RowKit
open Hex (str str_size str_append str_push str_toList str_inj)

/-! ### the reference's Decode -/
theorem snoc_cases (l : List UInt8) : l = [] ∨ ∃ k x, l = k ++ [x] := by
  rcases List.eq_nil_or_concat l with h | ⟨k, x, h⟩
  · exact .inl h
  · exact .inr ⟨k, x, by rw [h, List.concat_eq_append]⟩
theorem trim_snoc (k : List UInt8) (x : UInt8) : Lib.trimSuffix (k ++ [x]) [61] = if x = 61 then k else k ++ [x] := by
  rw [trim61]; simp
theorem bt_snoc (k m : List UInt8) (x : UInt8) (n : Int) (h : n = k.length) : bt (str (k ++ x :: m)) n = x.toNat := by
  subst h
  exact str_get _ _ _ (by simp)
theorem last_n (l : List UInt8) (h4 : l.length % 4 = 0) (hl : l.length ≤ 100000) :
    (if (decide (((str l).size : Int) > 0)) = true then (if (0 : Int) ≤ wr .i64 (((str l).size : Int) - 1) ∧ wr .i64 (((str l).size : Int) - 1) < ((str l).size : Int) then if (bt (str l) (wr .i64 (((str l).size : Int) - 1)) == 61) = true then (if (0 : Int) ≤ wr .i64 ((wr .i64 (((str l).size : Int) - 1)) - 1) ∧ wr .i64 ((wr .i64 (((str l).size : Int) - 1)) - 1) < ((str l).size : Int) then if (bt (str l) (wr .i64 ((wr .i64 (((str l).size : Int) - 1)) - 1)) == 61) = true then (some (wr .i64 ((wr .i64 (((str l).size : Int) - 1)) - 1))) else (some (wr .i64 (((str l).size : Int) - 1))) else none) else (some ((str l).size : Int)) else none) else (some ((str l).size : Int)))
      = some (((strip l).length : Nat) : Int) ∧ strip l = l.take (strip l).length ∧ (l = strip l ++ List.replicate (l.length - (strip l).length) 61) ∧ l.length - (strip l).length ≤ 2 ∧ (strip l).length ≤ l.length := by
  rcases snoc_cases l with rfl | ⟨k, x, rfl⟩
  · refine ⟨rfl, rfl, rfl, by decide, by decide⟩
  · rcases snoc_cases k with rfl | ⟨k, y, rfl⟩
    · simp at h4
    · have hz : (str (k ++ [y] ++ [x])).size = k.length + 2 := by rw [str_size]; simp
      simp only [List.length_append, List.length_singleton] at hl
      have e1 : wr .i64 (((k.length + 2 : Nat) : Int) - 1) = ((k.length + 1 : Nat) : Int) := by rw [wr_i64 (by omega) (by omega)]; omega
      have e2 : wr .i64 (((k.length + 1 : Nat) : Int) - 1) = ((k.length : Nat) : Int) := by rw [wr_i64 (by omega) (by omega)]; omega
      have b1 : bt (str (k ++ [y] ++ [x])) ((k.length + 1 : Nat) : Int) = x.toNat := by exact bt_snoc (k ++ [y]) [] x _ (by simp)
      have b2 : bt (str (k ++ [y] ++ [x])) ((k.length : Nat) : Int) = y.toNat := by
        rw [List.append_assoc]; exact bt_snoc k [x] y _ rfl
      have hq : ∀ z : UInt8, ((z.toNat : Int) == 61) = decide (z = 61) := fun z => by
        rw [Bool.eq_iff_iff]; simp only [beq_iff_eq, decide_eq_true_eq]
        constructor
        · intro h; apply UInt8.toNat_inj.1; show z.toNat = 61; omega
        · rintro rfl; rfl
      rw [hz, e1, e2, b1, b2, hq, hq, if_pos (decide_eq_true (by omega)), if_pos (by omega)]
      unfold strip
      rw [trim_snoc]
      by_cases hx : x = 61
      · subst hx
        rw [if_pos rfl, trim_snoc]
        by_cases hy : y = 61
        · subst hy
          rw [if_pos (by decide), if_pos (by omega), if_pos (by decide), if_pos rfl]
          refine ⟨rfl, by simp, ?_, by simp, by simp⟩
          simp only [List.length_append, List.length_singleton]
          rw [show k.length + 1 + 1 - k.length = 2 by omega]
          simp [List.replicate]
        · rw [if_pos (by decide), if_pos (by omega), if_neg (by simpa using hy), if_neg hy]
          refine ⟨by simp, ?_, by simp, by simp, by simp⟩
          rw [List.take_append_of_le_length (by simp), List.take_length]
      · rw [if_neg hx, trim_snoc, if_neg hx]
        rw [if_neg (by simpa using hx)]
        refine ⟨by simp, by rw [List.take_length], by simp, by simp, by simp⟩
theorem refDecode_eq (l : List UInt8) (h : l.length ≤ 5000) : crawlwayref04_Decode (str l) = some (if l.length % 4 ≠ 0 then ([], 5) else fin (vals (strip l))) := by
  unfold crawlwayref04_Decode
  by_cases h4 : l.length % 4 = 0
  · obtain ⟨h1, h2, _, _, h3⟩ := last_n l h4 (by omega)
    have c1 : (Int.tmod ((str l).size : Int) 4 != 0) = false := by rw [str_size, tm4, h4]; rfl
    rw [if_neg (by rw [c1]; decide), h1, bindM_some, if_neg (by omega)]
    have r0 := rdl0_eq l (strip l).length h3 (by omega) (strip l).length 0 [] (by omega) (by simp)
    rw [← h2, List.drop_zero, show bi [] = ([] : List Int) from rfl] at r0
    simp only [List.nil_append] at r0
    rw [show ((0 : Nat) : Int) = 0 from rfl] at r0
    rw [r0, bindM_some]
    cases hv : vals (strip l) with
    | none => rfl
    | some vs =>
      have hvl := vals_length _ _ hv
      have hlt := vals_lt _ _ hv
      have hfl := flat_length vs
      simp only [List.nil_append]
      have r2 := rdl2_eq (vs.flatMap vb) (by omega) (flat_lt vs) ((vs.flatMap vb).length / 8) 0 [] (by omega) (by omega) rfl
      rw [show ob [] = ([] : List Int) from rfl, List.nil_append] at r2
      have hch := chs_length (vs.flatMap vb) ((vs.flatMap vb).length / 8) 0 (by omega) (by omega)
      obtain ⟨d1, d2⟩ := dv_ref vs hlt ((vs.flatMap vb).length / 8) (by omega)
      have e1 : wr .i64 (8 * ((ob (chs (vs.flatMap vb) ((vs.flatMap vb).length / 8) 0)).length : Int)) = ((8 * (6 * vs.length / 8) : Nat) : Int) := by
        rw [ob_length, hch, wr_i64 (by omega) (by omega)]; omega
      have r4 := rdl4_eq (vs.flatMap vb) (by omega) (vs.flatMap vb).length (8 * (6 * vs.length / 8)) (by omega) (by omega)
      rw [show ((8 * 0 : Nat) : Int) = 0 from rfl] at r2
      rw [r2, bindM_some, e1, r4, bindM_some, d2, d1]
      unfold fin
      cases hz : (dv vs).2 <;> simp [hz]
  · have c1 : (Int.tmod ((str l).size : Int) 4 != 0) = true := by rw [str_size, tm4]; simpa using h4
    rw [if_pos c1, if_pos h4]

/-! ### there and back -/
def sgV (X : Nat) : Nat → Nat → List Nat
  | _, 0 => []
  | i, k + 1 => (X / 2 ^ (18 - 6 * i) % 64) :: sgV X (i + 1) k
theorem sgs_map (X : Nat) (k : Nat) : ∀ i, sgs X i k = (sgV X i k).map sg := by
  induction k with
  | zero => intro i; rfl
  | succ k ih => intro i; rw [sgs, sgV, List.map_cons, ih]; rfl
def encV (l : List UInt8) : List Nat := if h : l = [] then [] else sgV (gX l) 0 (min l.length 3 + 1) ++ encV (l.drop 3)
termination_by l.length
decreasing_by
  have : 0 < l.length := List.length_pos_iff.2 h
  simp; omega
theorem enc_map (l : List UInt8) : enc l = (encV l).map sg := by
  generalize hn : l.length = n
  induction n using Nat.strongRecOn generalizing l with
  | _ n ih =>
    rw [enc, encV]
    by_cases h : l = []
    · simp [h]
    · have hl : 0 < l.length := List.length_pos_iff.2 h
      simp only [dif_neg h, List.map_append, grpS, sgs_map]
      rw [ih (l.drop 3).length (by simp; omega) _ rfl]
theorem encV_lt (l : List UInt8) : ∀ v ∈ encV l, v < 64 := by
  generalize hn : l.length = n
  induction n using Nat.strongRecOn generalizing l with
  | _ n ih =>
    rw [encV]
    by_cases h : l = []
    · simp [h]
    · have hl : 0 < l.length := List.length_pos_iff.2 h
      simp only [dif_neg h]
      intro v hv
      rcases List.mem_append.1 hv with hv | hv
      · have : ∀ k i, ∀ v ∈ sgV (gX l) i k, v < 64 := by
          intro k
          induction k with
          | zero => intro i v hv; simp [sgV] at hv
          | succ k ih =>
            intro i v hv
            rcases List.mem_cons.1 hv with rfl | hv
            · exact Nat.mod_lt _ (by decide)
            · exact ih _ v hv
        exact this _ _ v hv
      · exact ih (l.drop 3).length (by simp; omega) _ rfl v hv
theorem vals_enc (l : List UInt8) : vals (enc l) = some (encV l) := by
  rw [enc_map, vals_map _ (encV_lt l)]
theorem of_n (x : UInt8) (n : Nat) (h : n % 256 = x.toNat) : UInt8.ofNat n = x := by
  apply UInt8.toNat_inj.1; rw [UInt8.toNat_ofNat']; exact h
theorem zf2 (a b : Nat) (ha : a < 64) (hb : b < 64) : zf [a, b] = decide (b % 16 = 0) := by
  unfold zf
  rw [gY2, decide_eq_decide]
  simp only [List.length_cons, List.length_nil, Nat.reduceAdd, Nat.reduceMul, Nat.reducePow]
  omega
theorem zf3 (a b c : Nat) (ha : a < 64) (hb : b < 64) (hc : c < 64) : zf [a, b, c] = decide (c % 4 = 0) := by
  unfold zf
  rw [gY3, decide_eq_decide]
  simp only [List.length_cons, List.length_nil, Nat.reduceAdd, Nat.reduceMul, Nat.reducePow]
  omega
theorem dv_nil : dv [] = ([], true) := by rw [dv]; simp
theorem dv2 (a b : Nat) : dv [a, b] = ([UInt8.ofNat (gY [a, b] / 2 ^ 16)], zf [a, b]) := by
  rw [dv, dif_neg (by simp)]
  simp [dv_nil, bys]
theorem dv3 (a b c : Nat) : dv [a, b, c] = ([UInt8.ofNat (gY [a, b, c] / 2 ^ 16), UInt8.ofNat (gY [a, b, c] / 2 ^ 8)], zf [a, b, c]) := by
  rw [dv, dif_neg (by simp)]
  simp [dv_nil, bys]
theorem dv4 (a b c d : Nat) (vs : List Nat) : dv (a :: b :: c :: d :: vs) = (UInt8.ofNat (gY [a, b, c, d] / 2 ^ 16) :: UInt8.ofNat (gY [a, b, c, d] / 2 ^ 8) :: UInt8.ofNat (gY [a, b, c, d]) :: (dv vs).1, (dv vs).2) := by
  rw [dv, dif_neg (by simp)]
  have hm : min (a :: b :: c :: d :: vs).length 4 - 1 = 3 := by simp only [List.length_cons]; omega
  have hz : zf ((a :: b :: c :: d :: vs).take 4) = true := zf4 _ (by simp)
  rw [hm, hz]
  simp [bys]
theorem gX1 (a : UInt8) : gX [a] = a.toNat * 65536 := by simp [gX]
theorem gX2 (a b : UInt8) : gX [a, b] = a.toNat * 65536 + b.toNat * 256 := by simp [gX]
theorem gX3 (a b c : UInt8) (r : List UInt8) : gX (a :: b :: c :: r) = a.toNat * 65536 + b.toNat * 256 + c.toNat := by simp [gX]
theorem encV_nil : encV [] = [] := by rw [encV]; simp
theorem encV1 (a : UInt8) : encV [a] = [a.toNat / 4, a.toNat % 4 * 16] := by
  have ha := a.toNat_lt
  rw [encV, dif_neg (by simp), gX1]
  simp only [List.length_singleton, List.drop_succ_cons, List.drop_nil, encV_nil, List.append_nil, Nat.reduceLeDiff, Nat.min_eq_left, Nat.reduceAdd, sgV, Nat.mul_zero, Nat.mul_one, Nat.reduceSub, Nat.reducePow]
  simp only [List.cons.injEq, and_true]
  omega
theorem encV2 (a b : UInt8) : encV [a, b] = [a.toNat / 4, a.toNat % 4 * 16 + b.toNat / 16, b.toNat % 16 * 4] := by
  have ha := a.toNat_lt
  have hb := b.toNat_lt
  rw [encV, dif_neg (by simp), gX2]
  simp only [List.length_cons, List.length_nil, List.drop_succ_cons, List.drop_nil, encV_nil, List.append_nil, Nat.reduceLeDiff, Nat.min_eq_left, Nat.reduceAdd, sgV, Nat.mul_zero, Nat.mul_one, Nat.reduceMul, Nat.reduceSub, Nat.reducePow]
  simp only [List.cons.injEq, and_true]
  omega
theorem encV3 (a b c : UInt8) (r : List UInt8) : encV (a :: b :: c :: r) = (a.toNat / 4) :: (a.toNat % 4 * 16 + b.toNat / 16) :: (b.toNat % 16 * 4 + c.toNat / 64) :: (c.toNat % 64) :: encV r := by
  have ha := a.toNat_lt
  have hb := b.toNat_lt
  have hc := c.toNat_lt
  have hm : min (a :: b :: c :: r).length 3 = 3 := by simp only [List.length_cons]; omega
  rw [encV, dif_neg (by simp), gX3, hm]
  simp only [List.drop_succ_cons, List.drop_zero, Nat.reduceAdd, sgV, Nat.mul_zero, Nat.mul_one, Nat.reduceMul, Nat.reduceSub, Nat.reducePow, List.cons_append, List.nil_append, Nat.div_one]
  simp only [List.cons.injEq, and_true]
  omega
theorem dv_encV : ∀ l : List UInt8, dv (encV l) = (l, true)
  | [] => by rw [encV_nil, dv_nil]
  | [a] => by
    have ha := a.toNat_lt
    rw [encV1, dv2, zf2 _ _ (by omega) (by omega), gY2]
    have h1 : UInt8.ofNat ((a.toNat / 4 * 64 + a.toNat % 4 * 16) * 4096 / 2 ^ 16) = a := of_n _ _ (by omega)
    rw [h1, decide_eq_true (by omega)]
  | [a, b] => by
    have ha := a.toNat_lt
    have hb := b.toNat_lt
    rw [encV2, dv3, zf3 _ _ _ (by omega) (by omega) (by omega), gY3]
    have h1 : UInt8.ofNat (((a.toNat / 4 * 64 + (a.toNat % 4 * 16 + b.toNat / 16)) * 64 + b.toNat % 16 * 4) * 64 / 2 ^ 16) = a := of_n _ _ (by omega)
    have h2 : UInt8.ofNat (((a.toNat / 4 * 64 + (a.toNat % 4 * 16 + b.toNat / 16)) * 64 + b.toNat % 16 * 4) * 64 / 2 ^ 8) = b := of_n _ _ (by omega)
    rw [h1, h2, decide_eq_true (by omega)]
  | a :: b :: c :: r => by
    have ha := a.toNat_lt
    have hb := b.toNat_lt
    have hc := c.toNat_lt
    rw [encV3, dv4, gY4, dv_encV r]
    have h1 : UInt8.ofNat ((((a.toNat / 4 * 64 + (a.toNat % 4 * 16 + b.toNat / 16)) * 64 + (b.toNat % 16 * 4 + c.toNat / 64)) * 64 + c.toNat % 64) / 2 ^ 16) = a := of_n _ _ (by omega)
    have h2 : UInt8.ofNat ((((a.toNat / 4 * 64 + (a.toNat % 4 * 16 + b.toNat / 16)) * 64 + (b.toNat % 16 * 4 + c.toNat / 64)) * 64 + c.toNat % 64) / 2 ^ 8) = b := of_n _ _ (by omega)
    have h3 : UInt8.ofNat ((((a.toNat / 4 * 64 + (a.toNat % 4 * 16 + b.toNat / 16)) * 64 + (b.toNat % 16 * 4 + c.toNat / 64)) * 64 + c.toNat % 64)) = c := of_n _ _ (by omega)
    rw [h1, h2, h3]
theorem encV_dv : ∀ vs : List Nat, (∀ v ∈ vs, v < 64) → vs.length % 4 ≠ 1 → (dv vs).2 = true → encV (dv vs).1 = vs ∧ (dv vs).1.length = vs.length * 3 / 4
  | [], _, _, _ => by rw [dv_nil, encV_nil]; simp
  | [a], _, h, _ => by simp at h
  | [a, b], h, _, hz => by
    have ha := h a (by simp)
    have hb := h b (by simp)
    rw [dv2, zf2 _ _ ha hb] at hz
    rw [dv2, gY2]
    simp only [decide_eq_true_eq] at hz
    simp only [encV1, UInt8.toNat_ofNat']
    simp only [List.cons.injEq, and_true, List.length_cons, List.length_nil]
    omega
  | [a, b, c], h, _, hz => by
    have ha := h a (by simp)
    have hb := h b (by simp)
    have hc := h c (by simp)
    rw [dv3, zf3 _ _ _ ha hb hc] at hz
    rw [dv3, gY3]
    simp only [decide_eq_true_eq] at hz
    simp only [encV2, UInt8.toNat_ofNat']
    simp only [List.cons.injEq, and_true, List.length_cons, List.length_nil]
    omega
  | a :: b :: c :: d :: vs, h, hm, hz => by
    have ha := h a (by simp)
    have hb := h b (by simp)
    have hc := h c (by simp)
    have hd := h d (by simp)
    rw [dv4] at hz
    obtain ⟨i1, i2⟩ := encV_dv vs (fun v hv => h v (by simp [hv])) (by simp only [List.length_cons] at hm; omega) hz
    rw [dv4, gY4]
    simp only [encV3, UInt8.toNat_ofNat', i1]
    simp only [List.cons.injEq, and_true, List.length_cons]
    omega

/-! ### the statements' functions -/
theorem vals61 (l k : List UInt8) : vals (l ++ 61 :: k) = none := by
  rw [vals_append, vals_cons, if_pos (by rw [show (61 : UInt8).toNat = 61 from rfl, sv61]; decide)]
  cases vals l <;> rfl
theorem strip_enc (l : List UInt8) (p : Nat) (hp : p ≤ 2) : strip (enc l ++ List.replicate p 61) = enc l := by
  have hno : ∀ k, enc l ≠ k ++ [61] := fun k hk => by
    have := vals_enc l
    rw [hk, vals61] at this
    cases this
  have h0 : Lib.trimSuffix (enc l) [61] = enc l := by
    rcases snoc_cases (enc l) with h | ⟨k, x, h⟩
    · rw [h]; rfl
    · rw [h, trim_snoc, if_neg (by rintro rfl; exact hno k h)]
  have hp' : p = 0 ∨ p = 1 ∨ p = 2 := by omega
  unfold strip
  rcases hp' with rfl | rfl | rfl
  · simp only [List.replicate_zero, List.append_nil, h0]
  · rw [show List.replicate 1 (61 : UInt8) = [61] from rfl, trim_snoc, if_pos rfl, h0]
  · rw [show List.replicate 2 (61 : UInt8) = [61] ++ [61] from rfl, ← List.append_assoc, trim_snoc, if_pos rfl, trim_snoc, if_pos rfl]
theorem decode_enc (l : List UInt8) (h : l.length ≤ 5000) : sixtyfour_Decode (str (encP l)) = some (ob l, 0) := by
  have hl := encP_length l
  rw [decode_eq _ (by omega), if_neg (by omega), encP_enc, strip_enc _ _ (by omega), vals_enc]
  unfold fin
  simp only [dv_encV, ↓reduceIte]
theorem encP_dec (l : List UInt8) (h4 : l.length % 4 = 0) (hl : l.length ≤ 5000) (vs : List Nat) (hv : vals (strip l) = some vs) (hz : (dv vs).2 = true) : encP (dv vs).1 = l ∧ (dv vs).1.length ≤ l.length := by
  obtain ⟨_, _, h1, h2, h3⟩ := last_n l h4 (by omega)
  have hvl := vals_length _ _ hv
  obtain ⟨i1, i2⟩ := encV_dv vs (vals_lt _ _ hv) (by omega) hz
  refine ⟨?_, by omega⟩
  rw [encP_enc, enc_map, i1, vals_sg _ _ hv]
  have hp : (3 - (dv vs).1.length % 3) % 3 = l.length - (strip l).length := by
    have h5 : l.length - (strip l).length = 0 ∨ l.length - (strip l).length = 1 ∨ l.length - (strip l).length = 2 := by omega
    rcases h5 with h5 | h5 | h5
    · have : (dv vs).1.length % 3 = 0 := by omega
      omega
    · have : (dv vs).1.length % 3 = 2 := by omega
      omega
    · have : (dv vs).1.length % 3 = 1 := by omega
      omega
  rw [hp]
  exact h1.symm
end Go.Proofs.Ytdhkcjddjmgciaa.Six
