/- The document's text of sixteen bytes: 'Col.textL' too. -/
import Derived.Test.YtecolkjlpklaaaaDoorHexN
import Derived.Test.YtecolkjlpklaaaaDoorColT
set_option linter.unusedVariables false
set_option linter.unusedSimpArgs false
namespace Go.Proofs.YtecolkjlpklaaaaDoor.Col
open E Go.RowKit

theorem refGroups_loop {m : List UInt8} (hm : m.length = 16) : ∀ (k i : Nat), i + k = 8 → crawlwayref09_groups.l0 (v16 m) (i : Int) (gv ((gr m).take i)) = some (gv (gr m)) := by
  have hg : (gr m).length = 8 := by rw [gr_len, hm]
  intro k
  induction k with
  | zero =>
    intro i hi
    obtain rfl : i = 8 := by omega
    rw [crawlwayref09_groups.l0.eq_def, if_neg (by decide), List.take_of_length_le (by omega)]
  | succ k ih =>
    intro i hi
    have w1 : wr .i64 (2 * (i : Int)) = ((2 * i : Nat) : Int) := by rw [wr_i64 (by omega) (by omega)]; omega
    have w2 : wr .i64 (((2 * i : Nat) : Int) + 1) = ((2 * i + 1 : Nat) : Int) := by rw [wr_i64 (by omega) (by omega)]; omega
    have w3 : wr .i64 ((i : Int) + 1) = ((i + 1 : Nat) : Int) := by rw [wr_i64 (by omega) (by omega)]; omega
    obtain ⟨a, ha⟩ : ∃ a, m[2 * i]? = some a := ⟨_, List.getElem?_eq_getElem (by omega)⟩
    obtain ⟨b, hb⟩ : ∃ b, m[2 * i + 1]? = some b := ⟨_, List.getElem?_eq_getElem (by omega)⟩
    have hn := gr_get m i a b ha hb
    have la := a.toNat_lt
    have lb := b.toNat_lt
    have va := v16_get hm (2 * i) a ha
    have vb := v16_get hm (2 * i + 1) b hb
    have hi8 : ((gr m).take i).length = i := by rw [List.length_take]; omega
    have e : wr .i64 (wr .i64 (256 * wr .i64 (a.toNat : Int)) + wr .i64 (b.toNat : Int)) = ((256 * a.toNat + b.toNat : Nat) : Int) := by
      rw [wr_i64 (x := (a.toNat : Int)) (by omega) (by omega), wr_i64 (x := (b.toNat : Int)) (by omega) (by omega), wr_i64 (x := 256 * (a.toNat : Int)) (by omega) (by omega), wr_i64 (by omega) (by omega)]; omega
    have h2 := gv_set (G := (gr m).take i) (by omega) (256 * a.toNat + b.toNat)
    rw [hi8] at h2
    have h3 := ih (i + 1) (by omega)
    rw [List.take_add_one, hn] at h3
    rw [crawlwayref09_groups.l0.eq_def, if_pos (decide_eq_true (by omega)), w1, w2, if_pos (by omega), if_pos (by omega), if_pos (by omega), w3, va, vb, e, h2]
    exact h3
theorem refGroups_ok {m : List UInt8} (hm : m.length = 16) : crawlwayref09_groups (v16 m) = some (gv (gr m)) := by
  unfold crawlwayref09_groups
  have := refGroups_loop hm 8 0 rfl
  rw [List.take_zero, ← gv_zero, show ((0 : Nat) : Int) = 0 from rfl] at this
  rw [this, bindM_some]
theorem runz_le : ∀ (z : List Bool), runz z ≤ z.length
  | [] => Nat.zero_le _
  | true :: r => by have := runz_le r; simp [runz]; omega
  | false :: r => Nat.zero_le _
theorem run_loop {G : List Nat} (h8 : G.length = 8) (f : Nat) (hf : f ≤ 8) : ∀ (k i : Nat), f + i + k = 8 → crawlwayref09_run.l0 (gv G) (f : Int) (i : Int) = some ((i + runz ((zp G).drop (f + i)) : Nat) : Int) := by
  intro k
  induction k with
  | zero =>
    intro i hi
    have w : wr .i64 ((f : Int) + (i : Int)) = ((f + i : Nat) : Int) := by rw [wr_i64 (by omega) (by omega)]; omega
    rw [crawlwayref09_run.l0.eq_def, w, if_neg (by rw [decide_eq_true_eq]; omega), List.drop_eq_nil_of_le (by rw [zp_len]; omega)]; rfl
  | succ k ih =>
    intro i hi
    have w : wr .i64 ((f : Int) + (i : Int)) = ((f + i : Nat) : Int) := by rw [wr_i64 (by omega) (by omega)]; omega
    have w1 : wr .i64 ((i : Int) + 1) = ((i + 1 : Nat) : Int) := by rw [wr_i64 (by omega) (by omega)]; omega
    obtain ⟨n, hn'⟩ : ∃ n, G[f + i]? = some n := ⟨_, List.getElem?_eq_getElem (by omega)⟩
    obtain ⟨c, hc, hd⟩ := drop_get (zp G) (f + i) (by rw [zp_len]; omega)
    rw [zp_get hn'] at hc
    cases hc
    have ez : ((n : Int) == 0) = (n == 0) := by
      by_cases h : n = 0
      · subst h; rfl
      · have h2 : (n == 0) = false := by simp [h]
        rw [h2, beq_eq_false_iff_ne]; omega
    rw [crawlwayref09_run.l0.eq_def, w, if_pos (decide_eq_true (by omega)), if_pos (by omega), gv_get h8 (f + i) n hn', ez, w1, hd]
    cases hb : (n == 0) with
    | false => rw [if_neg Bool.false_ne_true]; rfl
    | true =>
      rw [if_pos rfl, ih (i + 1) (by omega)]
      simp only [runz]
      rw [show f + (i + 1) = f + i + 1 by omega]
      congr 2; omega
theorem run_ok {G : List Nat} (h8 : G.length = 8) (f : Nat) (hf : f ≤ 8) : crawlwayref09_run (gv G) (f : Int) = some ((runz ((zp G).drop f) : Nat) : Int) := by
  unfold crawlwayref09_run
  have := run_loop h8 f hf (8 - f) 0 (by omega)
  rw [show ((0 : Nat) : Int) = 0 from rfl, Nat.zero_add, Nat.add_zero] at this
  rw [this, bindM_some]
theorem refText_loop {G : List Nat} (h8 : G.length = 8) : ∀ (k i p z : Nat), i + k = 8 → crawlwayref09_Text.l0 (gv G) (p : Int) (z : Int) (i : Int) = some (ii (lgR ((zp G).drop i) i p z)) := by
  intro k
  induction k with
  | zero =>
    intro i p z hi
    obtain rfl : i = 8 := by omega
    rw [crawlwayref09_Text.l0.eq_def, if_neg (by decide), List.drop_eq_nil_of_le (by rw [zp_len]; omega)]; rfl
  | succ k ih =>
    intro i p z hi
    have w1 : wr .i64 ((i : Int) + 1) = ((i + 1 : Nat) : Int) := by rw [wr_i64 (by omega) (by omega)]; omega
    obtain ⟨c, hc, hd⟩ := drop_get (zp G) i (by rw [zp_len]; omega)
    rw [crawlwayref09_Text.l0.eq_def, if_pos (decide_eq_true (by omega)), run_ok h8 i (by omega), bindM_some, bindM_some, w1, hd, lgR]
    by_cases hg : runz (c :: (zp G).drop (i + 1)) > z
    · rw [if_pos (decide_eq_true (by omega)), if_pos hg]
      exact ih (i + 1) _ _ (by omega)
    · rw [if_neg (by rw [decide_eq_true_eq]; omega), if_neg hg]
      exact ih (i + 1) _ _ (by omega)
theorem rowL_snoc : ∀ (A : List Nat) (n : Nat), rowL (A ++ [n]) = if A = [] then g1 n else rowL A ++ 58 :: g1 n
  | [], n => rfl
  | [a], n => by rw [if_neg (by simp)]; rfl
  | a :: b :: r, n => by
    have := rowL_snoc (b :: r) n
    rw [if_neg (by simp)] at this ⊢
    show g1 a ++ 58 :: rowL ((b :: r) ++ [n]) = _
    rw [this, rowL]
    simp
theorem bs_grp (n : Nat) : Hex.grp n = bs (g1 n) := eq_bs _
theorem refRow_loop {G : List Nat} (h8 : G.length = 8) (hlt : ∀ n ∈ G, n < 65536) (f t : Nat) (ht : t ≤ 8) : ∀ (k i : Nat), i + k = t → f ≤ i → crawlwayref09_row.l0 (gv G) (f : Int) (t : Int) (bs (rowL ((G.take i).drop f))) (i : Int) = some (bs (rowL ((G.take t).drop f))) := by
  intro k
  induction k with
  | zero =>
    intro i hi hf
    obtain rfl : i = t := by omega
    rw [crawlwayref09_row.l0.eq_def, if_neg (by rw [decide_eq_true_eq]; omega)]
  | succ k ih =>
    intro i hi hf
    obtain ⟨n, hn⟩ : ∃ n, G[i]? = some n := ⟨_, List.getElem?_eq_getElem (by omega)⟩
    have hn6 := hlt n (List.mem_of_getElem? hn)
    have hgl := g1_len n hn6
    have w1 : wr .i64 ((i : Int) + 1) = ((i + 1 : Nat) : Int) := by rw [wr_i64 (by omega) (by omega)]; omega
    have h3 := ih (i + 1) (by omega) (by omega)
    rw [List.take_add_one, hn, List.drop_append_of_le_length (by rw [List.length_take]; omega)] at h3
    have h3' := h3
    rw [show (some n).toList = [n] from rfl, rowL_snoc] at h3
    have hsz := rowL_len ((G.take i).drop f) fun x hx => hlt x (List.mem_of_mem_take (List.mem_of_mem_drop hx))
    have hll : ((G.take i).drop f).length = i - f := by rw [List.length_drop, List.length_take]; omega
    rw [hll] at hsz
    have h58 : (⟨#[58]⟩ : ByteArray) = bs [58] := rfl
    rw [crawlwayref09_row.l0.eq_def, if_pos (decide_eq_true (by omega)), gv_get h8 i n hn, Hex.refGroup_eq n hn6, bs_grp, w1, h58]
    by_cases hfi : f < i
    · have hne : ¬ (G.take i).drop f = [] := fun e => by have := congrArg List.length e; rw [hll] at this; simp at this; omega
      rw [if_neg hne] at h3
      rw [if_pos (decide_eq_true (by omega)), if_pos (by rw [bs_size, bs_size]; simp only [List.length_cons, List.length_nil]; omega), if_pos (by omega), bindM_some, bs_app, if_pos (by rw [bs_size, bs_size, List.length_append]; simp only [List.length_cons, List.length_nil]; omega), bs_app, List.append_assoc]
      exact h3
    · have he : (G.take i).drop f = [] := List.eq_nil_of_length_eq_zero (by rw [hll]; omega)
      rw [if_pos he] at h3
      rw [if_neg (by rw [decide_eq_true_eq]; omega), if_pos (by omega), bindM_some, if_pos (by rw [bs_size, bs_size]; omega), bs_app, he]
      exact h3
theorem refRow_ok {G : List Nat} (h8 : G.length = 8) (hlt : ∀ n ∈ G, n < 65536) (f t : Nat) (hf : f ≤ t) (ht : t ≤ 8) : crawlwayref09_row (gv G) (f : Int) (t : Int) = some (bs (rowL ((G.take t).drop f))) := by
  unfold crawlwayref09_row
  have h := refRow_loop h8 hlt f t ht (t - f) f (by omega) (Nat.le_refl _)
  have he : (G.take f).drop f = [] := List.drop_eq_nil_of_le (by rw [List.length_take]; omega)
  rw [he] at h
  show (crawlwayref09_row.l0 (gv G) (f : Int) (t : Int) (bs (rowL [])) (f : Int) >>= fun q2 => _) = _
  rw [h, bindM_some]
theorem refText_ok {m : List UInt8} (hm : m.length = 16) : crawlwayref09_Text (v16 m) = some (bs (textL (gr m))) := by
  have hg : (gr m).length = 8 := by rw [gr_len, hm]
  have hlt := gr_lt m
  have hf := lg_fits (z := zp (gr m)) (by rw [zp_len, hg])
  have hl := refText_loop hg 8 0 0 0 rfl
  rw [List.drop_zero, show ((0 : Nat) : Int) = 0 from rfl] at hl
  unfold crawlwayref09_Text
  rw [refGroups_ok hm, bindM_some, hl, bindM_some]
  unfold textL
  show (if decide (((lg (zp (gr m))).2 : Int) < 2) = true then _ else crawlwayref09_row (gv (gr m)) 0 ((lg (zp (gr m))).1 : Int) >>= fun t14 => if t14.size + (⟨#[58, 58]⟩ : ByteArray).size ≤ 140737488355328 then crawlwayref09_row (gv (gr m)) (wr .i64 (((lg (zp (gr m))).1 : Int) + ((lg (zp (gr m))).2 : Int))) 8 >>= fun t16 => if (t14 ++ (⟨#[58, 58]⟩ : ByteArray)).size + t16.size ≤ 140737488355328 then some ((t14 ++ (⟨#[58, 58]⟩ : ByteArray)) ++ t16) else none else none) = _
  generalize lg (zp (gr m)) = q at hf
  obtain ⟨p, z⟩ := q
  simp only at hf ⊢
  by_cases h2 : z < 2
  · have hr := refRow_ok hg hlt 0 8 (by omega) (by omega)
    rw [show ((0 : Nat) : Int) = 0 from rfl, show ((8 : Nat) : Int) = 8 from rfl, List.take_of_length_le (by omega), List.drop_zero] at hr
    rw [if_pos (decide_eq_true (by omega)), if_pos h2, hr]; rfl
  · have w : wr .i64 ((p : Int) + (z : Int)) = ((p + z : Nat) : Int) := by rw [wr_i64 (by omega) (by omega)]; omega
    have hA := rowL_len ((gr m).take p) fun n hn => hlt n (List.mem_of_mem_take hn)
    have hB := rowL_len ((gr m).drop (p + z)) fun n hn => hlt n (List.mem_of_mem_drop hn)
    rw [List.length_take] at hA
    rw [List.length_drop] at hB
    have r1 := refRow_ok hg hlt 0 p (by omega) (by omega)
    rw [show ((0 : Nat) : Int) = 0 from rfl, List.drop_zero] at r1
    have r2 := refRow_ok hg hlt (p + z) 8 (by omega) (by omega)
    rw [show ((8 : Nat) : Int) = 8 from rfl, List.take_of_length_le (by omega)] at r2
    have h58 : (⟨#[58, 58]⟩ : ByteArray) = bs [58, 58] := rfl
    rw [if_neg (by rw [decide_eq_true_eq]; omega), r1, bindM_some, h58, if_pos (by rw [bs_size, bs_size]; simp only [List.length_cons, List.length_nil]; omega), w, r2, bindM_some, bs_app, if_pos (by rw [bs_size, bs_size]; simp only [List.length_append, List.length_cons, List.length_nil]; omega), bs_app, if_neg h2]
    rw [List.append_assoc]; rfl
end Go.Proofs.YtecolkjlpklaaaaDoor.Col
