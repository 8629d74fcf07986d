/- Four bytes as a text (chapter 08): both sides' functions in plain words. -/
import Derived.Test.YtecolkjlpklaaaaDoorParts
set_option linter.unusedVariables false
set_option linter.unusedSimpArgs false
namespace Go.Proofs.YtecolkjlpklaaaaDoor
open E Go.RowKit

theorem set_step {α : Type} (A l : List α) (i : Nat) (x : α) (hA : A.length = l.length) (hx : A[i]? = some x) : (A.take i ++ l.drop i).set i x = A.take (i + 1) ++ l.drop (i + 1) := by
  have hi : i < A.length := (List.getElem?_eq_some_iff.1 hx).1
  apply List.ext_getElem?
  intro j
  have h1 : (A.take i).length = i := by simp; omega
  have h2 : (A.take (i + 1)).length = i + 1 := by simp; omega
  rw [List.getElem?_set]
  by_cases hj : i = j
  · subst hj
    have hl : i < (A.take i ++ l.drop i).length := by simp; omega
    rw [if_pos rfl, if_pos hl, List.getElem?_append_left (by omega), List.getElem?_take, if_pos (by omega), hx]
  · rw [if_neg hj]
    by_cases hlt : j < i
    · rw [List.getElem?_append_left (by omega), List.getElem?_append_left (by omega), List.getElem?_take, List.getElem?_take, if_pos hlt, if_pos (by omega)]
    · rw [List.getElem?_append_right (by omega), List.getElem?_append_right (by omega), List.getElem?_drop, List.getElem?_drop, h1, h2]
      congr 1; omega
theorem q_size (n : Nat) (h : n < 256) : (fmtU (n : Int)).size ≤ 3 := by
  have key : ∀ n : Nat, n < 256 → (Lib.decDigits n).length ≤ 3 := by
    intro n hn
    by_cases h1 : n < 10
    · rw [decDigits_small h1]; simp
    · rw [decDigits_big h1, List.length_append]
      by_cases h2 : n / 10 < 10
      · rw [decDigits_small h2]; simp
      · rw [decDigits_big h2, decDigits_small (by omega), List.length_append]; simp
  have := key n h
  rw [← size_toList, fmtU_list]
  omega
def qT (m : List UInt8) : List ByteArray := m.map fun b => fmtU (b.toNat : Int)
def v4 (m : List UInt8) : Vector Int 4 := lvec 4 (ob m)
theorem v4_toList {m : List UInt8} (hm : m.length = 4) : (v4 m).toList = ob m := by
  unfold v4
  rw [lvec_toList 4 _ (by rw [ob_length]; omega), List.take_of_length_le (by rw [ob_length]; omega)]
theorem v4_of {v : Vector Int 4} {m : List UInt8} (h : v.toList = ob m) : v = v4 m := by
  have hl : m.length = 4 := by have := congrArg List.length h; rw [ob_length] at this; simpa using this.symm
  apply Vector.toList_inj.1
  rw [v4_toList hl, h]
theorem exists_v4 (v : Vector Int 4) (h : ∀ x ∈ v.toList, (Lit.int .u8 x).wf = true) : ∃ m, v = v4 m ∧ m.length = 4 := by
  obtain ⟨m, hm⟩ := exists_ob v.toList h
  exact ⟨m, v4_of hm, by have := congrArg List.length hm; rw [ob_length] at this; simpa using this.symm⟩
theorem vget_v4 {m : List UInt8} (hm : m.length = 4) (i : Nat) (c : UInt8) (hc : m[i]? = some c) : vget (v4 m) (i : Int) = (c.toNat : Int) := by
  unfold vget
  rw [v4_toList hm, Int.toNat_natCast, List.getD_eq_getElem?_getD]
  unfold ob
  rw [List.getElem?_map, hc]; rfl
theorem vset_v4 {m : List UInt8} (hm : m.length = 4) (i : Nat) (c : UInt8) : vset (v4 m) (i : Int) (c.toNat : Int) = v4 (m.set i c) := by
  apply Vector.toList_inj.1
  rw [vset_toList, v4_toList hm, v4_toList (by simpa using hm), Int.toNat_natCast]
  unfold ob
  rw [List.map_set]
def vs4 (xs : List ByteArray) : Vector ByteArray 4 := lvec 4 xs
theorem vs4_toList {xs : List ByteArray} (h : xs.length = 4) : (vs4 xs).toList = xs := by
  unfold vs4
  rw [lvec_toList 4 _ (by omega), List.take_of_length_le (by omega)]
theorem vset_vs4 {xs : List ByteArray} (h : xs.length = 4) (i : Nat) (t : ByteArray) : vset (vs4 xs) (i : Int) t = vs4 (xs.set i t) := by
  apply Vector.toList_inj.1
  rw [vset_toList, vs4_toList h, vs4_toList (by simpa using h), Int.toNat_natCast]
theorem quad_loop {m : List UInt8} (hm : m.length = 4) : ∀ (k i : Nat), i + k = 4 →
    quad_Text.l0 (v4 m) (i : Int) (vs4 ((qT m).take i ++ (List.replicate 4 (⟨#[]⟩ : ByteArray)).drop i)) = some (vs4 (qT m)) := by
  have hql : (qT m).length = 4 := by simp [qT, hm]
  intro k
  induction k with
  | zero =>
    intro i hi
    have hz : decide ((i : Int) < 4) = false := decide_eq_false (by omega)
    rw [quad_Text.l0.eq_def, hz, if_neg Bool.false_ne_true, List.drop_eq_nil_of_le (by simp; omega), List.append_nil, List.take_of_length_le (by omega)]
  | succ k ih =>
    intro i hi
    have hz : decide ((i : Int) < 4) = true := decide_eq_true (by omega)
    have hc : m[i]? = some m[i] := List.getElem?_eq_getElem (by omega)
    generalize m[i] = c at hc
    have hcl := c.toNat_lt
    have hg : (0 : Int) ≤ (i : Int) ∧ (i : Int) < 4 := by omega
    have hA : ((qT m).take i ++ (List.replicate 4 (⟨#[]⟩ : ByteArray)).drop i).length = 4 := by simp; omega
    have hstep := set_step (qT m) (List.replicate 4 (⟨#[]⟩ : ByteArray)) i (fmtU (c.toNat : Int)) (by simp; omega) (by unfold qT; rw [List.getElem?_map, hc]; rfl)
    rw [quad_Text.l0.eq_def, hz, if_pos rfl, if_pos hg, vget_v4 hm i c hc, wr_u64 (by omega) (by omega), text_code _ (by omega), bindM_some, if_pos hg, vset_vs4 hA, hstep, wr_i64 (by omega) (by omega), show ((i : Int) + 1) = ((i + 1 : Nat) : Int) by omega]
    exact ih (i + 1) (by omega)
/-- The text. -/
def qText (m : List UInt8) : List UInt8 := match m with
  | [a, b, c, d] => Lib.decDigits a.toNat ++ 46 :: (Lib.decDigits b.toNat ++ 46 :: (Lib.decDigits c.toNat ++ 46 :: Lib.decDigits d.toNat))
  | _ => []
theorem digits3 (n : Nat) (h : n < 256) : (Lib.decDigits n).length ≤ 3 := by
  have := q_size n h
  rw [← size_toList, fmtU_list] at this
  exact this
theorem qText_len {m : List UInt8} (hm : m.length = 4) : (qText m).length ≤ 15 := by
  match m, hm with
  | [a, b, c, d], _ =>
    have h1 := digits3 a.toNat a.toNat_lt
    have h2 := digits3 b.toNat b.toNat_lt
    have h3 := digits3 c.toNat c.toNat_lt
    have h4 := digits3 d.toNat d.toNat_lt
    simp only [qText, List.length_append, List.length_cons]
    omega
theorem bjoin_qT {m : List UInt8} (hm : m.length = 4) : bjoin (qT m) ⟨#[46]⟩ = bs (qText m) := by
  match m, hm with
  | [a, b, c, d], _ =>
    apply mk_inj
    rw [bs_list]
    show (bjoin [fmtU (a.toNat : Int), fmtU (b.toNat : Int), fmtU (c.toNat : Int), fmtU (d.toNat : Int)] ⟨#[46]⟩).data.toList = _
    unfold bjoin Lib.join
    simp only [List.map_cons, List.map_nil, fmtU_list]
    simp [List.intercalate, List.intersperse, qText]
theorem quad_text {m : List UInt8} (hm : m.length = 4) : quad_Text (v4 m) = some (bs (qText m)) := by
  have hql : (qT m).length = 4 := by simp [qT, hm]
  unfold quad_Text
  have h := quad_loop hm 4 0 rfl
  rw [List.take_zero, List.nil_append, List.drop_zero, show ((0 : Nat) : Int) = 0 from rfl] at h
  have hz : (Vector.replicate 4 (⟨#[]⟩ : ByteArray) : Vector ByteArray 4) = vs4 (List.replicate 4 (⟨#[]⟩ : ByteArray)) := by
    apply Vector.toList_inj.1; rw [vs4_toList (by simp)]; rfl
  have hsz := qText_len hm
  rw [hz, h, bindM_some, vs4_toList hql, if_pos (by omega), bjoin_qT hm, if_pos (by rw [bs_size]; omega)]
theorem refQuad_loop {m : List UInt8} (hm : m.length = 4) : crawlwayref08_Text (v4 m) = some (bs (qText m)) := by
  match m, hm with
  | [a, b, c, d], hm =>
    have ha := a.toNat_lt
    have hb := b.toNat_lt
    have hc := c.toNat_lt
    have hd := d.toNat_lt
    have g0 : vget (v4 [a, b, c, d]) 0 = (a.toNat : Int) := vget_v4 hm 0 a rfl
    have g1 : vget (v4 [a, b, c, d]) 1 = (b.toNat : Int) := vget_v4 hm 1 b rfl
    have g2 : vget (v4 [a, b, c, d]) 2 = (c.toNat : Int) := vget_v4 hm 2 c rfl
    have g3 : vget (v4 [a, b, c, d]) 3 = (d.toNat : Int) := vget_v4 hm 3 d rfl
    have s0 := q_size a.toNat ha
    have s1 := q_size b.toNat hb
    have s2 := q_size c.toNat hc
    have s3 := q_size d.toNat hd
    have hdot : (⟨#[46]⟩ : ByteArray).size = 1 := rfl
    have w1 : wr .i64 ((1 : Int) + 1) = 2 := by rw [wr_i64 (by omega) (by omega)]; rfl
    have w2 : wr .i64 ((2 : Int) + 1) = 3 := by rw [wr_i64 (by omega) (by omega)]; rfl
    have w3 : wr .i64 ((3 : Int) + 1) = 4 := by rw [wr_i64 (by omega) (by omega)]; rfl
    have d1 : decide ((1 : Int) < 4) = true := rfl
    have d2 : decide ((2 : Int) < 4) = true := rfl
    have d3 : decide ((3 : Int) < 4) = true := rfl
    have d4 : decide ((4 : Int) < 4) = false := rfl
    have i1 : (0 : Int) ≤ 1 ∧ (1 : Int) < 4 := by omega
    have i2 : (0 : Int) ≤ 2 ∧ (2 : Int) < 4 := by omega
    have i3 : (0 : Int) ≤ 3 ∧ (3 : Int) < 4 := by omega
    unfold crawlwayref08_Text
    rw [g0, wr_u64 (by omega) (by omega), text_ref _ (by omega), bindM_some]
    rw [crawlwayref08_Text.l0.eq_def, d1, if_pos rfl, if_pos (by omega), if_pos i1, g1, wr_u64 (by omega) (by omega), text_ref _ (by omega), bindM_some, if_pos (by rw [ByteArray.size_append]; omega), w1]
    rw [crawlwayref08_Text.l0.eq_def, d2, if_pos rfl, if_pos (by simp only [ByteArray.size_append]; omega), if_pos i2, g2, wr_u64 (by omega) (by omega), text_ref _ (by omega), bindM_some, if_pos (by simp only [ByteArray.size_append]; omega), w2]
    rw [crawlwayref08_Text.l0.eq_def, d3, if_pos rfl, if_pos (by simp only [ByteArray.size_append]; omega), if_pos i3, g3, wr_u64 (by omega) (by omega), text_ref _ (by omega), bindM_some, if_pos (by simp only [ByteArray.size_append]; omega), w3]
    rw [crawlwayref08_Text.l0.eq_def, d4, if_neg Bool.false_ne_true, bindM_some]
    refine congrArg some ?_
    apply mk_inj
    rw [bs_list]
    simp only [append_list, fmtU_list, qText]
    simp

/-! ### reading -/
def pqs : List (List UInt8) → List UInt8 → Nat × List UInt8
  | [], acc => (0, acc)
  | p :: r, acc => if (rdU p 255).2 = 0 then pqs r (acc ++ [UInt8.ofNat (rdU p 255).1]) else ((rdU p 255).2, acc)
theorem rdU_le (l : List UInt8) (most : Nat) : (rdU l most).1 ≤ most := by
  unfold rdU; split
  · exact Nat.zero_le _
  · split
    · assumption
    · exact Nat.zero_le _
def quadP (l : List UInt8) : Vector Int 4 × Nat :=
  if (parts 46 l).length = 4 then (if (pqs (parts 46 l) []).1 = 0 then (v4 (pqs (parts 46 l) []).2, 0) else (Vector.replicate 4 0, (pqs (parts 46 l) []).1)) else (Vector.replicate 4 0, 5)
def viOf (p : Vector Int 4 × Nat) : Vector Int 4 × Int := (p.1, (p.2 : Int))
theorem pad_set (acc : List UInt8) (i : Nat) (c : UInt8) (hi : acc.length = i) (h4 : i < 4) : (acc ++ List.replicate (4 - i) 0).set i c = (acc ++ [c]) ++ List.replicate (4 - (i + 1)) 0 := by
  subst hi
  rw [List.set_append_right _ _ (Nat.le_refl _), Nat.sub_self, show 4 - acc.length = (4 - (acc.length + 1)) + 1 by omega, List.replicate_succ]
  simp
theorem quadParse_loop (ps : List (List UInt8)) (hps : ps.length = 4) (hsz : ∀ p ∈ ps, p.length < 1000000) : ∀ (k i : Nat) (acc : List UInt8), i + k = 4 → acc.length = i →
    quad_Parse.l0 (ps.map bs) (i : Int) (v4 (acc ++ List.replicate (4 - i) 0)) =
      some (if (pqs (ps.drop i) acc).1 = 0 then .nx (v4 (pqs (ps.drop i) acc).2) else .ret (Vector.replicate 4 0, ((pqs (ps.drop i) acc).1 : Int))) := by
  intro k
  induction k with
  | zero =>
    intro i acc hi ha
    have : i = 4 := by omega
    subst this
    rw [quad_Parse.l0.eq_def, if_neg (by rw [decide_eq_true_eq, List.length_map]; omega), List.drop_eq_nil_of_le (by omega)]
    show _ = some (if (0 : Nat) = 0 then _ else _)
    rw [if_pos rfl]
    show some (Ctl.nx (v4 (acc ++ []))) = _
    rw [List.append_nil]; rfl
  | succ k ih =>
    intro i acc hi ha
    have hp : ps[i]? = some ps[i] := List.getElem?_eq_getElem (by omega)
    have hdrop : ps.drop i = ps[i] :: ps.drop (i + 1) := List.drop_eq_getElem_cons (by omega)
    generalize ps[i] = p at hp hdrop
    have hmem := List.mem_of_getElem? hp
    have hpl := hsz p hmem
    have hl : lget (ps.map bs) (i : Int) = bs p := by
      unfold lget
      rw [Int.toNat_natCast, List.getD_eq_getElem?_getD, List.getElem?_map, hp]; rfl
    have g : (0 : Int) ≤ (i : Int) ∧ (i : Int) < ((ps.map bs).length : Int) := by rw [List.length_map]; omega
    have hr := read_code (bs p) 255 (by rw [bs_size]; omega) (by omega)
    rw [bs_list, show ((255 : Nat) : Int) = 255 from rfl] at hr
    rw [quad_Parse.l0.eq_def, if_pos (decide_eq_true g.2), if_pos g, hl, hr, bindM_some, hdrop]
    unfold pqs
    have hle := rdU_le p 255
    by_cases h0 : (rdU p 255).2 = 0
    · have hb : ((iiOf (rdU p 255)).2 != 0) = false := by simp [iiOf, h0]
      have e8 : wr .u8 (iiOf (rdU p 255)).1 = ((UInt8.ofNat (rdU p 255).1).toNat : Int) := by
        show wr .u8 ((rdU p 255).1 : Int) = _
        rw [wr_u8 (by omega) (by omega), UInt8.toNat_ofNat', Nat.mod_eq_of_lt (by omega)]
      have g4 : (0 : Int) ≤ (i : Int) ∧ (i : Int) < 4 := by omega
      rw [hb, if_neg Bool.false_ne_true, if_pos g4, e8, vset_v4 (by simp; omega), pad_set acc i _ ha (by omega), wr_i64 (by omega) (by omega), show ((i : Int) + 1) = ((i + 1 : Nat) : Int) by omega, if_pos h0]
      exact ih (i + 1) _ (by omega) (by simp; omega)
    · have hb : ((iiOf (rdU p 255)).2 != 0) = true := by rw [bne_iff_ne]; show ((rdU p 255).2 : Int) ≠ 0; omega
      rw [hb, if_pos rfl, if_neg h0, if_neg h0]; rfl
theorem refQuadParse_loop (ps : List (List UInt8)) (hps : ps.length = 4) (hsz : ∀ p ∈ ps, p.length < 1000000) : ∀ (k i : Nat) (acc : List UInt8), i + k = 4 → acc.length = i →
    crawlwayref08_Parse.l0 (ps.map bs) (i : Int) (v4 (acc ++ List.replicate (4 - i) 0)) =
      some (if (pqs (ps.drop i) acc).1 = 0 then .nx (v4 (pqs (ps.drop i) acc).2) else .ret (Vector.replicate 4 0, ((pqs (ps.drop i) acc).1 : Int))) := by
  intro k
  induction k with
  | zero =>
    intro i acc hi ha
    have : i = 4 := by omega
    subst this
    rw [crawlwayref08_Parse.l0.eq_def, if_neg (by decide), List.drop_eq_nil_of_le (by omega)]
    show _ = some (if (0 : Nat) = 0 then _ else _)
    rw [if_pos rfl]
    show some (Ctl.nx (v4 (acc ++ []))) = _
    rw [List.append_nil]; rfl
  | succ k ih =>
    intro i acc hi ha
    have hp : ps[i]? = some ps[i] := List.getElem?_eq_getElem (by omega)
    have hdrop : ps.drop i = ps[i] :: ps.drop (i + 1) := List.drop_eq_getElem_cons (by omega)
    generalize ps[i] = p at hp hdrop
    have hmem := List.mem_of_getElem? hp
    have hpl := hsz p hmem
    have hl : lget (ps.map bs) (i : Int) = bs p := by
      unfold lget
      rw [Int.toNat_natCast, List.getD_eq_getElem?_getD, List.getElem?_map, hp]; rfl
    have g : (0 : Int) ≤ (i : Int) ∧ (i : Int) < ((ps.map bs).length : Int) := by rw [List.length_map]; omega
    have g4 : (0 : Int) ≤ (i : Int) ∧ (i : Int) < 4 := by omega
    have hr := read_ref (bs p) 255 (by rw [bs_size]; omega) (by omega)
    rw [bs_list, show ((255 : Nat) : Int) = 255 from rfl] at hr
    rw [crawlwayref08_Parse.l0.eq_def, if_pos (decide_eq_true g4.2), if_pos g, hl, hr, bindM_some, hdrop]
    unfold pqs
    have hle := rdU_le p 255
    by_cases h0 : (rdU p 255).2 = 0
    · have hb : ((iiOf (rdU p 255)).2 != 0) = false := by simp [iiOf, h0]
      have e8 : wr .u8 (iiOf (rdU p 255)).1 = ((UInt8.ofNat (rdU p 255).1).toNat : Int) := by
        show wr .u8 ((rdU p 255).1 : Int) = _
        rw [wr_u8 (by omega) (by omega), UInt8.toNat_ofNat', Nat.mod_eq_of_lt (by omega)]
      rw [hb, if_neg Bool.false_ne_true, if_pos g4, e8, vset_v4 (by simp; omega), pad_set acc i _ ha (by omega), wr_i64 (by omega) (by omega), show ((i : Int) + 1) = ((i + 1 : Nat) : Int) by omega, if_pos h0]
      exact ih (i + 1) _ (by omega) (by simp; omega)
    · have hb : ((iiOf (rdU p 255)).2 != 0) = true := by rw [bne_iff_ne]; show ((rdU p 255).2 : Int) ≠ 0; omega
      rw [hb, if_pos rfl, if_neg h0, if_neg h0]; rfl
theorem part_short (c : UInt8) : ∀ (l p : List UInt8), p ∈ parts c l → p.length ≤ l.length := by
  intro l
  induction l with
  | nil => intro p hp; simp [parts] at hp; subst hp; exact Nat.le_refl _
  | cons x r ih =>
    intro p hp
    have hne := parts_ne c r
    unfold parts at hp
    split at hp
    · rcases List.mem_cons.1 hp with rfl | hp
      · exact Nat.zero_le _
      · exact Nat.le_trans (ih p hp) (by simp)
    · cases hq : parts c r with
      | nil => exact absurd hq hne
      | cons a b =>
        rw [hq] at hp ih
        rcases List.mem_cons.1 hp with rfl | hp
        · have := ih a (List.mem_cons_self ..)
          simp; omega
        · have := ih p (List.mem_cons_of_mem _ hp)
          simp; omega
theorem zero_v4 : (Vector.replicate 4 (0 : Int) : Vector Int 4) = v4 (List.replicate 4 0) := v4_of rfl
theorem quad_parse (l : List UInt8) (h : l.length < 1000000) : quad_Parse (bs l) = some (viOf (quadP l)) := by
  unfold quad_Parse quadP
  have hp := parts_code 46 l h
  rw [show (((46 : UInt8).toNat : Nat) : Int) = 46 from rfl] at hp
  rw [hp, bindM_some, List.length_map]
  by_cases h4 : (parts 46 l).length = 4
  · have hne : (((parts 46 l).length : Int) != 4) = false := by rw [h4]; rfl
    have hl := quadParse_loop (parts 46 l) h4 (fun p hp => Nat.lt_of_le_of_lt (part_short 46 l p hp) h) 4 0 [] rfl rfl
    rw [List.nil_append, show 4 - 0 = 4 from rfl, ← zero_v4, show ((0 : Nat) : Int) = 0 from rfl, List.drop_zero] at hl
    rw [hne, if_neg Bool.false_ne_true, hl, bindM_some, if_pos h4]
    by_cases h0 : (pqs (parts 46 l) []).1 = 0
    · rw [if_pos h0, if_pos h0]; rfl
    · rw [if_neg h0, if_neg h0]; rfl
  · have hne : (((parts 46 l).length : Int) != 4) = true := by rw [bne_iff_ne]; omega
    rw [hne, if_pos rfl, if_neg h4]; rfl
theorem quad_parse_ref (l : List UInt8) (h : l.length < 1000000) : crawlwayref08_Parse (bs l) = some (viOf (quadP l)) := by
  unfold crawlwayref08_Parse quadP
  have hp := parts_ref 46 l h
  rw [show (((46 : UInt8).toNat : Nat) : Int) = 46 from rfl] at hp
  rw [hp, bindM_some, List.length_map]
  by_cases h4 : (parts 46 l).length = 4
  · have hne : (((parts 46 l).length : Int) != 4) = false := by rw [h4]; rfl
    have hl := refQuadParse_loop (parts 46 l) h4 (fun p hp => Nat.lt_of_le_of_lt (part_short 46 l p hp) h) 4 0 [] rfl rfl
    rw [List.nil_append, show 4 - 0 = 4 from rfl, ← zero_v4, show ((0 : Nat) : Int) = 0 from rfl, List.drop_zero] at hl
    rw [hne, if_neg Bool.false_ne_true, hl, bindM_some, if_pos h4]
    by_cases h0 : (pqs (parts 46 l) []).1 = 0
    · rw [if_pos h0, if_pos h0]; rfl
    · rw [if_neg h0, if_neg h0]; rfl
  · have hne : (((parts 46 l).length : Int) != 4) = true := by rw [bne_iff_ne]; omega
    rw [hne, if_pos rfl, if_neg h4]; rfl
/-- The parts, with the byte between, are the text. -/
theorem parts_join (c : UInt8) : ∀ (l : List UInt8), [c].intercalate (parts c l) = l := by
  have key : ∀ (l : List UInt8), ∃ p r, parts c l = p :: r ∧ p ++ (r.map ([c] ++ ·)).flatten = l := by
    intro l
    induction l with
    | nil => exact ⟨[], [], rfl, rfl⟩
    | cons x l ih =>
      obtain ⟨p, r, h1, h2⟩ := ih
      by_cases hx : x = c
      · subst hx
        refine ⟨[], p :: r, ?_, ?_⟩
        · rw [parts, if_pos rfl, h1]
        · rw [← h2]; simp
      · refine ⟨x :: p, r, ?_, ?_⟩
        · rw [parts, if_neg hx, h1]; rfl
        · rw [← h2]; simp
  intro l
  obtain ⟨p, r, h1, h2⟩ := key l
  rw [h1]
  have : ∀ (r : List (List UInt8)) (p : List UInt8), [c].intercalate (p :: r) = p ++ (r.map ([c] ++ ·)).flatten := by
    intro r
    induction r with
    | nil => intro p; simp [List.intercalate]
    | cons q r ih =>
      intro p
      have := ih q
      simp only [List.intercalate, List.intersperse] at this ⊢
      simp [this]
  rw [this, h2]
theorem pqs_ok : ∀ (ps : List (List UInt8)) (acc : List UInt8), (pqs ps acc).1 = 0 → ∃ m, (pqs ps acc).2 = acc ++ m ∧ m.length = ps.length ∧ ps = m.map fun b => Lib.decDigits b.toNat
  | [], acc, _ => ⟨[], by simp [pqs], rfl, rfl⟩
  | p :: r, acc, h => by
    unfold pqs at h ⊢
    by_cases h0 : (rdU p 255).2 = 0
    · rw [if_pos h0] at h ⊢
      obtain ⟨m, h1, h2, h3⟩ := pqs_ok r _ h
      obtain ⟨b1, b2⟩ := rdU_back h0
      refine ⟨UInt8.ofNat (rdU p 255).1 :: m, by rw [h1]; simp, by simp [h2], ?_⟩
      rw [List.map_cons, ← h3, UInt8.toNat_ofNat', Nat.mod_eq_of_lt (by omega), b1]
    · rw [if_neg h0] at h
      exact absurd h h0
theorem pqs_digits : ∀ (m : List UInt8) (acc : List UInt8), pqs (m.map fun b => Lib.decDigits b.toNat) acc = (0, acc ++ m)
  | [], acc => by simp [pqs]
  | b :: m, acc => by
    have hb := b.toNat_lt
    have hr : rdU (Lib.decDigits b.toNat) 255 = (b.toNat, 0) := by rw [rdU_text, if_pos (by omega)]
    rw [List.map_cons, pqs, hr]
    show (if (0 : Nat) = 0 then _ else _) = _
    rw [if_pos rfl, show (b.toNat, 0).1 = b.toNat from rfl, UInt8.ofNat_toNat, pqs_digits m]
    simp
theorem dec_nodot (n : Nat) : ∀ x ∈ Lib.decDigits n, x ≠ 46 := fun x hx => by
  have := dig_iff.1 (List.all_eq_true.1 (decDigits_dig n) x hx)
  intro e; subst e
  have : (46 : UInt8).toNat = 46 := rfl
  omega
theorem parts_qText {m : List UInt8} (hm : m.length = 4) : parts 46 (qText m) = m.map fun b => Lib.decDigits b.toNat := by
  match m, hm with
  | [a, b, c, d], _ =>
    show parts 46 (Lib.decDigits a.toNat ++ 46 :: (Lib.decDigits b.toNat ++ 46 :: (Lib.decDigits c.toNat ++ 46 :: Lib.decDigits d.toNat))) = _
    rw [parts_cons _ _ _ (dec_nodot _), parts_cons _ _ _ (dec_nodot _), parts_cons _ _ _ (dec_nodot _), parts_none _ _ (dec_nodot _)]; rfl
theorem quadP_text {m : List UInt8} (hm : m.length = 4) : quadP (qText m) = (v4 m, 0) := by
  unfold quadP
  rw [parts_qText hm, pqs_digits, if_pos (by simp [hm])]
  show (if (0 : Nat) = 0 then _ else _) = _
  rw [if_pos rfl]; rfl
theorem quadP_back {l : List UInt8} (h : (quadP l).2 = 0) : ∃ m, m.length = 4 ∧ quadP l = (v4 m, 0) ∧ qText m = l := by
  unfold quadP at h ⊢
  by_cases h4 : (parts 46 l).length = 4
  · rw [if_pos h4] at h ⊢
    by_cases h0 : (pqs (parts 46 l) []).1 = 0
    · rw [if_pos h0]
      obtain ⟨m, h1, h2, h3⟩ := pqs_ok _ _ h0
      have hm : m.length = 4 := by omega
      refine ⟨m, hm, by rw [h1]; rfl, ?_⟩
      rw [← parts_join 46 l, h3]
      match m, hm with
      | [a, b, c, d], _ =>
        simp [List.intercalate, List.intersperse, qText]
    · rw [if_neg h0] at h; exact absurd h h0
  · rw [if_neg h4] at h; cases h
end Go.Proofs.YtecolkjlpklaaaaDoor
