/- Chapter 52 in plain words: what is counted of each key. -/
import Derived.Test.YtnojjenpggdadaaDoorCen
import Derived.Test.YtnojjenpggdadaaDoorC3
namespace Go.Proofs.YtnojjenpggdadaaDoor
open E
namespace Cen
abbrev Ky := Vector Int 32
def zC : S_census_Count := { f_Kinds := (Vector.replicate 7 (0 : Int) : (Vector Int 7)), f_Bytes := (Vector.replicate 7 (0 : Int) : (Vector Int 7)), f_Whys := (Vector.replicate 21 (0 : Int) : (Vector Int 21)) }
theorem cnt_zC : cnt [] = zC := cnt_nil
def sel (x : S_api_Event) : Bool := x.f_Kind == 2 || x.f_Kind == 3
def ofK (l : List S_api_Event) (k : Ky) : List S_api_Event := l.filter fun x => decide (x.f_Key = k) && sel x
theorem ofK_snoc (l : List S_api_Event) (x : S_api_Event) (k : Ky) : ofK (l ++ [x]) k = if x.f_Key = k ∧ sel x = true then ofK l k ++ [x] else ofK l k := by
  unfold ofK
  rw [List.filter_append, List.filter_cons, List.filter_nil]
  by_cases h1 : x.f_Key = k
  · by_cases h2 : sel x = true
    · simp [h1, h2]
    · simp [h2]
  · simp [h1]
theorem ofK_len (l : List S_api_Event) (k : Ky) : (ofK l k).length ≤ l.length := List.length_filter_le _ _
section
variable {ν : Type}
theorem mfind_put : ∀ (l : List (Ky × ν)) (k k' : Ky) (v : ν), mfind (mput l k v) k' = if k' = k then some v else mfind l k'
  | [], k, k', v => rfl
  | (a, b) :: r, k, k', v => by
    have ih := mfind_put r k k' v
    unfold mput
    by_cases h : k = a
    · subst h
      by_cases h2 : k' = k
      · simp [mfind, h2]
      · simp [mfind, h2]
    · by_cases h2 : k' = a
      · subst h2
        simp [mfind, h, Ne.symm h]
      · simp [mfind, h, h2, ih]
theorem len_put : ∀ (l : List (Ky × ν)) (k : Ky) (v : ν), (mput l k v).length = if mfind l k = none then l.length + 1 else l.length
  | [], k, v => rfl
  | (a, b) :: r, k, v => by
    unfold mput mfind
    by_cases h : k = a
    · rw [if_pos h, if_pos h, if_neg (by simp)]; rfl
    · rw [if_neg h, if_neg h, List.length_cons, len_put r k v, List.length_cons]
      split <;> rfl
end
def stepM (m : List (Ky × S_census_Count)) (x : S_api_Event) : List (Ky × S_census_Count) := if sel x = true then mput m x.f_Key ((census_Count_one (mget m x.f_Key zC) x).getD zC) else m
def bym (l : List S_api_Event) : List (Ky × S_census_Count) := l.foldl stepM []
theorem bym_snoc (l : List S_api_Event) (x : S_api_Event) : bym (l ++ [x]) = stepM (bym l) x := by unfold bym; rw [List.foldl_append]; rfl
/-- What the map has. -/
def Good (m : List (Ky × S_census_Count)) (l : List S_api_Event) : Prop := ∀ k, mget m k zC = cnt (ofK l k) ∧ (mfind m k = none ↔ ofK l k = [])
theorem good_step {m : List (Ky × S_census_Count)} {l : List S_api_Event} (h : Good m l) (x : S_api_Event) : Good (stepM m x) (l ++ [x]) := by
  intro k
  unfold stepM
  rw [ofK_snoc]
  by_cases hs : sel x = true
  · rw [if_pos hs, (h x.f_Key).1, one_cnt]
    simp only [Option.getD_some, mget, mfind_put]
    by_cases hk : x.f_Key = k
    · subst hk
      simp [hs]
    · have hk' : ¬ k = x.f_Key := fun e => hk e.symm
      have := h k
      simp only [mget] at this
      simp [hk, hk', this]
  · rw [if_neg hs, if_neg (fun c => hs c.2)]
    exact h k
theorem good_take (l : List S_api_Event) : ∀ i, i ≤ l.length → Good (bym (l.take i)) (l.take i)
  | 0, _ => fun k => by
    rw [List.take_zero]
    exact ⟨cnt_zC.symm, by simp [bym, mfind, ofK]⟩
  | i + 1, h => by
    rw [take_snoc l i (by omega), bym_snoc]
    exact good_step (good_take l i (by omega)) _
theorem good_all (l : List S_api_Event) : Good (bym l) l := by
  have := good_take l l.length (Nat.le_refl _)
  rwa [List.take_length] at this
theorem len_step (l : List S_api_Event) (i : Nat) (h : i < l.length) (hs : sel (lget l (i : Int)) = true) :
    (bym (l.take (i + 1))).length = if ofK (l.take i) (lget l (i : Int)).f_Key = [] then (bym (l.take i)).length + 1 else (bym (l.take i)).length := by
  rw [take_snoc l i h, bym_snoc]
  unfold stepM
  rw [if_pos hs, len_put]
  have := (good_take l i (by omega) (lget l (i : Int)).f_Key).2
  by_cases h0 : ofK (l.take i) (lget l (i : Int)).f_Key = []
  · rw [if_pos (this.2 h0), if_pos h0]
  · rw [if_neg (fun e => h0 (this.1 e)), if_neg h0]
theorem sel_no {x : S_api_Event} (h2 : ¬ (x.f_Kind == 2) = true) (h3 : ¬ (x.f_Kind == 3) = true) : sel x = false := by
  unfold sel; simp_all
theorem by_l0 (l : List S_api_Event) (hl : l.length < 1000) : ∀ (f i : Nat), i + f = l.length → census_By.l0 l (i : Int) (bym (l.take i)) = some (bym l)
  | 0, i, h => by
    rw [census_By.l0.eq_def, decide_eq_false (by omega), if_neg Bool.false_ne_true, List.take_of_length_le (by omega)]
  | f + 1, i, h => by
    have e1 : wr .i64 ((i : Int) + 1) = ((i + 1 : Nat) : Int) := by rw [wr_i64 (by omega) (by omega)]; omega
    have ih := by_l0 l hl f (i + 1) (by omega)
    rw [take_snoc l i (by omega), bym_snoc] at ih
    rw [census_By.l0.eq_def, decide_eq_true (by omega : (i : Int) < (l.length : Int)), if_pos rfl, if_pos (by omega), e1]
    have hg := (good_take l i (by omega) (lget l (i : Int)).f_Key).1
    have ho := one_cnt (ofK (l.take i) (lget l (i : Int)).f_Key) (lget l (i : Int))
    have hst : sel (lget l (i : Int)) = true → stepM (bym (l.take i)) (lget l (i : Int)) = mput (bym (l.take i)) (lget l (i : Int)).f_Key (cnt (ofK (l.take i) (lget l (i : Int)).f_Key ++ [lget l (i : Int)])) := fun hs => by
      unfold stepM
      rw [if_pos hs, hg, ho]; rfl
    have hc : census_Count_one (mget (bym (l.take i)) (lget l (i : Int)).f_Key ({ f_Kinds := (Vector.replicate 7 (0 : Int) : (Vector Int 7)), f_Bytes := (Vector.replicate 7 (0 : Int) : (Vector Int 7)), f_Whys := (Vector.replicate 21 (0 : Int) : (Vector Int 21)) } : S_census_Count)) (lget l (i : Int)) = some (cnt (ofK (l.take i) (lget l (i : Int)).f_Key ++ [lget l (i : Int)])) := by
      show census_Count_one (mget _ _ zC) _ = _
      rw [hg, ho]
    by_cases h2 : ((lget l (i : Int)).f_Kind == 2) = true
    · rw [if_pos h2, hc, bindM_some, ← hst (by unfold sel; rw [h2, Bool.true_or])]
      exact ih
    · rw [if_neg h2]
      by_cases h3 : ((lget l (i : Int)).f_Kind == 3) = true
      · rw [if_pos h3, hc, bindM_some, ← hst (by unfold sel; rw [h3, Bool.or_true])]
        exact ih
      · rw [if_neg h3]
        have : stepM (bym (l.take i)) (lget l (i : Int)) = bym (l.take i) := by unfold stepM; rw [if_neg (by rw [sel_no h2 h3]; simp)]
        rw [this] at ih
        exact ih
theorem by_spec (l : List S_api_Event) (hl : l.length < 1000) : census_By l = some (bym l) := by
  unfold census_By
  have := by_l0 l hl l.length 0 (by omega)
  rw [List.take_zero, show ((0 : Nat) : Int) = 0 from rfl] at this
  have e : bym [] = [] := rfl
  rw [e] at this
  rw [this, bindM_some]
theorem ofs_l0 (l : List S_api_Event) (hl : l.length < 1000) (k : Ky) : ∀ (f i : Nat), i + f = l.length → crawlwayref52_Of.l0 l k (ofK (l.take i) k) (i : Int) = some (ofK l k)
  | 0, i, h => by
    rw [crawlwayref52_Of.l0.eq_def, decide_eq_false (by omega), if_neg Bool.false_ne_true, List.take_of_length_le (by omega)]
  | f + 1, i, h => by
    have e1 : wr .i64 ((i : Int) + 1) = ((i + 1 : Nat) : Int) := by rw [wr_i64 (by omega) (by omega)]; omega
    have ih := ofs_l0 l hl k f (i + 1) (by omega)
    rw [take_snoc l i (by omega), ofK_snoc] at ih
    have hi : (0 : Int) ≤ (i : Int) ∧ (i : Int) < (l.length : Int) := by omega
    have hlen : ((ofK (l.take i) k).length + 1) * 104 ≤ 140737488355328 := by
      have := ofK_len (l.take i) k
      have h2 : (l.take i).length ≤ 1000 := by rw [List.length_take]; omega
      omega
    rw [crawlwayref52_Of.l0.eq_def, decide_eq_true (by omega : (i : Int) < (l.length : Int)), if_pos rfl, if_pos hi, e1]
    by_cases hk : (lget l (i : Int)).f_Key = k
    · rw [if_pos (decide_eq_true hk), if_pos hi]
      by_cases h2 : ((lget l (i : Int)).f_Kind == 2) = true
      · rw [if_pos ⟨hk, by unfold sel; rw [h2, Bool.true_or]⟩] at ih
        rw [if_pos h2, if_pos hi, if_pos hlen]
        exact ih
      · rw [if_neg h2, if_pos hi]
        by_cases h3 : ((lget l (i : Int)).f_Kind == 3) = true
        · rw [if_pos ⟨hk, by unfold sel; rw [h3, Bool.or_true]⟩] at ih
          rw [if_pos h3, if_pos hi, if_pos hlen]
          exact ih
        · rw [if_neg (fun c => by have := c.2; rw [sel_no h2 h3] at this; exact Bool.false_ne_true this)] at ih
          rw [if_neg h3]
          exact ih
    · rw [if_neg (fun c => hk c.1)] at ih
      rw [if_neg (by rw [decide_eq_true_eq]; exact hk)]
      exact ih
theorem ofs_spec (l : List S_api_Event) (hl : l.length < 1000) (k : Ky) : crawlwayref52_Of l k = some (ofK l k) := by
  unfold crawlwayref52_Of
  have := ofs_l0 l hl k l.length 0 (by omega)
  rw [List.take_zero, show ((0 : Nat) : Int) = 0 from rfl] at this
  have e : ofK [] k = [] := rfl
  rw [e] at this
  rw [this, bindM_some]
theorem keys_l0 (l : List S_api_Event) (hl : l.length < 1000) : ∀ (f i : Nat), i + f = l.length →
    crawlwaylaw52_CensusKeys.l0 l (bym l) ((bym (l.take i)).length : Int) (i : Int) = some (.nx ((bym l).length : Int))
  | 0, i, h => by
    rw [crawlwaylaw52_CensusKeys.l0.eq_def, decide_eq_false (by omega), if_neg Bool.false_ne_true, List.take_of_length_le (by omega)]
  | f + 1, i, h => by
    have e1 : wr .i64 ((i : Int) + 1) = ((i + 1 : Nat) : Int) := by rw [wr_i64 (by omega) (by omega)]; omega
    have ih := keys_l0 l hl f (i + 1) (by omega)
    have hi : (0 : Int) ≤ (i : Int) ∧ (i : Int) < (l.length : Int) := by omega
    have hb : ∀ j, j ≤ l.length → (bym (l.take j)).length ≤ j := by
      intro j
      induction j with
      | zero => intro _; rw [List.take_zero]; exact Nat.le_refl _
      | succ j ihj =>
        intro hj
        have := ihj (by omega)
        rw [take_snoc l j (by omega), bym_snoc]
        unfold stepM
        split
        · rw [len_put]; split <;> omega
        · omega
    have hbi := hb i (by omega)
    have e2 : wr .i64 (((bym (l.take i)).length : Int) + 1) = (((bym (l.take i)).length + 1 : Nat) : Int) := by rw [wr_i64 (by omega) (by omega)]; omega
    have tail : sel (lget l (i : Int)) = true →
      (crawlwayref52_Of l ((lget l (i : Int)).f_Key) >>= fun t29 => crawlwaylaw52_is (mget (bym l) ((lget l (i : Int)).f_Key) zC) t29 >>= fun t32 => if (!t32) = true then (some (.ret false)) else (if (0 : Int) ≤ 0 ∧ 0 ≤ (i : Int) ∧ (i : Int) ≤ (l.length : Int) then if (0 : Int) ≤ (i : Int) ∧ (i : Int) < (l.length : Int) then crawlwayref52_Of (lsub l 0 (i : Int)) ((lget l (i : Int)).f_Key) >>= fun t40 => if ((t40.length : Int) == 0) = true then (crawlwaylaw52_CensusKeys.l0 l (bym l) (wr .i64 (((bym (l.take i)).length : Int) + 1)) (wr .i64 ((i : Int) + 1))) else (crawlwaylaw52_CensusKeys.l0 l (bym l) ((bym (l.take i)).length : Int) (wr .i64 ((i : Int) + 1))) else none else none)) = some (Ctl.nx ((bym l).length : Int)) := fun hs => by
      have hlen := len_step l i (by omega) hs
      have hsub : lsub l 0 (i : Int) = l.take i := by
        unfold lsub
        rw [Int.toNat_natCast, show (0 : Int).toNat = 0 from rfl, List.drop_zero]
      have hoz := ofK_len l (lget l (i : Int)).f_Key
      rw [ofs_spec l hl, bindM_some, (good_all l _).1, is_cnt _ (by omega), bindM_some, if_neg (by simp), if_pos (by omega), if_pos hi, hsub, ofs_spec _ (by rw [List.length_take]; omega), bindM_some, e1, e2]
      by_cases h0 : ofK (l.take i) (lget l (i : Int)).f_Key = []
      · rw [if_pos h0] at hlen
        rw [hlen] at ih
        rw [if_pos (by rw [h0]; rfl)]
        exact ih
      · rw [if_neg h0] at hlen
        rw [hlen] at ih
        have : (ofK (l.take i) (lget l (i : Int)).f_Key).length ≠ 0 := fun e => h0 (List.eq_nil_of_length_eq_zero e)
        rw [if_neg (by rw [beq_iff_eq]; omega)]
        exact ih
    rw [crawlwaylaw52_CensusKeys.l0.eq_def, decide_eq_true (by omega : (i : Int) < (l.length : Int)), if_pos rfl, if_pos hi]
    by_cases h2 : ((lget l (i : Int)).f_Kind == 2) = true
    · rw [if_neg (by rw [bne, h2]; simp), if_pos hi, if_pos hi]
      exact tail (by unfold sel; rw [h2, Bool.true_or])
    · rw [if_pos (by rw [bne]; simpa using h2), if_pos hi]
      by_cases h3 : ((lget l (i : Int)).f_Kind == 3) = true
      · rw [if_neg (by rw [bne, h3]; simp), if_pos hi, if_pos hi]
        exact tail (by unfold sel; rw [h3, Bool.or_true])
      · rw [if_pos (by rw [bne]; simpa using h3), e1]
        have : bym (l.take (i + 1)) = bym (l.take i) := by
          rw [take_snoc l i (by omega), bym_snoc]; unfold stepM; rw [if_neg (by rw [sel_no h2 h3]; simp)]
        rw [this] at ih
        exact ih
end Cen
theorem CensusKeys_pure (xs0 : List S_api_Event) (hw0 : ∀ x ∈ xs0, ok_api_Event x) (a1 : Vector Int 32) (w1 : ∀ x ∈ a1.toList, (Lit.int .u8 x).wf = true) : crawlwaylaw52_CensusKeys xs0 a1 = some true := by
  unfold crawlwaylaw52_CensusKeys
  rw [Cen.long_iff, bindM_some]
  by_cases h0 : 60 < xs0.length
  · rw [if_pos (decide_eq_true h0), Cen.alive52, bindM_some]
  · have hk := Cen.keys_l0 xs0 (by omega) xs0.length 0 (by omega)
    rw [List.take_zero, show ((Cen.bym []).length : Int) = 0 from rfl, show ((0 : Nat) : Int) = 0 from rfl] at hk
    have hoz := Cen.ofK_len xs0 a1
    rw [if_neg (by rw [decide_eq_true_eq]; exact h0), Cen.by_spec _ (by omega), bindM_some, hk, bindM_some]
    dsimp only
    rw [if_pos (beq_self_eq_true _), Cen.ofs_spec _ (by omega), bindM_some]
    show (crawlwaylaw52_is (mget (Cen.bym xs0) a1 Cen.zC) _ >>= _) = _
    rw [(Cen.good_all xs0 a1).1, Cen.is_cnt _ (by omega), bindM_some, if_pos rfl, Cen.alive52, bindM_some]
end Go.Proofs.YtnojjenpggdadaaDoor
