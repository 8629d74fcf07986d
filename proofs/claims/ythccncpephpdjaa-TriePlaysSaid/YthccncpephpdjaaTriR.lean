/- The document's lists of entries: what is put, dropped, found; and the lists of a tree. -/
import Derived.Test.YthccncpephpdjaaTriF
set_option linter.unusedVariables false
set_option linter.unusedSimpArgs false
namespace Go.Proofs.Ythccncpephpdjaa.Tri
open E Go.RowKit
open Adr Cid

def key (x y : Tr) : Prop := x.1 = y.1 ∧ x.2.1 = y.2.1
instance (x y : Tr) : Decidable (key x y) := inferInstanceAs (Decidable (_ ∧ _))
def Ln (X : List Tr) : Prop := ∀ x ∈ X, x.1.length = 16
theorem toE_key {F : Int} {x y : Tr} (hx : x.1.length = 16) (hy : y.1.length = 16) : (toE F x).f_P = (toE F y).f_P ↔ key x y := by
  show mkP (mkA F x.1) (x.2.1 : Int) = mkP (mkA F y.1) (y.2.1 : Int) ↔ _
  rw [mkP_inj hx hy]
  exact ⟨fun ⟨⟨_, h1⟩, h2⟩ => ⟨h1, by omega⟩, fun ⟨h1, h2⟩ => ⟨⟨rfl, h1⟩, by omega⟩⟩
theorem lget_map {F : Int} {X : List Tr} {i : Nat} {x : Tr} (h : X[i]? = some x) : lget (X.map (toE F)) (i : Int) = toE F x := by
  unfold lget
  rw [List.getD_eq_getElem?_getD, Int.toNat_natCast, List.getElem?_map, h]; rfl
theorem less11 {F : Int} {x y : Tr} (hx : x.1.length = 16) (hy : y.1.length = 16) : crawlwayref11_Less (toE F x).f_P (toE F y).f_P = some (lessE x y) := by
  unfold crawlwayref11_Less
  show (if (!decide (mkA F x.1 = mkA F y.1)) = true then (crawlwayref10_Less (mkA F x.1) (mkA F y.1) >>= fun t4 => some t4) else some (decide ((x.2.1 : Int) < (y.2.1 : Int)))) = _
  unfold lessE
  by_cases h : x.1 = y.1
  · have e : mkA F x.1 = mkA F y.1 := by rw [h]
    rw [decide_eq_true e, if_pos h]
    simp
  · have e : ¬ mkA F x.1 = mkA F y.1 := fun e => h ((mkA_inj hx hy).1 e).2
    rw [decide_eq_false e, if_neg h, less_ref hx hy]
    simp [lessA]
theorem drop_cons {X : List Tr} {i : Nat} {x : Tr} (h : X[i]? = some x) : X.drop i = x :: X.drop (i + 1) := by
  obtain ⟨hi, e⟩ := List.getElem?_eq_some_iff.1 h
  rw [← e]; exact List.drop_eq_getElem_cons hi
/-! ### put -/
def fin (e : Tr) : List Tr → Bool → List Tr
  | [], inn => if inn = true then [] else [e]
  | x :: X, inn => if key x e then fin e X inn else if inn = false ∧ lessE e x = true then e :: x :: fin e X true else x :: fin e X inn
theorem putR_loop {F : Int} {X : List Tr} {e : Tr} (hX : Ln X) (he : e.1.length = 16) (hn : X.length ≤ 1000) : ∀ (k i : Nat) (out : List S_api_Entry) (inn : Bool), i + k = X.length → out.length ≤ i + (if inn = true then 1 else 0) →
    ∃ out' inn', crawlwayref25_Put.l0 (X.map (toE F)) (toE F e) out inn (i : Int) = some (out', inn') ∧ out'.length ≤ 1001 ∧ (if inn' = true then out' else out' ++ [toE F e]) = out ++ (fin e (X.drop i) inn).map (toE F)
  | 0, i, out, inn, hi, ho => by
    refine ⟨out, inn, ?_, by split at ho <;> omega, ?_⟩
    · rw [crawlwayref25_Put.l0.eq_def, if_neg (by rw [decide_eq_true_eq]; simp; omega)]
    · rw [List.drop_eq_nil_of_le (by omega)]
      unfold fin
      cases inn <;> simp
  | k + 1, i, out, inn, hi, ho => by
    obtain ⟨x, hx⟩ : ∃ x, X[i]? = some x := ⟨_, List.getElem?_eq_getElem (by omega)⟩
    have hx16 := hX x (List.mem_of_getElem? hx)
    have hlen : ((X.map (toE F)).length : Int) = (X.length : Int) := by simp
    have hg : (0 : Int) ≤ (i : Int) ∧ (i : Int) < ((X.map (toE F)).length : Int) := by rw [hlen]; omega
    have ho2 : out.length ≤ 1001 := by split at ho <;> omega
    rw [crawlwayref25_Put.l0.eq_def, if_pos (by rw [decide_eq_true_eq]; exact hg.2), if_pos hg, lget_map hx, wr1 (by omega), drop_cons hx]
    by_cases hk : key x e
    · rw [if_pos (decide_eq_true ((toE_key hx16 he).2 hk))]
      obtain ⟨o', i', q1, q2, q3⟩ := putR_loop hX he hn k (i + 1) out inn (by omega) (by split at ho <;> omega)
      exact ⟨o', i', q1, q2, by rw [q3, fin, if_pos hk]⟩
    · rw [if_neg (by rw [decide_eq_true_eq]; exact fun h => hk ((toE_key hx16 he).1 h))]
      cases inn with
      | true =>
        rw [if_neg (by simp), if_pos hg, if_pos (by omega)]
        obtain ⟨o', i', q1, q2, q3⟩ := putR_loop hX he hn k (i + 1) (out ++ [toE F x]) true (by omega) (by simp at ho ⊢; omega)
        exact ⟨o', i', q1, q2, by rw [q3, fin, if_neg hk, if_neg (by simp)]; simp⟩
      | false =>
        have h0 : out.length ≤ i := by simpa using ho
        rw [if_pos (by simp), if_pos hg, less11 he hx16, bindM_some]
        cases hle : lessE e x with
        | true =>
          rw [if_pos rfl, if_pos (by omega), if_pos hg, if_pos (by simp; omega)]
          obtain ⟨o', i', q1, q2, q3⟩ := putR_loop hX he hn k (i + 1) ((out ++ [toE F e]) ++ [toE F x]) true (by omega) (by simp; omega)
          exact ⟨o', i', q1, q2, by rw [q3, fin, if_neg hk, if_pos ⟨rfl, hle⟩]; simp⟩
        | false =>
          rw [if_neg (by simp), if_pos hg, if_pos (by omega)]
          obtain ⟨o', i', q1, q2, q3⟩ := putR_loop hX he hn k (i + 1) (out ++ [toE F x]) false (by omega) (by simp; omega)
          exact ⟨o', i', q1, q2, by rw [q3, fin, if_neg hk, if_neg (by simp [hle])]; simp⟩
theorem put_ref {F : Int} {X : List Tr} {e : Tr} (hX : Ln X) (he : e.1.length = 16) (hn : X.length ≤ 1000) : crawlwayref25_Put (X.map (toE F)) (toE F e) = some ((fin e X false).map (toE F)) := by
  obtain ⟨o', i', q1, q2, q3⟩ := putR_loop (F := F) hX he hn X.length 0 [] false (by omega) (by simp)
  unfold crawlwayref25_Put
  rw [show (0 : Int) = ((0 : Nat) : Int) from rfl, q1, bindM_some]
  simp only [List.drop_zero, List.nil_append] at q3
  rw [← q3]
  cases i' with
  | true => simp
  | false => simp; omega
theorem fin_true (e : Tr) : ∀ (X : List Tr) (y : Tr), y ∈ fin e X true ↔ y ∈ X ∧ ¬ key y e
  | [], y => by simp [fin]
  | x :: X, y => by
    unfold fin
    split
    · next h =>
      rw [fin_true e X]
      constructor
      · exact fun ⟨a, b⟩ => ⟨List.mem_cons_of_mem _ a, b⟩
      · rintro ⟨a, b⟩
        rcases List.mem_cons.1 a with rfl | a
        · exact absurd h b
        · exact ⟨a, b⟩
    · next h =>
      rw [if_neg (by simp), List.mem_cons, fin_true e X, List.mem_cons]
      constructor
      · rintro (rfl | ⟨a, b⟩)
        · exact ⟨.inl rfl, h⟩
        · exact ⟨.inr a, b⟩
      · rintro ⟨rfl | a, b⟩
        · exact .inl rfl
        · exact .inr ⟨a, b⟩
theorem fin_false (e : Tr) : ∀ (X : List Tr) (y : Tr), y ∈ fin e X false ↔ (y ∈ X ∧ ¬ key y e) ∨ y = e
  | [], y => by simp [fin]
  | x :: X, y => by
    unfold fin
    split
    · next h =>
      rw [fin_false e X, List.mem_cons]
      constructor
      · rintro (⟨a, b⟩ | a)
        · exact .inl ⟨.inr a, b⟩
        · exact .inr a
      · rintro (⟨rfl | a, b⟩ | a)
        · exact absurd h b
        · exact .inl ⟨a, b⟩
        · exact .inr a
    · next h =>
      split
      · rw [List.mem_cons, List.mem_cons, fin_true e X, List.mem_cons]
        constructor
        · rintro (rfl | rfl | ⟨a, b⟩)
          · exact .inr rfl
          · exact .inl ⟨.inl rfl, h⟩
          · exact .inl ⟨.inr a, b⟩
        · rintro (⟨rfl | a, b⟩ | rfl)
          · exact .inr (.inl rfl)
          · exact .inr (.inr ⟨a, b⟩)
          · exact .inl rfl
      · rw [List.mem_cons, fin_false e X, List.mem_cons]
        constructor
        · rintro (rfl | ⟨a, b⟩ | rfl)
          · exact .inl ⟨.inl rfl, h⟩
          · exact .inl ⟨.inr a, b⟩
          · exact .inr rfl
        · rintro (⟨rfl | a, b⟩ | rfl)
          · exact .inl rfl
          · exact .inr (.inl ⟨a, b⟩)
          · exact .inr (.inr rfl)
abbrev Srt (X : List Tr) : Prop := X.Pairwise (fun x y => lessE x y = true)
theorem fin_true_sub (e : Tr) : ∀ (X : List Tr), (fin e X true).Sublist X
  | [] => by simp [fin]
  | x :: X => by
    unfold fin
    split
    · exact (fin_true_sub e X).trans (List.sublist_cons_self ..)
    · rw [if_neg (by simp)]; exact (fin_true_sub e X).cons_cons _
theorem fin_sorted {e : Tr} (he : e.1.length = 16) : ∀ (X : List Tr), Ln X → Srt X → Srt (fin e X false)
  | [], _, _ => by simp [fin]
  | x :: X, hl, hs => by
    have hs' := List.pairwise_cons.1 hs
    have hl' : Ln X := fun y hy => hl y (List.mem_cons_of_mem _ hy)
    unfold fin
    split
    · exact fin_sorted he X hl' hs'.2
    · next hk =>
      split
      · next h =>
        refine List.pairwise_cons.2 ⟨fun y hy => ?_, List.pairwise_cons.2 ⟨fun y hy => hs'.1 y ((fin_true_sub e X).subset hy), hs'.2.sublist (fin_true_sub e X)⟩⟩
        rcases List.mem_cons.1 hy with rfl | hy
        · exact h.2
        · exact lessE_trans h.2 (hs'.1 y ((fin_true_sub e X).subset hy))
      · next h =>
        refine List.pairwise_cons.2 ⟨fun y hy => ?_, fin_sorted he X hl' hs'.2⟩
        rcases (fin_false e X y).1 hy with ⟨hy, _⟩ | rfl
        · exact hs'.1 y hy
        · refine lessE_total (by rw [he, hl x (List.mem_cons_self ..)]) (fun ⟨a, b⟩ => hk ⟨a.symm, b.symm⟩) ?_
          cases hle : lessE y x with
          | false => rfl
          | true => exact absurd ⟨rfl, hle⟩ h
theorem fin_len (e : Tr) : ∀ (X : List Tr) (inn : Bool), (fin e X inn).length ≤ X.length + 1
  | [], inn => by unfold fin; split <;> simp
  | x :: X, inn => by
    have h1 := fin_len e X inn
    have h2 : (fin e X true).length ≤ X.length := (fin_true_sub e X).length_le
    unfold fin
    split
    · rw [List.length_cons]; omega
    · split
      · simp only [List.length_cons]; omega
      · simp only [List.length_cons]; omega
/-! ### places, what is dropped -/
theorem place_loop {F : Int} {X : List Tr} {e : Tr} (hX : Ln X) (he : e.1.length = 16) (hn : X.length ≤ 1000) : ∀ (k i : Nat), i + k = X.length → (∀ (j : Nat) (x : Tr), j < i → X[j]? = some x → ¬ key x e) →
    (∃ (j : Nat) (x : Tr), X[j]? = some x ∧ key x e ∧ crawlwayref25_Place.l0 (X.map (toE F)) (toE F e).f_P (i : Int) = some (.ret (j : Int))) ∨ ((∀ x ∈ X, ¬ key x e) ∧ crawlwayref25_Place.l0 (X.map (toE F)) (toE F e).f_P (i : Int) = some (.nx ()))
  | 0, i, hi, hp => by
    right
    refine ⟨fun x hx => ?_, ?_⟩
    · obtain ⟨j, hj⟩ := List.getElem?_of_mem hx
      exact hp j x (by have := (List.getElem?_eq_some_iff.1 hj).1; omega) hj
    · rw [crawlwayref25_Place.l0.eq_def, if_neg (by rw [decide_eq_true_eq]; simp; omega)]
  | k + 1, i, hi, hp => by
    obtain ⟨x, hx⟩ : ∃ x, X[i]? = some x := ⟨_, List.getElem?_eq_getElem (by omega)⟩
    have hx16 := hX x (List.mem_of_getElem? hx)
    have hg : (0 : Int) ≤ (i : Int) ∧ (i : Int) < ((X.map (toE F)).length : Int) := by simp; omega
    rw [crawlwayref25_Place.l0.eq_def, if_pos (by rw [decide_eq_true_eq]; exact hg.2), if_pos hg, lget_map hx, wr1 (by omega)]
    by_cases hk : key x e
    · left
      exact ⟨i, x, hx, hk, by rw [if_pos (decide_eq_true ((toE_key hx16 he).2 hk))]⟩
    · rw [if_neg (by rw [decide_eq_true_eq]; exact fun h => hk ((toE_key hx16 he).1 h))]
      exact place_loop hX he hn k (i + 1) (by omega) fun j y hj hy => by
        by_cases e : j = i
        · subst e; rw [hx] at hy; cases hy; exact hk
        · exact hp j y (by omega) hy
theorem place_ref {F : Int} {X : List Tr} {e : Tr} (hX : Ln X) (he : e.1.length = 16) (hn : X.length ≤ 1000) :
    (∃ (j : Nat) (x : Tr), X[j]? = some x ∧ key x e ∧ crawlwayref25_Place (X.map (toE F)) (toE F e).f_P = some (j : Int)) ∨ ((∀ x ∈ X, ¬ key x e) ∧ crawlwayref25_Place (X.map (toE F)) (toE F e).f_P = some (-1)) := by
  unfold crawlwayref25_Place
  rcases place_loop (F := F) hX he hn X.length 0 (by omega) (fun j x hj => by omega) with ⟨j, x, h1, h2, h3⟩ | ⟨h1, h2⟩
  · left; exact ⟨j, x, h1, h2, by rw [show (0 : Int) = ((0 : Nat) : Int) from rfl, h3]; rfl⟩
  · right; exact ⟨h1, by rw [show (0 : Int) = ((0 : Nat) : Int) from rfl, h2]; rfl⟩
def out (e : Tr) (X : List Tr) : List Tr := X.filter fun x => decide (¬ key x e)
theorem drop_loop {F : Int} {X : List Tr} {e : Tr} (hX : Ln X) (he : e.1.length = 16) (hn : X.length ≤ 1000) : ∀ (k i : Nat) (o : List S_api_Entry), i + k = X.length → o.length ≤ i →
    crawlwayref25_Drop.l0 (X.map (toE F)) (toE F e).f_P o (i : Int) = some (o ++ (out e (X.drop i)).map (toE F))
  | 0, i, o, hi, ho => by
    rw [crawlwayref25_Drop.l0.eq_def, if_neg (by rw [decide_eq_true_eq]; simp; omega), List.drop_eq_nil_of_le (by omega)]
    simp [out]
  | k + 1, i, o, hi, ho => by
    obtain ⟨x, hx⟩ : ∃ x, X[i]? = some x := ⟨_, List.getElem?_eq_getElem (by omega)⟩
    have hx16 := hX x (List.mem_of_getElem? hx)
    have hg : (0 : Int) ≤ (i : Int) ∧ (i : Int) < ((X.map (toE F)).length : Int) := by simp; omega
    rw [crawlwayref25_Drop.l0.eq_def, if_pos (by rw [decide_eq_true_eq]; exact hg.2), if_pos hg, lget_map hx, wr1 (by omega), drop_cons hx]
    unfold out
    rw [List.filter_cons]
    by_cases hk : key x e
    · rw [if_neg (by rw [decide_eq_true ((toE_key hx16 he).2 hk)]; simp), drop_loop hX he hn k (i + 1) o (by omega) (by omega), if_neg (by simp [hk])]; rfl
    · rw [if_pos (by rw [decide_eq_false (fun h => hk ((toE_key hx16 he).1 h))]; rfl), if_pos hg, if_pos (by omega), drop_loop hX he hn k (i + 1) _ (by omega) (by simp; omega), if_pos (by simp [hk])]
      simp [out]
theorem drop_ref {F : Int} {X : List Tr} {e : Tr} (hX : Ln X) (he : e.1.length = 16) (hn : X.length ≤ 1000) : crawlwayref25_Drop (X.map (toE F)) (toE F e).f_P = some ((out e X).map (toE F)) := by
  unfold crawlwayref25_Drop
  rw [show (0 : Int) = ((0 : Nat) : Int) from rfl, drop_loop hX he hn X.length 0 [] (by omega) (by simp)]
  simp
theorem same_loop (L : List S_api_Entry) (hn : L.length ≤ 1000) : ∀ (k i : Nat), i + k = L.length → crawlwayref25_Same.l0 L L (i : Int) = some (.nx ())
  | 0, i, hi => by rw [crawlwayref25_Same.l0.eq_def, if_neg (by rw [decide_eq_true_eq]; omega)]
  | k + 1, i, hi => by
    rw [crawlwayref25_Same.l0.eq_def, if_pos (by rw [decide_eq_true_eq]; omega), if_pos (by omega), if_pos (by omega), if_neg (by simp), wr1 (by omega)]
    exact same_loop L hn k (i + 1) (by omega)
theorem same_ref (L : List S_api_Entry) (hn : L.length ≤ 1000) : crawlwayref25_Same L L = some true := by
  unfold crawlwayref25_Same
  rw [if_neg (by simp), show (0 : Int) = ((0 : Nat) : Int) from rfl, same_loop L hn L.length 0 (by omega)]; rfl
/-! ### found -/
def hasT (F : Int) (x : Tr) (V : Int) (a : List UInt8) : Bool := hasP F x.1 (x.2.1 : Int) V a
def fstep (F V : Int) (a : List UInt8) (st : Bool × S_api_Entry) (x : Tr) : Bool × S_api_Entry := if hasT F x V a = true then (if st.1 = false ∨ (x.2.1 : Int) > st.2.f_P.f_Bits then (true, toE F x) else st) else st
theorem findR_loop {F V : Int} {a : List UInt8} (ha : a.length = 16) {X : List Tr} (hX : Ln X) (hn : X.length ≤ 1000) : ∀ (k i : Nat) (is : Bool) (b : S_api_Entry), i + k = X.length →
    crawlwayref25_Find.l0 (X.map (toE F)) (mkA V a) is (i : Int) b = some ((X.drop i).foldl (fstep F V a) (is, b))
  | 0, i, is, b, hi => by
    rw [crawlwayref25_Find.l0.eq_def, if_neg (by rw [decide_eq_true_eq]; simp; omega), List.drop_eq_nil_of_le (by omega)]; rfl
  | k + 1, i, is, b, hi => by
    obtain ⟨x, hx⟩ : ∃ x, X[i]? = some x := ⟨_, List.getElem?_eq_getElem (by omega)⟩
    have hx16 := hX x (List.mem_of_getElem? hx)
    have hg : (0 : Int) ≤ (i : Int) ∧ (i : Int) < ((X.map (toE F)).length : Int) := by simp; omega
    have hh : crawlwayref11_Has (toE F x).f_P (mkA V a) = some (hasT F x V a) := has_ref hx16 ha
    rw [crawlwayref25_Find.l0.eq_def, if_pos (by rw [decide_eq_true_eq]; exact hg.2), if_pos hg, lget_map hx, hh, bindM_some, wr1 (by omega), drop_cons hx, List.foldl_cons]
    have hb : (toE F x).f_P.f_Bits = (x.2.1 : Int) := rfl
    unfold fstep
    cases hasT F x V a with
    | false =>
      rw [if_neg (by simp), if_neg (by simp)]
      exact findR_loop ha hX hn k (i + 1) is b (by omega)
    | true =>
      rw [if_pos rfl, if_pos rfl]
      cases is with
      | false =>
        rw [if_pos (by simp), if_pos hg, if_pos (.inl rfl)]
        exact findR_loop ha hX hn k (i + 1) true (toE F x) (by omega)
      | true =>
        rw [if_neg (by simp), if_pos hg, hb]
        by_cases hc : (x.2.1 : Int) > b.f_P.f_Bits
        · rw [if_pos (decide_eq_true hc), if_pos hg, if_pos (.inr hc)]
          exact findR_loop ha hX hn k (i + 1) true (toE F x) (by omega)
        · rw [if_neg (by rw [decide_eq_true_eq]; exact hc), if_neg (by simp; exact Int.not_lt.1 hc)]
          exact findR_loop ha hX hn k (i + 1) true b (by omega)
def zE : S_api_Entry := { f_P := ({ f_A := ({ f_V := (0 : Int), f_B := (Vector.replicate 16 (0 : Int) : (Vector Int 16)) } : S_api_Addr), f_Bits := (0 : Int) } : S_api_Prefix), f_Owner := (0 : Int) }
theorem find_ref {F V : Int} {a : List UInt8} (ha : a.length = 16) {X : List Tr} (hX : Ln X) (hn : X.length ≤ 1000) : crawlwayref25_Find (X.map (toE F)) (mkA V a) = some ((X.foldl (fstep F V a) (false, zE)).2, (X.foldl (fstep F V a) (false, zE)).1) := by
  unfold crawlwayref25_Find
  have := findR_loop (F := F) (V := V) ha hX hn X.length 0 false zE (by omega)
  rw [List.drop_zero] at this
  unfold zE at this ⊢
  rw [show (0 : Int) = ((0 : Nat) : Int) from rfl] at this ⊢
  rw [this]; rfl
theorem fold_none {F V : Int} {a : List UInt8} : ∀ (X : List Tr) (st : Bool × S_api_Entry), (∀ x ∈ X, hasT F x V a = false) → X.foldl (fstep F V a) st = st
  | [], _, _ => rfl
  | x :: X, st, h => by
    rw [List.foldl_cons]
    have e : fstep F V a st x = st := by unfold fstep; rw [h x (List.mem_cons_self ..), if_neg (by simp)]
    rw [e]
    exact fold_none X st fun y hy => h y (List.mem_cons_of_mem _ hy)
theorem fold_some {F V : Int} {a : List UInt8} : ∀ (X : List Tr) (st : Bool × S_api_Entry), (st.1 = true ∨ ∃ x ∈ X, hasT F x V a = true) →
    (X.foldl (fstep F V a) st).1 = true ∧ ((st.1 = true ∧ (X.foldl (fstep F V a) st).2 = st.2) ∨ ∃ x ∈ X, hasT F x V a = true ∧ (X.foldl (fstep F V a) st).2 = toE F x) ∧
      (st.1 = true → st.2.f_P.f_Bits ≤ (X.foldl (fstep F V a) st).2.f_P.f_Bits) ∧ ∀ x ∈ X, hasT F x V a = true → (x.2.1 : Int) ≤ (X.foldl (fstep F V a) st).2.f_P.f_Bits
  | [], st, h => by
    have h1 : st.1 = true := by rcases h with h | ⟨x, hx, _⟩; exact h; simp at hx
    exact ⟨h1, .inl ⟨h1, rfl⟩, fun _ => Int.le_refl _, by simp⟩
  | x :: X, st, h => by
    rw [List.foldl_cons]
    by_cases hx : hasT F x V a = true
    · by_cases hc : st.1 = false ∨ (x.2.1 : Int) > st.2.f_P.f_Bits
      · have e : fstep F V a st x = (true, toE F x) := by unfold fstep; rw [if_pos hx, if_pos hc]
        rw [e]
        obtain ⟨h1, h2, h3, h4⟩ := fold_some X (true, toE F x) (.inl rfl)
        have h3' := h3 rfl
        have hb : (toE F x).f_P.f_Bits = (x.2.1 : Int) := rfl
        refine ⟨h1, .inr ?_, fun hs => ?_, fun y hy hyh => ?_⟩
        · rcases h2 with ⟨_, h2⟩ | ⟨y, hy, q⟩
          · exact ⟨x, List.mem_cons_self .., hx, h2⟩
          · exact ⟨y, List.mem_cons_of_mem _ hy, q⟩
        · rcases hc with hc | hc
          · rw [hs] at hc; cases hc
          · simp only [hb] at h3'; omega
        · rcases List.mem_cons.1 hy with rfl | hy
          · simpa only [hb] using h3'
          · exact h4 y hy hyh
      · have e : fstep F V a st x = st := by unfold fstep; rw [if_pos hx, if_neg hc]
        rw [e]
        have hs : st.1 = true := by cases hq : st.1 with | true => rfl | false => exact absurd (.inl hq) hc
        obtain ⟨h1, h2, h3, h4⟩ := fold_some X st (.inl hs)
        refine ⟨h1, ?_, h3, fun y hy hyh => ?_⟩
        · rcases h2 with h2 | ⟨y, hy, q⟩
          · exact .inl h2
          · exact .inr ⟨y, List.mem_cons_of_mem _ hy, q⟩
        · rcases List.mem_cons.1 hy with rfl | hy
          · have := h3 hs
            have : ¬ (y.2.1 : Int) > st.2.f_P.f_Bits := fun h => hc (.inr h)
            omega
          · exact h4 y hy hyh
    · have e : fstep F V a st x = st := by unfold fstep; rw [if_neg hx]
      rw [e]
      obtain ⟨h1, h2, h3, h4⟩ := fold_some X st (by
        rcases h with h | ⟨y, hy, q⟩
        · exact .inl h
        · rcases List.mem_cons.1 hy with rfl | hy
          · exact absurd q hx
          · exact .inr ⟨y, hy, q⟩)
      refine ⟨h1, ?_, h3, fun y hy hyh => ?_⟩
      · rcases h2 with h2 | ⟨y, hy, q⟩
        · exact .inl h2
        · exact .inr ⟨y, List.mem_cons_of_mem _ hy, q⟩
      · rcases List.mem_cons.1 hy with rfl | hy
        · exact absurd hyh hx
        · exact h4 y hy hyh
/-! ### the lists of a tree -/
theorem adr_bits {p : List Nat} (hp : ∀ b ∈ p, b < 2) (hl : p.length ≤ 128) (i : Nat) : bit (adrG zl 0 p) i = p.getD i 0 := by
  have := bit_adrG p zl 0 zl_len (by omega) hp (fun i _ => bit_zl i) i
  simpa using this
theorem adr_inj {p q : List Nat} (hp : ∀ b ∈ p, b < 2) (hq : ∀ b ∈ q, b < 2) (hl : p.length ≤ 128) (h : p.length = q.length) (e : adrG zl 0 p = adrG zl 0 q) : p = q := by
  apply List.ext_getElem h
  intro i h1 h2
  have a := adr_bits hp hl i
  have b := adr_bits hq (by omega) i
  rw [e, b, List.getD_eq_getElem?_getD, List.getD_eq_getElem?_getD, List.getElem?_eq_getElem h1, List.getElem?_eq_getElem h2] at a
  exact a.symm
theorem list_len16 (t : T) : Ln (t.list zl 0) := fun x hx => by
  obtain ⟨p, _, _, h, _⟩ := (T.mem_list t zl 0 x).1 hx
  rw [h, adrG_len, zl_len]
theorem list_srt {t : T} {n : Nat} (hd : t.dok n) (hn : n ≤ 128) : Srt (t.list zl 0) := T.sorted t n zl 0 hd (by omega) zl_len fun i _ => bit_zl i
theorem list_put {t : T} {n : Nat} {p : List Nat} (o : Int) (hd : t.dok n) (hn : n ≤ 128) (hp : ∀ b ∈ p, b < 2) (hl : p.length ≤ n) : ((t.ext p).put p true o).list zl 0 = fin (adrG zl 0 p, p.length, o) (t.list zl 0) false := by
  have he : (adrG zl 0 p).length = 16 := by rw [adrG_len, zl_len]
  have hd' := T.dok_put (t.ext p) n p true o (T.dok_ext t n p hd hl)
  refine sorted_ext _ _ (list_srt hd' hn) (fin_sorted he _ (list_len16 t) (list_srt hd hn)) fun x => ?_
  rw [fin_false, T.mem_list, T.mem_list]
  constructor
  · rintro ⟨q, h1, h2, h3, h4⟩
    rw [T.val_put _ _ _ _ _ hp h1 (T.has_ext t p), T.val_ext] at h2
    by_cases e : q = p
    · subst e
      rw [if_pos rfl, if_pos rfl] at h2
      right
      obtain ⟨x1, x2, x3⟩ := x
      simp at h2 h3 h4
      simp [h2, h3, h4]
    · rw [if_neg e] at h2
      left
      refine ⟨⟨q, h1, h2, h3, h4⟩, fun ⟨k1, k2⟩ => e ?_⟩
      rw [h3] at k1
      rw [h4] at k2
      simp at k1 k2
      exact adr_inj h1 hp (by omega) k2 k1
  · rintro (⟨⟨q, h1, h2, h3, h4⟩, hk⟩ | rfl)
    · refine ⟨q, h1, ?_, h3, h4⟩
      rw [T.val_put _ _ _ _ _ hp h1 (T.has_ext t p), T.val_ext, if_neg, h2]
      rintro rfl
      exact hk ⟨h3, by simpa using h4⟩
    · refine ⟨p, hp, ?_, rfl, by simp⟩
      rw [T.val_put _ _ _ _ _ hp hp (T.has_ext t p), if_pos rfl, if_pos rfl]
theorem list_drop {t : T} {n : Nat} {p : List Nat} (o : Int) (hd : t.dok n) (hn : n ≤ 128) (hp : ∀ b ∈ p, b < 2) (hl : p.length ≤ n) (hh : t.has p = true) (u : T) (hu : ∀ q, u.val q = (t.put p false 0).val q) (hud : u.dok n) : u.list zl 0 = out (adrG zl 0 p, p.length, o) (t.list zl 0) := by
  refine sorted_ext _ _ (list_srt hud hn) ((list_srt hd hn).sublist List.filter_sublist) fun x => ?_
  unfold out
  rw [List.mem_filter, T.mem_list, T.mem_list, decide_eq_true_eq]
  constructor
  · rintro ⟨q, h1, h2, h3, h4⟩
    rw [hu, T.val_put _ _ _ _ _ hp h1 hh] at h2
    by_cases e : q = p
    · subst e
      rw [if_pos rfl, if_neg (by simp)] at h2; cases h2
    · rw [if_neg e] at h2
      refine ⟨⟨q, h1, h2, h3, h4⟩, fun ⟨k1, k2⟩ => e ?_⟩
      rw [h3] at k1
      rw [h4] at k2
      simp at k1 k2
      exact adr_inj h1 hp (by omega) k2 k1
  · rintro ⟨⟨q, h1, h2, h3, h4⟩, hk⟩
    refine ⟨q, h1, ?_, h3, h4⟩
    rw [hu, T.val_put _ _ _ _ _ hp h1 hh, if_neg, h2]
    rintro rfl
    exact hk ⟨h3, by simpa using h4⟩
/-! ### prefixes and paths -/
def wid (F : Int) : Nat := if F = 4 then 32 else 128
theorem wid_le (F : Int) : wid F ≤ 128 := by unfold wid; split <;> omega
theorem wid_of {F : Int} {l : List UInt8} (h : rightL F l = true) : widthL F l = wid F := by unfold widthL wid; rw [if_pos h]
theorem mb_hi_fin : ∀ (x : Fin 256) (m : Fin 9) (j : Fin 8), m.val ≤ j.val → (x.val - x.val % 2 ^ (8 - m.val)) / 2 ^ (7 - j.val) % 2 = 0 := by decide +kernel
theorem bit_mfull_hi {l : List UInt8} (hl : l.length = 16) (b i : Nat) (hi : b ≤ i) (h128 : i < 128) : bit (mfull l (b : Int)) i = 0 := by
  unfold bit
  have e : (mfull l (b : Int))[i / 8]? = some (mb (l.getD (i / 8) 0) (lft (b : Int) (i / 8))) := by
    rw [mfull_get, List.getD_eq_getElem?_getD, List.getElem?_eq_getElem (by omega)]; rfl
  rw [bg_get e, mb_toNat]
  have hle := lft_le (b : Int) (i / 8)
  exact mb_hi_fin ⟨(l.getD (i / 8) 0).toNat, (l.getD (i / 8) 0).toNat_lt⟩ ⟨lft (b : Int) (i / 8), by omega⟩ ⟨i % 8, by omega⟩ (by show lft (b : Int) (i / 8) ≤ i % 8; unfold lft; omega)
theorem adr_mfull {l : List UInt8} (hl : l.length = 16) {b : Nat} (hb : b ≤ 128) : adrG zl 0 (bf l 0 b) = mfull l (b : Int) := by
  refine bits_ext (by rw [adrG_len, zl_len]) (mlen hl _) fun i hi => ?_
  rw [adr_bits (bf_lt l b 0) (by rw [bf_len]; exact hb)]
  by_cases h : i < b
  · rw [bf_get l b 0 i h, bit_mfull hl _ _ (by omega) hi, Nat.zero_add]
  · rw [bit_mfull_hi hl b i (by omega) hi, List.getD_eq_getElem?_getD, List.getElem?_eq_none (by rw [bf_len]; omega)]; rfl
theorem bf_take (l : List UInt8) : ∀ (w d m : Nat), m ≤ w → (bf l d w).take m = bf l d m
  | _, _, 0, _ => by simp [bf]
  | 0, _, m + 1, h => by omega
  | w + 1, d, m + 1, h => by
    show bit l d :: (bf l (d + 1) w).take m = bit l d :: bf l (d + 1) m
    rw [bf_take l w (d + 1) m (by omega)]
theorem bf_of {p : List Nat} (hp : ∀ b ∈ p, b < 2) (hl : p.length ≤ 128) : bf (adrG zl 0 p) 0 p.length = p := by
  apply List.ext_getElem (bf_len ..)
  intro i h1 h2
  have a := bf_get (adrG zl 0 p) p.length 0 i h2
  rw [Nat.zero_add, adr_bits hp hl, List.getD_eq_getElem?_getD, List.getD_eq_getElem?_getD, List.getElem?_eq_getElem h1, List.getElem?_eq_getElem h2] at a
  exact a
theorem low_bits {l : List UInt8} (hl : l.length = 16) (h : ∀ i, 32 ≤ i → i < 128 → bit l i = 0) : low l = true := by
  unfold low
  rw [List.all_eq_true]
  intro x hx
  obtain ⟨j, hj⟩ := List.getElem?_of_mem hx
  rw [List.getElem?_drop] at hj
  have hlt : 4 + j < 16 := by rw [← hl]; exact (List.getElem?_eq_some_iff.1 hj).1
  have e := mb_alike x 0 8 (by omega) fun m hm => by
    have := h (8 * (4 + j) + m) (by omega) (by omega)
    unfold bit at this
    rw [show (8 * (4 + j) + m) / 8 = 4 + j by omega, show (8 * (4 + j) + m) % 8 = m by omega, bg_get hj] at this
    rw [this]; simp
  rw [mb_eight, mb_eight] at e
  rw [e]; rfl
/-- What is in a tree of a family is right. -/
theorem right_path {F : Int} (hF : F = 4 ∨ F = 6) {p : List Nat} (hp : ∀ b ∈ p, b < 2) (hl : p.length ≤ wid F) : rightP F (adrG zl 0 p) (p.length : Int) = true := by
  have hw := wid_le F
  have h16 : (adrG zl 0 p).length = 16 := by rw [adrG_len, zl_len]
  have hr : rightL F (adrG zl 0 p) = true := by
    rcases hF with rfl | rfl
    · have : low (adrG zl 0 p) = true := low_bits h16 fun i h1 h2 => by
        rw [adr_bits hp (by omega), List.getD_eq_getElem?_getD, List.getElem?_eq_none (by have : wid 4 = 32 := rfl; omega)]; rfl
      unfold rightL; rw [this]; rfl
    · unfold rightL; rfl
  refine rightP_iff.2 ⟨⟨hr, by omega, by rw [wid_of hr]; omega⟩, ?_⟩
  have := adr_mfull h16 (b := p.length) (by omega)
  rw [bf_of hp (by omega)] at this
  exact this.symm
theorem path_right {F : Int} {l : List UInt8} (hl : l.length = 16) {b : Int} (h : rightP F l b = true) : ∃ n : Nat, b = (n : Int) ∧ n ≤ wid F ∧ adrG zl 0 (bf l 0 n) = l := by
  obtain ⟨⟨h1, h2, h3⟩, h4⟩ := rightP_iff.1 h
  obtain ⟨n, rfl⟩ := Int.eq_ofNat_of_zero_le h2
  have hw := wid_le F
  rw [wid_of h1] at h3
  refine ⟨n, rfl, by omega, ?_⟩
  rw [adr_mfull hl (by omega)]; exact h4
end Go.Proofs.Ythccncpephpdjaa.Tri
