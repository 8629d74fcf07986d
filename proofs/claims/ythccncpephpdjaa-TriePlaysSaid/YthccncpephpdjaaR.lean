/- A region whose order is open, with operations that turn memory: each operation alone, whatever has been done before that it doesn't need. -/
import Derived.Test.YthccncpephpdjaaW
import Derived.Orders
import Derived.Lib.SliceRun
set_option linter.unusedVariables false
set_option linter.unusedSimpArgs false
namespace Go.Proofs.Ythccncpephpdjaa.E
open Go.RowKit
variable {n : Nat} {L : List (Nat × Value)} {W : World → Prop} {P : Program} {ops : Array Oper} {Q : Exit → Act → World → Prop}

def QK (K : Act → World → Prop) : Exit → Act → World → Prop
  | .normal => K
  | _ => fun _ _ => False
theorem not_letsOut {K : Act → World → Prop} : ¬ LetsOut (QK K) := fun ⟨_, _, h⟩ => h
theorem wp_of_QK {o : Oper} {a : Act} {w : World} {K K' : Act → World → Prop} (h : o.wp P a w K (QK K')) : o.wp P a w K Q := by
  unfold Oper.wp at *
  generalize (execOp a.eval o).run P w = r at h
  unfold Oper.upon at *
  split at h
  · exact h
  · exact h
  · exact h
  · refine Calls.mono h fun e w'' he => ?_
    cases e with
    | returned v => exact he
    | panicked c => exact he.elim
    | outgrown => exact absurd he not_letsOut
  · exact h
  · exact h.elim
  · exact h.elim
theorem wpOp_of {i : Nat} {o : Oper} {a : Act} {w : World} {K : Act → World → Prop} (hi : ops[i]? = some o) (h : wpList P ops (QK K) [o] a w) : wpOp P ops Q i K a w := by
  unfold wpOp
  rw [hi]
  unfold wpList at h
  show (if Region.wanted o (yielded ops a.tmps) = true then _ else _)
  by_cases hw : Region.wanted o (yielded ops a.tmps) = true
  · rw [if_pos hw] at h ⊢
    rcases h with h | h
    · left
      have h' : o.wp P a w K (QK K) := h
      exact wp_of_QK h'
    · exact absurd h.2 not_letsOut
  · rw [if_neg hw] at h ⊢
    exact h

/-- What a region's operations have made, by their ranks: a block; an address and a capacity; a builder's block. -/
abbrev G3 := Nat × Option Addr × Nat × Option Nat
abbrev Gh := Nat → G3
def updG (g : Gh) (k : Nat) (x : G3) : Gh := fun j => bif Nat.beq j k then x else g j
theorem updG_lt {g : Gh} {k j : Nat} {x : G3} (h : j < k) : updG g k x j = g j := by
  unfold updG
  have : Nat.beq j k = false := by
    cases hb : Nat.beq j k
    · rfl
    · have := Nat.eq_of_beq_eq_true hb; omega
  rw [this]; rfl
/-- What an operation is to the region. 'q': it yields this value and leaves the facts on the world as they are, between the lo-th and the hi-th of what turns memory. 'st': it turns memory, as the k-th that does. 'al': it lays a block, as the k-th. 'need': the operations that it needs. -/
inductive Kd where
  | q (d : Nat) (v : Gh → Value) (need : List Nat) (lo hi : Nat)
  | st (k : Nat) (dv : Option (Nat × (Gh → Value))) (need : List Nat)
  | al (k d : Nat) (v : Gh → Value) (need : List Nat)
def Kd.dst : Kd → Option Nat
  | .q d _ _ _ _ => some d
  | .st _ (some (d, _)) _ => some d
  | .st _ none _ => none
  | .al _ d _ _ => some d
def Kd.need : Kd → List Nat
  | .q _ _ l _ _ => l
  | .st _ _ l => l
  | .al _ _ _ l => l
def Kd.rank : Kd → Option Nat
  | .q .. => none
  | .st k _ _ => some k
  | .al k _ _ _ => some k
def Kd.bound : Kd → Nat
  | .q _ _ _ lo _ => lo
  | .st k _ _ => k + 1
  | .al k _ _ _ => k + 1
def Kd.val (b : Gh) : Kd → Value
  | .q _ v _ _ _ => v b
  | .st _ (some (_, v)) _ => v b
  | .st _ none _ => undef
  | .al _ _ v _ => v b
/-- A value hangs on nothing that is made later. -/
def Kd.fix (kd : Kd) : Prop := ∀ g g' : Gh, (∀ k, k < kd.bound → g k = g' k) → kd.val g = kd.val g'
def fixes : List Kd → Prop
  | [] => True
  | kd :: r => kd.fix ∧ fixes r
theorem fixes_get : ∀ {kds : List Kd}, fixes kds → ∀ {i : Nat} {kd : Kd}, kds[i]? = some kd → kd.fix
  | _ :: _, h, 0, kd, hi => by simp at hi; subst hi; exact h.1
  | _ :: _, h, i + 1, kd, hi => fixes_get h.2 (i := i) (by simpa using hi)
  | [], _, _, _, hi => by simp at hi
def facOf (kds : List Kd) (b : Gh) : List Nat → List (Nat × Value)
  | [] => []
  | j :: r => match kds[j]? with
    | some kd => match kd.dst with
      | some d => (d, kd.val b) :: facOf kds b r
      | none => facOf kds b r
    | none => facOf kds b r
def Kd.add (b : Gh) (kd : Kd) (M : List (Nat × Value)) : List (Nat × Value) := match kd.dst with
  | some d => (d, kd.val b) :: M
  | none => M
/-- What is to be shown of one operation. -/
def Ob (n : Nat) (L : List (Nat × Value)) (P : Program) (ops : Array Oper) (kds : List Kd) (Wm : Gh → Nat → World → Prop) (kd : Kd) (o : Oper) : Prop :=
  match kd with
  | .q d v need lo hi => ∀ (Lx : List (Nat × Value)) (b : Gh) (s : Nat) (K : Act → World → Prop), lo ≤ s → s ≤ hi → At n ((d, v b) :: (facOf kds b need ++ (L ++ Lx))) (Wm b s) K → At n (facOf kds b need ++ (L ++ Lx)) (Wm b s) (wpList P ops (QK K) [o])
  | .st k dv need => ∀ (Lx : List (Nat × Value)) (b : Gh) (K : Act → World → Prop), At n (Kd.add b (.st k dv need) (facOf kds b need ++ (L ++ Lx))) (Wm b (k + 1)) K → At n (facOf kds b need ++ (L ++ Lx)) (Wm b k) (wpList P ops (QK K) [o])
  | .al k d v need => ∀ (Lx : List (Nat × Value)) (b : Gh) (K : Act → World → Prop), (∀ x, At n ((d, v (updG b k x)) :: (facOf kds b need ++ (L ++ Lx))) (Wm (updG b k x) (k + 1)) K) → At n (facOf kds b need ++ (L ++ Lx)) (Wm b k) (wpList P ops (QK K) [o])
def Obs (n : Nat) (L : List (Nat × Value)) (P : Program) (ops : Array Oper) (kds : List Kd) (Wm : Gh → Nat → World → Prop) : List Kd → List Oper → Prop
  | kd :: r, o :: l => Ob n L P ops kds Wm kd o ∧ Obs n L P ops kds Wm r l
  | [], [] => True
  | _, _ => False
/-- Facts of the kernel on the region. -/
def backB (l : List Oper) : Bool := (List.range l.length).all fun i => match l[i]? with
  | some o => o.after.all fun e => !Region.binds .any e || Nat.blt e.on i
  | none => false
def edge (o : Oper) (j : Nat) : Bool := o.after.any fun e => Region.binds .any e && Nat.beq e.on j
def rankAt (kds : List Kd) (j k : Nat) : Bool := match kds[j]? with
  | some kd => match kd.rank with
    | some r => Nat.beq r k
    | none => false
  | none => false
def oneB (n : Nat) (kds : List Kd) (kd : Kd) (o : Oper) : Bool :=
  (match o.dst, kd.dst with | some a, some b => Nat.beq a b && Nat.blt a n | none, none => true | _, _ => false) &&
  kd.need.all (fun j => edge o j) &&
  (match kd.rank with
    | some (k + 1) => (List.range kds.length).any fun j => edge o j && rankAt kds j k
    | _ => true)
def allB (n : Nat) (kds : List Kd) : List Kd → List Oper → Bool
  | kd :: r, o :: l => oneB n kds kd o && allB n kds r l
  | [], [] => true
  | _, _ => false
def apartB (keys : List Nat) (kds : List Kd) : Bool :=
  (List.range kds.length).all fun i => match kds[i]? with
    | some kd => match kd.dst with
      | some d => !(keys.any fun t => Nat.beq t d) && (List.range kds.length).all fun j => Nat.beq i j || (match kds[j]? with | some kd' => (match kd'.dst with | some d' => !Nat.beq d d' | none => true) | none => true)
      | none => true
    | none => true
def ranksB (kds : List Kd) (tot : Nat) : Bool :=
  ((List.range tot).all fun k => (List.range kds.length).any fun j => rankAt kds j k) &&
  (List.range kds.length).all fun i => match kds[i]? with
    | some kd => match kd.rank with
      | some k => Nat.blt k tot && (List.range kds.length).all fun j => Nat.beq i j || !rankAt kds j k
      | none => true
    | none => true
def boundB (kds : List Kd) (l : List Oper) (tot : Nat) : Bool := (List.range kds.length).all fun i => match kds[i]?, l[i]? with
  | some (.q _ _ _ lo hi), some o => (match lo with
      | 0 => true
      | k + 1 => (List.range kds.length).any fun j => edge o j && rankAt kds j k) &&
      (Nat.ble tot hi || (List.range kds.length).any fun j => rankAt kds j hi && (match l[j]? with
        | some o' => edge o' i
        | none => false))
  | _, _ => true
def inSt (n : Nat) (L : List (Nat × Value)) (l : List Oper) (kds : List Kd) (Wm : Gh → Nat → World → Prop) (tot : Nat) (S : Array Bool) (a : Act) (w : World) : Prop :=
  ∃ b s, a.tmps.size = n ∧ a.defers = [] ∧ (∀ t v, lk L t = some v → a.tmps.getD t undef = v) ∧
    (∀ j kd d, S.getD j false = true → kds[j]? = some kd → kd.dst = some d → a.tmps.getD d undef = kd.val b) ∧
    (∀ j kd k, kds[j]? = some kd → kd.rank = some k → (S.getD j false = true ↔ k < s)) ∧ s ≤ tot ∧ Wm b s w ∧ ∀ j o i, S.getD j false = true → l[j]? = some o → edge o i = true → S.getD i false = true
def fullL (a : Act) : List (Nat × Value) := (List.range a.tmps.size).map fun t => (t, a.tmps.getD t undef)
theorem lk_mem : ∀ {L : List (Nat × Value)} {t : Nat} {v : Value}, lk L t = some v → (t, v) ∈ L
  | (s, u) :: L, t, v, h => by
    rw [lk_cons] at h
    split at h
    · next e => subst e; cases h; exact List.mem_cons_self ..
    · exact List.mem_cons_of_mem _ (lk_mem h)
theorem lk_append {L M : List (Nat × Value)} {t : Nat} {v : Value} (h : lk (L ++ M) t = some v) : lk L t = some v ∨ lk M t = some v := by
  induction L with
  | nil => exact .inr h
  | cons x r ih =>
    obtain ⟨s, u⟩ := x
    rw [List.cons_append, lk_cons] at h
    rw [lk_cons]
    split at h
    · next e => rw [if_pos e]; exact .inl h
    · next e => rw [if_neg e]; exact ih h
theorem lk_full (a : Act) (t : Nat) (h : t < a.tmps.size) : lk (fullL a) t = some (a.tmps.getD t undef) := by
  have key : ∀ (m i : Nat), i ≤ t → t < i + m → lk ((List.range' i m).map fun t => (t, a.tmps.getD t undef)) t = some (a.tmps.getD t undef) := by
    intro m
    induction m with
    | zero => intro i h1 h2; omega
    | succ m ih =>
      intro i h1 h2
      rw [List.range'_succ, List.map_cons, lk_cons]
      by_cases hi : i = t
      · subst hi; rw [if_pos rfl]
      · rw [if_neg hi]; exact ih (i + 1) (by omega) (by omega)
  unfold fullL
  rw [List.range_eq_range']
  exact key _ 0 (Nat.zero_le _) (by omega)
theorem lk_full_val {a : Act} {t : Nat} {v : Value} (h : lk (fullL a) t = some v) : a.tmps.getD t undef = v := by
  have := lk_mem h
  unfold fullL at this
  obtain ⟨s, _, hs⟩ := List.mem_map.1 this
  cases hs; rfl
theorem getD_set_same {S : Array Bool} {i : Nat} (h : i < S.size) : (S.setIfInBounds i true).getD i false = true := by
  simp [Array.getD_eq_getD_getElem?, Array.getElem?_setIfInBounds, h]
theorem getD_set_other {S : Array Bool} {i j : Nat} (h : i ≠ j) : (S.setIfInBounds i true).getD j false = S.getD j false := by
  simp [Array.getD_eq_getD_getElem?, Array.getElem?_setIfInBounds, h]
theorem facOf_vals {kds : List Kd} {b : Gh} {a : Act} {S : Array Bool} (hf : ∀ j kd d, S.getD j false = true → kds[j]? = some kd → kd.dst = some d → a.tmps.getD d undef = kd.val b) :
    ∀ {need : List Nat}, (∀ j ∈ need, S.getD j false = true) → ∀ t v, lk (facOf kds b need) t = some v → a.tmps.getD t undef = v
  | [], _, t, v, h => by cases h
  | j :: r, hn, t, v, h => by
    have hr := facOf_vals hf (need := r) fun j hj => hn j (List.mem_cons_of_mem _ hj)
    unfold facOf at h
    cases hk : kds[j]? with
    | none => rw [hk] at h; exact hr t v h
    | some kd =>
      rw [hk] at h
      cases hd : kd.dst with
      | none => simp only [hd] at h; exact hr t v h
      | some d =>
        simp only [hd] at h
        rw [lk_cons] at h
        split at h
        · next e => subst e; cases h; exact hf j kd d (hn j (List.mem_cons_self ..)) hk hd
        · exact hr t v h
theorem obs_get {kds0 : List Kd} {Wm : Gh → Nat → World → Prop} : ∀ {kds : List Kd} {l : List Oper}, Obs n L P ops kds0 Wm kds l → ∀ {i : Nat} {o : Oper}, l[i]? = some o → ∃ kd, kds[i]? = some kd ∧ Ob n L P ops kds0 Wm kd o
  | kd :: r, o' :: l, h, 0, o, hi => by
    simp at hi; subst hi
    exact ⟨kd, rfl, h.1⟩
  | kd :: r, o' :: l, h, i + 1, o, hi => by
    obtain ⟨kd', h1, h2⟩ := obs_get h.2 (i := i) (o := o) (by simpa using hi)
    exact ⟨kd', by simpa using h1, h2⟩
  | [], [], _, i, o, hi => by simp at hi
  | [], _ :: _, h, _, _, _ => h.elim
  | _ :: _, [], h, _, _, _ => h.elim
theorem allB_get {kds0 : List Kd} : ∀ {kds : List Kd} {l : List Oper}, allB n kds0 kds l = true → ∀ {i : Nat} {o : Oper} {kd : Kd}, l[i]? = some o → kds[i]? = some kd → oneB n kds0 kd o = true
  | kd :: r, o' :: l, h, 0, o, kd', hi, hk => by
    simp at hi hk; subst hi hk
    simp only [allB, Bool.and_eq_true] at h
    exact h.1
  | kd :: r, o' :: l, h, i + 1, o, kd', hi, hk => by
    simp only [allB, Bool.and_eq_true] at h
    exact allB_get h.2 (by simpa using hi) (by simpa using hk)
  | [], [], _, i, o, kd', hi, _ => by simp at hi
  | [], _ :: _, h, _, _, _, _, _ => by simp [allB] at h
  | _ :: _, [], h, _, _, _, _, _ => by simp [allB] at h
theorem allB_len {kds0 : List Kd} : ∀ {kds : List Kd} {l : List Oper}, allB n kds0 kds l = true → kds.length = l.length
  | kd :: r, o :: l, h => by
    simp only [allB, Bool.and_eq_true] at h
    simp [allB_len h.2]
  | [], [], _ => rfl
  | [], _ :: _, h => by simp [allB] at h
  | _ :: _, [], h => by simp [allB] at h
theorem edge_listed {o : Oper} {j : Nat} {S : Array Bool} (hall : ∀ e ∈ o.after, Region.binds .any e = true → S.getD e.on false = true) (h : edge o j = true) : S.getD j false = true := by
  unfold edge at h
  rw [Array.any_eq_true] at h
  obtain ⟨i, hi, he⟩ := h
  rw [Bool.and_eq_true] at he
  have := hall _ (Array.getElem_mem hi) he.1
  rwa [Nat.eq_of_beq_eq_true he.2] at this
theorem rankAt_of {kds : List Kd} {j k : Nat} (h : rankAt kds j k = true) : ∃ kd, kds[j]? = some kd ∧ kd.rank = some k := by
  unfold rankAt at h
  cases hk : kds[j]? with
  | none => rw [hk] at h; cases h
  | some kd =>
    rw [hk] at h
    cases hr : kd.rank with
    | none => simp only [hr] at h; cases h
    | some r => simp only [hr] at h; exact ⟨kd, rfl, by rw [hr, Nat.eq_of_beq_eq_true h]⟩
theorem of_rankAt {kds : List Kd} {j k : Nat} {kd : Kd} (hk : kds[j]? = some kd) (hr : kd.rank = some k) : rankAt kds j k = true := by
  unfold rankAt
  rw [hk]; simp [hr]
theorem boundB_spec {kds : List Kd} {l : List Oper} {tot : Nat} (h : boundB kds l tot = true) {i d lo hi : Nat} {v : Gh → Value} {need : List Nat} {o : Oper} (hi' : kds[i]? = some (.q d v need lo hi)) (ho : l[i]? = some o) :
    (∀ k, lo = k + 1 → ∃ j, edge o j = true ∧ rankAt kds j k = true) ∧ (tot ≤ hi ∨ ∃ (j : Nat) (o' : Oper), rankAt kds j hi = true ∧ l[j]? = some o' ∧ edge o' i = true) := by
  unfold boundB at h
  have h1 := List.all_eq_true.1 h i (List.mem_range.2 (List.getElem?_eq_some_iff.1 hi').1)
  rw [hi', ho] at h1
  simp only [Bool.and_eq_true, Bool.or_eq_true] at h1
  refine ⟨fun k hk => ?_, ?_⟩
  · subst hk
    obtain ⟨j, _, hj⟩ := List.any_eq_true.1 h1.1
    rw [Bool.and_eq_true] at hj
    exact ⟨j, hj⟩
  · rcases h1.2 with h2 | h2
    · exact .inl (Nat.le_of_ble_eq_true h2)
    · obtain ⟨j, _, hj⟩ := List.any_eq_true.1 h2
      rw [Bool.and_eq_true] at hj
      cases hl : l[j]? with
      | none => rw [hl] at hj; simp at hj
      | some o' => rw [hl] at hj; exact .inr ⟨j, o', hj.1, hl, hj.2⟩
theorem lk_cover : ∀ {A : List (Nat × Value)} {B : List (Nat × Value)} {t : Nat}, (∃ u, lk B t = some u) → ∃ u, lk (A ++ B) t = some u
  | [], _, _, h => h
  | (s, u) :: A, B, t, h => by
    rw [List.cons_append, lk_cons]
    split
    · exact ⟨u, rfl⟩
    · exact lk_cover h
theorem apartB_keys {keys : List Nat} {kds : List Kd} (h : apartB keys kds = true) {i d : Nat} {kd : Kd} (hi : kds[i]? = some kd) (hd : kd.dst = some d) : ∀ t ∈ keys, t ≠ d := by
  unfold apartB at h
  have h1 := List.all_eq_true.1 h i (List.mem_range.2 (List.getElem?_eq_some_iff.1 hi).1)
  simp only [hi, hd, Bool.and_eq_true] at h1
  intro t ht e
  subst e
  have h2 := h1.1
  simp only [Bool.not_eq_true'] at h2
  have := List.any_eq_false.1 h2 t ht
  simp at this
theorem apartB_dst {keys : List Nat} {kds : List Kd} (h : apartB keys kds = true) {i j d d' : Nat} {kd kd' : Kd} (hi : kds[i]? = some kd) (hd : kd.dst = some d) (hj : kds[j]? = some kd') (hd' : kd'.dst = some d') (hne : i ≠ j) : d ≠ d' := by
  unfold apartB at h
  have h1 := List.all_eq_true.1 h i (List.mem_range.2 (List.getElem?_eq_some_iff.1 hi).1)
  simp only [hi, hd, Bool.and_eq_true] at h1
  have h2 := List.all_eq_true.1 h1.2 j (List.mem_range.2 (List.getElem?_eq_some_iff.1 hj).1)
  simp only [hj, hd'] at h2
  intro e
  subst e
  simp at h2
  exact hne h2
theorem ranksB_cover {kds : List Kd} {tot : Nat} (h : ranksB kds tot = true) {k : Nat} (hk : k < tot) : ∃ (j : Nat) (kd : Kd), kds[j]? = some kd ∧ kd.rank = some k := by
  unfold ranksB at h
  rw [Bool.and_eq_true] at h
  have h1 := List.all_eq_true.1 h.1 k (List.mem_range.2 hk)
  obtain ⟨j, _, hj⟩ := List.any_eq_true.1 h1
  obtain ⟨kd, h2, h3⟩ := rankAt_of hj
  exact ⟨j, kd, h2, h3⟩
theorem ranksB_lt {kds : List Kd} {tot : Nat} (h : ranksB kds tot = true) {i k : Nat} {kd : Kd} (hi : kds[i]? = some kd) (hk : kd.rank = some k) : k < tot := by
  unfold ranksB at h
  rw [Bool.and_eq_true] at h
  have h1 := List.all_eq_true.1 h.2 i (List.mem_range.2 (List.getElem?_eq_some_iff.1 hi).1)
  simp only [hi, hk, Bool.and_eq_true] at h1
  exact Nat.le_of_ble_eq_true h1.1
theorem ranksB_one {kds : List Kd} {tot : Nat} (h : ranksB kds tot = true) {i j k : Nat} {kd kd' : Kd} (hi : kds[i]? = some kd) (hk : kd.rank = some k) (hj : kds[j]? = some kd') (hk' : kd'.rank = some k) : i = j := by
  unfold ranksB at h
  rw [Bool.and_eq_true] at h
  have h1 := List.all_eq_true.1 h.2 i (List.mem_range.2 (List.getElem?_eq_some_iff.1 hi).1)
  simp only [hi, hk, Bool.and_eq_true] at h1
  have h2 := List.all_eq_true.1 h1.2 j (List.mem_range.2 (List.getElem?_eq_some_iff.1 hj).1)
  rw [of_rankAt hj hk'] at h2
  simpa using h2
theorem oneB_spec {kds : List Kd} {kd : Kd} {o : Oper} (h : oneB n kds kd o = true) : (∀ j ∈ kd.need, edge o j = true) ∧
    (∀ k, kd.rank = some (k + 1) → ∃ j, edge o j = true ∧ rankAt kds j k = true) := by
  unfold oneB at h
  simp only [Bool.and_eq_true] at h
  obtain ⟨⟨_, h3⟩, h4⟩ := h
  refine ⟨fun j hj => List.all_eq_true.1 h3 j hj, fun k hk => ?_⟩
  rw [hk] at h4
  obtain ⟨j, _, hj⟩ := List.any_eq_true.1 h4
  rw [Bool.and_eq_true] at hj
  exact ⟨j, hj⟩
def open_ (S : Array Bool) (m : Nat) : Nat := ((List.range m).filter fun j => !S.getD j false).length
theorem open_set {S : Array Bool} {m i : Nat} (hi : i < m) (hs : i < S.size) (h : S.getD i false = false) : open_ (S.setIfInBounds i true) m < open_ S m := by
  unfold open_
  have key : ∀ (l : List Nat), ((l.filter fun j => !(S.setIfInBounds i true).getD j false).length ≤ (l.filter fun j => !S.getD j false).length) ∧
      (i ∈ l → (l.filter fun j => !(S.setIfInBounds i true).getD j false).length < (l.filter fun j => !S.getD j false).length) := by
    intro l
    induction l with
    | nil => exact ⟨Nat.le_refl _, fun h => by cases h⟩
    | cons x r ih =>
      by_cases hx : i = x
      · subst hx
        rw [List.filter_cons, List.filter_cons, getD_set_same hs, h]
        simp only [Bool.not_true, Bool.not_false, ↓reduceIte, Bool.false_eq_true, List.length_cons]
        exact ⟨by have := ih.1; omega, fun _ => by have := ih.1; omega⟩
      · rw [List.filter_cons, List.filter_cons, getD_set_other hx]
        cases hb : S.getD x false with
        | true => simp only [Bool.not_true, Bool.false_eq_true, ↓reduceIte]; exact ⟨ih.1, fun hm => by rcases List.mem_cons.1 hm with e | e; exact absurd e hx; exact ih.2 e⟩
        | false =>
          simp only [Bool.not_false, ↓reduceIte, List.length_cons]
          exact ⟨by have := ih.1; omega, fun hm => by rcases List.mem_cons.1 hm with e | e; exact absurd e hx; have := ih.2 e; omega⟩
  exact (key _).2 (List.mem_range.2 hi)
theorem open_zero {S : Array Bool} {m : Nat} (h : open_ S m = 0) {j : Nat} (hj : j < m) : S.getD j false = true := by
  unfold open_ at h
  have h0 := List.eq_nil_of_length_eq_zero h
  have := List.filter_eq_nil_iff.1 h0 j (List.mem_range.2 hj)
  simpa using this
theorem ready_nil {l : List Oper} {S : Array Bool} (hS : S.size = l.length) (hb : backB l = true) (h : Region.ready .any l.toArray S = []) : ∀ j, j < l.length → S.getD j false = true := by
  intro j
  induction j using Nat.strongRecOn with
  | ind j ih =>
    intro hj
    cases hc : S.getD j false with
    | true => rfl
    | false =>
      exfalso
      have hm : j ∈ Region.ready .any l.toArray S := by
        refine mem_ready.2 ⟨?_, l[j], by simp [hj], fun e he hbi => ?_⟩
        · rw [Array.getD_eq_getD_getElem?] at hc ⊢
          have : j < S.size := by omega
          simpa [this] using hc
        · unfold backB at hb
          have h1 := List.all_eq_true.1 hb j (List.mem_range.2 hj)
          rw [List.getElem?_eq_getElem hj] at h1
          have h2 : ∀ e ∈ l[j].after, (!Region.binds .any e || Nat.blt e.on j) = true := fun e he => by
            obtain ⟨i, hi, he'⟩ := Array.mem_iff_getElem.1 he
            subst he'
            simp only [Array.all_eq_true] at h1
            exact h1 i hi
          have h3 := h2 e he
          rw [hbi] at h3
          have hlt : e.on < j := by simpa using h3
          exact ih _ hlt (by omega)
      rw [h] at hm
      cases hm
theorem lk_mem_keys {t : Nat} {v : Value} (h : lk L t = some v) : t ∈ L.map (·.1) := List.mem_map.2 ⟨_, lk_mem h, rfl⟩
theorem inv_go {l : List Oper} {kds : List Kd} {Wm : Gh → Nat → World → Prop} {tot : Nat} (hb : backB l = true) (ha : allB n kds kds l = true) (hap : apartB (L.map (·.1)) kds = true) (hr : ranksB kds tot = true) (hfx : fixes kds) (hbo : boundB kds l tot = true)
    (hO : Obs n L P l.toArray kds Wm kds l) (fin : ∀ b, At n (facOf kds b (List.range l.length) ++ L) (Wm b tot) (Q .normal)) :
    ∀ (fuel : Nat) (S : Array Bool) (a : Act) (w : World), S.size = l.length → open_ S l.length ≤ fuel → inSt n L l kds Wm tot S a w → wpAny P .any l.toArray Q fuel S a w := by
  have done : ∀ (S : Array Bool) (a : Act) (w : World), (∀ j, j < l.length → S.getD j false = true) → inSt n L l kds Wm tot S a w → Q .normal a w := by
    intro S a w hall ⟨b, s, h1, h2, h3, h4, h5, h6, h7, _⟩
    have hs : s = tot := by
      rcases Nat.lt_or_ge s tot with hlt | hge
      · obtain ⟨j, kd, hj, hk⟩ := ranksB_cover hr hlt
        have hjl : j < l.length := by rw [← allB_len ha]; exact (List.getElem?_eq_some_iff.1 hj).1
        exact absurd ((h5 j kd s hj hk).1 (hall j hjl)) (Nat.lt_irrefl _)
      · omega
    subst hs
    refine fin b a w ⟨h1, h2, fun t v hv => ?_⟩ h7
    rcases lk_append hv with hv | hv
    · exact facOf_vals h4 (fun j hj => hall j (List.mem_range.1 hj)) t v hv
    · exact h3 t v hv
  intro fuel
  induction fuel with
  | zero =>
    intro S a w hS ho hi
    have hall := fun j (hj : j < l.length) => open_zero (Nat.le_zero.1 ho) hj
    refine ⟨?_, done S a w hall hi⟩
    cases hrd : Region.ready .any l.toArray S with
    | nil => rfl
    | cons x r =>
      exfalso
      obtain ⟨hx1, o, hx2, _⟩ := mem_ready.1 (show x ∈ Region.ready .any l.toArray S by rw [hrd]; exact List.mem_cons_self ..)
      have hxl : x < l.length := by simpa using (Array.getElem?_eq_some_iff.1 hx2).1
      have hx3 := hall x hxl
      have hxs : x < S.size := by omega
      rw [Array.getD_eq_getD_getElem?] at hx1 hx3
      simp [hxs] at hx1 hx3
      rw [hx1] at hx3; cases hx3
  | succ fuel ih =>
    intro S a w hS ho hi
    refine ⟨fun hrd => done S a w (ready_nil hS hb hrd) hi, fun i hir => ?_⟩
    obtain ⟨hx1, o, hx2, hx3⟩ := mem_ready.1 hir
    have hil : i < l.length := by simpa using (Array.getElem?_eq_some_iff.1 hx2).1
    have his : i < S.size := by omega
    have hx0 : S.getD i false = false := by
      rw [Array.getD_eq_getD_getElem?] at hx1 ⊢
      simpa [his] using hx1
    have hlo : l[i]? = some o := by simpa using hx2
    obtain ⟨kd, hk, hob⟩ := obs_get hO hlo
    obtain ⟨hneed, hrk⟩ := oneB_spec (allB_get ha hlo hk)
    obtain ⟨b, s, h1, h2, h3, h4, h5, h6, h7, h8⟩ := hi
    have hcnt : open_ (S.setIfInBounds i true) l.length ≤ fuel := by have := open_set hil his hx0; omega
    have hsz : (S.setIfInBounds i true).size = l.length := by simpa using hS
    have env : Env n (facOf kds b kd.need ++ (L ++ fullL a)) a := by
      refine ⟨h1, h2, fun t v hv => ?_⟩
      rcases lk_append hv with hv | hv
      · exact facOf_vals h4 (fun j hj => edge_listed hx3 (hneed j hj)) t v hv
      · rcases lk_append hv with hv | hv
        · exact h3 t v hv
        · exact lk_full_val hv
    -- what is kept
    have out : ∀ (a' : Act), a'.tmps.size = n → ∀ t, ¬ t < a.tmps.size → a'.tmps.getD t undef = a.tmps.getD t undef := by
      intro a' hz t hts
      have : ¬ t < a'.tmps.size := by rw [hz, ← h1]; exact hts
      rw [Array.getD_eq_getD_getElem?, Array.getD_eq_getD_getElem?]
      simp [hts, this]
    have kp : ∀ (a' : Act) (d : Nat) (v : Value), Env n ((d, v) :: (facOf kds b kd.need ++ (L ++ fullL a))) a' → ∀ t, t ≠ d → a'.tmps.getD t undef = a.tmps.getD t undef := by
      intro a' d v he t htd
      by_cases hts : t < a.tmps.size
      · obtain ⟨u, hu⟩ := lk_cover (A := facOf kds b kd.need) (lk_cover (A := L) ⟨_, lk_full a t hts⟩)
        rw [env.vals t u hu]
        refine he.vals t _ ?_
        rw [lk_cons, if_neg (fun e => htd e.symm)]
        exact hu
      · exact out a' he.size t hts
    have kp0 : ∀ (a' : Act), Env n (facOf kds b kd.need ++ (L ++ fullL a)) a' → ∀ t, a'.tmps.getD t undef = a.tmps.getD t undef := by
      intro a' he t
      by_cases hts : t < a.tmps.size
      · obtain ⟨u, hu⟩ := lk_cover (A := facOf kds b kd.need) (lk_cover (A := L) ⟨_, lk_full a t hts⟩)
        rw [env.vals t u hu]
        exact he.vals t _ hu
      · exact out a' he.size t hts
    have other : ∀ j, j ≠ i → (S.setIfInBounds i true).getD j false = S.getD j false := fun j hj => getD_set_other (fun e => hj e.symm)
    have closed : ∀ j o' i', (S.setIfInBounds i true).getD j false = true → l[j]? = some o' → edge o' i' = true → (S.setIfInBounds i true).getD i' false = true := by
      intro j o' i' hj hjo he
      refine getD_set_true ?_
      by_cases hji : j = i
      · subst hji
        rw [hlo] at hjo; cases hjo
        exact edge_listed hx3 he
      · rw [other j hji] at hj
        exact h8 j o' i' hj hjo he
    -- the rank
    have hsk : ∀ k, kd.rank = some k → s = k := by
      intro k hkk
      have hle : ¬ k < s := fun hlt => by have := (h5 i kd k hk hkk).2 hlt; rw [hx0] at this; cases this
      cases k with
      | zero => omega
      | succ k =>
        obtain ⟨j, hje, hjr⟩ := hrk k hkk
        obtain ⟨kd', hj1, hj2⟩ := rankAt_of hjr
        have := (h5 j kd' k hj1 hj2).1 (edge_listed hx3 hje)
        omega
    have ranks : ∀ k, kd.rank = some k → ∀ j kd' k', kds[j]? = some kd' → kd'.rank = some k' → ((S.setIfInBounds i true).getD j false = true ↔ k' < k + 1) := by
      intro k hkk j kd' k' hj hk'
      by_cases hji : j = i
      · subst hji
        rw [hk] at hj; cases hj
        rw [hkk] at hk'; cases hk'
        rw [getD_set_same his]; simp
      · rw [other j hji, h5 j kd' k' hj hk']
        have hs := hsk k hkk
        have hne : k' ≠ k := fun e => by subst e; exact hji (ranksB_one hr hj hk' hk hkk)
        omega
    have ranks0 : kd.rank = none → ∀ j kd' k', kds[j]? = some kd' → kd'.rank = some k' → ((S.setIfInBounds i true).getD j false = true ↔ k' < s) := by
      intro hkn j kd' k' hj hk'
      have hji : j ≠ i := fun e => by subst e; rw [hk] at hj; cases hj; rw [hkn] at hk'; cases hk'
      rw [other j hji]; exact h5 j kd' k' hj hk'
    -- what is listed hangs on what has been made
    have below : ∀ j kd', S.getD j false = true → kds[j]? = some kd' → kd'.bound ≤ s := by
      intro j kd' hj hj'
      have rk : ∀ k, kd'.rank = some k → k + 1 ≤ s := fun k hkk => (h5 j kd' k hj' hkk).1 hj
      cases kd' with
      | st k dv need => exact rk k rfl
      | al k d v need => exact rk k rfl
      | q d v need lo hi =>
        have hjl : j < l.length := by rw [← allB_len ha]; exact (List.getElem?_eq_some_iff.1 hj').1
        have hjo : l[j]? = some l[j] := List.getElem?_eq_getElem hjl
        cases lo with
        | zero => exact Nat.zero_le _
        | succ k =>
          obtain ⟨i', hie, hir'⟩ := (boundB_spec hbo hj' hjo).1 k rfl
          obtain ⟨kd2, hi1, hi2⟩ := rankAt_of hir'
          exact (h5 i' kd2 k hi1 hi2).1 (h8 j _ i' hj hjo hie)
    -- where a value is put
    have putL : ∀ (b' : Gh) (d : Nat) (v : Value) (a' : Act), kd.dst = some d → kd.val b' = v → (∀ k, k < s → b k = b' k) → Env n ((d, v) :: (facOf kds b kd.need ++ (L ++ fullL a))) a' →
        (∀ t u, lk L t = some u → a'.tmps.getD t undef = u) ∧ (∀ j kd' d', (S.setIfInBounds i true).getD j false = true → kds[j]? = some kd' → kd'.dst = some d' → a'.tmps.getD d' undef = kd'.val b') := by
      intro b' d v a' hd hv hbb he
      refine ⟨fun t u hu => ?_, fun j kd' d' hj hj' hd' => ?_⟩
      · rw [kp a' d v he t (apartB_keys hap hk hd t (lk_mem_keys hu))]; exact h3 t u hu
      · by_cases hji : j = i
        · subst hji
          rw [hk] at hj'; cases hj'
          rw [hd] at hd'; cases hd'
          rw [hv]
          exact he.vals _ _ (by rw [lk_cons, if_pos rfl])
        · rw [other j hji] at hj
          rw [kp a' d v he d' (apartB_dst hap hj' hd' hk hd hji), h4 j kd' d' hj hj' hd']
          have hbd := below j kd' hj hj'
          exact fixes_get hfx hj' b b' fun k hkl => hbb k (by omega)
    refine wpOp_of hx2 ?_
    cases kd with
    | q d v need lo hi =>
      obtain ⟨hlo1, hhi1⟩ := boundB_spec hbo hk hlo
      have hls : lo ≤ s := by
        cases lo with
        | zero => exact Nat.zero_le _
        | succ k =>
          obtain ⟨j, hje, hjr⟩ := hlo1 k rfl
          obtain ⟨kd', hj1, hj2⟩ := rankAt_of hjr
          exact (h5 j kd' k hj1 hj2).1 (edge_listed hx3 hje)
      have hsh : s ≤ hi := by
        rcases hhi1 with h | ⟨j, o', hjr, hjo, hje⟩
        · omega
        · obtain ⟨kd', hj1, hj2⟩ := rankAt_of hjr
          have : ¬ hi < s := fun hlt => by
            have hc := h8 j o' i ((h5 j kd' hi hj1 hj2).2 hlt) hjo hje
            rw [hx0] at hc; cases hc
          omega
      refine hob (fullL a) b s _ hls hsh (fun a' w' he hw' => ih _ a' w' hsz hcnt ?_) a w env h7
      obtain ⟨p1, p2⟩ := putL b d _ a' rfl rfl (fun _ _ => rfl) he
      exact ⟨b, s, he.size, he.defs, p1, p2, ranks0 rfl, h6, hw', closed⟩
    | st k dv need =>
      have hs := hsk k rfl
      subst hs
      refine hob (fullL a) b _ (fun a' w' he hw' => ih _ a' w' hsz hcnt ?_) a w env h7
      cases dv with
      | none => exact ⟨b, _, he.size, he.defs, fun t u hu => by rw [kp0 a' he]; exact h3 t u hu, fun j kd' d' hj hj' hd' => by
          have hji : j ≠ i := fun e => by subst e; rw [hk] at hj'; cases hj'; cases hd'
          rw [other j hji] at hj
          rw [kp0 a' he]; exact h4 j kd' d' hj hj' hd', ranks _ rfl, ranksB_lt hr hk rfl, hw', closed⟩
      | some x =>
        obtain ⟨d, v⟩ := x
        obtain ⟨p1, p2⟩ := putL b d _ a' rfl rfl (fun _ _ => rfl) he
        exact ⟨b, _, he.size, he.defs, p1, p2, ranks _ rfl, ranksB_lt hr hk rfl, hw', closed⟩
    | al k d v need =>
      have hs := hsk k rfl
      subst hs
      refine hob (fullL a) b _ (fun x a' w' he hw' => ih _ a' w' hsz hcnt ?_) a w env h7
      obtain ⟨p1, p2⟩ := putL (updG b s x) d _ a' rfl rfl (fun j hj => (updG_lt hj).symm) he
      exact ⟨updG b s x, _, he.size, he.defs, p1, p2, ranks _ rfl, ranksB_lt hr hk rfl, hw', closed⟩
theorem at_cast {X : Act → World → Prop} {d : Nat} {b b' : Bool} {M : List (Nat × Value)} (h : b = b') (k : At n ((d, .bool b') :: M) W X) : At n ((d, .bool b) :: M) W X := h ▸ k
/-- A region that draws its order and turns memory. -/
theorem at_inv {id : Nat} {l : List Oper} (kds : List Kd) (Wm : Gh → Nat → World → Prop) (tot : Nat) (hm : P.follows .mixedOrders = true)
    (hb : backB l = true) (ha : allB n kds kds l = true) (hap : apartB (L.map (·.1)) kds = true) (hr : ranksB kds tot = true) (hfx : fixes kds) (hbo : boundB kds l tot = true)
    (hW : ∀ w, W w → ∃ b, Wm b 0 { w with drawn := w.drawn + 1 }) (hO : Obs n L P l.toArray kds Wm kds l)
    (fin : ∀ b, At n (facOf kds b (List.range l.length) ++ L) (Wm b tot) (Q .normal)) : At n L W ((Code.region id l.toArray true).wp P Q) := fun a w h hw => by
  obtain ⟨b, hw0⟩ := hW w hw
  have hrep : ∀ j, (Array.replicate l.toArray.size false).getD j false = false := fun j => by
    rw [Array.getD_eq_getD_getElem?, Array.getElem?_replicate]; split <;> rfl
  refine wp_region_any hm (inv_go hb ha hap hr hfx hbo hO fin _ _ a _ (by simp) ?_ ⟨b, 0, h.size, h.defs, h.vals, fun j kd d hj => ?_, fun j kd k _ _ => ?_, Nat.zero_le _, hw0, fun j o i hj => ?_⟩)
  · unfold open_
    exact Nat.le_trans (List.length_filter_le ..) (by simp)
  · rw [hrep] at hj; cases hj
  · rw [hrep]; simp
  · rw [hrep] at hj; cases hj
/-! ### pointers to a variable of the caller's own; slice literals without elements -/
section
variable {n : Nat} {L : List (Nat × Value)} {w0 w : World} {H G : List Ent} {E E' : Ent} {f : Ent → List Ent} {P : Program} {ops : Array Oper} {Q : Exit → Act → World → Prop} {rest : List Oper} {d : Nat} {ty : TypeId} {pos : String} {aft : Array Edge}
theorem Upd.again (h : Upd H E f G) (E' : Ent) : Upd (f E') E' f G := by
  induction h with
  | z => exact .z
  | s _ ih => exact .s ih
theorem at_enter_ptr {X : Act → World → Prop} (hu : Upd H E f G) (hw : Wd w0 H w) (k : At n L (Wd w0 (f E)) X) : At n L (fun w' => w' = w) X :=
  at_world (fun w1 h => by subst h; rw [hu.same]; exact hw) k
/-- A call that turns one variable of the caller's own. -/
theorem at_callP {fid : FuncId} {fn : Func} {xs : List Operand} {ats : Array TypeId} {l : List Value} {v : Value} (hf : P.funcs[fid]? = some fn) (hb : fn.body.isSome = true) (hnm : (fn.name == "runtime.NumGoroutine") = false)
    (hx : evs L xs = some l) (hdn : Nat.blt d n = true) (hc : ∀ w, Wd w0 H w → Calls P fid l.toArray w fun e w' => e = .returned v ∧ Wd w0 (f E') w')
    (kk : At n ((d, v) :: L) (Wd w0 (f E')) (wpList P ops Q rest)) :
    At n L (Wd w0 H) (wpList P ops Q (⟨some d, .call { callee := .value (.func fid), args := xs.toArray, argTypes := ats }, ty, pos, aft, none⟩ :: rest)) :=
  at_call (W' := fun u w' => u = v ∧ Wd w0 (f E') w') hf hb hnm hx hdn (fun w hw => (hc w hw).mono fun e w' ⟨he, hw'⟩ => ⟨v, he, rfl, hw'⟩) fun u a w h ⟨hu, hw⟩ => by
    subst hu; exact kk a w h hw
end
section
variable {n : Nat} {L : List (Nat × Value)} {ops : Array Oper} {Q : Exit → Act → World → Prop} {rest : List Oper} {w0 : World} {H : List Ent} {P : Program} {d : Nat} {ty : TypeId} {pos : String} {aft : Array Edge} {t e : TypeId}
/-- A slice literal without elements: a row of the call's own. -/
theorem at_lit0 {α : Type} (c : Cd α) (ht : P.underlying t = some (.slice e)) (hz : ∀ w, (sizeOf e).run P w = .ok c.sz w) (hdn : Nat.blt d n = true)
    (k : ∀ b, At n ((d, .slice (some ⟨b, 0, none⟩) ([] : List α).length 0) :: L) (Wd w0 (rowE c e (some ⟨b, 0, none⟩) 0 [] :: H)) (wpList P ops Q rest)) :
    At n L (Wd w0 H) (wpList P ops Q (⟨some d, .buildSlice t 0 #[], ty, pos, aft, none⟩ :: rest)) :=
  at_any (W' := fun v w' => ∃ b, v = .slice (some ⟨b, 0, none⟩) ([] : List α).length 0 ∧ Wd w0 (rowE c e (some ⟨b, 0, none⟩) 0 [] :: H) w') rfl rfl hdn (fun a w h hw => by
    have hw2 : (w.alloc (.cells #[] e)).heap[w.heap.size]? = some (.cells #[] e (0, 0)) := heap_alloc_new w _
    refine ⟨_, w.alloc (.cells #[] e), ?_, w.heap.size, rfl, hw.pushOwn ((Below.refl _ _).alloc (Nat.le_refl _) _) ⟨by simp [Cd.all], .inr ⟨w.heap.size, 0, #[], rfl, Nat.le_refl _, hw2, Nat.le_refl _, Nat.zero_le _, by simp, by simp [Cd.all]⟩⟩⟩
    simp [execOp, Instr.buildSlice, Sem.run_bind, run_underlying ht, hz, Instr.fill, newRow, newObj, Sem.run]
    simp [Array.range]) fun v a w h ⟨b, hv, hw⟩ => by subst hv; exact k b a w h hw
end
end Go.Proofs.Ythccncpephpdjaa.E
