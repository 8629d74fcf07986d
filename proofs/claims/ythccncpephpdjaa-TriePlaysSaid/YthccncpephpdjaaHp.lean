/- Nodes that lead to nodes: a list of things, of which each lies in a block of its own; a pointer is a place in that list. -/
import Derived.Test.YthccncpephpdjaaO
import Derived.Test.YthccncpephpdjaaR
set_option linter.unusedVariables false
set_option linter.unusedSimpArgs false
namespace Go.Proofs.Ythccncpephpdjaa.E
open Go.RowKit
variable {n : Nat} {L L' : List (Nat × Value)} {a : Act} {W : World → Prop} {P : Program} {ops : Array Oper} {Q : Exit → Act → World → Prop} {rest : List Oper} {w0 : World} {H : List Ent}
variable {α β γ ν : Type}

/-- A slice that leads nowhere, with a number to tell it by. -/
abbrev nn (_ : Nat) : Option Addr := none
/-! ### pointers -/
def pv (g : Nat → Nat) (x : Option Nat) : Value := .pointer (x.map fun i => ⟨g i, 0, none⟩)
def cPtr (g : Nat → Nat) : Cd (Option Nat) := ⟨1, fun x => [pv g x], fun _ => rfl, fun x v hv => by simp at hv; subst hv; cases x <;> rfl, by decide⟩
/-- May a pointer be one into a list of this length? -/
def vp (m : Nat) : Option Nat → Bool
  | none => true
  | some i => decide (i < m)
theorem vp_lt {m : Nat} {x : Option Nat} (h : vp m x = true) : ∀ j, x = some j → j < m := fun j e => by subst e; simpa [vp] using h
theorem pv_ext {m : Nat} {g g' : Nat → Nat} (h : ∀ i, i < m → g' i = g i) {x : Option Nat} (hx : vp m x = true) : pv g x = pv g' x := by
  cases x with
  | none => rfl
  | some i => simp [pv, h i (vp_lt hx i rfl)]
theorem pv_same {g g' : Nat → Nat} {x : Option Nat} (h : ∀ i, x = some i → g' i = g i) : pv g x = pv g' x := by
  cases x with
  | none => rfl
  | some i => simp [pv, h i rfl]
theorem cvec_same {g g' : Nat → Nat} {m : Nat} {hm : 0 < m} {v : Vector (Option Nat) m} (h : ∀ i, some i ∈ v.toList → g' i = g i) : Cd.cs (cVec (cPtr g) m hm) v = Cd.cs (cVec (cPtr g') m hm) v := by
  show (cPtr g).all v.toList = (cPtr g').all v.toList
  generalize v.toList = l at h
  induction l with
  | nil => rfl
  | cons x l ih =>
    rw [Cd.all_cons, Cd.all_cons, ih fun i hi => h i (List.mem_cons_of_mem _ hi)]
    have : (cPtr g).cs x = (cPtr g').cs x := by
      show [pv g x] = [pv g' x]
      rw [pv_same fun i e => h i (by subst e; exact List.mem_cons_self ..)]
    rw [this]
theorem at_enterF {X : Act → World → Prop} {w : World} (hw : Wd w0 H w) (k : At n L (Wd w0 H) X) : At n L (fun w' => w' = w) X := at_world (fun w1 e => by subst e; exact hw) k
/-! ### the list of things -/
structure HK (ν : Type) where
  ob : (Nat → Nat) → ν → Obj → Prop
  ptr : ν → List (Option Nat)
  ext : ∀ (g g' : Nat → Nat) (v : ν) (o : Obj), (∀ i, some i ∈ ptr v → g' i = g i) → ob g v o → ob g' v o
def hvp (K : HK ν) (h : List ν) (v : ν) : Bool := (K.ptr v).all (vp h.length)
theorem hvp_lt {K : HK ν} {h : List ν} {v : ν} (e : hvp K h v = true) : ∀ j, some j ∈ K.ptr v → j < h.length := fun j hj => by
  have := List.all_eq_true.1 e _ hj
  exact vp_lt this j rfl
def heapE (K : HK ν) (g0 : Nat → Nat) (n0 : Nat) (g : Nat → Nat) (h : List ν) : Ent :=
  ⟨(List.range h.length).map g, fun w => (∀ i v, h[i]? = some v → (∃ o, w.heap[g i]? = some o ∧ K.ob g v o) ∧ ∀ j, some j ∈ K.ptr v → j < h.length) ∧ (∀ i j, i < h.length → j < h.length → g i = g j → i = j) ∧ n0 ≤ h.length ∧ ∀ i, i < n0 → g i = g0 i,
    fun w w' hk ⟨h1, h2⟩ => ⟨fun i v hv => by
      obtain ⟨⟨o, ho, hb⟩, hp⟩ := h1 i v hv
      have hi : i < h.length := (List.getElem?_eq_some_iff.1 hv).1
      exact ⟨⟨o, (hk (g i) (List.mem_map.2 ⟨i, List.mem_range.2 hi, rfl⟩)).trans ho, hb⟩, hp⟩, h2⟩⟩
variable {K : HK ν} {g0 g : Nat → Nat} {n0 : Nat} {h : List ν} {f : Ent → List Ent} {G : List Ent}
theorem heap_fp {k : Nat} : k ∈ (heapE K g0 n0 g h).fp ↔ ∃ i, i < h.length ∧ g i = k := by simp [heapE]
theorem hcell {c : Cd β} {v : ν} {i o t : Nat} {cells : List Value} {y : β} {put : β → List Value} (hu : Upd H (heapE K g0 n0 g h) f G) (hi : h[i]? = some v) (hob : ∀ ob, K.ob g v ob → ob = .cells cells.toArray t (0, 0)) (l : Lens cells o c y put) :
    ∀ w, Wd w0 H w → ∀ k u, (c.cs y)[k]? = some u → w.cell? ⟨g i, o + k, none⟩ = some u := fun w hw k u hk => by
  obtain ⟨⟨ob, ho, hb⟩, _⟩ := (hw.ok hu.mem).1 i v hi
  have e := hob ob hb
  subst e
  exact cells_get (b := g i) (t := t) (cells := cells) ho _ _ (l.get k u hk)
theorem hcell0 {c : Cd β} {v : ν} {i o t : Nat} {cells : List Value} {y : β} {u : Value} {put : β → List Value} (hu : Upd H (heapE K g0 n0 g h) f G) (hi : h[i]? = some v) (hob : ∀ ob, K.ob g v ob → ob = .cells cells.toArray t (0, 0)) (l : Lens cells o c y put) (hv : c.cs y = [u]) :
    ∀ w, Wd w0 H w → w.cell? ⟨g i, o, none⟩ = some u := fun w hw => hcell hu hi hob l w hw 0 u (by rw [hv]; rfl)
theorem mem_vset {m : Nat} {v : Vector (Option Nat) m} {i : Int} {x : Option Nat} {j : Nat} (h : some j ∈ (vset v i x).toList) : some j ∈ v.toList ∨ x = some j := by
  rw [vset_toList] at h
  rcases List.mem_or_eq_of_mem_set h with h | h
  · exact .inl h
  · exact .inr h.symm
/-! ### entries -/
theorem Sep.swap {B : Nat} {E E' : Ent} {w : World} (hu : Upd H E f G) (h : Sep B H w) (hok : E'.ok w) (hfp : ∀ k ∈ E'.fp, k ∈ E.fp ∨ (B ≤ k ∧ k < w.heap.size ∧ ∀ F ∈ H, k ∉ F.fp)) : Sep B (f E') w := by
  induction hu with
  | @z E H =>
    refine ⟨hok, fun k hk => ?_, h.2.2⟩
    rcases hfp k hk with h1 | ⟨a, b, c⟩
    · exact h.2.1 k h1
    · exact ⟨a, b, fun F hF => c F (List.mem_cons_of_mem _ hF)⟩
  | @s F E H f G hu ih =>
    refine ⟨h.1, fun k hk => ⟨(h.2.1 k hk).1, (h.2.1 k hk).2.1, fun F' hF' hk' => ?_⟩, ih h.2.2 fun k hk => (hfp k hk).imp id fun ⟨a, b, c⟩ => ⟨a, b, fun F' hF' => c F' (List.mem_cons_of_mem _ hF')⟩⟩
    rcases hu.mem' F' hF' with rfl | hF'
    · rcases hfp k hk' with h1 | ⟨_, _, c⟩
      · exact (h.2.1 k hk).2.2 E hu.mem h1
      · exact c F (List.mem_cons_self ..) hk
    · exact (h.2.1 k hk).2.2 F' hF' hk'
theorem Wd.swap {E E' : Ent} {w : World} (hu : Upd H E f G) (h : Wd w0 H w) (hok : E'.ok w) (hfp : ∀ k ∈ E'.fp, k ∈ E.fp ∨ (w0.heap.size ≤ k ∧ k < w.heap.size ∧ ∀ F ∈ H, k ∉ F.fp)) : Wd w0 (f E') w :=
  ⟨h.below, h.sep.swap hu hok hfp⟩
theorem Sep.other {B : Nat} {E : Ent} {w : World} (hu : Upd H E f G) (h : Sep B H w) : ∀ k ∈ E.fp, ∀ F ∈ G, k ∉ F.fp := by
  induction hu with
  | z => exact fun k hk F hF => (h.2.1 k hk).2.2 F hF
  | @s F E H f G hu ih =>
    intro k hk F' hF'
    rcases List.mem_cons.1 hF' with rfl | hF'
    · exact fun hk' => (h.2.1 k hk').2.2 E hu.mem hk
    · exact ih h.2.2 k hk F' hF'
/-- An entry comes to the front. -/
theorem Wd.front {E : Ent} {w : World} (hu : Upd H E f G) (h : Wd w0 H w) : Wd w0 (E :: G) w :=
  ⟨h.below, h.ok hu.mem, fun k hk => ⟨(h.fp hu.mem k hk).1, (h.fp hu.mem k hk).2, h.sep.other hu k hk⟩, (h.drop hu).sep⟩
theorem Upd.mem2 {E : Ent} (hu : Upd H E f G) : ∀ F ∈ H, F = E ∨ F ∈ G := by
  induction hu with
  | z => intro F hF; exact List.mem_cons.1 hF
  | s _ ih =>
    intro F hF
    rcases List.mem_cons.1 hF with rfl | hF
    · exact .inr (List.mem_cons_self ..)
    · exact (ih F hF).imp id (List.mem_cons_of_mem _)
theorem Upd.sepBack {B : Nat} {E : Ent} {w : World} (hu : Upd H E f G) (h : Sep B (E :: G) w) : Sep B H w := by
  induction hu with
  | z => exact h
  | @s F E H f G hu ih =>
    obtain ⟨h1, h2, h3, h4, h5⟩ := h
    refine ⟨h3, fun k hk => ⟨(h4 k hk).1, (h4 k hk).2.1, fun F' hF' hk' => ?_⟩, ih ⟨h1, fun k hk => ⟨(h2 k hk).1, (h2 k hk).2.1, fun F' hF' => (h2 k hk).2.2 F' (List.mem_cons_of_mem _ hF')⟩, h5⟩⟩
    rcases hu.mem2 F' hF' with rfl | hF'
    · exact (h2 k hk').2.2 F (List.mem_cons_self ..) hk
    · exact (h4 k hk).2.2 F' hF' hk'
theorem Wd.back {E : Ent} {w : World} (hu : Upd H E f G) (h : Wd w0 (E :: G) w) : Wd w0 H w := ⟨h.below, hu.sepBack h.sep⟩
theorem at_front {X : Act → World → Prop} {E : Ent} (hu : Upd H E f G) (k : At n L (Wd w0 (E :: G)) X) : At n L (Wd w0 H) X := at_world (fun _ h => h.front hu) k
theorem at_ov {X : Act → World → Prop} {t : Nat} {v v' : Value} (hg : lk L t = some v) (hv : v = v') (k : At n ((t, v') :: L) W X) : At n L W X := fun a w h hw =>
  k a w ⟨h.size, h.defs, fun s u hu => by
    rw [lk_cons] at hu
    split at hu
    · next e => subst e hv; cases hu; exact h.vals _ _ hg
    · exact h.vals s u hu⟩ hw
theorem at_ex {X : Act → World → Prop} {W : γ → World → Prop} (k : ∀ x, At n L (W x) X) : At n L (fun w => ∃ x, W x w) X := fun a w h ⟨x, hw⟩ => k x a w h hw
theorem at_and {X : Act → World → Prop} {φ : Prop} (k : φ → At n L W X) : At n L (fun w => φ ∧ W w) X := fun a w h ⟨p, hw⟩ => k p a w h hw
theorem at_eqv {X : Act → World → Prop} {d : Nat} {v v' : Value} (k : At n ((d, v') :: L) W X) : At n ((d, v) :: L) (fun w => v = v' ∧ W w) X := fun a w h ⟨e, hw⟩ => by subst e; exact k a w h hw
theorem heap_zero (K : HK ν) (g0 g : Nat → Nat) (w : World) : (heapE K g0 0 g ([] : List ν)).ok w := ⟨fun i v hv => by simp at hv, fun i j hi => by simp at hi, Nat.zero_le _, fun i hi => by omega⟩
def gz : Nat → Nat := fun _ => 0
theorem at_heap0 {X : Act → World → Prop} (K : HK ν) (k : ∀ gh : Nat → Nat, At n L (Wd w0 (heapE K gz 0 gh ([] : List ν) :: H)) X) : At n L (Wd w0 H) X :=
  at_world (fun w hw => hw.push (Below.refl _ _) (heap_zero K gz (fun _ => 0) w) (by intro k hk; simp [heapE] at hk)) (k fun _ => 0)
section
variable {d : Nat} {ty : TypeId} {pos : String} {aft : Array Edge} {t e s : TypeId} {x y : Operand}
theorem r_npc {p : Option Nat} {i : Nat} (hx : ev L x = some (pv g p)) (hp : p = some i) : Runs n L W P (⟨some d, .nilCheck x, ty, pos, aft, none⟩) (.pointer (some ⟨g i, 0, none⟩)) := by
  subst hp; exact r_nilCheck hx
theorem eqGuard_ptr (op : BinOp) (t : TypeId) (x y : Operand) (a b : Option Addr) (w : World) : (eqGuard op t x y (.pointer a) (.pointer b)).run P w = .ok () w := by
  cases op <;> rfl
theorem equal_pn {p : Option Nat} (ht : P.underlying t = some (.pointer e)) (w : World) : (Op.equal t (pv g p) (.pointer none)).run P w = .ok p.isNone w := by
  show (Op.equalIn (9999 + 1) t (pv g p) (.pointer none)).run P w = _
  unfold Op.equalIn
  simp only [Sem.run_bind, run_underlying ht, Result.andThen_ok]
  cases p <;> rfl
theorem r_pnil {op : BinOp} {yt : TypeId} {p : Option Nat} {v : Value} (ht : P.underlying t = some (.pointer e)) (hx : ev L x = some (pv g p)) (hy : ev L y = some (.pointer none)) (ho : op = .eql ∨ op = .neq) (hv : (match op with | .eql => Value.bool p.isNone | _ => .bool (!p.isNone)) = v) :
    Runs n L W P ⟨some d, .binOp op t x y yt, ty, pos, aft, none⟩ v := fun a w he _ => by
  subst hv
  have e0 : ∀ b, (eqGuard op t x y (pv g p) (.pointer b)).run P w = .ok () w := fun b => eqGuard_ptr op t x y _ b w
  simp only [execOp, he.eval hx, he.eval hy, Sem.run_bind, e0, Result.andThen_ok]
  have e1 := equal_pn (P := P) (g := g) (p := p) ht w
  rcases ho with rfl | rfl
  · have : (binOp .eql t (pv g p) (.pointer none)).run P w = .ok (.bool p.isNone) w := by
      have e2 : binOp .eql t (pv g p) (.pointer none) = (do pure (.bool (← Op.equal t (pv g p) (.pointer none))) : Sem Value) := by cases p <;> rfl
      rw [e2]; simp [e1]
    rw [this]; rfl
  · have : (binOp .neq t (pv g p) (.pointer none)).run P w = .ok (.bool (!p.isNone)) w := by
      have e2 : binOp .neq t (pv g p) (.pointer none) = (do pure (.bool (!(← Op.equal t (pv g p) (.pointer none)))) : Sem Value) := by cases p <;> rfl
      rw [e2]; simp [e1]
    rw [this]; rfl
/-- A store in a thing. -/
theorem at_hstore {i tb o : Nat} {v v' : ν} {cells : List Value} {c : Cd β} {u : β} {put : β → List Value} {z : β} {vv : Value} (hu : Upd H (heapE K g0 n0 g h) f G) (hi : h[i]? = some v) (hob : ∀ ob, K.ob g v ob → ob = .cells cells.toArray tb (0, 0)) (l : Lens cells o c u put) (hob' : K.ob g v' (.cells (put z).toArray tb (0, 0)))
    (hp : ∀ j, some j ∈ K.ptr v' → some j ∈ K.ptr v ∨ j < h.length)
    (hz : ∀ w, (sizeOf t).run P w = .ok c.sz w) (hx : ev L x = some (.pointer (some ⟨g i, o, none⟩))) (hy : ev L y = some vv) (hv : vv.cells = (c.cs z).toArray)
    (k : At n L (Wd w0 (f (heapE K g0 n0 g (h.set i v')))) (wpList P ops Q rest)) :
    At n L (Wd w0 H) (wpList P ops Q (⟨none, .store t x y, ty, pos, aft, none⟩ :: rest)) :=
  at_unit (W' := Wd w0 (f (heapE K g0 n0 g (h.set i v')))) rfl rfl (fun a w he hw => by
    obtain ⟨h1, h2, h3, h4⟩ := hw.ok hu.mem
    obtain ⟨⟨ob, hob1, hb⟩, hpt⟩ := h1 i v hi
    have e := hob ob hb
    subst e
    have hil : i < h.length := (List.getElem?_eq_some_iff.1 hi).1
    have hsz := l.size
    have hst := run_storeCells_at P (g i) o tb (c.cs z) 0 cells.toArray w hob1 (by simp [c.len]; omega) (c.one z)
    simp only [Nat.add_zero] at hst
    have hput : (cells.toArray.toList.take o ++ c.cs z ++ cells.toArray.toList.drop (o + (c.cs z).length)).toArray = (put z).toArray := by
      rw [l.splice z, c.len]
    rw [hput] at hst
    refine ⟨w.setRow (g i) (put z).toArray, ?_, hw.upd hu ?_ rfl rfl rfl (fun k hk hk' => ?_) ?_ fun k hk => .inl ?_⟩
    · simp only [execOp, he.eval hx, he.eval hy]
      simp [Instr.storeAt, Instr.sureAddr, storeVar, hz, hv, c.len, hst]
    · exact Nat.le_of_eq (by simp [World.setRow])
    · exact setRow_other w (g i) k _ (by intro e; exact hk' (heap_fp.2 ⟨i, hil, e.symm⟩))
    · refine ⟨fun j u hj => ?_, by simpa using h2, by simpa using h3, h4⟩
      by_cases hij : i = j
      · subst hij
        rw [List.getElem?_set_self hil] at hj
        cases hj
        refine ⟨⟨_, setRow_heap w (g i) cells.toArray _ tb _ hob1, hob'⟩, fun j hj => ?_⟩
        rw [List.length_set]
        rcases hp j hj with hj | hj
        · exact hpt j hj
        · exact hj
      · rw [List.getElem?_set_ne hij] at hj
        obtain ⟨⟨ob, ho, hb⟩, hp⟩ := h1 j u hj
        have hjl : j < h.length := (List.getElem?_eq_some_iff.1 hj).1
        refine ⟨⟨ob, ?_, hb⟩, by simpa using hp⟩
        rw [setRow_other w (g i) (g j) _ (by intro e; exact hij (h2 j i hjl hil e).symm)]
        exact ho
    · obtain ⟨j, hj, e⟩ := heap_fp.1 hk
      exact heap_fp.2 ⟨j, by simpa using hj, e⟩) k
/-- A new thing. -/
theorem at_hpush {X : Act → World → Prop} {b tb : Nat} {v : ν} {cs : List Value} {dd : Nat} (hu : Upd H (heapE K g0 n0 g h) f G) (hp : hvp K h v = true)
    (hob : ∀ g' : Nat → Nat, (∀ i, some i ∈ K.ptr v → g' i = g i) → K.ob g' v (.cells cs.toArray tb (0, 0)))
    (k : ∀ g' : Nat → Nat, (∀ i, i < h.length → g' i = g i) → At n ((dd, pv g' (some h.length)) :: L) (Wd w0 (f (heapE K g0 n0 g' (h ++ [v])))) X) :
    At n ((dd, .pointer (some ⟨b, 0, none⟩)) :: L) (Wd w0 (cellsE b cs tb :: H)) X := fun a w he hw => by
  let g' : Nat → Nat := fun i => if i = h.length then b else g i
  have hg' : ∀ i, i < h.length → g' i = g i := fun i hi => by simp only [g']; rw [if_neg (by omega)]
  have hgl : g' h.length = b := by simp [g']
  have hw1 := hw.pop
  obtain ⟨h1, h2, h3, h4⟩ := hw1.ok hu.mem
  have hbn : ∀ F ∈ H, b ∉ F.fp := (hw.sep.2.1 b (by simp [cellsE])).2.2
  have hbE : ∀ i, i < h.length → g i ≠ b := fun i hi e => hbn _ hu.mem (heap_fp.2 ⟨i, hi, e⟩)
  refine k g' hg' a w ?_ (hw1.swap hu ⟨fun i u hi => ?_, fun i j hi hj hij => ?_, by simp; omega, fun i hi => by rw [hg' i (by omega)]; exact h4 i hi⟩ fun k hk => ?_)
  · simpa [pv, hgl] using he
  · by_cases hil : i < h.length
    · rw [List.getElem?_append_left hil] at hi
      obtain ⟨⟨ob, ho, hb⟩, hpt⟩ := h1 i u hi
      exact ⟨⟨ob, by rw [hg' i hil]; exact ho, K.ext g g' u ob (fun j hj => hg' j (hpt j hj)) hb⟩, fun j hj => by have := hpt j hj; simp; omega⟩
    · have hlen := (List.getElem?_eq_some_iff.1 hi).1
      simp at hlen
      have e : i = h.length := by omega
      subst e
      simp at hi
      subst hi
      refine ⟨⟨_, by rw [hgl]; exact hw.ok (List.mem_cons_self ..), hob g' fun i hi => hg' i (hvp_lt hp i hi)⟩, fun j hj => by have := hvp_lt hp j hj; simp; omega⟩
  · simp at hi hj
    by_cases hil : i < h.length
    · by_cases hjl : j < h.length
      · rw [hg' i hil, hg' j hjl] at hij; exact h2 i j hil hjl hij
      · have e : j = h.length := by omega
        subst e
        rw [hg' i hil, hgl] at hij
        exact absurd hij (hbE i hil)
    · have e : i = h.length := by omega
      subst e
      by_cases hjl : j < h.length
      · rw [hg' j hjl, hgl] at hij
        exact absurd hij.symm (hbE j hjl)
      · omega
  · obtain ⟨i, hi, e⟩ := heap_fp.1 hk
    simp at hi
    by_cases hil : i < h.length
    · rw [hg' i hil] at e
      exact .inl (heap_fp.2 ⟨i, hil, e⟩)
    · have e2 : i = h.length := by omega
      subst e2
      rw [hgl] at e
      subst e
      exact .inr ⟨(hw.sep.2.1 b (by simp [cellsE])).1, (hw.sep.2.1 b (by simp [cellsE])).2.1, hbn⟩
/-- A call that may lay new things. -/
theorem at_callH {fid : FuncId} {fn : Func} {xs : List Operand} {ats : Array TypeId} {l : List Value} {h' : List ν} {V : γ → (Nat → Nat) → Value} {T : γ → List Ent} (hf : P.funcs[fid]? = some fn) (hb : fn.body.isSome = true) (hnm : (fn.name == "runtime.NumGoroutine") = false)
    (hx : evs L xs = some l) (hdn : Nat.blt d n = true)
    (hc : ∀ w, Wd w0 (heapE K g h.length g h :: H) w → Calls P fid l.toArray w fun e w' => ∃ (g' : Nat → Nat) (z : γ), e = .returned (V z g') ∧ Wd w0 (heapE K g h.length g' h' :: T z) w')
    (kk : ∀ (g' : Nat → Nat) (z : γ), (∀ i, i < h.length → g' i = g i) → At n ((d, V z g') :: L) (Wd w0 (heapE K g0 n0 g' h' :: T z)) (wpList P ops Q rest)) :
    At n L (Wd w0 (heapE K g0 n0 g h :: H)) (wpList P ops Q (⟨some d, .call { callee := .value (.func fid), args := xs.toArray, argTypes := ats }, ty, pos, aft, none⟩ :: rest)) :=
  at_call (W' := fun u w' => ∃ (g' : Nat → Nat) (z : γ), u = V z g' ∧ (∀ i, i < h.length → g' i = g i) ∧ Wd w0 (heapE K g0 n0 g' h' :: T z) w') hf hb hnm hx hdn (fun w hw => by
    obtain ⟨h1, h2, h3, h4⟩ := hw.sep.1
    have hw1 : Wd w0 (heapE K g h.length g h :: H) w := hw.swap .z ⟨h1, h2, Nat.le_refl _, fun _ _ => rfl⟩ fun k hk => .inl hk
    refine (hc w hw1).mono fun e w' ⟨g', z, he, hw'⟩ => ⟨_, he, g', z, rfl, ?_⟩
    obtain ⟨k1, k2, k3, k4⟩ := hw'.sep.1
    refine ⟨k4, hw'.swap .z ⟨k1, k2, by omega, fun i hi => (k4 i (by omega)).trans (h4 i hi)⟩ fun k hk => .inl hk⟩) fun u a w he ⟨g', z, hu, hg, hw⟩ => by subst hu; exact kk g' z hg a w he hw
/-- Calls that lay no new things: one that leaves all, one that turns entries, one that hands a place back. -/
theorem at_callR {fid : FuncId} {fn : Func} {xs : List Operand} {ats : Array TypeId} {l : List Value} {E : Ent} {v : Value} (hu : Upd H E f G) (hf : P.funcs[fid]? = some fn) (hb : fn.body.isSome = true) (hnm : (fn.name == "runtime.NumGoroutine") = false)
    (hx : evs L xs = some l) (hdn : Nat.blt d n = true) (hc : ∀ w, Wd w0 (E :: G) w → Calls P fid l.toArray w fun e w' => e = .returned v ∧ Wd w0 (E :: G) w')
    (kk : At n ((d, v) :: L) (Wd w0 H) (wpList P ops Q rest)) :
    At n L (Wd w0 H) (wpList P ops Q (⟨some d, .call { callee := .value (.func fid), args := xs.toArray, argTypes := ats }, ty, pos, aft, none⟩ :: rest)) :=
  at_call (W' := fun u w' => u = v ∧ Wd w0 H w') hf hb hnm hx hdn (fun w hw => (hc w (hw.front hu)).mono fun e w' ⟨he, hw'⟩ => ⟨v, he, rfl, hw'.back hu⟩) fun u a w he ⟨hu, hw⟩ => by subst hu; exact kk a w he hw
theorem at_callN {fid : FuncId} {fn : Func} {xs : List Operand} {ats : Array TypeId} {l : List Value} {v : Value} {T : List Ent} (hf : P.funcs[fid]? = some fn) (hb : fn.body.isSome = true) (hnm : (fn.name == "runtime.NumGoroutine") = false)
    (hx : evs L xs = some l) (hdn : Nat.blt d n = true) (hc : ∀ w, Wd w0 H w → Calls P fid l.toArray w fun e w' => e = .returned v ∧ Wd w0 T w')
    (kk : At n ((d, v) :: L) (Wd w0 T) (wpList P ops Q rest)) :
    At n L (Wd w0 H) (wpList P ops Q (⟨some d, .call { callee := .value (.func fid), args := xs.toArray, argTypes := ats }, ty, pos, aft, none⟩ :: rest)) :=
  at_call (W' := fun u w' => u = v ∧ Wd w0 T w') hf hb hnm hx hdn (fun w hw => (hc w hw).mono fun e w' ⟨he, hw'⟩ => ⟨v, he, rfl, hw'⟩) fun u a w he ⟨hu, hw⟩ => by subst hu; exact kk a w he hw
theorem at_callG {fid : FuncId} {fn : Func} {xs : List Operand} {ats : Array TypeId} {l : List Value} {V : Option Addr → Nat → Value} {T : Option Addr → Nat → List Ent} (hf : P.funcs[fid]? = some fn) (hb : fn.body.isSome = true) (hnm : (fn.name == "runtime.NumGoroutine") = false)
    (hx : evs L xs = some l) (hdn : Nat.blt d n = true) (hc : ∀ w, Wd w0 H w → Calls P fid l.toArray w fun e w' => ∃ p cap, e = .returned (V p cap) ∧ Wd w0 (T p cap) w')
    (kk : ∀ p cap, At n ((d, V p cap) :: L) (Wd w0 (T p cap)) (wpList P ops Q rest)) :
    At n L (Wd w0 H) (wpList P ops Q (⟨some d, .call { callee := .value (.func fid), args := xs.toArray, argTypes := ats }, ty, pos, aft, none⟩ :: rest)) :=
  at_call (W' := fun u w' => ∃ p cap, u = V p cap ∧ Wd w0 (T p cap) w') hf hb hnm hx hdn (fun w hw => (hc w hw).mono fun e w' ⟨p, c, he, hw'⟩ => ⟨_, he, p, c, rfl, hw'⟩) fun u a w he ⟨p, c, hu, hw⟩ => by subst hu; exact kk p c a w he hw
/-! ### a variable that holds a slice of the call's own -/
def svE (c : Cd α) (e st : TypeId) (b : Nat) (p : Option Addr) (cap : Nat) (xs : List α) : Ent :=
  ⟨b :: (rowE c e p cap xs).fp, fun w => (cellsE b [.slice p xs.length cap] st).ok w ∧ (rowE c e p cap xs).ok w ∧ b ∉ (rowE c e p cap xs).fp, fun w w' hk ⟨h1, h2, h3⟩ =>
    ⟨(cellsE b [.slice p xs.length cap] st).loc w w' (fun k hk' => hk k (by simp [cellsE] at hk'; simp [hk'])) h1, (rowE c e p cap xs).loc w w' (fun k hk' => hk k (List.mem_cons_of_mem _ hk')) h2, h3⟩⟩
variable {c : Cd α} {b cap : Nat} {p : Option Addr} {xs : List α}
theorem Wd.svOpen {st : TypeId} {w : World} (hw : Wd w0 (svE c e st b p cap xs :: H) w) : Wd w0 (cellsE b [.slice p xs.length cap] st :: rowE c e p cap xs :: H) w := by
  obtain ⟨⟨h1, h2, h3⟩, hf, hs⟩ := hw.sep
  refine ⟨hw.below, h1, fun k hk => ?_, h2, fun k hk => hf k (List.mem_cons_of_mem _ hk), hs⟩
  simp [cellsE] at hk
  subst hk
  obtain ⟨q1, q2, q3⟩ := hf k (List.mem_cons_self ..)
  refine ⟨q1, q2, fun E hE => ?_⟩
  rcases List.mem_cons.1 hE with rfl | hE
  · exact h3
  · exact q3 E hE
theorem Wd.svClose {st : TypeId} {w : World} (hw : Wd w0 (cellsE b [.slice p xs.length cap] st :: rowE c e p cap xs :: H) w) : Wd w0 (svE c e st b p cap xs :: H) w := by
  obtain ⟨h1, hf, h2, hf2, hs⟩ := hw.sep
  have hb := hf b (by simp [cellsE])
  refine ⟨hw.below, ⟨h1, h2, hb.2.2 _ (List.mem_cons_self ..)⟩, fun k hk => ?_, hs⟩
  rcases List.mem_cons.1 hk with rfl | hk
  · exact ⟨hb.1, hb.2.1, fun E hE => hb.2.2 E (List.mem_cons_of_mem _ hE)⟩
  · exact hf2 k hk
theorem at_svOpen {X : Act → World → Prop} {st : TypeId} (hu : Upd H (svE c e st b p cap xs) f G) (k : At n L (Wd w0 (cellsE b [.slice p xs.length cap] st :: rowE c e p cap xs :: G)) X) : At n L (Wd w0 H) X := at_world (fun _ h => (h.front hu).svOpen) k
theorem at_svClose {X : Act → World → Prop} {st : TypeId} (k : At n L (Wd w0 (svE c e st b p cap xs :: H)) X) : At n L (Wd w0 (cellsE b [.slice p xs.length cap] st :: rowE c e p cap xs :: H)) X := at_world (fun _ h => h.svClose) k
/-- A variable for a slice, new: it holds none. -/
theorem at_allocSv (c : Cd α) (e : TypeId) (ht : P.underlying t = some (.slice e)) (hz : ∀ w, (zeroValue t).run P w = .ok (.slice none 0 0) w) (hdn : Nat.blt d n = true)
    (k : ∀ b, At n ((d, .pointer (some ⟨b, 0, none⟩)) :: L) (Wd w0 (svE c e t b none 0 [] :: H)) (wpList P ops Q rest)) :
    At n L (Wd w0 H) (wpList P ops Q (⟨some d, .alloc t, ty, pos, aft, none⟩ :: rest)) :=
  at_own_nil c e (at_alloc (cs := [.slice none 0 0]) hz rfl hdn fun b => at_svClose (c := c) (e := e) (p := none) (cap := 0) (xs := []) (k b))
/-- A slice is put into its variable. -/
theorem at_storeSv {st : TypeId} {v0 v : Value} (hu : Upd H (cellsE b [v0] st) f G) (hz : ∀ w, (sizeOf t).run P w = .ok 1 w) (hx : ev L x = some (.pointer (some ⟨b, 0, none⟩))) (hy : ev L y = some v) (h0 : ∃ p m q, v0 = .slice p m q) (h1 : ∃ p m q, v = .slice p m q)
    (k : At n L (Wd w0 (f (cellsE b [v] st))) (wpList P ops Q rest)) :
    At n L (Wd w0 H) (wpList P ops Q (⟨none, .store t x y, ty, pos, aft, none⟩ :: rest)) := by
  obtain ⟨p0, m0, q0, rfl⟩ := h0
  obtain ⟨p1, m1, q1, rfl⟩ := h1
  exact at_store (c := cHd) (z := ⟨p1, m1, q1⟩) (u := ⟨p0, m0, q0⟩) hu (Lens.whole cHd ⟨p0, m0, q0⟩) hz hx hy rfl k
end
end Go.Proofs.Ythccncpephpdjaa.E
