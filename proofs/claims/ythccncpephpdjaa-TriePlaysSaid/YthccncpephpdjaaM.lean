/- The engine's laws on memory: what a call has made, what it was handed, rows that grow. -/
import Derived.Test.YthccncpephpdjaaE
import Derived.Deep.Quiet
import Derived.Laws.AppendOwn
import Derived.Deep.MidRow
set_option linter.unusedVariables false
set_option linter.unusedSimpArgs false
namespace Go.Proofs.Ythccncpephpdjaa.E
open Go.RowKit

/-! ### how values lie in cells -/
structure Cd (α : Type) where
  sz : Nat
  cs : α → List Value
  len : ∀ x, (cs x).length = sz
  one : ∀ x, ∀ v ∈ cs x, v.oneCell' = true
  pos : 0 < sz
def Cd.all {α : Type} (c : Cd α) (xs : List α) : List Value := xs.flatMap c.cs
theorem Cd.all_nil {α : Type} (c : Cd α) : c.all [] = [] := rfl
theorem Cd.all_cons {α : Type} (c : Cd α) (x : α) (xs : List α) : c.all (x :: xs) = c.cs x ++ c.all xs := rfl
theorem Cd.all_append {α : Type} (c : Cd α) (xs ys : List α) : c.all (xs ++ ys) = c.all xs ++ c.all ys := by simp [Cd.all]
theorem Cd.all_len {α : Type} (c : Cd α) (xs : List α) : (c.all xs).length = xs.length * c.sz := by
  induction xs with
  | nil => simp [Cd.all]
  | cons x xs ih => rw [Cd.all_cons, List.length_append, c.len, ih, List.length_cons, Nat.add_mul]; omega
theorem Cd.all_one {α : Type} (c : Cd α) (xs : List α) : ∀ v ∈ c.all xs, v.oneCell' = true := by
  intro v hv
  obtain ⟨x, _, hx⟩ := List.mem_flatMap.1 hv
  exact c.one x v hx
theorem Cd.all_get {α : Type} (c : Cd α) : ∀ (xs : List α) (i k : Nat) (x : α), xs[i]? = some x → k < c.sz → (c.all xs)[i * c.sz + k]? = (c.cs x)[k]?
  | [], _, _, _, h, _ => by simp at h
  | y :: xs, 0, k, x, h, hk => by
    simp at h; subst h
    rw [Cd.all_cons, Nat.zero_mul, Nat.zero_add, List.getElem?_append_left (by rw [c.len]; exact hk)]
  | y :: xs, i + 1, k, x, h, hk => by
    rw [Cd.all_cons, List.getElem?_append_right (by rw [c.len, Nat.add_mul]; omega), c.len, show (i + 1) * c.sz + k - c.sz = i * c.sz + k by rw [Nat.add_mul]; omega]
    exact Cd.all_get c xs i k x (by simpa using h) hk
def cInt (k : IntKind) : Cd Int := ⟨1, fun n => [.int k n], fun _ => rfl, fun _ v hv => by simp at hv; subst hv; rfl, by decide⟩
def cBool : Cd Bool := ⟨1, fun b => [.bool b], fun _ => rfl, fun _ v hv => by simp at hv; subst hv; rfl, by decide⟩
def cStr : Cd ByteArray := ⟨1, fun s => [.string s], fun _ => rfl, fun _ v hv => by simp at hv; subst hv; rfl, by decide⟩
def lget {α : Type} [Inhabited α] (xs : List α) (i : Int) : α := xs.getD i.toNat default
theorem lget_some {α : Type} [Inhabited α] {xs : List α} {i : Int} (h : 0 ≤ i ∧ i < xs.length) : xs[i.toNat]? = some (lget xs i) := by
  have : i.toNat < xs.length := by omega
  simp [lget, this]

/-! ### what came in -/
def Row {α : Type} (c : Cd α) (w : World) (p : Option Addr) (cap : Nat) (xs : List α) : Prop :=
  xs.length ≤ cap ∧ (xs = [] ∨ ∃ b o, p = some ⟨b, o, none⟩ ∧ ∀ j u, (c.all xs)[j]? = some u → w.cell? ⟨b, o + j, none⟩ = some u)
theorem Row.len {α : Type} {c : Cd α} {w : World} {p : Option Addr} {cap : Nat} {xs : List α} (h : Row c w p cap xs) : xs.length ≤ cap := h.1
theorem Row.nil {α : Type} (c : Cd α) (w : World) (p : Option Addr) (cap : Nat) : Row c w p cap [] := ⟨Nat.zero_le _, .inl rfl⟩
theorem Row.below {α : Type} {c : Cd α} {w w' : World} {p : Option Addr} {cap : Nat} {xs : List α} (h : Row c w p cap xs) (hb : Below w.heap.size w w') : Row c w' p cap xs := by
  obtain ⟨hl, h⟩ := h
  rcases h with h | ⟨b, o, hp, hc⟩
  · exact ⟨hl, .inl h⟩
  · refine ⟨hl, .inr ⟨b, o, hp, fun j u hu => ?_⟩⟩
    have h1 := hc j u hu
    rw [hb.cell (p := ⟨b, o + j, none⟩) (World.block_lt_of_cell? w _ h1)]
    exact h1
theorem Row.ptr {α : Type} [Inhabited α] {c : Cd α} {w : World} {p : Option Addr} {cap : Nat} {xs : List α} {i : Int} (h : Row c w p cap xs) (hi : 0 ≤ i ∧ i < xs.length) :
    ∃ b o, p = some ⟨b, o, none⟩ ∧ ∀ k v, (c.cs (lget xs i))[k]? = some v → w.cell? ⟨b, o + (i.toNat * c.sz + k), none⟩ = some v := by
  obtain ⟨hl, h⟩ := h
  rcases h with h | ⟨b, o, hp, hc⟩
  · subst h; simp at hi; omega
  · refine ⟨b, o, hp, fun k v hv => hc _ _ ?_⟩
    have hk : k < c.sz := by rw [← c.len (lget xs i)]; exact (List.getElem?_eq_some_iff.1 hv).1
    rw [c.all_get xs i.toNat k _ (lget_some hi) hk]
    exact hv
/-- A part of a slice: its elements, its place. -/
def lsub {α : Type} (xs : List α) (l h : Int) : List α := (xs.take h.toNat).drop l.toNat
theorem lsub_length {α : Type} {xs : List α} {l h : Int} (hb : 0 ≤ l ∧ l ≤ h ∧ h ≤ xs.length) : (lsub xs l h).length = h.toNat - l.toNat := by
  simp only [lsub, List.length_drop, List.length_take]; omega
def rsp (p : Option Addr) (cap : Nat) (l : Int) (sz : Nat) : Option Addr := if cap = l.toNat then p else p.map (·.add (l.toNat * sz))
theorem Row.sub {α : Type} {c : Cd α} {w : World} {p : Option Addr} {cap : Nat} {xs : List α} {l h : Int} (hr : Row c w p cap xs) (hb : 0 ≤ l ∧ l ≤ h ∧ h ≤ xs.length) :
    Row c w (rsp p cap l c.sz) (cap - l.toNat) (lsub xs l h) := by
  obtain ⟨hl, hr⟩ := hr
  refine ⟨by rw [lsub_length hb]; omega, ?_⟩
  by_cases he : l = h
  · left; apply List.eq_nil_of_length_eq_zero; rw [lsub_length hb]; omega
  · right
    rcases hr with hr | ⟨b, o, hp, hc⟩
    · subst hr; simp at hb; omega
    · refine ⟨b, o + l.toNat * c.sz, ?_, fun j u hu => ?_⟩
      · unfold rsp; rw [if_neg (by omega), hp]; simp [Addr.add_lit]
      · rw [Nat.add_assoc]
        refine hc _ _ ?_
        have e1 : xs = xs.take l.toNat ++ (lsub xs l h ++ xs.drop h.toNat) := by
          have := List.take_append_drop l.toNat (xs.take h.toNat)
          have h2 := List.take_append_drop h.toNat xs
          rw [List.take_take, Nat.min_eq_left (by omega)] at this
          unfold lsub
          rw [← List.append_assoc, this, h2]
        have hl2 : (c.all (xs.take l.toNat)).length = l.toNat * c.sz := by rw [c.all_len, List.length_take]; congr 1; omega
        rw [e1, c.all_append, c.all_append, List.getElem?_append_right (by omega), hl2, Nat.add_sub_cancel_left, List.getElem?_append_left]
        · exact hu
        · exact (List.getElem?_eq_some_iff.1 hu).1

/-! ### what the call has made -/
structure Ent where
  fp : List Nat
  ok : World → Prop
  loc : ∀ w w', (∀ k ∈ fp, w'.heap[k]? = w.heap[k]?) → ok w → ok w'
def Sep (B : Nat) : List Ent → World → Prop
  | [], _ => True
  | E :: H, w => E.ok w ∧ (∀ k ∈ E.fp, B ≤ k ∧ k < w.heap.size ∧ ∀ E' ∈ H, k ∉ E'.fp) ∧ Sep B H w
structure Wd (w0 : World) (H : List Ent) (w : World) : Prop where
  below : Below w0.heap.size w0 w
  sep : Sep w0.heap.size H w
theorem Wd.refl (w : World) : Wd w [] w := ⟨Below.refl _ _, trivial⟩
theorem Sep.fp {B : Nat} : ∀ {H : List Ent} {w : World}, Sep B H w → ∀ E ∈ H, ∀ k ∈ E.fp, B ≤ k ∧ k < w.heap.size
  | _ :: _, _, h, E, hE, k, hk => by
    rcases List.mem_cons.1 hE with rfl | hE
    · exact ⟨(h.2.1 k hk).1, (h.2.1 k hk).2.1⟩
    · exact Sep.fp h.2.2 E hE k hk
theorem Sep.mono {B : Nat} : ∀ {H : List Ent} {w w' : World}, Sep B H w → w.heap.size ≤ w'.heap.size → (∀ E ∈ H, ∀ k ∈ E.fp, w'.heap[k]? = w.heap[k]?) → Sep B H w'
  | [], _, _, _, _, _ => trivial
  | E :: H, w, w', h, hs, he =>
    ⟨E.loc w w' (he E (List.mem_cons_self ..)) h.1, fun k hk => ⟨(h.2.1 k hk).1, Nat.lt_of_lt_of_le (h.2.1 k hk).2.1 hs, (h.2.1 k hk).2.2⟩,
      Sep.mono h.2.2 hs fun E' hE' => he E' (List.mem_cons_of_mem _ hE')⟩
variable {n : Nat} {L L' : List (Nat × Value)} {a : Act} {W : World → Prop} {P : Program} {ops : Array Oper} {Q : Exit → Act → World → Prop} {rest : List Oper} {w0 : World} {H : List Ent}
theorem Wd.call {w w' : World} (h : Wd w0 H w) (hb : Below w.heap.size w w') : Wd w0 H w' :=
  ⟨h.below.trans (hb.mono h.below.size), h.sep.mono hb.size fun E hE k hk => hb.block k (h.sep.fp E hE k hk).2⟩
theorem Below.drawn (w : World) (m : Nat) : Below w.heap.size w { w with drawn := m } := ⟨rfl, rfl, rfl, Nat.le_refl _, fun _ _ => rfl⟩
theorem Wd.drew {w : World} (h : Wd w0 H w) : Wd w0 H { w with drawn := w.drawn + 1 } := h.call (Below.drawn w _)
theorem Wd.push {w w' : World} {E : Ent} (h : Wd w0 H w) (hb : Below w.heap.size w w') (hok : E.ok w') (hfp : ∀ k ∈ E.fp, w.heap.size ≤ k ∧ k < w'.heap.size) : Wd w0 (E :: H) w' := by
  have h' := h.call hb
  refine ⟨h'.below, hok, fun k hk => ⟨Nat.le_trans h.below.size (hfp k hk).1, (hfp k hk).2, fun E' hE' hk' => ?_⟩, h'.sep⟩
  have := (h.sep.fp E' hE' k hk').2
  have := (hfp k hk).1
  omega
theorem Wd.pop {w : World} {E : Ent} (h : Wd w0 (E :: H) w) : Wd w0 H w := ⟨h.below, h.sep.2.2⟩
/-- One entry among the others. -/
inductive Upd : List Ent → Ent → (Ent → List Ent) → List Ent → Prop
  | z {E : Ent} {H : List Ent} : Upd (E :: H) E (fun E' => E' :: H) H
  | s {F E : Ent} {H : List Ent} {f : Ent → List Ent} {G : List Ent} (h : Upd H E f G) : Upd (F :: H) E (fun E' => F :: f E') (F :: G)
theorem Upd.mem {E : Ent} {f : Ent → List Ent} {G : List Ent} (h : Upd H E f G) : E ∈ H := by
  induction h with
  | z => exact List.mem_cons_self ..
  | s _ ih => exact List.mem_cons_of_mem _ ih
theorem Upd.mem' {E E' : Ent} {f : Ent → List Ent} {G : List Ent} (h : Upd H E f G) : ∀ F ∈ f E', F = E' ∨ F ∈ H := by
  induction h with
  | z => intro F hF; exact (List.mem_cons.1 hF).imp id (List.mem_cons_of_mem _)
  | s _ ih =>
    intro F hF
    rcases List.mem_cons.1 hF with rfl | hF
    · exact .inr (List.mem_cons_self ..)
    · rcases ih F hF with h | h
      · exact .inl h
      · exact .inr (List.mem_cons_of_mem _ h)
theorem Upd.same {E : Ent} {f : Ent → List Ent} {G : List Ent} (h : Upd H E f G) : f E = H := by
  induction h with
  | z => rfl
  | s _ ih => simp only [ih]
theorem Sep.ok {B : Nat} {w : World} : ∀ {H : List Ent}, Sep B H w → ∀ E ∈ H, E.ok w
  | _ :: _, h, E, hE => by
    rcases List.mem_cons.1 hE with rfl | hE
    · exact h.1
    · exact Sep.ok h.2.2 E hE
theorem Wd.ok {w : World} {E : Ent} (h : Wd w0 H w) (hE : E ∈ H) : E.ok w := h.sep.ok E hE
theorem Wd.fp {w : World} {E : Ent} (h : Wd w0 H w) (hE : E ∈ H) : ∀ k ∈ E.fp, w0.heap.size ≤ k ∧ k < w.heap.size := h.sep.fp E hE
theorem Sep.upd {B : Nat} {E E' : Ent} {f : Ent → List Ent} {G : List Ent} {w w' : World} (hu : Upd H E f G) (h : Sep B H w) (hsz : w.heap.size ≤ w'.heap.size)
    (hfr : ∀ k, k < w.heap.size → k ∉ E.fp → w'.heap[k]? = w.heap[k]?) (hok : E'.ok w') (hB : B ≤ w.heap.size) (hfp : ∀ k ∈ E'.fp, k ∈ E.fp ∨ (w.heap.size ≤ k ∧ k < w'.heap.size)) : Sep B (f E') w' := by
  induction hu with
  | @z E H =>
    refine ⟨hok, fun k hk => ?_, h.2.2.mono hsz fun F hF k hk => ?_⟩
    · rcases hfp k hk with h1 | h1
      · exact ⟨(h.2.1 k h1).1, Nat.lt_of_lt_of_le (h.2.1 k h1).2.1 hsz, (h.2.1 k h1).2.2⟩
      · exact ⟨Nat.le_trans hB h1.1, h1.2, fun F hF hk' => by have := (h.2.2.fp F hF k hk').2; omega⟩
    · exact hfr k (h.2.2.fp F hF k hk).2 fun hk' => (h.2.1 k hk').2.2 F hF hk
  | @s F E H f G hu ih =>
    have hE := hu.mem
    refine ⟨F.loc w w' (fun k hk => hfr k (h.2.1 k hk).2.1 ((h.2.1 k hk).2.2 E hE)) h.1, fun k hk => ⟨(h.2.1 k hk).1, Nat.lt_of_lt_of_le (h.2.1 k hk).2.1 hsz, fun F' hF' hk' => ?_⟩, ih h.2.2 hfr hfp⟩
    rcases hu.mem' F' hF' with rfl | hF'
    · rcases hfp k hk' with h1 | h1
      · exact (h.2.1 k hk).2.2 E hE h1
      · have := (h.2.1 k hk).2.1; omega
    · exact (h.2.1 k hk).2.2 F' hF' hk'
theorem Wd.upd {E E' : Ent} {f : Ent → List Ent} {G : List Ent} {w w' : World} (hu : Upd H E f G) (h : Wd w0 H w) (hsz : w.heap.size ≤ w'.heap.size) (hos : w'.os = w.os) (ht : w'.tape = w.tape) (ho : w'.output = w.output)
    (hfr : ∀ k, k < w.heap.size → k ∉ E.fp → w'.heap[k]? = w.heap[k]?) (hok : E'.ok w') (hfp : ∀ k ∈ E'.fp, k ∈ E.fp ∨ (w.heap.size ≤ k ∧ k < w'.heap.size)) : Wd w0 (f E') w' :=
  ⟨⟨hos.trans h.below.os, ht.trans h.below.tape, ho.trans h.below.output, Nat.le_trans h.below.size hsz, fun k hk =>
      (hfr k (Nat.lt_of_lt_of_le hk h.below.size) fun hk' => by have := (h.fp hu.mem k hk').1; omega).trans (h.below.block k hk)⟩,
    h.sep.upd hu hsz hfr hok h.below.size hfp⟩
theorem Sep.drop {B : Nat} {E : Ent} {f : Ent → List Ent} {G : List Ent} {w : World} (hu : Upd H E f G) (h : Sep B H w) : Sep B G w := by
  induction hu with
  | z => exact h.2.2
  | @s F E H f G hu ih =>
    refine ⟨h.1, fun k hk => ⟨(h.2.1 k hk).1, (h.2.1 k hk).2.1, fun F' hF' => (h.2.1 k hk).2.2 F' ?_⟩, ih h.2.2⟩
    clear ih h hk
    induction hu with
    | z => exact List.mem_cons_of_mem _ hF'
    | s _ ih =>
      rcases List.mem_cons.1 hF' with rfl | hF'
      · exact List.mem_cons_self ..
      · exact List.mem_cons_of_mem _ (ih hF')
theorem Wd.drop {E : Ent} {f : Ent → List Ent} {G : List Ent} {w : World} (hu : Upd H E f G) (h : Wd w0 H w) : Wd w0 G w := ⟨h.below, h.sep.drop hu⟩
theorem at_drop {X : Act → World → Prop} {E : Ent} {f : Ent → List Ent} {G : List Ent} (hu : Upd H E f G) (k : At n L (Wd w0 G) X) : At n L (Wd w0 H) X := at_world (fun _ h => h.drop hu) k
theorem at_start {X : Act → World → Prop} (k : At n L (Wd w0 []) X) : At n L (fun w => w = w0) X := at_world (fun w h => by subst h; exact Wd.refl _) k
theorem at_pure {X : Act → World → Prop} {φ : Prop} (h : ∀ w, W w → φ) (k : φ → At n L W X) : At n L W X := fun a w he hw => k (h w hw) a w he hw

/-! ### a region that draws its order -/
def AtQ (n : Nat) (L : List (Nat × Value)) (X : Act → Prop) : Prop := ∀ a, Env n L a → X a
theorem at_draw {id : Nat} {l : List Oper} (hm : P.follows .mixedOrders = true) (hB : Region.lexB .any l.toArray = true) (hWd : ∀ w, W w → W { w with drawn := w.drawn + 1 })
    (k : AtQ n L (wpQuiet P l.toArray W (fun a' => ∀ w', W w' → Q .normal a' w') l)) : At n L W ((Code.region id l.toArray true).wp P Q) := fun a w h hw =>
  wp_region_quiet hm hB (hWd w hw) (k a h)
theorem atq_nil (k : At n L W (Q .normal)) : AtQ n L (wpQuiet P ops W (fun a' => ∀ w', W w' → Q .normal a' w') []) := fun a h => wpQuiet_nil fun w hw => k a w h hw
section
variable {d : Nat} {Q' : Act → Prop}
theorem atq_val {o : Oper} {v : Value} (hg : o.guard = none) (hd : o.dst = some d) (hdn : Nat.blt d n = true) (hr : Runs n L W P o v)
    (k : AtQ n ((d, v) :: L) (wpQuiet P ops W Q' rest)) : AtQ n L (wpQuiet P ops W Q' (o :: rest)) := fun a h =>
  wpQuiet_step fun K hK => by
    simp only [Region.wanted, hg, if_true]
    refine ⟨v, fun w hw => ?_, ?_⟩
    · unfold Oper.quietAt
      rw [hr a w h hw]
      exact ⟨rfl, rfl⟩
    · rw [hd]
      exact hK _ (k _ (h.put hdn v))
theorem atq_call {f : FuncId} {fn : Func} {xs : List Operand} {ats : Array TypeId} {l : List Value} {v : Value} {ty : TypeId} {pos : String} {aft : Array Edge} (hf : P.funcs[f]? = some fn) (hb : fn.body.isSome = true) (hnm : (fn.name == "runtime.NumGoroutine") = false)
    (hx : evs L xs = some l) (hdn : Nat.blt d n = true) (hc : ∀ w, W w → Calls P f l.toArray w fun e w' => e = .returned v ∧ W w')
    (k : AtQ n ((d, v) :: L) (wpQuiet P ops W Q' rest)) :
    AtQ n L (wpQuiet P ops W Q' (⟨some d, .call { callee := .value (.func f), args := xs.toArray, argTypes := ats }, ty, pos, aft, none⟩ :: rest)) := fun a h =>
  wpQuiet_step fun K hK => by
    simp only [Region.wanted, if_true]
    refine ⟨v, fun w hw => ?_, hK _ (k _ (h.put hdn v))⟩
    unfold Oper.quietAt
    have hargs := h.evals hx
    rw [execOp_call_go]
    have hrun : (callFunc f (#[] ++ xs.toArray.map a.eval ++ #[])).run P w = .ok (.enter f l.toArray) w := by
      have hbn : ¬ fn.body = none := by intro hq; simp [hq] at hb
      have hn' : ¬ fn.name = "runtime.NumGoroutine" := by intro hq; rw [hq] at hnm; simp at hnm
      simp [callFunc, program, Sem.run, hf, hn', hbn, hargs]
    rw [hrun]
    exact ⟨rfl, hc w hw⟩
theorem atq_weak (L' : List (Nat × Value)) (hs : Sub L' L) {X : Act → Prop} (k : AtQ n L' X) : AtQ n L X := fun a h => k a (h.weak hs)
section
variable {dst : Option Tmp} {op : Op} {j g : Nat} {oj : Oper} {b b' : Bool} {ty : TypeId} {pos : String} {aft : Array Edge}
theorem atq_guard_yes (hj : ops[j]? = some oj) (hd : oj.dst = some g) (hg : lk L g = some (.bool b)) (k : AtQ n L (wpQuiet P ops W Q' (⟨dst, op, ty, pos, aft, none⟩ :: rest))) :
    AtQ n L (wpQuiet P ops W Q' (⟨dst, op, ty, pos, aft, some (j, b)⟩ :: rest)) := fun a h => by
  have hk := k a h
  have hy := yields_of h hj hd hg
  unfold wpQuiet at hk ⊢
  rw [if_pos (by simp [Region.wanted])] at hk
  rw [if_pos (by simp [Region.wanted, hy])]
  exact hk
theorem atq_guard_no (hj : ops[j]? = some oj) (hd : oj.dst = some g) (hg : lk L g = some (.bool b)) (hne : (b == b') = false) (hdn : Nat.blt d n = true) (k : AtQ n ((d, undef) :: L) (wpQuiet P ops W Q' rest)) :
    AtQ n L (wpQuiet P ops W Q' (⟨some d, op, ty, pos, aft, some (j, b')⟩ :: rest)) := fun a h => by
  have hy := yields_of h hj hd hg
  unfold wpQuiet
  rw [if_neg (by simp [Region.wanted, hy]; simpa using hne)]
  exact k _ (h.put hdn _)
theorem atq_guard_undef (hj : ops[j]? = some oj) (hd : oj.dst = some g) (hg : lk L g = some undef) (hdn : Nat.blt d n = true) (k : AtQ n ((d, undef) :: L) (wpQuiet P ops W Q' rest)) :
    AtQ n L (wpQuiet P ops W Q' (⟨some d, op, ty, pos, aft, some (j, b')⟩ :: rest)) := fun a h => by
  have hy : yielded ops a.tmps j = none := by
    have := h.vals g _ hg
    rw [Array.getD_eq_getD_getElem?] at this
    unfold yielded
    simp only [hj, hd, Option.bind_some]
    cases hq : a.tmps[g]? with
    | none => rfl
    | some u => rw [hq] at this; simp only [Option.getD_some] at this; subst this; rfl
  unfold wpQuiet
  rw [if_neg (by simp [Region.wanted, hy])]
  exact k _ (h.put hdn _)
theorem atq_fix {X : Act → Prop} (hg : lk L g = some (.bool b)) (hb : b = b') (k : AtQ n ((g, .bool b') :: L) X) : AtQ n L X := fun a h =>
  k a ⟨h.size, h.defs, fun t v hv => by
    rw [lk_cons] at hv
    split at hv
    · next e => subst e hb; cases hv; exact h.vals _ _ hg
    · exact h.vals t v hv⟩
end
end

/-! ### small things -/
theorem app_small {a b : Nat} {k : Nat} (h : (a + b) * k ≤ 140737488355328) (hk : 0 < k := by decide) : a + b ≤ 140737488355328 := Nat.le_trans (Nat.le_mul_of_pos_right _ hk) h
theorem at_call0w {f : FuncId} {fn : Func} {xs : List Operand} {ats : Array TypeId} {l : List Value} {v : Value} {d : Nat} {ty : TypeId} {pos : String} {aft : Array Edge} (hf : P.funcs[f]? = some fn) (hb : fn.body.isSome = true) (hnm : (fn.name == "runtime.NumGoroutine") = false)
    (hx : evs L xs = some l) (hdn : Nat.blt d n = true) (hc : ∀ w, W w → Calls P f l.toArray w fun e w' => e = .returned v ∧ w' = w)
    (kk : At n ((d, v) :: L) W (wpList P ops Q rest)) :
    At n L W (wpList P ops Q (⟨some d, .call { callee := .value (.func f), args := xs.toArray, argTypes := ats }, ty, pos, aft, none⟩ :: rest)) :=
  at_call (W' := fun u w' => u = v ∧ W w') hf hb hnm hx hdn (fun w hw => (hc w hw).mono fun e w' ⟨he, hw'⟩ => ⟨v, he, rfl, hw' ▸ hw⟩) fun u a w h hw => by
    obtain ⟨rfl, hw⟩ := hw
    exact kk a w h hw

/-! ### reading -/
section
variable {d : Nat} {ty : TypeId} {pos : String} {aft : Array Edge} {t e : TypeId} {x y : Operand} {p : Option Addr} {m cap : Nat}
theorem r_len_sl (ht : P.underlying t = some (.slice e)) (hx : ev L x = some (.slice p m cap)) :
    Runs n L W P (⟨some d, .call { callee := .builtin .len, args := #[x], argTypes := #[t] }, ty, pos, aft, none⟩) (.int .i64 m) := fun a w h _ => by
  simp only [execOp, resolve, invoke, builtin, Sem.run_bind, Sem.run_pure, Result.andThen_ok, List.map_toArray, List.map_cons, List.map_nil, h.eval hx]
  simp [Builtin.len_, run_underlying ht]; rfl
theorem r_idx {sz : Nat} {k : IntKind} {i : Int} {b o : Nat} (ht : P.underlying t = some (.slice e)) (hz : ∀ w, (sizeOf e).run P w = .ok sz w) (hx : ev L x = some (.slice p m cap)) (hy : ev L y = some (.int k i)) (hi : 0 ≤ i ∧ i < m) (hp : p = some ⟨b, o, none⟩) :
    Runs n L W P (⟨some d, .indexAddr t x y, ty, pos, aft, none⟩) (.pointer (some ⟨b, o + i.toNat * sz, none⟩)) := fun a w h _ => by
  subst hp
  simp only [execOp, h.eval hx, h.eval hy]
  simp [Instr.indexAt, asIntOf, run_underlying ht, hi.1, hi.2, hz, Addr.add_lit]
theorem r_reslice {α : Type} {c : Cd α} {lo hi : Option Operand} {xs : List α} {l h : Int} (ht : P.underlying t = some (.slice e)) (hz : ∀ w, (sizeOf e).run P w = .ok c.sz w) (hx : ev L x = some (.slice p xs.length cap)) (hc : xs.length ≤ cap)
    (hlo : match lo with | none => l = 0 | some y => ∃ k, ev L y = some (.int k l)) (hhi : match hi with | none => h = xs.length | some y => ∃ k, ev L y = some (.int k h)) (hb : 0 ≤ l ∧ l ≤ h ∧ h ≤ xs.length) :
    Runs n L W P (⟨some d, .slice t x lo hi none, ty, pos, aft, none⟩) (.slice (rsp p cap l c.sz) (lsub xs l h).length (cap - l.toNat)) := fun a w he _ => by
  have hlen := lsub_length hb
  obtain ⟨h1, h2, h3⟩ := hb
  have h0 : 0 ≤ h := by omega
  have h4 : h ≤ (cap : Int) := by omega
  simp only [execOp, he.eval hx]
  rw [hlen]
  cases lo <;> cases hi <;> simp only at hlo hhi
  · subst hlo hhi
    simp [Instr.sliceAt, Instr.slice, Instr.sliceBounds, run_underlying ht, hz, rsp]
  · obtain ⟨k, hk⟩ := hhi
    subst hlo
    simp [Instr.sliceAt, Instr.slice, Instr.sliceBounds, Instr.sliceBound, asIntOf, run_underlying ht, hz, rsp, he.eval hk, h0, h4]
  · obtain ⟨k, hk⟩ := hlo
    subst hhi
    simp [Instr.sliceAt, Instr.slice, Instr.sliceBounds, Instr.sliceBound, asIntOf, run_underlying ht, hz, rsp, he.eval hk, h1, h2]
  · obtain ⟨k, hk⟩ := hlo
    obtain ⟨k', hk'⟩ := hhi
    have e1 : (h.toNat : Int) = h := Int.toNat_of_nonneg h0
    simp [Instr.sliceAt, Instr.slice, Instr.sliceBounds, Instr.sliceBound, asIntOf, run_underlying ht, hz, rsp, he.eval hk, he.eval hk', h0, h1, h2, h4, e1]
theorem r_load_cell {b o : Nat} {v : Value} (ha : ∀ w, (isAgg t).run P w = .ok false w) (hx : ev L x = some (.pointer (some ⟨b, o, none⟩))) (hc : ∀ w, W w → w.cell? ⟨b, o, none⟩ = some v) :
    Runs n L W P (⟨some d, .load t x, ty, pos, aft, none⟩) v := fun a w h hw => by
  simp only [execOp, h.eval hx]
  simp [Instr.loadAt, Instr.sureAddr, loadVar, ha, load, Sem.run, hc w hw]
theorem r_load_agg {b o sz : Nat} {l : List Value} (ha : ∀ w, (isAgg t).run P w = .ok true w) (hz : ∀ w, (sizeOf t).run P w = .ok sz w) (hl : l.length = sz) (hx : ev L x = some (.pointer (some ⟨b, o, none⟩)))
    (hc : ∀ w, W w → ∀ j v, l[j]? = some v → w.cell? ⟨b, o + j, none⟩ = some v) :
    Runs n L W P (⟨some d, .load t x, ty, pos, aft, none⟩) (.agg l.toArray) := fun a w h hw => by
  have := run_loadCells_list (P := P) (w := w) ⟨b, o, none⟩ l (fun j v hv => by rw [Addr.add_lit]; exact hc w hw j v hv)
  rw [hl] at this
  simp only [execOp, h.eval hx]
  simp [Instr.loadAt, Instr.sureAddr, loadVar, ha, hz, this]
end
/-- A cell of a row that came in. -/
theorem row_cell {α : Type} [Inhabited α] {c : Cd α} {p : Option Addr} {cap : Nat} {xs : List α} {i : Int} {b o : Nat} (hW : ∀ w, W w → Below w0.heap.size w0 w) (hrow : Row c w0 p cap xs) (hi : 0 ≤ i ∧ i < xs.length) (hp : p = some ⟨b, o, none⟩) :
    ∀ w, W w → ∀ k v, (c.cs (lget xs i))[k]? = some v → w.cell? ⟨b, o + i.toNat * c.sz + k, none⟩ = some v := fun w hw k v hv => by
  obtain ⟨b', o', hp', hc⟩ := (hrow.below (hW w hw)).ptr hi
  rw [hp] at hp'
  cases hp'
  rw [Nat.add_assoc]
  exact hc k v hv
theorem row_cell0 {α : Type} [Inhabited α] {c : Cd α} {p : Option Addr} {cap : Nat} {xs : List α} {i : Int} {b o : Nat} {v : Value} (hW : ∀ w, W w → Below w0.heap.size w0 w) (hrow : Row c w0 p cap xs) (hi : 0 ≤ i ∧ i < xs.length) (hp : p = some ⟨b, o, none⟩) (hv : c.cs (lget xs i) = [v]) :
    ∀ w, W w → w.cell? ⟨b, o + i.toNat * c.sz, none⟩ = some v := fun w hw => row_cell hW hrow hi hp w hw 0 v (by rw [hv]; rfl)
theorem row_ptr {α : Type} [Inhabited α] {c : Cd α} {w : World} {p : Option Addr} {cap : Nat} {xs : List α} {i : Int} (h : Row c w p cap xs) (hi : 0 ≤ i ∧ i < xs.length) : ∃ b o, p = some ⟨b, o, none⟩ :=
  let ⟨b, o, hp, _⟩ := h.ptr hi
  ⟨b, o, hp⟩

/-! ### blocks and rows of the call's own -/
def cellsE (b : Nat) (cs : List Value) (t : TypeId) : Ent := ⟨[b], fun w => w.heap[b]? = some (.cells cs.toArray t (0, 0)), fun _ _ h hk => (h b (by simp)).trans hk⟩
theorem cells_src {α : Type} {c : Cd α} {b : Nat} {ys : List α} {t : TypeId} {w : World} (h : (cellsE b (c.all ys) t).ok w) : ∀ j u, (c.all ys)[j]? = some u → w.cell? ((⟨b, 0, none⟩ : Addr).add j) = some u := fun j u hu => by
  rw [Addr.add_lit, Nat.zero_add]
  simp only [cellsE] at h
  simp [World.cell?, h, hu]
theorem cells_row {α : Type} {c : Cd α} {b : Nat} {ys : List α} {t : TypeId} {w : World} (h : (cellsE b (c.all ys) t).ok w) : Row c w (some ⟨b, 0, none⟩) ys.length ys :=
  ⟨Nat.le_refl _, .inr ⟨b, 0, rfl, fun j u hu => by have := cells_src h j u hu; rwa [Addr.add_lit] at this⟩⟩
def rowE {α : Type} (c : Cd α) (e : TypeId) (p : Option Addr) (cap : Nat) (xs : List α) : Ent :=
  ⟨(Value.slice p xs.length cap).ownBlock.toList, fun w => w.ownsRow 0 e c.sz (.slice p xs.length cap) xs.length (c.all xs), fun w w' h hk => by
    refine ⟨hk.1, ?_⟩
    rcases hk.2 with h2 | ⟨g, cap', cur, hv, hg, hh, r⟩
    · exact .inl h2
    · exact .inr ⟨g, cap', cur, hv, hg, (h g (by rw [hv]; simp [Value.ownBlock])).trans hh, r⟩⟩
def Own {α : Type} (c : Cd α) (e : TypeId) (B : Nat) (w : World) (p : Option Addr) (cap : Nat) (xs : List α) : Prop := w.ownsRow B e c.sz (.slice p xs.length cap) xs.length (c.all xs)
theorem Own.nil {α : Type} (c : Cd α) (e : TypeId) (B : Nat) (w : World) : Own c e B w none 0 [] := World.ownsRow_nil w B e c.sz
theorem Wd.own {α : Type} {c : Cd α} {e : TypeId} {p : Option Addr} {cap : Nat} {xs : List α} {w : World} {f : Ent → List Ent} {G : List Ent} (hu : Upd H (rowE c e p cap xs) f G) (h : Wd w0 H w) : Own c e w0.heap.size w p cap xs := by
  obtain ⟨h1, h2⟩ : w.ownsRow 0 e c.sz (.slice p xs.length cap) xs.length (c.all xs) := h.ok hu.mem
  refine ⟨h1, ?_⟩
  rcases h2 with h2 | ⟨g, cap', cur, hv, _, hh, r⟩
  · exact .inl h2
  · exact .inr ⟨g, cap', cur, hv, (h.fp hu.mem g (by show g ∈ (Value.slice p xs.length cap).ownBlock.toList; rw [hv]; simp [Value.ownBlock])).1, hh, r⟩
theorem Own.row {α : Type} {c : Cd α} {e : TypeId} {B : Nat} {w : World} {p : Option Addr} {cap : Nat} {xs : List α} (h : Own c e B w p cap xs) : Row c w p cap xs := by
  rcases h.2 with ⟨_, h0⟩ | ⟨g, cap', cur, hv, _, hh, r⟩
  · exact ⟨by omega, .inl (List.eq_nil_of_length_eq_zero h0)⟩
  · refine ⟨by cases hv; exact r.1, .inr ⟨g, 0, by cases hv; rfl, fun j u hu => ?_⟩⟩
    have := World.ownsRow.cells h (g := g) (by rw [hv]; rfl) j u hu
    rwa [Addr.add_lit] at this
theorem Wd.pushOwn {α : Type} {c : Cd α} {e : TypeId} {p : Option Addr} {cap : Nat} {xs : List α} {w w' : World} (h : Wd w0 H w) (hb : Below w.heap.size w w') (ho : Own c e w.heap.size w' p cap xs) : Wd w0 (rowE c e p cap xs :: H) w' := by
  refine h.push hb ⟨ho.1, ?_⟩ fun k hk => ?_
  · rcases ho.2 with h2 | ⟨g, cap', cur, hv, _, r⟩
    · exact .inl h2
    · exact .inr ⟨g, cap', cur, hv, Nat.zero_le _, r⟩
  · exact World.ownsRow.lt ho k (by simpa [rowE] using hk)
theorem at_own_nil {α : Type} {X : Act → World → Prop} (c : Cd α) (e : TypeId) (k : At n L (Wd w0 (rowE c e none 0 [] :: H)) X) : At n L (Wd w0 H) X :=
  at_world (fun w h => h.pushOwn (Below.refl _ _) (Own.nil c e _ w)) k
section
variable {d : Nat} {ty : TypeId} {pos : String} {aft : Array Edge} {t e : TypeId}
theorem at_alloc {z : Value} {cs : List Value} (hz : ∀ w, (zeroValue t).run P w = .ok z w) (hcs : z.cells = cs.toArray) (hdn : Nat.blt d n = true)
    (k : ∀ b, At n ((d, .pointer (some ⟨b, 0, none⟩)) :: L) (Wd w0 (cellsE b cs t :: H)) (wpList P ops Q rest)) :
    At n L (Wd w0 H) (wpList P ops Q (⟨some d, .alloc t, ty, pos, aft, none⟩ :: rest)) :=
  at_any (W' := fun v w' => ∃ b, v = .pointer (some ⟨b, 0, none⟩) ∧ Wd w0 (cellsE b cs t :: H) w') rfl rfl hdn (fun a w h hw => by
    refine ⟨_, w.alloc (.cells cs.toArray t), ?_, w.heap.size, rfl, hw.push ((Below.refl _ _).alloc (Nat.le_refl _) _) ?_ ?_⟩
    · simp [execOp, Instr.alloc, hz, newVar, newRow, newObj, Sem.run, hcs]
    · exact heap_alloc_new w _
    · intro k hk; simp [cellsE] at hk; subst hk; simp) fun v a w h ⟨b, hv, hw⟩ => by subst hv; exact k b a w h hw
theorem at_box {x : Operand} {v : Value} {cs : List Value} (hx : ev L x = some v) (hcs : v.cells = cs.toArray) (hdn : Nat.blt d n = true)
    (k : ∀ b, At n ((d, .pointer (some ⟨b, 0, none⟩)) :: L) (Wd w0 (cellsE b cs t :: H)) (wpList P ops Q rest)) :
    At n L (Wd w0 H) (wpList P ops Q (⟨some d, .box t x, ty, pos, aft, none⟩ :: rest)) :=
  at_any (W' := fun v w' => ∃ b, v = .pointer (some ⟨b, 0, none⟩) ∧ Wd w0 (cellsE b cs t :: H) w') rfl rfl hdn (fun a w h hw => by
    refine ⟨_, w.alloc (.cells cs.toArray t), ?_, w.heap.size, rfl, hw.push ((Below.refl _ _).alloc (Nat.le_refl _) _) ?_ ?_⟩
    · simp [execOp, h.eval hx, Instr.box, newVar, newRow, newObj, Sem.run, hcs]
    · exact heap_alloc_new w _
    · intro k hk; simp [cellsE] at hk; subst hk; simp) fun v a w h ⟨b, hv, hw⟩ => by subst hv; exact k b a w h hw
def evp (L : List (Nat × Value)) : List (Nat × Operand) → Option (List (Nat × Value))
  | [] => some []
  | (i, x) :: l => match ev L x, evp L l with
    | some v, some vs => some ((i, v) :: vs)
    | _, _ => none
theorem Env.evalp {a : Act} (h : Env n L a) : ∀ {l : List (Nat × Operand)} {vs : List (Nat × Value)}, evp L l = some vs → l.map (fun p => (p.1, a.eval p.2)) = vs
  | [], vs, hx => by simp [evp] at hx; simp [hx]
  | (i, x) :: l, vs, hx => by
    unfold evp at hx
    split at hx
    · next v vs' h1 h2 =>
      cases hx
      simp [h.eval h1, h.evalp h2]
    · cases hx
/-- A slice literal of elements of one cell, every place given. -/
theorem at_lit {m : Nat} {parts : List (Nat × Operand)} {vs : List (Nat × Value)} {z : Value} {cs : List Value} (ht : P.underlying t = some (.slice e)) (hz : ∀ w, (sizeOf e).run P w = .ok 1 w) (hzv : ∀ w, (zeroValue e).run P w = .ok z w) (hx : evp L parts = some vs) (hm : Nat.ble m 16777216 = true) (h0 : Nat.beq m 0 = false)
    (hf : Instr.fill (fun i => some (i * 1, 1)) ((Array.range (m * 1)).map (z.cells[· % z.cells.size]!)) vs = some cs.toArray) (hdn : Nat.blt d n = true)
    (k : ∀ b, At n ((d, .slice (some ⟨b, 0, none⟩) m m) :: L) (Wd w0 (cellsE b cs e :: H)) (wpList P ops Q rest)) :
    At n L (Wd w0 H) (wpList P ops Q (⟨some d, .buildSlice t m parts.toArray, ty, pos, aft, none⟩ :: rest)) :=
  at_any (W' := fun v w' => ∃ b, v = .slice (some ⟨b, 0, none⟩) m m ∧ Wd w0 (cellsE b cs e :: H) w') rfl rfl hdn (fun a w h hw => by
    refine ⟨_, w.alloc (.cells cs.toArray e), ?_, w.heap.size, rfl, hw.push ((Below.refl _ _).alloc (Nat.le_refl _) _) ?_ ?_⟩
    · have hm' : ¬ 2 ^ 24 < m * 1 := by have := Nat.le_of_ble_eq_true hm; omega
      have h0' : ¬ m * 1 = 0 := by intro h; rw [Nat.mul_one] at h; subst h; simp at h0
      have hev := h.evalp hx
      simp only [execOp, Instr.buildSlice, Sem.run_bind, run_underlying ht, Result.andThen_ok, hz, List.map_toArray]
      rw [show List.map (fun (x : Nat × Operand) => match x with | (i, x) => (i, a.eval x)) parts = vs from hev]
      simp only [Sem.run_bind, hz, Result.andThen_ok, gt_iff_lt, hm', h0', if_false, Sem.run_pure, hzv, hf]
      simp [newRow, newObj, Sem.run]
    · exact heap_alloc_new w _
    · intro k hk; simp [cellsE] at hk; subst hk; simp) fun v a w h ⟨b, hv, hw⟩ => by subst hv; exact k b a w h hw
/-- The same, of elements of more than a cell. -/
theorem at_litG {m sz : Nat} {parts : List (Nat × Operand)} {vs : List (Nat × Value)} {z : Value} {cs : List Value} (ht : P.underlying t = some (.slice e)) (hz : ∀ w, (sizeOf e).run P w = .ok sz w) (hzv : ∀ w, (zeroValue e).run P w = .ok z w) (hx : evp L parts = some vs) (hm : Nat.ble (m * sz) 16777216 = true) (h0 : Nat.beq (m * sz) 0 = false)
    (hf : Instr.fill (fun i => some (i * sz, sz)) ((Array.range (m * sz)).map (z.cells[· % z.cells.size]!)) vs = some cs.toArray) (hdn : Nat.blt d n = true)
    (k : ∀ b, At n ((d, .slice (some ⟨b, 0, none⟩) m m) :: L) (Wd w0 (cellsE b cs e :: H)) (wpList P ops Q rest)) :
    At n L (Wd w0 H) (wpList P ops Q (⟨some d, .buildSlice t m parts.toArray, ty, pos, aft, none⟩ :: rest)) :=
  at_any (W' := fun v w' => ∃ b, v = .slice (some ⟨b, 0, none⟩) m m ∧ Wd w0 (cellsE b cs e :: H) w') rfl rfl hdn (fun a w h hw => by
    refine ⟨_, w.alloc (.cells cs.toArray e), ?_, w.heap.size, rfl, hw.push ((Below.refl _ _).alloc (Nat.le_refl _) _) ?_ ?_⟩
    · have hm' : ¬ 2 ^ 24 < m * sz := by have := Nat.le_of_ble_eq_true hm; omega
      have h0' : ¬ m * sz = 0 := by intro h; rw [h] at h0; simp at h0
      have hev := h.evalp hx
      simp only [execOp, Instr.buildSlice, Sem.run_bind, run_underlying ht, Result.andThen_ok, hz, List.map_toArray]
      rw [show List.map (fun (x : Nat × Operand) => match x with | (i, x) => (i, a.eval x)) parts = vs from hev]
      simp only [Sem.run_bind, hz, Result.andThen_ok, gt_iff_lt, hm', h0', if_false, Sem.run_pure, hzv, hf]
      simp [newRow, newObj, Sem.run]
    · exact heap_alloc_new w _
    · intro k hk; simp [cellsE] at hk; subst hk; simp) fun v a w h ⟨b, hv, hw⟩ => by subst hv; exact k b a w h hw
theorem append_block {α : Type} {c : Cd α} {p : Option Addr} {cap : Nat} {xs : List α} {B : Nat} {w w' : World} {v' : Value} {ad : Addr} {m cap' : Nat} {i : TypeInfo} {z : Value} {news : List Value}
    (ht : P.underlying t = some (.slice e)) (hi : P.info? e = some i) (hiz : i.zero = some z) (hsz : i.size = c.sz) (hzs : z.cells.size = c.sz) (hown : Own c e B w p cap xs)
    (hl : news.length = m * c.sz) (hnews : ∀ j u, news[j]? = some u → w.cell? (ad.add j) = some u) (h1 : ∀ u ∈ news, u.oneCell' = true) (hb : (xs.length + m) * i.bytes ≤ 140737488355328) (hb' : xs.length + m ≤ 140737488355328)
    (hr : (Builtin.append_ #[t, t] ty #[.slice p xs.length cap, .slice (some ad) m cap']).run P w = .ok v' w') {k : Nat} (hk : v'.ownBlock = some k) : (Value.slice p xs.length cap).ownBlock = some k ∨ w.heap.size ≤ k := by
  rcases hown.2 with ⟨hv, h0⟩ | ⟨g, cap0, cur0, hv, _, hg, hnc, hcm, hcs, htake⟩
  · have hx : c.all xs = [] := List.eq_nil_of_length_eq_zero (by rw [c.all_len, h0, Nat.zero_mul])
    obtain ⟨v2, w2, hr2, h2, _⟩ := run_append_own (P := P) w w.heap.size t ty e i z c.sz i.bytes ht hi hiz hsz rfl hzs c.pos (.slice p xs.length cap) xs.length (c.all xs) (by rw [hv, hx, h0]; exact World.ownsRow_nil w _ e c.sz) ad m cap' news hl hnews h1 (by simp only [maxLen]; omega) hb (Nat.le_refl _)
    rw [hr] at hr2
    cases hr2
    exact .inr (h2.lt k hk).1
  · cases hv
    by_cases hroom : xs.length + m ≤ cap
    · have hr2 := run_append_room (P := P) w t ty e i ht hi g xs.length cap cur0 hg ad m cap' news (by rw [hl, hsz]) hnews h1 hroom (by rw [hl, hcs, hsz, ← Nat.add_mul]; exact Nat.mul_le_mul_right _ hroom)
      rw [hr] at hr2
      cases hr2
      exact .inl hk
    · have hr2 := run_append_grow (P := P) w t ty e i z ht hi hiz ⟨g, 0, none⟩ xs.length cap (c.all xs) (by rw [c.all_len, hsz]) (World.ownsRow.cells hown (g := g) rfl) ad m cap' news (by rw [hl, hsz]) hnews (by omega) (by omega) (growslice_fits (by omega) hb)
      rw [hr] at hr2
      cases hr2
      simp [Value.ownBlock] at hk
      exact .inr (by omega)
/-- append onto a row of the call's own, out of cells that lie somewhere. -/
theorem at_append {α : Type} {c : Cd α} {p : Option Addr} {cap : Nat} {xs ys : List α} {f : Ent → List Ent} {G : List Ent} {sx xx : Operand} {ad : Addr} {m cap' : Nat} {i : TypeInfo} {z : Value} (hu : Upd H (rowE c e p cap xs) f G)
    (ht : P.underlying t = some (.slice e)) (hi : P.info? e = some i) (hiz : i.zero = some z) (hsz : i.size = c.sz) (hzs : z.cells.size = c.sz)
    (hs : ev L sx = some (.slice p xs.length cap)) (hx : ev L xx = some (.slice (some ad) m cap')) (hm : ys.length = m)
    (hsrc : ∀ w, Wd w0 H w → ∀ j u, (c.all ys)[j]? = some u → w.cell? (ad.add j) = some u) {by_ : Nat} (hby : i.bytes = by_) (hb0 : (xs.length + m) * by_ ≤ 140737488355328) (hb' : xs.length + m ≤ 140737488355328) (hdn : Nat.blt d n = true)
    (k : ∀ p' cap', At n ((d, .slice p' (xs ++ ys).length cap') :: L) (Wd w0 (f (rowE c e p' cap' (xs ++ ys)))) (wpList P ops Q rest)) :
    At n L (Wd w0 H) (wpList P ops Q (⟨some d, .call { callee := .builtin .append, args := #[sx, xx], argTypes := #[t, t] }, ty, pos, aft, none⟩ :: rest)) :=
  have hb : (xs.length + m) * i.bytes ≤ 140737488355328 := by rw [hby]; exact hb0
  at_any (W' := fun v w' => ∃ p' cap', v = .slice p' (xs ++ ys).length cap' ∧ Wd w0 (f (rowE c e p' cap' (xs ++ ys))) w') rfl rfl hdn (fun a w h hw => by
    have hown := hw.own hu
    obtain ⟨v', w', hr, h2, h3, h4⟩ := run_append_own (P := P) w w0.heap.size t ty e i z c.sz i.bytes ht hi hiz hsz rfl hzs c.pos _ _ _ hown ad m cap' (c.all ys) (by rw [c.all_len, hm]) (hsrc w hw) (c.all_one ys) (by simp only [maxLen]; omega) hb hw.below.size
    obtain ⟨p', cp, hv'⟩ : ∃ p' cp, v' = .slice p' (xs.length + m) cp := by
      rcases h2.2 with ⟨hv, h0⟩ | ⟨g, cp, cur, hv, _⟩
      · exact ⟨none, 0, by rw [hv, h0]⟩
      · exact ⟨_, _, hv⟩
    subst hv'
    have hlen : (xs ++ ys).length = xs.length + m := by rw [List.length_append, hm]
    refine ⟨_, w', ?_, p', cp, by rw [hlen], hw.upd hu h3.size h3.os h3.tape h3.output (fun k hk hk' => h3.block k hk fun e => hk' ?_) ?_ fun k hk => ?_⟩
    · simp only [execOp, resolve, invoke, builtin, Sem.run_bind, Sem.run_pure, Result.andThen_ok, List.map_toArray, List.map_cons, List.map_nil, h.eval hs, h.eval hx, hr]
    · show k ∈ (Value.slice p xs.length cap).ownBlock.toList
      rw [← e]; simp
    · show w'.ownsRow 0 e c.sz (.slice p' (xs ++ ys).length cp) (xs ++ ys).length (c.all (xs ++ ys))
      rw [hlen, c.all_append]
      refine ⟨h2.1, ?_⟩
      rcases h2.2 with h5 | ⟨g, cap', cur, hv, _, r⟩
      · exact .inl h5
      · exact .inr ⟨g, cap', cur, hv, Nat.zero_le _, r⟩
    · have hk0 : (Value.slice p' (xs.length + m) cp).ownBlock = some k := by
        have : k ∈ (Value.slice p' (xs ++ ys).length cp).ownBlock.toList := hk
        rw [hlen] at this
        simpa using this
      have hlt := (h2.lt k hk0).2
      rcases append_block ht hi hiz hsz hzs hown (by rw [c.all_len, hm]) (hsrc w hw) (c.all_one ys) hb hb' hr hk0 with hq | hq
      · left
        show k ∈ (Value.slice p xs.length cap).ownBlock.toList
        rw [hq]; simp
      · exact .inr ⟨hq, hlt⟩) fun v a w h ⟨p', cp, hv, hw⟩ => by subst hv; exact k p' cp a w h hw
/-- append of the elements of another slice. -/
theorem at_append_row {α : Type} {c : Cd α} {p : Option Addr} {cap : Nat} {xs ys : List α} {f : Ent → List Ent} {G : List Ent} {sx xx : Operand} {p2 : Option Addr} {cap2 : Nat} {i : TypeInfo} {z : Value} (hu : Upd H (rowE c e p cap xs) f G)
    (ht : P.underlying t = some (.slice e)) (hi : P.info? e = some i) (hiz : i.zero = some z) (hsz : i.size = c.sz) (hzs : z.cells.size = c.sz)
    (hs : ev L sx = some (.slice p xs.length cap)) (hx : ev L xx = some (.slice p2 ys.length cap2))
    (hsrc : ∀ w, Wd w0 H w → Row c w p2 cap2 ys) {by_ : Nat} (hby : i.bytes = by_) (hb0 : (xs.length + ys.length) * by_ ≤ 140737488355328) (hb' : xs.length + ys.length ≤ 140737488355328) (hdn : Nat.blt d n = true)
    (k : ∀ p' cap', At n ((d, .slice p' (xs ++ ys).length cap') :: L) (Wd w0 (f (rowE c e p' cap' (xs ++ ys)))) (wpList P ops Q rest)) :
    At n L (Wd w0 H) (wpList P ops Q (⟨some d, .call { callee := .builtin .append, args := #[sx, xx], argTypes := #[t, t] }, ty, pos, aft, none⟩ :: rest)) := by
  cases ys with
  | nil =>
    have hk := k p cap
    simp only [List.append_nil] at hk
    have hf : f (rowE c e p cap xs) = H := hu.same
    rw [hf] at hk
    refine at_any (W' := fun v w' => v = .slice p xs.length cap ∧ Wd w0 H w') rfl rfl hdn (fun a w h hw => ?_) fun v a w h ⟨hv, hw⟩ => by subst hv; exact hk a w h hw
    refine ⟨_, w, ?_, rfl, hw⟩
    have hle := (hw.own hu).row.1
    have hrun : (Builtin.append_ #[t, t] ty #[.slice p xs.length cap, .slice p2 ([] : List α).length cap2]).run P w = .ok (.slice p xs.length cap) w := by
      cases p <;> cases p2 <;> simp [Builtin.append_, run_underlying ht, sizeOf, typeInfo, hi, hle, storeCells, Builtin.lenOf, Builtin.firstCells, loadCells, loadCellsFrom]
    simp only [execOp, resolve, invoke, builtin, Sem.run_bind, Sem.run_pure, Result.andThen_ok, List.map_toArray, List.map_cons, List.map_nil, h.eval hs, h.eval hx, hrun]
  | cons y ys =>
    intro a w h hw
    obtain ⟨b, o, hp, _⟩ : ∃ b o, p2 = some ⟨b, o, none⟩ ∧ True := by
      rcases (hsrc w hw).2 with h0 | ⟨b, o, hp, _⟩
      · cases h0
      · exact ⟨b, o, hp, trivial⟩
    subst hp
    refine at_append (ys := y :: ys) hu ht hi hiz hsz hzs hs hx rfl (fun w hw j u hj => ?_) hby hb0 hb' hdn k a w h hw
    rcases (hsrc w hw).2 with h0 | ⟨b', o', hp, hc⟩
    · cases h0
    · cases hp
      rw [Addr.add_lit]
      exact hc j u hj
end
end Go.Proofs.Ythccncpephpdjaa.E
