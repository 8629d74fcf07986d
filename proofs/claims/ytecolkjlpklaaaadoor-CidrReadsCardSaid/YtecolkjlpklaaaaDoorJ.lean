/- strings.Join in the printed functions' words; slice literals without elements; pointers to a variable of the caller's own. -/
import Derived.Test.YtecolkjlpklaaaaDoorShelf
import Derived.Test.YtecolkjlpklaaaaDoorW
import Derived.Test.YtecolkjlpklaaaaDoorT
import Derived.Lib.SliceRun
set_option linter.unusedVariables false
set_option linter.unusedSimpArgs false
namespace Go.Proofs.YtecolkjlpklaaaaDoor
open E Go.RowKit

def bjoin (xs : List ByteArray) (sep : ByteArray) : ByteArray := ⟨(Lib.join (xs.map (·.data.toList)) sep.data.toList).toArray⟩
theorem join_ok (xs : List ByteArray) (sep : ByteArray) (h : xs.length ≤ 140737488355328) (hs : (bjoin xs sep).size ≤ 140737488355328) (p : Option Addr) (cap : Nat) (w : World) (hr : Row cStr w p cap xs) :
    Calls Tryd.prog 91 #[.slice p xs.length cap, .string sep] w fun e w' => e = .returned (.string (bjoin xs sep)) ∧ Below w.heap.size w w' := by
  rcases hr.2 with h0 | ⟨b, o, hp, hc⟩
  · subst h0
    exact (Tryd.strings_Join_none p cap sep w).mono fun e w' ⟨he, hw⟩ => ⟨he, hw ▸ Below.refl _ _⟩
  · cases xs with
    | nil => exact (Tryd.strings_Join_none p cap sep w).mono fun e w' ⟨he, hw⟩ => ⟨he, hw ▸ Below.refl _ _⟩
    | cons x r =>
      subst hp
      have hcell : ∀ (j : Nat) y, (x :: r)[j]? = some y → w.cell? ⟨b, o + j, none⟩ = some (.string y) := fun j y hj => by
        have := Cd.all_get cStr (x :: r) j 0 y hj (by decide)
        refine hc j _ ?_
        have e : j * cStr.sz + 0 = j := by show j * 1 + 0 = j; omega
        rw [e] at this
        rw [this]; rfl
      have hb : b < w.heap.size := World.block_lt_of_cell? w _ (hcell 0 x rfl)
      have hlen : (Lib.join ((x :: r).map (·.data.toList)) sep.data.toList).length ≤ 140737488355328 := by
        have : (bjoin (x :: r) sep).size = (Lib.join ((x :: r).map (·.data.toList)) sep.data.toList).length := by
          show (bjoin (x :: r) sep).data.size = _
          simp [bjoin]
        omega
      exact Tryd.strings_Join b o cap (x :: r) sep w hcell hb h hr.1 hlen

section
variable {n : Nat} {L : List (Nat × Value)} {w0 w : World} {H G : List Ent} {E E' : Ent} {f : Ent → List Ent} {P : Program} {ops : Array Oper} {Q : Exit → Act → World → Prop} {rest : List Oper} {d : Nat} {ty : TypeId} {pos : String} {aft : Array Edge}
theorem Upd.again (h : Upd H E f G) (E' : Ent) : Upd (f E') E' f G := by
  induction h with
  | z => exact .z
  | s _ ih => exact .s ih
theorem at_enter_ptr {X : Act → World → Prop} (hu : Upd H E f G) (hw : Wd w0 H w) (k : At n L (Wd w0 (f E)) X) : At n L (fun w' => w' = w) X :=
  at_world (fun w1 h => by subst h; rw [hu.same]; exact hw) k
/-- A call that turns one variable of the caller's own. -/
theorem at_callP {fid : FuncId} {fn : Func} {xs : List Operand} {ats : Array TypeId} {l : List Value} {v : Value} (hf : P.funcs[fid]? = some fn) (hb : fn.body.isSome = true) (hnm : (fn.name == "runtime.NumGoroutine") = false)
    (hx : evs L xs = some l) (hdn : Nat.blt d n = true) (hc : ∀ w, Wd w0 H w → Calls P fid l.toArray w fun e w' => e = .returned v ∧ Wd w0 (f E') w')
    (kk : At n ((d, v) :: L) (Wd w0 (f E')) (wpList P ops Q rest)) :
    At n L (Wd w0 H) (wpList P ops Q (⟨some d, .call { callee := .value (.func fid), args := xs.toArray, argTypes := ats }, ty, pos, aft, none⟩ :: rest)) :=
  at_call (W' := fun u w' => u = v ∧ Wd w0 (f E') w') hf hb hnm hx hdn (fun w hw => (hc w hw).mono fun e w' ⟨he, hw'⟩ => ⟨v, he, rfl, hw'⟩) fun u a w h ⟨hu, hw⟩ => by
    subst hu; exact kk a w h hw
end
section
variable {n : Nat} {L : List (Nat × Value)} {ops : Array Oper} {Q : Exit → Act → World → Prop} {rest : List Oper} {w0 : World} {H : List Ent} {P : Program} {d : Nat} {ty : TypeId} {pos : String} {aft : Array Edge} {t e : TypeId}
/-- A slice literal without elements: a row of the call's own. -/
theorem at_lit0 {α : Type} (c : Cd α) (ht : P.underlying t = some (.slice e)) (hz : ∀ w, (sizeOf e).run P w = .ok c.sz w) (hdn : Nat.blt d n = true)
    (k : ∀ b, At n ((d, .slice (some ⟨b, 0, none⟩) ([] : List α).length 0) :: L) (Wd w0 (rowE c e (some ⟨b, 0, none⟩) 0 [] :: H)) (wpList P ops Q rest)) :
    At n L (Wd w0 H) (wpList P ops Q (⟨some d, .buildSlice t 0 #[], ty, pos, aft, none⟩ :: rest)) :=
  at_any (W' := fun v w' => ∃ b, v = .slice (some ⟨b, 0, none⟩) ([] : List α).length 0 ∧ Wd w0 (rowE c e (some ⟨b, 0, none⟩) 0 [] :: H) w') rfl rfl hdn (fun a w h hw => by
    have hw2 : (w.alloc (.cells #[] e)).heap[w.heap.size]? = some (.cells #[] e (0, 0)) := heap_alloc_new w _
    refine ⟨_, w.alloc (.cells #[] e), ?_, w.heap.size, rfl, hw.pushOwn ((Below.refl _ _).alloc (Nat.le_refl _) _) ⟨by simp [Cd.all], .inr ⟨w.heap.size, 0, #[], rfl, Nat.le_refl _, hw2, Nat.le_refl _, Nat.zero_le _, by simp, by simp [Cd.all]⟩⟩⟩
    simp [execOp, Instr.buildSlice, Sem.run_bind, run_underlying ht, hz, Instr.fill, newRow, newObj, Sem.run]
    simp [Array.range]) fun v a w h ⟨b, hv, hw⟩ => by subst hv; exact k b a w h hw
end

end Go.Proofs.YtecolkjlpklaaaaDoor
