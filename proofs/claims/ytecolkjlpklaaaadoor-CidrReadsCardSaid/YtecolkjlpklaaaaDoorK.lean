/- bytes.Clone in the printed functions' words. -/
import Derived.Test.YtecolkjlpklaaaaDoorJ
set_option linter.unusedVariables false
set_option linter.unusedSimpArgs false
namespace Go.Proofs.YtecolkjlpklaaaaDoor
open E Go.RowKit
theorem infoClone_is : (Tryd.prog.info? 5).isSome = true := by kernel_rfl
noncomputable def infoClone_v : TypeInfo := (Tryd.prog.info? 5).get infoClone_is
theorem infoClone : Tryd.prog.info? 5 = some infoClone_v := (Option.some_get _).symm
theorem clone_ok (xs : List Int) (h : (0 + xs.length) * 1 ≤ 140737488355328) (p : Option Addr) (cap : Nat) (w : World) (hr : Row (cInt .u8) w p cap xs) :
    Calls Tryd.prog 71 #[.slice p xs.length cap] w fun e w' => ∃ p' cap', e = .returned (.slice p' xs.length cap') ∧ Own (cInt .u8) 5 w.heap.size w' p' cap' xs ∧ Below w.heap.size w w' := by
  have heq : ∀ w1, (binOp .eql 33 (.slice p xs.length cap) (.slice none 0 0)).run Tryd.prog w1 = .ok (.bool p.isNone) w1 := fun w1 => Lib.run_eql_slice_nil w1 _ _ p xs.length cap 0 0 Tryd.underlying33
  refine calls_enter (l := [.slice p xs.length cap]) Tryd.func71 rfl rfl rfl ?_
  refine at_start ?_
  refine at_seq ?_
  refine at_region ?_
  refine at_val rfl rfl rfl (r_assign rfl) ?_
  refine at_nil ?_
  refine at_then_normal ?_
  refine at_seq ?_
  refine at_seq ?_
  refine at_region ?_
  refine at_val rfl rfl rfl (r_move rfl) ?_
  refine at_val (v := .bool p.isNone) rfl rfl rfl (fun a w1 h _ => ?_) ?_
  · have hx : a.eval (.tmp 3) = .slice p xs.length cap := h.eval rfl
    have hy : a.eval (.const (.slice none 0 0)) = .slice none 0 0 := rfl
    have hg : ∀ (t : TypeId) (x y : Operand), (eqGuard .eql t x y (.slice p xs.length cap) (.slice none 0 0)).run Tryd.prog w1 = .ok () w1 := fun t x y => rfl
    simp only [execOp, hx, hy, Sem.run_bind, hg, Result.andThen_ok, heq]
    rfl
  refine at_nil ?_
  refine at_then_normal ?_
  rcases hp : p with _ | a0
  · have hxs : xs = [] := by
      rcases hr.2 with h0 | ⟨b, o, hb, _⟩
      · exact h0
      · rw [hp] at hb; cases hb
    subst hxs
    refine at_cond_true rfl rfl ?_
    refine at_seq ?_
    refine at_region ?_
    refine at_val rfl rfl rfl (r_assign rfl) ?_
    refine at_nil ?_
    refine at_then_normal ?_
    refine at_ret ?_
    refine at_then_ret ?_
    exact at_return1 rfl rfl (fun w1 hw => ⟨none, 0, rfl, Own.nil _ _ _ _, hw.below⟩)
  · refine at_cond_false rfl rfl ?_
    refine at_skip ?_
    refine at_then_normal ?_
    refine at_seq ?_
    refine at_region ?_
    refine at_lit0 (cInt .u8) Tryd.underlying33 Tryd.sizeOf5 rfl ?_
    intro b
    refine at_val rfl rfl rfl (r_move rfl) ?_
    refine at_append_row (z := .int .u8 0) (c := (cInt .u8)) (ys := xs) .z Tryd.underlying33 infoClone (by kernel_rfl) (by kernel_rfl) rfl rfl rfl (fun w1 hw => hp ▸ hr.below hw.below) (by kernel_rfl) h (app_small h) rfl ?_
    intro p1 c1
    refine at_val rfl rfl rfl (r_assign rfl) ?_
    refine at_nil ?_
    refine at_then_normal ?_
    refine at_ret ?_
    exact at_return1 rfl rfl (fun w1 hw => ⟨p1, c1, rfl, hw.own .z, hw.below⟩)
end Go.Proofs.YtecolkjlpklaaaaDoor
