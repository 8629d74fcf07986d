/- strings.Cut, over worlds in which the library's own variable holds some number. -/
import Derived.Test.YtkkmmpofdcccmaaGreatDoorShelf
import Derived.Test.YtkkmmpofdcccmaaGreatDoorL
import Derived.HandedShaped
import Derived.Handed
import Derived.Deep.Draws
set_option linter.unusedVariables false
namespace Go.Proofs.YtkkmmpofdcccmaaGreatDoor
open E Go.RowKit
def GV_bytealg_MaxLen (w : World) : Prop := ∃ m, w.cell? ⟨Tryz.laysM145_ren.g 1, 0, none⟩ = some (.int .i64 m)
theorem GV_bytealg_MaxLen.on {w w' : World} (h : GV_bytealg_MaxLen w) (hb : Below w.heap.size w w') : GV_bytealg_MaxLen w' := by
  obtain ⟨m, hm⟩ := h
  refine ⟨m, ?_⟩
  have hlt : Tryz.laysM145_ren.g 1 < w.heap.size := by
    rcases Nat.lt_or_ge (Tryz.laysM145_ren.g 1) w.heap.size with h' | h'
    · exact h'
    · unfold World.cell? at hm
      simp only [Array.getElem?_eq_none h'] at hm
      simp at hm
  have e := hb.block _ hlt
  unfold World.cell? at hm ⊢
  simp only [e]
  exact hm
theorem GV_bytealg_MaxLen.of_shaped {w : World} (h : w.ShapedOpen Tryz.prog) : GV_bytealg_MaxLen w := Tryz.laysM145.s1_3 w h
def scut (s sep : ByteArray) : ByteArray × ByteArray × Bool := (⟨(Lib.cut s.data.toList sep.data.toList).1.toArray⟩, ⟨(Lib.cut s.data.toList sep.data.toList).2.1.toArray⟩, (Lib.cut s.data.toList sep.data.toList).2.2)
theorem cut_okS (s sep : ByteArray) (hs : s.size < 4294967281) (w : World) (hg : GV_bytealg_MaxLen w) :
    Calls Tryz.prog 177 #[.string s, .string sep] w fun e w' => e = .returned (.tuple #[.string (scut s sep).1, .string (scut s sep).2.1, .bool (scut s sep).2.2]) ∧ Below w.heap.size w w' := by
  obtain ⟨m, hm⟩ := hg
  refine (Tryz.strings_Cut s sep m w hs hm).mono fun e w' h => ?_
  obtain ⟨he, n, hn⟩ := h
  subst hn
  exact ⟨he, Below.drawn w _⟩
/-- The wrap of a row with a condition on the heap, the world's shape handed on. -/
theorem handed_shaped {H : Type} {enc : TypeId × Value → H} {a : Assume} {C : Checked} {os : Os} {f : FuncId} {fn : Func} {s : ChangeSpec} {conds : List PathCond} {apart fresh handsOn again : Bool} {X : World → Array Value → Prop}
    (hX : ∀ (w w' : World) (args : Array Value), w.heap = w'.heap → X w args → X w' args)
    (own : ownKnob C.prog.godebug = none) (started : os.Started) (noInit : C.prog.inits.idxOf? f = none) (hfn : C.prog.funcs[f]? = some fn)
    (witness : ∃ (w : World) (tape : Tape) (i : Input), w.os = os ∧ (w.forCall tape i).Shaped C.prog ∧ i.vars = [] ∧ Input.okWide C.prog (w.forCall tape i) .any w.heap.size f i ∧
      ((s.pre enc C.prog fn conds apart (w.forCall tape i).memory i.args ∧ X (w.forCall tape i).memory i.args) ∧ sizedMet enc C.prog fn (OpenSpec.ofChange s) apart (w.forCall tape i).memory i.args) ∧ a.holds C.prog (lone (Frame.enter C.prog f i.args .normal) [] (w.forCall tape i)))
    (contract : ∀ (W : World) (base : Nat) (args : Array Value) (ds gs : List (DataW H)) (before : List MemPlace),
      (∀ (j : Nat) t v, fn.params[j]? = some t → args[j]? = some v → Value.okWide C.prog W .any base t v) →
      DataW.Whole enc C.prog fn.params.toList s.vars apart W args.toList ds gs before →
      conds.all (PathCond.test C.prog ⟨fn.params.toList, ds, s.plain.varTypes C.prog, gs⟩) = true →
      (DataW.weightsEach C.prog (fn.params.toList ++ s.plain.varTypes C.prog) (ds ++ gs)).all (· ≤ reachBytes) = true → W.ShapedOpen C.prog → X W args →
      a.holds C.prog (lone (Frame.enter C.prog f args .normal) [] W) →
      Calls C.prog f args W fun e W' => ∃ v, e = .returned v ∧ s.post enc C.prog fn apart fresh handsOn again W args v W') :
    ReturnsInHanded a C os f .any (fun w args => (s.pre enc C.prog fn conds apart w args ∧ X w args) ∧ sizedMet enc C.prog fn (OpenSpec.ofChange s) apart w args) (s.post enc C.prog fn apart fresh handsOn again) := by
  refine returnsInHanded_of_calls own started noInit witness ?_
  intro w tape i _ hsh _ hok hpre hholds
  obtain ⟨_, _, _, fn2, hf2, _, _, _, _, hval⟩ := hok
  cases Option.some.inj (hf2.symm.trans hfn)
  obtain ⟨⟨⟨ds, gs, before, hw, hc⟩, hx⟩, hz⟩ := hpre
  refine (contract (w.forCall tape i) w.heap.size i.args ds gs before hval (DataW.Whole.of_heap (by rfl) hw) hc (hz.weights hw) hsh (hX _ _ _ (by rfl) hx) hholds).mono fun e W' h => ?_
  obtain ⟨v, he, hp⟩ := h
  cases he
  exact ChangeSpec.post_blind hp
end Go.Proofs.YtkkmmpofdcccmaaGreatDoor
