/- strings.Join in the printed functions' words. -/
import Derived.Test.YtkkmmpofdcccmaaGreatDoorShelf
import Derived.Test.YtkkmmpofdcccmaaGreatDoorW
import Derived.Test.YtkkmmpofdcccmaaGreatDoorT
import Derived.Lib.SliceRun
set_option linter.unusedVariables false
set_option linter.unusedSimpArgs false
namespace Go.Proofs.YtkkmmpofdcccmaaGreatDoor
open E Go.RowKit

def bjoin (xs : List ByteArray) (sep : ByteArray) : ByteArray := ⟨(Lib.join (xs.map (·.data.toList)) sep.data.toList).toArray⟩
theorem join_ok (xs : List ByteArray) (sep : ByteArray) (h : xs.length ≤ 140737488355328) (hs : (bjoin xs sep).size ≤ 140737488355328) (p : Option Addr) (cap : Nat) (w : World) (hr : Row cStr w p cap xs) :
    Calls Tryz.prog 47 #[.slice p xs.length cap, .string sep] w fun e w' => e = .returned (.string (bjoin xs sep)) ∧ Below w.heap.size w w' := by
  rcases hr.2 with h0 | ⟨b, o, hp, hc⟩
  · subst h0
    exact (Tryz.strings_Join_none p cap sep w).mono fun e w' ⟨he, hw⟩ => ⟨he, hw ▸ Below.refl _ _⟩
  · cases xs with
    | nil => exact (Tryz.strings_Join_none p cap sep w).mono fun e w' ⟨he, hw⟩ => ⟨he, hw ▸ Below.refl _ _⟩
    | cons x r =>
      subst hp
      have hcell : ∀ (j : Nat) y, (x :: r)[j]? = some y → w.cell? ⟨b, o + j, none⟩ = some (.string y) := fun j y hj => by
        have := Cd.all_get cStr (x :: r) j 0 y hj (by decide)
        refine hc j _ ?_
        have e : j * cStr.sz + 0 = j := by show j * 1 + 0 = j; omega
        rw [e] at this
        rw [this]; rfl
      have hb : b < w.heap.size := World.block_lt_of_cell? w _ (hcell 0 x rfl)
      have hlen : (Lib.join ((x :: r).map (·.data.toList)) sep.data.toList).length ≤ 140737488355328 := by
        have : (bjoin (x :: r) sep).size = (Lib.join ((x :: r).map (·.data.toList)) sep.data.toList).length := by
          show (bjoin (x :: r) sep).data.size = _
          simp [bjoin]
        omega
      exact Tryz.strings_Join b o cap (x :: r) sep w hcell hb h hr.1 hlen
end Go.Proofs.YtkkmmpofdcccmaaGreatDoor
