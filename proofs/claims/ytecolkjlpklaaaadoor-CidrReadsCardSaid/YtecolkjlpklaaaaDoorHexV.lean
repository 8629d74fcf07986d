/- Layer 5: the value of a digit, by the program. -/
import Derived.Test.YtecolkjlpklaaaaDoorGs
import Derived.Test.YtecolkjlpklaaaaDoorHexSpec
import Derived.Test.YtecolkjlpklaaaaDoorPure
set_option linter.unusedVariables false
set_option linter.unusedSimpArgs false
namespace Go.Proofs.YtecolkjlpklaaaaDoor.Hex
open E Go.RowKit

theorem tab_size : (⟨#[48, 49, 50, 51, 52, 53, 54, 55, 56, 57, 97, 98, 99, 100, 101, 102]⟩ : ByteArray).size = 16 := rfl
theorem tab_bt (n : Nat) (h : n < 16) : bt (⟨#[48, 49, 50, 51, 52, 53, 54, 55, 56, 57, 97, 98, 99, 100, 101, 102]⟩ : ByteArray) n = (dg n).toNat := by
  have : ∀ n : Fin 16, bt (⟨#[48, 49, 50, 51, 52, 53, 54, 55, 56, 57, 97, 98, 99, 100, 101, 102]⟩ : ByteArray) (n.1 : Int) = (dg n.1).toNat := by decide +kernel
  exact this ⟨n, h⟩
theorem value_eq (c : Nat) : hexes_value c = some (wr .u16 (idx c), decide (idx c ≥ 0)) := rfl
/-- One step of reading a digit, whoever reads. -/
theorem small_value (c : Nat) (hc : c < 256) : idx (small c) = val c true := idx_small ⟨c, hc⟩
theorem value_val (c : Nat) (hc : c < 256) : idx c = val c false := idx_val ⟨c, hc⟩
end Go.Proofs.YtecolkjlpklaaaaDoor.Hex
