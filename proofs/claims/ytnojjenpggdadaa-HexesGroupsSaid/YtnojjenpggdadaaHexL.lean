/- Layer 5: the three statements over all inputs of their kinds. -/
import Derived.Test.YtnojjenpggdadaaHexQ
set_option linter.unusedVariables false
set_option linter.unusedSimpArgs false
namespace Go.Proofs.Ytnojjenpggdadaa.Hex
open E Go.RowKit
theorem wf_u16 {n : Int} (h : (Lit.int .u16 n).wf = true) : 0 ≤ n ∧ n < 65536 := by
  simp [Lit.wf, IntKind.min, IntKind.max, IntKind.bits, IntKind.signed] at h; omega
theorem HexesGroups_pure (a0 : Int) (w0 : (Lit.int .u16 a0).wf = true) (a1 : ByteArray) (_ : a1.size ≤ maxLen) : crawlwaylaw05_HexesGroups a0 a1 = some true := by
  obtain ⟨h0, h1⟩ := wf_u16 w0
  obtain ⟨n, rfl⟩ : ∃ n : Nat, a0 = n := ⟨a0.toNat, by omega⟩
  exact groups_law n a1 (by omega)
theorem HexesBack_pure (xs : List Int) (h : ∀ n ∈ xs, (Lit.int .u8 n).wf = true) : crawlwaylaw05_HexesBack xs = some true := by
  obtain ⟨l, rfl⟩ := exists_ob xs h
  exact back_law l
theorem HexesReads_pure (s : ByteArray) (_ : s.size ≤ maxLen) : crawlwaylaw05_HexesReads s = some true := reads_law s
end Go.Proofs.Ytnojjenpggdadaa.Hex
