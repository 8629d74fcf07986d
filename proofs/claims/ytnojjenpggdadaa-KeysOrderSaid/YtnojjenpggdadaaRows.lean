/-
  No cell of these rows narrows 'for every input' (looked for: loops, veiled, ifaces, maps, wideKeys, modest, calm, conditions, laid).
  DERIVED. THE GIVEN ROWS OF THIS SEAT. 6 by the template 'for every input the law returns true; each argument reads behind the call as it read before'; 0 by the template 'total and deterministic' (their statements: YtnojjenpggdadaaTotals.lean).
  GIVEN WITH THE SEED: the statements are not yours to turn. If you find one false, say at which input.
  Laid BY PROGRAM, IN A SANDBOX (cutbox-rows.mjs): the forced cells as the released guide's own fill.sh prints them over the translation 6136f54905b659a6… (all of the seat's roots in one cut). By AI agents, Wed Nov 11 2026. No macro, syntax, notation, axiom, sorry.
-/
import Derived.Test.YtnojjenpggdadaaChecked
import GoSem.Claim
import GoSem.ClaimJoined
import GoSem.ClaimMapViews
import Derived.JoinedTies
import Derived.KernelRfl
namespace Go.Proofs.Ytnojjenpggdadaa
/- THE CELL 'sum', in the pinned program and in every row, IS THE sha256 OF THE DUMP (.gsa) THAT YtnojjenpggdadaaProg.lean LOADS. Nothing in Lean hashes anything: it is a label: what it is worth is what the hold of that sum in a sandbox is worth. -/
noncomputable def Try.pinned : Pinned := { name := "ytnojjenpggdadaa", sum := "6136f54905b659a6762e0c35940aa287e3618ada2a1584d17c9b932457b4ea44", checked := Try.checked }
namespace Rows
def none {H : Type} : Left H := { results := [], args := [] }

/-- 'crawlwaylaw05.HexesGroups': WHATEVER THE INPUT: true; the input reads as it did. -/
def hexesGroupsSpec : ChangeSpec := { name := "hexesGroups", fn := fun _ => fun
  | [d1, d2] => { results := [.lit (.bool true)], args := [d1, d2] }
  | _ => none }
def hexesGroupsRow : OpenClaim := { program := "ytnojjenpggdadaa", sum := "6136f54905b659a6762e0c35940aa287e3618ada2a1584d17c9b932457b4ea44", func := "crawlway/crawlwaylaw05.HexesGroups", spec := "hexesGroups", inPlace := ["internal/bytealg.IndexByteString", "internal/abi.NoEscape"], recurses := true, apart := false }
def HexesGroupsSaid : Prop := hexesGroupsRow.holds Try.pinned (OpenSpec.ofChange hexesGroupsSpec)

/-- ITS FALSE NEIGHBOUR: 'it returns false'. Refute it at one input. -/
def hexesGroupsWrong : ChangeSpec := { name := "hexesGroups", fn := fun _ => fun
  | [d1, d2] => { results := [.lit (.bool false)], args := [d1, d2] }
  | _ => none }
def HexesGroupsWrongFalsely : Prop := hexesGroupsRow.holds Try.pinned (OpenSpec.ofChange hexesGroupsWrong)

/-- 'crawlwaylaw05.HexesBack': WHATEVER THE INPUT: true; the input reads as it did. -/
def hexesBackSpec : ChangeSpec := { name := "hexesBack", fn := fun _ => fun
  | [d] => { results := [.lit (.bool true)], args := [d] }
  | _ => none }
def hexesBackRow : OpenClaim := { program := "ytnojjenpggdadaa", sum := "6136f54905b659a6762e0c35940aa287e3618ada2a1584d17c9b932457b4ea44", func := "crawlway/crawlwaylaw05.HexesBack", spec := "hexesBack", inPlace := ["internal/bytealg.IndexByteString", "internal/abi.NoEscape"], apart := false }
def HexesBackSaid : Prop := hexesBackRow.holds Try.pinned (OpenSpec.ofChange hexesBackSpec)

/-- ITS FALSE NEIGHBOUR: 'it returns false'. Refute it at one input. -/
def hexesBackWrong : ChangeSpec := { name := "hexesBack", fn := fun _ => fun
  | [d] => { results := [.lit (.bool false)], args := [d] }
  | _ => none }
def HexesBackWrongFalsely : Prop := hexesBackRow.holds Try.pinned (OpenSpec.ofChange hexesBackWrong)

/-- 'crawlwaylaw05.HexesReads': WHATEVER THE INPUT: true; the input reads as it did. -/
def hexesReadsSpec : ChangeSpec := { name := "hexesReads", fn := fun _ => fun
  | [d] => { results := [.lit (.bool true)], args := [d] }
  | _ => none }
def hexesReadsRow : OpenClaim := { program := "ytnojjenpggdadaa", sum := "6136f54905b659a6762e0c35940aa287e3618ada2a1584d17c9b932457b4ea44", func := "crawlway/crawlwaylaw05.HexesReads", spec := "hexesReads", inPlace := ["internal/bytealg.IndexByteString", "internal/abi.NoEscape"], apart := false }
def HexesReadsSaid : Prop := hexesReadsRow.holds Try.pinned (OpenSpec.ofChange hexesReadsSpec)

/-- ITS FALSE NEIGHBOUR: 'it returns false'. Refute it at one input. -/
def hexesReadsWrong : ChangeSpec := { name := "hexesReads", fn := fun _ => fun
  | [d] => { results := [.lit (.bool false)], args := [d] }
  | _ => none }
def HexesReadsWrongFalsely : Prop := hexesReadsRow.holds Try.pinned (OpenSpec.ofChange hexesReadsWrong)

/-- 'crawlwaylaw04.SixtyfourBack': WHATEVER THE INPUT: true; the input reads as it did. -/
def sixtyfourBackSpec : ChangeSpec := { name := "sixtyfourBack", fn := fun _ => fun
  | [d] => { results := [.lit (.bool true)], args := [d] }
  | _ => none }
def sixtyfourBackRow : OpenClaim := { program := "ytnojjenpggdadaa", sum := "6136f54905b659a6762e0c35940aa287e3618ada2a1584d17c9b932457b4ea44", func := "crawlway/crawlwaylaw04.SixtyfourBack", spec := "sixtyfourBack", inPlace := ["internal/bytealg.IndexByteString", "internal/abi.NoEscape", "internal/bytealg.MakeNoZero"], apart := false }
def SixtyfourBackSaid : Prop := sixtyfourBackRow.holds Try.pinned (OpenSpec.ofChange sixtyfourBackSpec)

/-- ITS FALSE NEIGHBOUR: 'it returns false'. Refute it at one input. -/
def sixtyfourBackWrong : ChangeSpec := { name := "sixtyfourBack", fn := fun _ => fun
  | [d] => { results := [.lit (.bool false)], args := [d] }
  | _ => none }
def SixtyfourBackWrongFalsely : Prop := sixtyfourBackRow.holds Try.pinned (OpenSpec.ofChange sixtyfourBackWrong)

/-- 'crawlwaylaw04.SixtyfourReads': WHATEVER THE INPUT: true; the input reads as it did. -/
def sixtyfourReadsSpec : ChangeSpec := { name := "sixtyfourReads", fn := fun _ => fun
  | [d] => { results := [.lit (.bool true)], args := [d] }
  | _ => none }
def sixtyfourReadsRow : OpenClaim := { program := "ytnojjenpggdadaa", sum := "6136f54905b659a6762e0c35940aa287e3618ada2a1584d17c9b932457b4ea44", func := "crawlway/crawlwaylaw04.SixtyfourReads", spec := "sixtyfourReads", inPlace := ["internal/bytealg.IndexByteString", "internal/abi.NoEscape", "internal/bytealg.MakeNoZero"], apart := false }
def SixtyfourReadsSaid : Prop := sixtyfourReadsRow.holds Try.pinned (OpenSpec.ofChange sixtyfourReadsSpec)

/-- ITS FALSE NEIGHBOUR: 'it returns false'. Refute it at one input. -/
def sixtyfourReadsWrong : ChangeSpec := { name := "sixtyfourReads", fn := fun _ => fun
  | [d] => { results := [.lit (.bool false)], args := [d] }
  | _ => none }
def SixtyfourReadsWrongFalsely : Prop := sixtyfourReadsRow.holds Try.pinned (OpenSpec.ofChange sixtyfourReadsWrong)

/-- 'crawlwaylaw07.KeysOrder': WHATEVER THE INPUT: true; the input reads as it did. -/
def keysOrderSpec : ChangeSpec := { name := "keysOrder", fn := fun _ => fun
  | [d1, d2] => { results := [.lit (.bool true)], args := [d1, d2] }
  | _ => none }
def keysOrderRow : OpenClaim := { program := "ytnojjenpggdadaa", sum := "6136f54905b659a6762e0c35940aa287e3618ada2a1584d17c9b932457b4ea44", func := "crawlway/crawlwaylaw07.KeysOrder", spec := "keysOrder", inPlace := ["internal/bytealg.Compare", "internal/abi.NoEscape", "internal/bytealg.MakeNoZero"], apart := false }
def KeysOrderSaid : Prop := keysOrderRow.holds Try.pinned (OpenSpec.ofChange keysOrderSpec)

/-- ITS FALSE NEIGHBOUR: 'it returns false'. Refute it at one input. -/
def keysOrderWrong : ChangeSpec := { name := "keysOrder", fn := fun _ => fun
  | [d1, d2] => { results := [.lit (.bool false)], args := [d1, d2] }
  | _ => none }
def KeysOrderWrongFalsely : Prop := keysOrderRow.holds Try.pinned (OpenSpec.ofChange keysOrderWrong)

/- THE SECOND FORM. 'bulk': how many values and letters a reading holds, each counted each time it is reached (what is shared counts as often as it is met; a slice's spare places count too). A statement '..UptoSaid' is the law's where the arguments, and the package variables that the reading takes, are together of bulk at most 1048576: NARROWER than '..Said'. Prove '..Said' where nothing that the law and all that it calls make is longer than what came in: it says more and counts as full. Else prove '..UptoSaid'. A law counts once. -/
mutual
def uptoBulk {H : Type} : DataW H → Nat
  | .lit (.string bytes) => bytes.length + 1
  | .lit _ => 1
  | .nil => 1
  | .ptr d => uptoBulk d + 1
  | .slice elems spare => uptoBulkAll elems + uptoBulkAll spare + 1
  | .agg parts => uptoBulkAll parts + 1
  | .iface _ d => uptoBulk d + 1
  | .map entries => uptoBulkEntries entries + 1
  | .held _ => 1
def uptoBulkAll {H : Type} : List (DataW H) → Nat
  | [] => 0
  | d :: r => uptoBulk d + uptoBulkAll r
def uptoBulkEntries {H : Type} : List (Lit × DataW H) → Nat
  | [] => 0
  | x :: r => uptoBulkEntry x + uptoBulkEntries r
def uptoBulkEntry {H : Type} : Lit × DataW H → Nat
  | (.string bytes, d) => bytes.length + uptoBulk d + 1
  | (_, d) => uptoBulk d + 1
 end
def uptoSmall : (H : Type) → List (DataW H) → Bool := fun _ ds => decide (uptoBulkAll ds ≤ 1048576)
def OpenSpec.upto (s : _root_.Go.ChangeSpec) : _root_.Go.OpenSpec := { _root_.Go.OpenSpec.ofChange s with cond := some uptoSmall }

/-- 'crawlwaylaw05.HexesGroups', WHERE WHAT IT READS IS OF BULK AT MOST 1048576: true; the input reads as it did. -/
def hexesGroupsUptoRow : OpenClaim := { program := "ytnojjenpggdadaa", sum := "6136f54905b659a6762e0c35940aa287e3618ada2a1584d17c9b932457b4ea44", func := "crawlway/crawlwaylaw05.HexesGroups", spec := "hexesGroups", inPlace := ["internal/bytealg.IndexByteString", "internal/abi.NoEscape"], recurses := true, apart := false, narrowed := true }
def HexesGroupsUptoSaid : Prop := hexesGroupsUptoRow.holds Try.pinned (OpenSpec.upto hexesGroupsSpec)

/-- 'crawlwaylaw05.HexesBack', WHERE WHAT IT READS IS OF BULK AT MOST 1048576: true; the input reads as it did. -/
def hexesBackUptoRow : OpenClaim := { program := "ytnojjenpggdadaa", sum := "6136f54905b659a6762e0c35940aa287e3618ada2a1584d17c9b932457b4ea44", func := "crawlway/crawlwaylaw05.HexesBack", spec := "hexesBack", inPlace := ["internal/bytealg.IndexByteString", "internal/abi.NoEscape"], apart := false, narrowed := true }
def HexesBackUptoSaid : Prop := hexesBackUptoRow.holds Try.pinned (OpenSpec.upto hexesBackSpec)

/-- 'crawlwaylaw05.HexesReads', WHERE WHAT IT READS IS OF BULK AT MOST 1048576: true; the input reads as it did. -/
def hexesReadsUptoRow : OpenClaim := { program := "ytnojjenpggdadaa", sum := "6136f54905b659a6762e0c35940aa287e3618ada2a1584d17c9b932457b4ea44", func := "crawlway/crawlwaylaw05.HexesReads", spec := "hexesReads", inPlace := ["internal/bytealg.IndexByteString", "internal/abi.NoEscape"], apart := false, narrowed := true }
def HexesReadsUptoSaid : Prop := hexesReadsUptoRow.holds Try.pinned (OpenSpec.upto hexesReadsSpec)

/-- 'crawlwaylaw04.SixtyfourBack', WHERE WHAT IT READS IS OF BULK AT MOST 1048576: true; the input reads as it did. -/
def sixtyfourBackUptoRow : OpenClaim := { program := "ytnojjenpggdadaa", sum := "6136f54905b659a6762e0c35940aa287e3618ada2a1584d17c9b932457b4ea44", func := "crawlway/crawlwaylaw04.SixtyfourBack", spec := "sixtyfourBack", inPlace := ["internal/bytealg.IndexByteString", "internal/abi.NoEscape", "internal/bytealg.MakeNoZero"], apart := false, narrowed := true }
def SixtyfourBackUptoSaid : Prop := sixtyfourBackUptoRow.holds Try.pinned (OpenSpec.upto sixtyfourBackSpec)

/-- 'crawlwaylaw04.SixtyfourReads', WHERE WHAT IT READS IS OF BULK AT MOST 1048576: true; the input reads as it did. -/
def sixtyfourReadsUptoRow : OpenClaim := { program := "ytnojjenpggdadaa", sum := "6136f54905b659a6762e0c35940aa287e3618ada2a1584d17c9b932457b4ea44", func := "crawlway/crawlwaylaw04.SixtyfourReads", spec := "sixtyfourReads", inPlace := ["internal/bytealg.IndexByteString", "internal/abi.NoEscape", "internal/bytealg.MakeNoZero"], apart := false, narrowed := true }
def SixtyfourReadsUptoSaid : Prop := sixtyfourReadsUptoRow.holds Try.pinned (OpenSpec.upto sixtyfourReadsSpec)

/-- 'crawlwaylaw07.KeysOrder', WHERE WHAT IT READS IS OF BULK AT MOST 1048576: true; the input reads as it did. -/
def keysOrderUptoRow : OpenClaim := { program := "ytnojjenpggdadaa", sum := "6136f54905b659a6762e0c35940aa287e3618ada2a1584d17c9b932457b4ea44", func := "crawlway/crawlwaylaw07.KeysOrder", spec := "keysOrder", inPlace := ["internal/bytealg.Compare", "internal/abi.NoEscape", "internal/bytealg.MakeNoZero"], apart := false, narrowed := true }
def KeysOrderUptoSaid : Prop := keysOrderUptoRow.holds Try.pinned (OpenSpec.upto keysOrderSpec)

end Rows
end Go.Proofs.Ytnojjenpggdadaa
