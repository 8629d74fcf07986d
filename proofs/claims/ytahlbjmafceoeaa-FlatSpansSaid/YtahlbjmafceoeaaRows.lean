/-
  No cell of these rows narrows 'for every input' (looked for: loops, veiled, ifaces, maps, wideKeys, modest, calm, conditions, laid).
  DERIVED. THE GIVEN ROWS OF THIS SEAT. 5 by the template 'for every input the law returns true; each argument reads behind the call as it read before'; 0 by the template 'total and deterministic' (their statements: YtahlbjmafceoeaaTotals.lean).
  GIVEN WITH THE SEED: the statements are not yours to turn. If you find one false, say at which input.
  Laid BY PROGRAM, IN A SANDBOX (cutbox-rows.mjs): the forced cells as the released guide's own fill.sh prints them over the translation 6fcc317bc4ca724c… (all of the seat's roots in one cut). By AI agents, Wed Nov 11 2026. No macro, syntax, notation, axiom, sorry.
-/
import Derived.Test.YtahlbjmafceoeaaChecked
import GoSem.Claim
import GoSem.ClaimJoined
import GoSem.ClaimMapViews
import Derived.JoinedTies
import Derived.KernelRfl
namespace Go.Proofs.Ytahlbjmafceoeaa
/- THE CELL 'sum', in the pinned program and in every row, IS THE sha256 OF THE DUMP (.gsa) THAT YtahlbjmafceoeaaProg.lean LOADS. Nothing in Lean hashes anything: it is a label: what it is worth is what the hold of that sum in a sandbox is worth. -/
noncomputable def Try.pinned : Pinned := { name := "ytahlbjmafceoeaa", sum := "6fcc317bc4ca724c3ac260096c26d51b73a6c22015b0923baf5315cbed5937c7", checked := Try.checked }
namespace Rows
def none {H : Type} : Left H := { results := [], args := [] }

/-- 'crawlwaylaw53.AggregateRanges': WHATEVER THE INPUT: true; the input reads as it did. -/
def aggregateRangesSpec : ChangeSpec := { name := "aggregateRanges", fn := fun _ => fun
  | [d1, d2] => { results := [.lit (.bool true)], args := [d1, d2] }
  | _ => none }
def aggregateRangesRow : OpenClaim := { program := "ytahlbjmafceoeaa", sum := "6fcc317bc4ca724c3ac260096c26d51b73a6c22015b0923baf5315cbed5937c7", func := "crawlway/crawlwaylaw53.AggregateRanges", spec := "aggregateRanges", inPlace := ["internal/bytealg.Compare"], unfollowed := true, recurses := true, apart := false }
def AggregateRangesSaid : Prop := aggregateRangesRow.holds Try.pinned (OpenSpec.ofChange aggregateRangesSpec)

/-- ITS FALSE NEIGHBOUR: 'it returns false'. Refute it at one input. -/
def aggregateRangesWrong : ChangeSpec := { name := "aggregateRanges", fn := fun _ => fun
  | [d1, d2] => { results := [.lit (.bool false)], args := [d1, d2] }
  | _ => none }
def AggregateRangesWrongFalsely : Prop := aggregateRangesRow.holds Try.pinned (OpenSpec.ofChange aggregateRangesWrong)

/-- 'crawlwaylaw53.AggregateCovers': WHATEVER THE INPUT: true; the input reads as it did. -/
def aggregateCoversSpec : ChangeSpec := { name := "aggregateCovers", fn := fun _ => fun
  | [d1, d2] => { results := [.lit (.bool true)], args := [d1, d2] }
  | _ => none }
def aggregateCoversRow : OpenClaim := { program := "ytahlbjmafceoeaa", sum := "6fcc317bc4ca724c3ac260096c26d51b73a6c22015b0923baf5315cbed5937c7", func := "crawlway/crawlwaylaw53.AggregateCovers", spec := "aggregateCovers", inPlace := ["internal/bytealg.Compare"], unfollowed := true, recurses := true, apart := false }
def AggregateCoversSaid : Prop := aggregateCoversRow.holds Try.pinned (OpenSpec.ofChange aggregateCoversSpec)

/-- ITS FALSE NEIGHBOUR: 'it returns false'. Refute it at one input. -/
def aggregateCoversWrong : ChangeSpec := { name := "aggregateCovers", fn := fun _ => fun
  | [d1, d2] => { results := [.lit (.bool false)], args := [d1, d2] }
  | _ => none }
def AggregateCoversWrongFalsely : Prop := aggregateCoversRow.holds Try.pinned (OpenSpec.ofChange aggregateCoversWrong)

/-- 'crawlwaylaw53.AggregateNext': WHATEVER THE INPUT: true; the input reads as it did. -/
def aggregateNextSpec : ChangeSpec := { name := "aggregateNext", fn := fun _ => fun
  | [d1, d2] => { results := [.lit (.bool true)], args := [d1, d2] }
  | _ => none }
def aggregateNextRow : OpenClaim := { program := "ytahlbjmafceoeaa", sum := "6fcc317bc4ca724c3ac260096c26d51b73a6c22015b0923baf5315cbed5937c7", func := "crawlway/crawlwaylaw53.AggregateNext", spec := "aggregateNext", inPlace := ["internal/bytealg.Compare"], unfollowed := true, recurses := true, apart := false }
def AggregateNextSaid : Prop := aggregateNextRow.holds Try.pinned (OpenSpec.ofChange aggregateNextSpec)

/-- ITS FALSE NEIGHBOUR: 'it returns false'. Refute it at one input. -/
def aggregateNextWrong : ChangeSpec := { name := "aggregateNext", fn := fun _ => fun
  | [d1, d2] => { results := [.lit (.bool false)], args := [d1, d2] }
  | _ => none }
def AggregateNextWrongFalsely : Prop := aggregateNextRow.holds Try.pinned (OpenSpec.ofChange aggregateNextWrong)

/-- 'crawlwaylaw59.FlatSpans': WHATEVER THE INPUT: true; the input reads as it did. -/
def flatSpansSpec : ChangeSpec := { name := "flatSpans", fn := fun _ => fun
  | [d1, d2] => { results := [.lit (.bool true)], args := [d1, d2] }
  | _ => none }
def flatSpansRow : OpenClaim := { program := "ytahlbjmafceoeaa", sum := "6fcc317bc4ca724c3ac260096c26d51b73a6c22015b0923baf5315cbed5937c7", func := "crawlway/crawlwaylaw59.FlatSpans", spec := "flatSpans", inPlace := ["internal/bytealg.Compare"], unfollowed := true, recurses := true, apart := false }
def FlatSpansSaid : Prop := flatSpansRow.holds Try.pinned (OpenSpec.ofChange flatSpansSpec)

/-- ITS FALSE NEIGHBOUR: 'it returns false'. Refute it at one input. -/
def flatSpansWrong : ChangeSpec := { name := "flatSpans", fn := fun _ => fun
  | [d1, d2] => { results := [.lit (.bool false)], args := [d1, d2] }
  | _ => none }
def FlatSpansWrongFalsely : Prop := flatSpansRow.holds Try.pinned (OpenSpec.ofChange flatSpansWrong)

/-- 'crawlwaylaw59.FlatThins': WHATEVER THE INPUT: true; the input reads as it did. -/
def flatThinsSpec : ChangeSpec := { name := "flatThins", fn := fun _ => fun
  | [d1, d2] => { results := [.lit (.bool true)], args := [d1, d2] }
  | _ => none }
def flatThinsRow : OpenClaim := { program := "ytahlbjmafceoeaa", sum := "6fcc317bc4ca724c3ac260096c26d51b73a6c22015b0923baf5315cbed5937c7", func := "crawlway/crawlwaylaw59.FlatThins", spec := "flatThins", inPlace := ["internal/bytealg.Compare"], unfollowed := true, recurses := true, apart := false }
def FlatThinsSaid : Prop := flatThinsRow.holds Try.pinned (OpenSpec.ofChange flatThinsSpec)

/-- ITS FALSE NEIGHBOUR: 'it returns false'. Refute it at one input. -/
def flatThinsWrong : ChangeSpec := { name := "flatThins", fn := fun _ => fun
  | [d1, d2] => { results := [.lit (.bool false)], args := [d1, d2] }
  | _ => none }
def FlatThinsWrongFalsely : Prop := flatThinsRow.holds Try.pinned (OpenSpec.ofChange flatThinsWrong)

/- THE SECOND FORM. 'bulk': how many values and letters a reading holds, each counted each time it is reached (what is shared counts as often as it is met; a slice's spare places count too). A statement '..UptoSaid' is the law's where the arguments, and the package variables that the reading takes, are together of bulk at most 1048576: NARROWER than '..Said'. Prove '..Said' where nothing that the law and all that it calls make is longer than what came in: it says more and counts as full. Else prove '..UptoSaid'. A law counts once. -/
mutual
def uptoBulk {H : Type} : DataW H → Nat
  | .lit (.string bytes) => bytes.length + 1
  | .lit _ => 1
  | .nil => 1
  | .ptr d => uptoBulk d + 1
  | .slice elems spare => uptoBulkAll elems + uptoBulkAll spare + 1
  | .agg parts => uptoBulkAll parts + 1
  | .iface _ d => uptoBulk d + 1
  | .map entries => uptoBulkEntries entries + 1
  | .held _ => 1
def uptoBulkAll {H : Type} : List (DataW H) → Nat
  | [] => 0
  | d :: r => uptoBulk d + uptoBulkAll r
def uptoBulkEntries {H : Type} : List (Lit × DataW H) → Nat
  | [] => 0
  | x :: r => uptoBulkEntry x + uptoBulkEntries r
def uptoBulkEntry {H : Type} : Lit × DataW H → Nat
  | (.string bytes, d) => bytes.length + uptoBulk d + 1
  | (_, d) => uptoBulk d + 1
 end
def uptoSmall : (H : Type) → List (DataW H) → Bool := fun _ ds => decide (uptoBulkAll ds ≤ 1048576)
def OpenSpec.upto (s : _root_.Go.ChangeSpec) : _root_.Go.OpenSpec := { _root_.Go.OpenSpec.ofChange s with cond := some uptoSmall }

/-- 'crawlwaylaw53.AggregateRanges', WHERE WHAT IT READS IS OF BULK AT MOST 1048576: true; the input reads as it did. -/
def aggregateRangesUptoRow : OpenClaim := { program := "ytahlbjmafceoeaa", sum := "6fcc317bc4ca724c3ac260096c26d51b73a6c22015b0923baf5315cbed5937c7", func := "crawlway/crawlwaylaw53.AggregateRanges", spec := "aggregateRanges", inPlace := ["internal/bytealg.Compare"], unfollowed := true, recurses := true, apart := false, narrowed := true }
def AggregateRangesUptoSaid : Prop := aggregateRangesUptoRow.holds Try.pinned (OpenSpec.upto aggregateRangesSpec)

/-- 'crawlwaylaw53.AggregateCovers', WHERE WHAT IT READS IS OF BULK AT MOST 1048576: true; the input reads as it did. -/
def aggregateCoversUptoRow : OpenClaim := { program := "ytahlbjmafceoeaa", sum := "6fcc317bc4ca724c3ac260096c26d51b73a6c22015b0923baf5315cbed5937c7", func := "crawlway/crawlwaylaw53.AggregateCovers", spec := "aggregateCovers", inPlace := ["internal/bytealg.Compare"], unfollowed := true, recurses := true, apart := false, narrowed := true }
def AggregateCoversUptoSaid : Prop := aggregateCoversUptoRow.holds Try.pinned (OpenSpec.upto aggregateCoversSpec)

/-- 'crawlwaylaw53.AggregateNext', WHERE WHAT IT READS IS OF BULK AT MOST 1048576: true; the input reads as it did. -/
def aggregateNextUptoRow : OpenClaim := { program := "ytahlbjmafceoeaa", sum := "6fcc317bc4ca724c3ac260096c26d51b73a6c22015b0923baf5315cbed5937c7", func := "crawlway/crawlwaylaw53.AggregateNext", spec := "aggregateNext", inPlace := ["internal/bytealg.Compare"], unfollowed := true, recurses := true, apart := false, narrowed := true }
def AggregateNextUptoSaid : Prop := aggregateNextUptoRow.holds Try.pinned (OpenSpec.upto aggregateNextSpec)

/-- 'crawlwaylaw59.FlatSpans', WHERE WHAT IT READS IS OF BULK AT MOST 1048576: true; the input reads as it did. -/
def flatSpansUptoRow : OpenClaim := { program := "ytahlbjmafceoeaa", sum := "6fcc317bc4ca724c3ac260096c26d51b73a6c22015b0923baf5315cbed5937c7", func := "crawlway/crawlwaylaw59.FlatSpans", spec := "flatSpans", inPlace := ["internal/bytealg.Compare"], unfollowed := true, recurses := true, apart := false, narrowed := true }
def FlatSpansUptoSaid : Prop := flatSpansUptoRow.holds Try.pinned (OpenSpec.upto flatSpansSpec)

/-- 'crawlwaylaw59.FlatThins', WHERE WHAT IT READS IS OF BULK AT MOST 1048576: true; the input reads as it did. -/
def flatThinsUptoRow : OpenClaim := { program := "ytahlbjmafceoeaa", sum := "6fcc317bc4ca724c3ac260096c26d51b73a6c22015b0923baf5315cbed5937c7", func := "crawlway/crawlwaylaw59.FlatThins", spec := "flatThins", inPlace := ["internal/bytealg.Compare"], unfollowed := true, recurses := true, apart := false, narrowed := true }
def FlatThinsUptoSaid : Prop := flatThinsUptoRow.holds Try.pinned (OpenSpec.upto flatThinsSpec)

end Rows
end Go.Proofs.Ytahlbjmafceoeaa
