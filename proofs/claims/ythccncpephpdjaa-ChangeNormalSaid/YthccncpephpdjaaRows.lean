/-
  No cell of these rows narrows 'for every input' (looked for: loops, veiled, ifaces, maps, wideKeys, modest, calm, conditions, laid).
  DERIVED. THE GIVEN ROWS OF THIS SEAT. 10 by the template 'for every input the law returns true; each argument reads behind the call as it read before'; 0 by the template 'total and deterministic' (their statements: YthccncpephpdjaaTotals.lean).
  GIVEN WITH THE SEED: the statements are not yours to turn. If you find one false, say at which input.
  Laid BY PROGRAM, IN A SANDBOX (cutbox-rows.mjs): the forced cells as the released guide's own fill.sh prints them over the translation 4e6f69fa47471b94… (all of the seat's roots in one cut). By AI agents, Wed Nov 11 2026. No macro, syntax, notation, axiom, sorry.
-/
import Derived.Test.YthccncpephpdjaaChecked
import GoSem.Claim
import GoSem.ClaimJoined
import GoSem.ClaimMapViews
import Derived.JoinedTies
import Derived.KernelRfl
namespace Go.Proofs.Ythccncpephpdjaa
/- THE CELL 'sum', in the pinned program and in every row, IS THE sha256 OF THE DUMP (.gsa) THAT YthccncpephpdjaaProg.lean LOADS. Nothing in Lean hashes anything: it is a label: what it is worth is what the hold of that sum in a sandbox is worth. -/
noncomputable def Try.pinned : Pinned := { name := "ythccncpephpdjaa", sum := "4e6f69fa47471b94e45ca33c2f535323123e60f38d099948f00d7a7b49cc2e4c", checked := Try.checked }
namespace Rows
def none {H : Type} : Left H := { results := [], args := [] }

/-- 'crawlwaylaw32.ChangeRight': WHATEVER THE INPUT: true; the input reads as it did. -/
def changeRightSpec : ChangeSpec := { name := "changeRight", fn := fun _ => fun
  | [d] => { results := [.lit (.bool true)], args := [d] }
  | _ => none }
def changeRightRow : OpenClaim := { program := "ythccncpephpdjaa", sum := "4e6f69fa47471b94e45ca33c2f535323123e60f38d099948f00d7a7b49cc2e4c", func := "crawlway/crawlwaylaw32.ChangeRight", spec := "changeRight", unfollowed := true, recurses := true, plainKeys := false, apart := false }
def ChangeRightSaid : Prop := changeRightRow.holds Try.pinned (OpenSpec.ofChange changeRightSpec)

/-- ITS FALSE NEIGHBOUR: 'it returns false'. Refute it at one input. -/
def changeRightWrong : ChangeSpec := { name := "changeRight", fn := fun _ => fun
  | [d] => { results := [.lit (.bool false)], args := [d] }
  | _ => none }
def ChangeRightWrongFalsely : Prop := changeRightRow.holds Try.pinned (OpenSpec.ofChange changeRightWrong)

/-- 'crawlwaylaw32.ChangeNormal': WHATEVER THE INPUT: true; the input reads as it did. -/
def changeNormalSpec : ChangeSpec := { name := "changeNormal", fn := fun _ => fun
  | [d] => { results := [.lit (.bool true)], args := [d] }
  | _ => none }
def changeNormalRow : OpenClaim := { program := "ythccncpephpdjaa", sum := "4e6f69fa47471b94e45ca33c2f535323123e60f38d099948f00d7a7b49cc2e4c", func := "crawlway/crawlwaylaw32.ChangeNormal", spec := "changeNormal", unfollowed := true, recurses := true, plainKeys := false, apart := false }
def ChangeNormalSaid : Prop := changeNormalRow.holds Try.pinned (OpenSpec.ofChange changeNormalSpec)

/-- ITS FALSE NEIGHBOUR: 'it returns false'. Refute it at one input. -/
def changeNormalWrong : ChangeSpec := { name := "changeNormal", fn := fun _ => fun
  | [d] => { results := [.lit (.bool false)], args := [d] }
  | _ => none }
def ChangeNormalWrongFalsely : Prop := changeNormalRow.holds Try.pinned (OpenSpec.ofChange changeNormalWrong)

/-- 'crawlwaylaw32.ChangeSame': WHATEVER THE INPUT: true; the input reads as it did. -/
def changeSameSpec : ChangeSpec := { name := "changeSame", fn := fun _ => fun
  | [d1, d2] => { results := [.lit (.bool true)], args := [d1, d2] }
  | _ => none }
def changeSameRow : OpenClaim := { program := "ythccncpephpdjaa", sum := "4e6f69fa47471b94e45ca33c2f535323123e60f38d099948f00d7a7b49cc2e4c", func := "crawlway/crawlwaylaw32.ChangeSame", spec := "changeSame", unfollowed := true, recurses := true, plainKeys := false, apart := false }
def ChangeSameSaid : Prop := changeSameRow.holds Try.pinned (OpenSpec.ofChange changeSameSpec)

/-- ITS FALSE NEIGHBOUR: 'it returns false'. Refute it at one input. -/
def changeSameWrong : ChangeSpec := { name := "changeSame", fn := fun _ => fun
  | [d1, d2] => { results := [.lit (.bool false)], args := [d1, d2] }
  | _ => none }
def ChangeSameWrongFalsely : Prop := changeSameRow.holds Try.pinned (OpenSpec.ofChange changeSameWrong)

/-- 'crawlwaylaw25.TrieFinds': WHATEVER THE INPUT: true; the input reads as it did. -/
def trieFindsSpec : ChangeSpec := { name := "trieFinds", fn := fun _ => fun
  | [d1, d2] => { results := [.lit (.bool true)], args := [d1, d2] }
  | _ => none }
def trieFindsRow : OpenClaim := { program := "ythccncpephpdjaa", sum := "4e6f69fa47471b94e45ca33c2f535323123e60f38d099948f00d7a7b49cc2e4c", func := "crawlway/crawlwaylaw25.TrieFinds", spec := "trieFinds", recurses := true, plainKeys := false, apart := false }
def TrieFindsSaid : Prop := trieFindsRow.holds Try.pinned (OpenSpec.ofChange trieFindsSpec)

/-- ITS FALSE NEIGHBOUR: 'it returns false'. Refute it at one input. -/
def trieFindsWrong : ChangeSpec := { name := "trieFinds", fn := fun _ => fun
  | [d1, d2] => { results := [.lit (.bool false)], args := [d1, d2] }
  | _ => none }
def TrieFindsWrongFalsely : Prop := trieFindsRow.holds Try.pinned (OpenSpec.ofChange trieFindsWrong)

/-- 'crawlwaylaw25.TriePlays': WHATEVER THE INPUT: true; the input reads as it did. -/
def triePlaysSpec : ChangeSpec := { name := "triePlays", fn := fun _ => fun
  | [d1, d2] => { results := [.lit (.bool true)], args := [d1, d2] }
  | _ => none }
def triePlaysRow : OpenClaim := { program := "ythccncpephpdjaa", sum := "4e6f69fa47471b94e45ca33c2f535323123e60f38d099948f00d7a7b49cc2e4c", func := "crawlway/crawlwaylaw25.TriePlays", spec := "triePlays", unfollowed := true, recurses := true, plainKeys := false, apart := false }
def TriePlaysSaid : Prop := triePlaysRow.holds Try.pinned (OpenSpec.ofChange triePlaysSpec)

/-- ITS FALSE NEIGHBOUR: 'it returns false'. Refute it at one input. -/
def triePlaysWrong : ChangeSpec := { name := "triePlays", fn := fun _ => fun
  | [d1, d2] => { results := [.lit (.bool false)], args := [d1, d2] }
  | _ => none }
def TriePlaysWrongFalsely : Prop := triePlaysRow.holds Try.pinned (OpenSpec.ofChange triePlaysWrong)

/-- 'crawlwaylaw25.TrieNobody': WHATEVER THE INPUT: true; the input reads as it did. -/
def trieNobodySpec : ChangeSpec := { name := "trieNobody", fn := fun _ => fun
  | [d1, d2, d3] => { results := [.lit (.bool true)], args := [d1, d2, d3] }
  | _ => none }
def trieNobodyRow : OpenClaim := { program := "ythccncpephpdjaa", sum := "4e6f69fa47471b94e45ca33c2f535323123e60f38d099948f00d7a7b49cc2e4c", func := "crawlway/crawlwaylaw25.TrieNobody", spec := "trieNobody", unfollowed := true, recurses := true, plainKeys := false, apart := false }
def TrieNobodySaid : Prop := trieNobodyRow.holds Try.pinned (OpenSpec.ofChange trieNobodySpec)

/-- ITS FALSE NEIGHBOUR: 'it returns false'. Refute it at one input. -/
def trieNobodyWrong : ChangeSpec := { name := "trieNobody", fn := fun _ => fun
  | [d1, d2, d3] => { results := [.lit (.bool false)], args := [d1, d2, d3] }
  | _ => none }
def TrieNobodyWrongFalsely : Prop := trieNobodyRow.holds Try.pinned (OpenSpec.ofChange trieNobodyWrong)

/-- 'crawlwaylaw26.AllowedFull': WHATEVER THE INPUT: true; the input reads as it did. -/
def allowedFullSpec : ChangeSpec := { name := "allowedFull", fn := fun _ => fun
  | [d1, d2] => { results := [.lit (.bool true)], args := [d1, d2] }
  | _ => none }
def allowedFullRow : OpenClaim := { program := "ythccncpephpdjaa", sum := "4e6f69fa47471b94e45ca33c2f535323123e60f38d099948f00d7a7b49cc2e4c", func := "crawlway/crawlwaylaw26.AllowedFull", spec := "allowedFull", unfollowed := true, recurses := true, plainKeys := false, apart := false }
def AllowedFullSaid : Prop := allowedFullRow.holds Try.pinned (OpenSpec.ofChange allowedFullSpec)

/-- ITS FALSE NEIGHBOUR: 'it returns false'. Refute it at one input. -/
def allowedFullWrong : ChangeSpec := { name := "allowedFull", fn := fun _ => fun
  | [d1, d2] => { results := [.lit (.bool false)], args := [d1, d2] }
  | _ => none }
def AllowedFullWrongFalsely : Prop := allowedFullRow.holds Try.pinned (OpenSpec.ofChange allowedFullWrong)

/-- 'crawlwaylaw26.AllowedPlays': WHATEVER THE INPUT: true; the input reads as it did. -/
def allowedPlaysSpec : ChangeSpec := { name := "allowedPlays", fn := fun _ => fun
  | [d1, d2] => { results := [.lit (.bool true)], args := [d1, d2] }
  | _ => none }
def allowedPlaysRow : OpenClaim := { program := "ythccncpephpdjaa", sum := "4e6f69fa47471b94e45ca33c2f535323123e60f38d099948f00d7a7b49cc2e4c", func := "crawlway/crawlwaylaw26.AllowedPlays", spec := "allowedPlays", unfollowed := true, recurses := true, plainKeys := false, apart := false }
def AllowedPlaysSaid : Prop := allowedPlaysRow.holds Try.pinned (OpenSpec.ofChange allowedPlaysSpec)

/-- ITS FALSE NEIGHBOUR: 'it returns false'. Refute it at one input. -/
def allowedPlaysWrong : ChangeSpec := { name := "allowedPlays", fn := fun _ => fun
  | [d1, d2] => { results := [.lit (.bool false)], args := [d1, d2] }
  | _ => none }
def AllowedPlaysWrongFalsely : Prop := allowedPlaysRow.holds Try.pinned (OpenSpec.ofChange allowedPlaysWrong)

/-- 'crawlwaylaw26.AllowedFinds': WHATEVER THE INPUT: true; the input reads as it did. -/
def allowedFindsSpec : ChangeSpec := { name := "allowedFinds", fn := fun _ => fun
  | [d1, d2, d3] => { results := [.lit (.bool true)], args := [d1, d2, d3] }
  | _ => none }
def allowedFindsRow : OpenClaim := { program := "ythccncpephpdjaa", sum := "4e6f69fa47471b94e45ca33c2f535323123e60f38d099948f00d7a7b49cc2e4c", func := "crawlway/crawlwaylaw26.AllowedFinds", spec := "allowedFinds", unfollowed := true, recurses := true, plainKeys := false, apart := false }
def AllowedFindsSaid : Prop := allowedFindsRow.holds Try.pinned (OpenSpec.ofChange allowedFindsSpec)

/-- ITS FALSE NEIGHBOUR: 'it returns false'. Refute it at one input. -/
def allowedFindsWrong : ChangeSpec := { name := "allowedFinds", fn := fun _ => fun
  | [d1, d2, d3] => { results := [.lit (.bool false)], args := [d1, d2, d3] }
  | _ => none }
def AllowedFindsWrongFalsely : Prop := allowedFindsRow.holds Try.pinned (OpenSpec.ofChange allowedFindsWrong)

/-- 'crawlwaylaw26.AllowedNobody': WHATEVER THE INPUT: true; the input reads as it did. -/
def allowedNobodySpec : ChangeSpec := { name := "allowedNobody", fn := fun _ => fun
  | [d1, d2, d3] => { results := [.lit (.bool true)], args := [d1, d2, d3] }
  | _ => none }
def allowedNobodyRow : OpenClaim := { program := "ythccncpephpdjaa", sum := "4e6f69fa47471b94e45ca33c2f535323123e60f38d099948f00d7a7b49cc2e4c", func := "crawlway/crawlwaylaw26.AllowedNobody", spec := "allowedNobody", unfollowed := true, recurses := true, plainKeys := false, apart := false }
def AllowedNobodySaid : Prop := allowedNobodyRow.holds Try.pinned (OpenSpec.ofChange allowedNobodySpec)

/-- ITS FALSE NEIGHBOUR: 'it returns false'. Refute it at one input. -/
def allowedNobodyWrong : ChangeSpec := { name := "allowedNobody", fn := fun _ => fun
  | [d1, d2, d3] => { results := [.lit (.bool false)], args := [d1, d2, d3] }
  | _ => none }
def AllowedNobodyWrongFalsely : Prop := allowedNobodyRow.holds Try.pinned (OpenSpec.ofChange allowedNobodyWrong)

/- THE SECOND FORM. 'bulk': how many values and letters a reading holds, each counted each time it is reached (what is shared counts as often as it is met; a slice's spare places count too). A statement '..UptoSaid' is the law's where the arguments, and the package variables that the reading takes, are together of bulk at most 1048576: NARROWER than '..Said'. Prove '..Said' where nothing that the law and all that it calls make is longer than what came in: it says more and counts as full. Else prove '..UptoSaid'. A law counts once. -/
mutual
def uptoBulk {H : Type} : DataW H → Nat
  | .lit (.string bytes) => bytes.length + 1
  | .lit _ => 1
  | .nil => 1
  | .ptr d => uptoBulk d + 1
  | .slice elems spare => uptoBulkAll elems + uptoBulkAll spare + 1
  | .agg parts => uptoBulkAll parts + 1
  | .iface _ d => uptoBulk d + 1
  | .map entries => uptoBulkEntries entries + 1
  | .held _ => 1
def uptoBulkAll {H : Type} : List (DataW H) → Nat
  | [] => 0
  | d :: r => uptoBulk d + uptoBulkAll r
def uptoBulkEntries {H : Type} : List (Lit × DataW H) → Nat
  | [] => 0
  | x :: r => uptoBulkEntry x + uptoBulkEntries r
def uptoBulkEntry {H : Type} : Lit × DataW H → Nat
  | (.string bytes, d) => bytes.length + uptoBulk d + 1
  | (_, d) => uptoBulk d + 1
 end
def uptoSmall : (H : Type) → List (DataW H) → Bool := fun _ ds => decide (uptoBulkAll ds ≤ 1048576)
def OpenSpec.upto (s : _root_.Go.ChangeSpec) : _root_.Go.OpenSpec := { _root_.Go.OpenSpec.ofChange s with cond := some uptoSmall }

/-- 'crawlwaylaw32.ChangeRight', WHERE WHAT IT READS IS OF BULK AT MOST 1048576: true; the input reads as it did. -/
def changeRightUptoRow : OpenClaim := { program := "ythccncpephpdjaa", sum := "4e6f69fa47471b94e45ca33c2f535323123e60f38d099948f00d7a7b49cc2e4c", func := "crawlway/crawlwaylaw32.ChangeRight", spec := "changeRight", unfollowed := true, recurses := true, plainKeys := false, apart := false, narrowed := true }
def ChangeRightUptoSaid : Prop := changeRightUptoRow.holds Try.pinned (OpenSpec.upto changeRightSpec)

/-- 'crawlwaylaw32.ChangeNormal', WHERE WHAT IT READS IS OF BULK AT MOST 1048576: true; the input reads as it did. -/
def changeNormalUptoRow : OpenClaim := { program := "ythccncpephpdjaa", sum := "4e6f69fa47471b94e45ca33c2f535323123e60f38d099948f00d7a7b49cc2e4c", func := "crawlway/crawlwaylaw32.ChangeNormal", spec := "changeNormal", unfollowed := true, recurses := true, plainKeys := false, apart := false, narrowed := true }
def ChangeNormalUptoSaid : Prop := changeNormalUptoRow.holds Try.pinned (OpenSpec.upto changeNormalSpec)

/-- 'crawlwaylaw32.ChangeSame', WHERE WHAT IT READS IS OF BULK AT MOST 1048576: true; the input reads as it did. -/
def changeSameUptoRow : OpenClaim := { program := "ythccncpephpdjaa", sum := "4e6f69fa47471b94e45ca33c2f535323123e60f38d099948f00d7a7b49cc2e4c", func := "crawlway/crawlwaylaw32.ChangeSame", spec := "changeSame", unfollowed := true, recurses := true, plainKeys := false, apart := false, narrowed := true }
def ChangeSameUptoSaid : Prop := changeSameUptoRow.holds Try.pinned (OpenSpec.upto changeSameSpec)

/-- 'crawlwaylaw25.TrieFinds', WHERE WHAT IT READS IS OF BULK AT MOST 1048576: true; the input reads as it did. -/
def trieFindsUptoRow : OpenClaim := { program := "ythccncpephpdjaa", sum := "4e6f69fa47471b94e45ca33c2f535323123e60f38d099948f00d7a7b49cc2e4c", func := "crawlway/crawlwaylaw25.TrieFinds", spec := "trieFinds", recurses := true, plainKeys := false, apart := false, narrowed := true }
def TrieFindsUptoSaid : Prop := trieFindsUptoRow.holds Try.pinned (OpenSpec.upto trieFindsSpec)

/-- 'crawlwaylaw25.TriePlays', WHERE WHAT IT READS IS OF BULK AT MOST 1048576: true; the input reads as it did. -/
def triePlaysUptoRow : OpenClaim := { program := "ythccncpephpdjaa", sum := "4e6f69fa47471b94e45ca33c2f535323123e60f38d099948f00d7a7b49cc2e4c", func := "crawlway/crawlwaylaw25.TriePlays", spec := "triePlays", unfollowed := true, recurses := true, plainKeys := false, apart := false, narrowed := true }
def TriePlaysUptoSaid : Prop := triePlaysUptoRow.holds Try.pinned (OpenSpec.upto triePlaysSpec)

/-- 'crawlwaylaw25.TrieNobody', WHERE WHAT IT READS IS OF BULK AT MOST 1048576: true; the input reads as it did. -/
def trieNobodyUptoRow : OpenClaim := { program := "ythccncpephpdjaa", sum := "4e6f69fa47471b94e45ca33c2f535323123e60f38d099948f00d7a7b49cc2e4c", func := "crawlway/crawlwaylaw25.TrieNobody", spec := "trieNobody", unfollowed := true, recurses := true, plainKeys := false, apart := false, narrowed := true }
def TrieNobodyUptoSaid : Prop := trieNobodyUptoRow.holds Try.pinned (OpenSpec.upto trieNobodySpec)

/-- 'crawlwaylaw26.AllowedFull', WHERE WHAT IT READS IS OF BULK AT MOST 1048576: true; the input reads as it did. -/
def allowedFullUptoRow : OpenClaim := { program := "ythccncpephpdjaa", sum := "4e6f69fa47471b94e45ca33c2f535323123e60f38d099948f00d7a7b49cc2e4c", func := "crawlway/crawlwaylaw26.AllowedFull", spec := "allowedFull", unfollowed := true, recurses := true, plainKeys := false, apart := false, narrowed := true }
def AllowedFullUptoSaid : Prop := allowedFullUptoRow.holds Try.pinned (OpenSpec.upto allowedFullSpec)

/-- 'crawlwaylaw26.AllowedPlays', WHERE WHAT IT READS IS OF BULK AT MOST 1048576: true; the input reads as it did. -/
def allowedPlaysUptoRow : OpenClaim := { program := "ythccncpephpdjaa", sum := "4e6f69fa47471b94e45ca33c2f535323123e60f38d099948f00d7a7b49cc2e4c", func := "crawlway/crawlwaylaw26.AllowedPlays", spec := "allowedPlays", unfollowed := true, recurses := true, plainKeys := false, apart := false, narrowed := true }
def AllowedPlaysUptoSaid : Prop := allowedPlaysUptoRow.holds Try.pinned (OpenSpec.upto allowedPlaysSpec)

/-- 'crawlwaylaw26.AllowedFinds', WHERE WHAT IT READS IS OF BULK AT MOST 1048576: true; the input reads as it did. -/
def allowedFindsUptoRow : OpenClaim := { program := "ythccncpephpdjaa", sum := "4e6f69fa47471b94e45ca33c2f535323123e60f38d099948f00d7a7b49cc2e4c", func := "crawlway/crawlwaylaw26.AllowedFinds", spec := "allowedFinds", unfollowed := true, recurses := true, plainKeys := false, apart := false, narrowed := true }
def AllowedFindsUptoSaid : Prop := allowedFindsUptoRow.holds Try.pinned (OpenSpec.upto allowedFindsSpec)

/-- 'crawlwaylaw26.AllowedNobody', WHERE WHAT IT READS IS OF BULK AT MOST 1048576: true; the input reads as it did. -/
def allowedNobodyUptoRow : OpenClaim := { program := "ythccncpephpdjaa", sum := "4e6f69fa47471b94e45ca33c2f535323123e60f38d099948f00d7a7b49cc2e4c", func := "crawlway/crawlwaylaw26.AllowedNobody", spec := "allowedNobody", unfollowed := true, recurses := true, plainKeys := false, apart := false, narrowed := true }
def AllowedNobodyUptoSaid : Prop := allowedNobodyUptoRow.holds Try.pinned (OpenSpec.upto allowedNobodySpec)

end Rows
end Go.Proofs.Ythccncpephpdjaa
