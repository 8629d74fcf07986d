/-
  NARROWER THAN 'FOR EVERY INPUT', by the rows' own cells (each row's printed sentence says how): DecimalBack: laid · DecimalReads: laid · ShowSizes: laid · CensusTexts: laid · CensusCounts: laid · CensusKeys: laid.
  DERIVED. THE GIVEN ROWS OF THIS SEAT. 6 by the template 'for every input the law returns true; each argument reads behind the call as it read before'; 0 by the template 'total and deterministic' (their statements: YtnojjenpggdadaaDoorTotals.lean).
  GIVEN WITH THE SEED: the statements are not yours to turn. If you find one false, say at which input.
  Laid BY PROGRAM, IN A SANDBOX (cutbox-rows.mjs): the forced cells as the released guide's own fill.sh prints them over the translation 79c52495ef2c8e3e… (all of the seat's roots in one cut). By AI agents, Wed Nov 11 2026. No macro, syntax, notation, axiom, sorry.
-/
import Derived.Test.YtnojjenpggdadaaDoorChecked
import GoSem.Claim
import GoSem.ClaimJoined
import GoSem.ClaimMapViews
import Derived.JoinedTies
import Derived.KernelRfl
namespace Go.Proofs.YtnojjenpggdadaaDoor
/- THE CELL 'sum', in the pinned program and in every row, IS THE sha256 OF THE DUMP (.gsa) THAT YtnojjenpggdadaaDoorProg.lean LOADS. Nothing in Lean hashes anything: it is a label: what it is worth is what the hold of that sum in a sandbox is worth. -/
noncomputable def Tryd.pinned : Pinned := { name := "ytnojjenpggdadaadoor", sum := "79c52495ef2c8e3e27b59e6eb50f65f32e75d313031b3c7485c74de5eb985e11", checked := Tryd.checked }
namespace Rows
def none {H : Type} : Left H := { results := [], args := [] }

/- WHAT THE LISTED PACKAGE-LEVEL VARIABLES READ AS WHEN THE CALL BEGINS. Each datum BY PROGRAM (the guide's laid-datum.mjs) off the statement by which the dump's own 'gosem.cut.vars' lays the variable. In a bare row this is a premise. The card (YtnojjenpggdadaaDoorCards.lean) ties it to the program's text. -/
def laid_math_bits_deBruijn32tab {H : Type} : DataW H := .agg [.lit (.int .u8 0), .lit (.int .u8 1), .lit (.int .u8 28), .lit (.int .u8 2), .lit (.int .u8 29), .lit (.int .u8 14), .lit (.int .u8 24), .lit (.int .u8 3), .lit (.int .u8 30), .lit (.int .u8 22), .lit (.int .u8 20), .lit (.int .u8 15), .lit (.int .u8 25), .lit (.int .u8 17), .lit (.int .u8 4), .lit (.int .u8 8), .lit (.int .u8 31), .lit (.int .u8 27), .lit (.int .u8 13), .lit (.int .u8 23), .lit (.int .u8 21), .lit (.int .u8 19), .lit (.int .u8 16), .lit (.int .u8 7), .lit (.int .u8 26), .lit (.int .u8 12), .lit (.int .u8 18), .lit (.int .u8 6), .lit (.int .u8 11), .lit (.int .u8 5), .lit (.int .u8 10), .lit (.int .u8 9)]
def laid_math_bits_deBruijn64tab {H : Type} : DataW H := .agg [.lit (.int .u8 0), .lit (.int .u8 1), .lit (.int .u8 56), .lit (.int .u8 2), .lit (.int .u8 57), .lit (.int .u8 49), .lit (.int .u8 28), .lit (.int .u8 3), .lit (.int .u8 61), .lit (.int .u8 58), .lit (.int .u8 42), .lit (.int .u8 50), .lit (.int .u8 38), .lit (.int .u8 29), .lit (.int .u8 17), .lit (.int .u8 4), .lit (.int .u8 62), .lit (.int .u8 47), .lit (.int .u8 59), .lit (.int .u8 36), .lit (.int .u8 45), .lit (.int .u8 43), .lit (.int .u8 51), .lit (.int .u8 22), .lit (.int .u8 53), .lit (.int .u8 39), .lit (.int .u8 33), .lit (.int .u8 30), .lit (.int .u8 24), .lit (.int .u8 18), .lit (.int .u8 12), .lit (.int .u8 5), .lit (.int .u8 63), .lit (.int .u8 55), .lit (.int .u8 48), .lit (.int .u8 27), .lit (.int .u8 60), .lit (.int .u8 41), .lit (.int .u8 37), .lit (.int .u8 16), .lit (.int .u8 46), .lit (.int .u8 35), .lit (.int .u8 44), .lit (.int .u8 21), .lit (.int .u8 52), .lit (.int .u8 32), .lit (.int .u8 23), .lit (.int .u8 11), .lit (.int .u8 54), .lit (.int .u8 26), .lit (.int .u8 40), .lit (.int .u8 15), .lit (.int .u8 34), .lit (.int .u8 20), .lit (.int .u8 31), .lit (.int .u8 10), .lit (.int .u8 25), .lit (.int .u8 14), .lit (.int .u8 19), .lit (.int .u8 9), .lit (.int .u8 13), .lit (.int .u8 8), .lit (.int .u8 7), .lit (.int .u8 6)]
def laid_internal_strconv_uint64pow10 {H : Type} : DataW H := .agg [.lit (.int .u64 1), .lit (.int .u64 10), .lit (.int .u64 100), .lit (.int .u64 1000), .lit (.int .u64 10000), .lit (.int .u64 100000), .lit (.int .u64 1000000), .lit (.int .u64 10000000), .lit (.int .u64 100000000), .lit (.int .u64 1000000000), .lit (.int .u64 10000000000), .lit (.int .u64 100000000000), .lit (.int .u64 1000000000000), .lit (.int .u64 10000000000000), .lit (.int .u64 100000000000000), .lit (.int .u64 1000000000000000), .lit (.int .u64 10000000000000000), .lit (.int .u64 100000000000000000), .lit (.int .u64 1000000000000000000), .lit (.int .u64 10000000000000000000)]
def laid_strconv_ErrRange {H : Type} : DataW H := .iface "*errors.errorString" (.ptr (.agg [.lit (.string [118, 97, 108, 117, 101, 32, 111, 117, 116, 32, 111, 102, 32, 114, 97, 110, 103, 101])]))
def laid_strconv_ErrSyntax {H : Type} : DataW H := .iface "*errors.errorString" (.ptr (.agg [.lit (.string [105, 110, 118, 97, 108, 105, 100, 32, 115, 121, 110, 116, 97, 120])]))
def laid_crawlway_show_units {H : Type} : DataW H := .agg [.lit (.string [75, 105, 66]), .lit (.string [77, 105, 66]), .lit (.string [71, 105, 66]), .lit (.string [84, 105, 66]), .lit (.string [80, 105, 66]), .lit (.string [69, 105, 66])]
def laid_crawlway_census_names {H : Type} : DataW H := .agg [.lit (.string []), .lit (.string [114, 101, 112, 108, 121]), .lit (.string [115, 101, 110, 100]), .lit (.string [100, 101, 108, 105, 118, 101, 114]), .lit (.string [114, 101, 102, 117, 115, 101]), .lit (.string [100, 114, 111, 112]), .lit (.string [112, 97, 115, 115])]

/-- 'crawlwaylaw03.DecimalBack': WHATEVER THE INPUT: true; the input reads as it did. -/
def decimalBackSpec : ChangeSpec := { name := "decimalBack", fn := fun _ => fun
  | [d1, d2] => { results := [.lit (.bool true)], args := [d1, d2] }
  | _ => none }
def decimalBackRow : OpenClaim := { program := "ytnojjenpggdadaadoor", sum := "79c52495ef2c8e3e27b59e6eb50f65f32e75d313031b3c7485c74de5eb985e11", func := "crawlway/crawlwaylaw03.DecimalBack", spec := "decimalBack", recurses := true, named := ["internal/strconv.uint64pow10", "math/bits.deBruijn32tab", "math/bits.deBruijn64tab", "strconv.ErrSyntax", "strconv.ErrRange"], plainKeys := false, apart := false, laid := [("math/bits.deBruijn32tab", laid_math_bits_deBruijn32tab), ("math/bits.deBruijn64tab", laid_math_bits_deBruijn64tab), ("internal/strconv.uint64pow10", laid_internal_strconv_uint64pow10), ("strconv.ErrRange", laid_strconv_ErrRange), ("strconv.ErrSyntax", laid_strconv_ErrSyntax)] }
def DecimalBackSaid : Prop := decimalBackRow.holds Tryd.pinned (OpenSpec.ofChange decimalBackSpec)

/-- ITS FALSE NEIGHBOUR: 'it returns false'. Refute it at one input. -/
def decimalBackWrong : ChangeSpec := { name := "decimalBack", fn := fun _ => fun
  | [d1, d2] => { results := [.lit (.bool false)], args := [d1, d2] }
  | _ => none }
def DecimalBackWrongFalsely : Prop := decimalBackRow.holds Tryd.pinned (OpenSpec.ofChange decimalBackWrong)

/-- 'crawlwaylaw03.DecimalReads': WHATEVER THE INPUT: true; the input reads as it did. -/
def decimalReadsSpec : ChangeSpec := { name := "decimalReads", fn := fun _ => fun
  | [d1, d2] => { results := [.lit (.bool true)], args := [d1, d2] }
  | _ => none }
def decimalReadsRow : OpenClaim := { program := "ytnojjenpggdadaadoor", sum := "79c52495ef2c8e3e27b59e6eb50f65f32e75d313031b3c7485c74de5eb985e11", func := "crawlway/crawlwaylaw03.DecimalReads", spec := "decimalReads", named := ["strconv.ErrSyntax", "strconv.ErrRange", "internal/strconv.uint64pow10", "math/bits.deBruijn32tab", "math/bits.deBruijn64tab"], plainKeys := false, apart := false, laid := [("math/bits.deBruijn32tab", laid_math_bits_deBruijn32tab), ("math/bits.deBruijn64tab", laid_math_bits_deBruijn64tab), ("internal/strconv.uint64pow10", laid_internal_strconv_uint64pow10), ("strconv.ErrRange", laid_strconv_ErrRange), ("strconv.ErrSyntax", laid_strconv_ErrSyntax)] }
def DecimalReadsSaid : Prop := decimalReadsRow.holds Tryd.pinned (OpenSpec.ofChange decimalReadsSpec)

/-- ITS FALSE NEIGHBOUR: 'it returns false'. Refute it at one input. -/
def decimalReadsWrong : ChangeSpec := { name := "decimalReads", fn := fun _ => fun
  | [d1, d2] => { results := [.lit (.bool false)], args := [d1, d2] }
  | _ => none }
def DecimalReadsWrongFalsely : Prop := decimalReadsRow.holds Tryd.pinned (OpenSpec.ofChange decimalReadsWrong)

/-- 'crawlwaylaw56.ShowSizes': WHATEVER THE INPUT: true; the input reads as it did. -/
def showSizesSpec : ChangeSpec := { name := "showSizes", fn := fun _ => fun
  | [d] => { results := [.lit (.bool true)], args := [d] }
  | _ => none }
def showSizesRow : OpenClaim := { program := "ytnojjenpggdadaadoor", sum := "79c52495ef2c8e3e27b59e6eb50f65f32e75d313031b3c7485c74de5eb985e11", func := "crawlway/crawlwaylaw56.ShowSizes", spec := "showSizes", recurses := true, named := ["crawlway/show.units", "internal/strconv.uint64pow10", "math/bits.deBruijn32tab", "math/bits.deBruijn64tab"], plainKeys := false, apart := false, laid := [("math/bits.deBruijn32tab", laid_math_bits_deBruijn32tab), ("math/bits.deBruijn64tab", laid_math_bits_deBruijn64tab), ("internal/strconv.uint64pow10", laid_internal_strconv_uint64pow10), ("crawlway/show.units", laid_crawlway_show_units)] }
def ShowSizesSaid : Prop := showSizesRow.holds Tryd.pinned (OpenSpec.ofChange showSizesSpec)

/-- ITS FALSE NEIGHBOUR: 'it returns false'. Refute it at one input. -/
def showSizesWrong : ChangeSpec := { name := "showSizes", fn := fun _ => fun
  | [d] => { results := [.lit (.bool false)], args := [d] }
  | _ => none }
def ShowSizesWrongFalsely : Prop := showSizesRow.holds Tryd.pinned (OpenSpec.ofChange showSizesWrong)

/-- 'crawlwaylaw52.CensusTexts': WHATEVER THE INPUT: true; the input reads as it did. -/
def censusTextsSpec : ChangeSpec := { name := "censusTexts", fn := fun _ => fun
  | [d] => { results := [.lit (.bool true)], args := [d] }
  | _ => none }
def censusTextsRow : OpenClaim := { program := "ytnojjenpggdadaadoor", sum := "79c52495ef2c8e3e27b59e6eb50f65f32e75d313031b3c7485c74de5eb985e11", func := "crawlway/crawlwaylaw52.CensusTexts", spec := "censusTexts", inPlace := ["internal/abi.NoEscape"], recurses := true, named := ["crawlway/census.names", "internal/strconv.uint64pow10", "math/bits.deBruijn32tab", "math/bits.deBruijn64tab"], plainKeys := false, apart := false, laid := [("math/bits.deBruijn32tab", laid_math_bits_deBruijn32tab), ("math/bits.deBruijn64tab", laid_math_bits_deBruijn64tab), ("internal/strconv.uint64pow10", laid_internal_strconv_uint64pow10), ("crawlway/census.names", laid_crawlway_census_names)] }
def CensusTextsSaid : Prop := censusTextsRow.holds Tryd.pinned (OpenSpec.ofChange censusTextsSpec)

/-- ITS FALSE NEIGHBOUR: 'it returns false'. Refute it at one input. -/
def censusTextsWrong : ChangeSpec := { name := "censusTexts", fn := fun _ => fun
  | [d] => { results := [.lit (.bool false)], args := [d] }
  | _ => none }
def CensusTextsWrongFalsely : Prop := censusTextsRow.holds Tryd.pinned (OpenSpec.ofChange censusTextsWrong)

/-- 'crawlwaylaw52.CensusCounts': WHATEVER THE INPUT: true; the input reads as it did. -/
def censusCountsSpec : ChangeSpec := { name := "censusCounts", fn := fun _ => fun
  | [d1, d2] => { results := [.lit (.bool true)], args := [d1, d2] }
  | _ => none }
def censusCountsRow : OpenClaim := { program := "ytnojjenpggdadaadoor", sum := "79c52495ef2c8e3e27b59e6eb50f65f32e75d313031b3c7485c74de5eb985e11", func := "crawlway/crawlwaylaw52.CensusCounts", spec := "censusCounts", inPlace := ["internal/abi.NoEscape"], named := ["crawlway/census.names", "internal/strconv.uint64pow10", "math/bits.deBruijn32tab", "math/bits.deBruijn64tab"], plainKeys := false, apart := false, laid := [("math/bits.deBruijn32tab", laid_math_bits_deBruijn32tab), ("math/bits.deBruijn64tab", laid_math_bits_deBruijn64tab), ("internal/strconv.uint64pow10", laid_internal_strconv_uint64pow10), ("crawlway/census.names", laid_crawlway_census_names)] }
def CensusCountsSaid : Prop := censusCountsRow.holds Tryd.pinned (OpenSpec.ofChange censusCountsSpec)

/-- ITS FALSE NEIGHBOUR: 'it returns false'. Refute it at one input. -/
def censusCountsWrong : ChangeSpec := { name := "censusCounts", fn := fun _ => fun
  | [d1, d2] => { results := [.lit (.bool false)], args := [d1, d2] }
  | _ => none }
def CensusCountsWrongFalsely : Prop := censusCountsRow.holds Tryd.pinned (OpenSpec.ofChange censusCountsWrong)

/-- 'crawlwaylaw52.CensusKeys': WHATEVER THE INPUT: true; the input reads as it did. -/
def censusKeysSpec : ChangeSpec := { name := "censusKeys", fn := fun _ => fun
  | [d1, d2] => { results := [.lit (.bool true)], args := [d1, d2] }
  | _ => none }
def censusKeysRow : OpenClaim := { program := "ytnojjenpggdadaadoor", sum := "79c52495ef2c8e3e27b59e6eb50f65f32e75d313031b3c7485c74de5eb985e11", func := "crawlway/crawlwaylaw52.CensusKeys", spec := "censusKeys", inPlace := ["internal/abi.NoEscape"], named := ["crawlway/census.names", "internal/strconv.uint64pow10", "math/bits.deBruijn32tab", "math/bits.deBruijn64tab"], plainKeys := false, apart := false, laid := [("math/bits.deBruijn32tab", laid_math_bits_deBruijn32tab), ("math/bits.deBruijn64tab", laid_math_bits_deBruijn64tab), ("internal/strconv.uint64pow10", laid_internal_strconv_uint64pow10), ("crawlway/census.names", laid_crawlway_census_names)] }
def CensusKeysSaid : Prop := censusKeysRow.holds Tryd.pinned (OpenSpec.ofChange censusKeysSpec)

/-- ITS FALSE NEIGHBOUR: 'it returns false'. Refute it at one input. -/
def censusKeysWrong : ChangeSpec := { name := "censusKeys", fn := fun _ => fun
  | [d1, d2] => { results := [.lit (.bool false)], args := [d1, d2] }
  | _ => none }
def CensusKeysWrongFalsely : Prop := censusKeysRow.holds Tryd.pinned (OpenSpec.ofChange censusKeysWrong)

/- THE SECOND FORM. 'bulk': how many values and letters a reading holds, each counted each time it is reached (what is shared counts as often as it is met; a slice's spare places count too). A statement '..UptoSaid' is the law's where the arguments, and the package variables that the reading takes, are together of bulk at most 1048576: NARROWER than '..Said'. Prove '..Said' where nothing that the law and all that it calls make is longer than what came in: it says more and counts as full. Else prove '..UptoSaid'. A law counts once. -/
mutual
def uptoBulk {H : Type} : DataW H → Nat
  | .lit (.string bytes) => bytes.length + 1
  | .lit _ => 1
  | .nil => 1
  | .ptr d => uptoBulk d + 1
  | .slice elems spare => uptoBulkAll elems + uptoBulkAll spare + 1
  | .agg parts => uptoBulkAll parts + 1
  | .iface _ d => uptoBulk d + 1
  | .map entries => uptoBulkEntries entries + 1
  | .held _ => 1
def uptoBulkAll {H : Type} : List (DataW H) → Nat
  | [] => 0
  | d :: r => uptoBulk d + uptoBulkAll r
def uptoBulkEntries {H : Type} : List (Lit × DataW H) → Nat
  | [] => 0
  | x :: r => uptoBulkEntry x + uptoBulkEntries r
def uptoBulkEntry {H : Type} : Lit × DataW H → Nat
  | (.string bytes, d) => bytes.length + uptoBulk d + 1
  | (_, d) => uptoBulk d + 1
 end
def uptoSmall : (H : Type) → List (DataW H) → Bool := fun _ ds => decide (uptoBulkAll ds ≤ 1048576)
def OpenSpec.upto (s : _root_.Go.ChangeSpec) : _root_.Go.OpenSpec := { _root_.Go.OpenSpec.ofChange s with cond := some uptoSmall }

/-- 'crawlwaylaw03.DecimalBack', WHERE WHAT IT READS IS OF BULK AT MOST 1048576: true; the input reads as it did. -/
def decimalBackUptoRow : OpenClaim := { program := "ytnojjenpggdadaadoor", sum := "79c52495ef2c8e3e27b59e6eb50f65f32e75d313031b3c7485c74de5eb985e11", func := "crawlway/crawlwaylaw03.DecimalBack", spec := "decimalBack", recurses := true, named := ["internal/strconv.uint64pow10", "math/bits.deBruijn32tab", "math/bits.deBruijn64tab", "strconv.ErrSyntax", "strconv.ErrRange"], plainKeys := false, apart := false, laid := [("math/bits.deBruijn32tab", laid_math_bits_deBruijn32tab), ("math/bits.deBruijn64tab", laid_math_bits_deBruijn64tab), ("internal/strconv.uint64pow10", laid_internal_strconv_uint64pow10), ("strconv.ErrRange", laid_strconv_ErrRange), ("strconv.ErrSyntax", laid_strconv_ErrSyntax)], narrowed := true }
def DecimalBackUptoSaid : Prop := decimalBackUptoRow.holds Tryd.pinned (OpenSpec.upto decimalBackSpec)

/-- 'crawlwaylaw03.DecimalReads', WHERE WHAT IT READS IS OF BULK AT MOST 1048576: true; the input reads as it did. -/
def decimalReadsUptoRow : OpenClaim := { program := "ytnojjenpggdadaadoor", sum := "79c52495ef2c8e3e27b59e6eb50f65f32e75d313031b3c7485c74de5eb985e11", func := "crawlway/crawlwaylaw03.DecimalReads", spec := "decimalReads", named := ["strconv.ErrSyntax", "strconv.ErrRange", "internal/strconv.uint64pow10", "math/bits.deBruijn32tab", "math/bits.deBruijn64tab"], plainKeys := false, apart := false, laid := [("math/bits.deBruijn32tab", laid_math_bits_deBruijn32tab), ("math/bits.deBruijn64tab", laid_math_bits_deBruijn64tab), ("internal/strconv.uint64pow10", laid_internal_strconv_uint64pow10), ("strconv.ErrRange", laid_strconv_ErrRange), ("strconv.ErrSyntax", laid_strconv_ErrSyntax)], narrowed := true }
def DecimalReadsUptoSaid : Prop := decimalReadsUptoRow.holds Tryd.pinned (OpenSpec.upto decimalReadsSpec)

/-- 'crawlwaylaw56.ShowSizes', WHERE WHAT IT READS IS OF BULK AT MOST 1048576: true; the input reads as it did. -/
def showSizesUptoRow : OpenClaim := { program := "ytnojjenpggdadaadoor", sum := "79c52495ef2c8e3e27b59e6eb50f65f32e75d313031b3c7485c74de5eb985e11", func := "crawlway/crawlwaylaw56.ShowSizes", spec := "showSizes", recurses := true, named := ["crawlway/show.units", "internal/strconv.uint64pow10", "math/bits.deBruijn32tab", "math/bits.deBruijn64tab"], plainKeys := false, apart := false, laid := [("math/bits.deBruijn32tab", laid_math_bits_deBruijn32tab), ("math/bits.deBruijn64tab", laid_math_bits_deBruijn64tab), ("internal/strconv.uint64pow10", laid_internal_strconv_uint64pow10), ("crawlway/show.units", laid_crawlway_show_units)], narrowed := true }
def ShowSizesUptoSaid : Prop := showSizesUptoRow.holds Tryd.pinned (OpenSpec.upto showSizesSpec)

/-- 'crawlwaylaw52.CensusTexts', WHERE WHAT IT READS IS OF BULK AT MOST 1048576: true; the input reads as it did. -/
def censusTextsUptoRow : OpenClaim := { program := "ytnojjenpggdadaadoor", sum := "79c52495ef2c8e3e27b59e6eb50f65f32e75d313031b3c7485c74de5eb985e11", func := "crawlway/crawlwaylaw52.CensusTexts", spec := "censusTexts", inPlace := ["internal/abi.NoEscape"], recurses := true, named := ["crawlway/census.names", "internal/strconv.uint64pow10", "math/bits.deBruijn32tab", "math/bits.deBruijn64tab"], plainKeys := false, apart := false, laid := [("math/bits.deBruijn32tab", laid_math_bits_deBruijn32tab), ("math/bits.deBruijn64tab", laid_math_bits_deBruijn64tab), ("internal/strconv.uint64pow10", laid_internal_strconv_uint64pow10), ("crawlway/census.names", laid_crawlway_census_names)], narrowed := true }
def CensusTextsUptoSaid : Prop := censusTextsUptoRow.holds Tryd.pinned (OpenSpec.upto censusTextsSpec)

/-- 'crawlwaylaw52.CensusCounts', WHERE WHAT IT READS IS OF BULK AT MOST 1048576: true; the input reads as it did. -/
def censusCountsUptoRow : OpenClaim := { program := "ytnojjenpggdadaadoor", sum := "79c52495ef2c8e3e27b59e6eb50f65f32e75d313031b3c7485c74de5eb985e11", func := "crawlway/crawlwaylaw52.CensusCounts", spec := "censusCounts", inPlace := ["internal/abi.NoEscape"], named := ["crawlway/census.names", "internal/strconv.uint64pow10", "math/bits.deBruijn32tab", "math/bits.deBruijn64tab"], plainKeys := false, apart := false, laid := [("math/bits.deBruijn32tab", laid_math_bits_deBruijn32tab), ("math/bits.deBruijn64tab", laid_math_bits_deBruijn64tab), ("internal/strconv.uint64pow10", laid_internal_strconv_uint64pow10), ("crawlway/census.names", laid_crawlway_census_names)], narrowed := true }
def CensusCountsUptoSaid : Prop := censusCountsUptoRow.holds Tryd.pinned (OpenSpec.upto censusCountsSpec)

/-- 'crawlwaylaw52.CensusKeys', WHERE WHAT IT READS IS OF BULK AT MOST 1048576: true; the input reads as it did. -/
def censusKeysUptoRow : OpenClaim := { program := "ytnojjenpggdadaadoor", sum := "79c52495ef2c8e3e27b59e6eb50f65f32e75d313031b3c7485c74de5eb985e11", func := "crawlway/crawlwaylaw52.CensusKeys", spec := "censusKeys", inPlace := ["internal/abi.NoEscape"], named := ["crawlway/census.names", "internal/strconv.uint64pow10", "math/bits.deBruijn32tab", "math/bits.deBruijn64tab"], plainKeys := false, apart := false, laid := [("math/bits.deBruijn32tab", laid_math_bits_deBruijn32tab), ("math/bits.deBruijn64tab", laid_math_bits_deBruijn64tab), ("internal/strconv.uint64pow10", laid_internal_strconv_uint64pow10), ("crawlway/census.names", laid_crawlway_census_names)], narrowed := true }
def CensusKeysUptoSaid : Prop := censusKeysUptoRow.holds Tryd.pinned (OpenSpec.upto censusKeysSpec)

end Rows
end Go.Proofs.YtnojjenpggdadaaDoor
