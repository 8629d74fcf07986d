/-
  NARROWER THAN 'FOR EVERY INPUT', by the rows' own cells (each row's printed sentence says how): AddrBits: laid · AddrKinds: laid · AddrPairs: laid · AddrReads: laid · AddrBytes: laid · CidrOf: laid · CidrTexts: laid · CidrReads: laid · CidrHas: laid · CidrPairs: laid · ColonBack: laid · ColonReads: laid.
  DERIVED. THE GIVEN ROWS OF THIS SEAT. 12 by the template 'for every input the law returns true; each argument reads behind the call as it read before'; 0 by the template 'total and deterministic' (their statements: YtecolkjlpklaaaaDoorTotals.lean).
  GIVEN WITH THE SEED: the statements are not yours to turn. If you find one false, say at which input.
  Laid BY PROGRAM, IN A SANDBOX (cutbox-rows.mjs): the forced cells as the released guide's own fill.sh prints them over the translation 3c9af846f148c764… (all of the seat's roots in one cut). By AI agents, Wed Nov 11 2026. No macro, syntax, notation, axiom, sorry.
-/
import Derived.Test.YtecolkjlpklaaaaDoorChecked
import GoSem.Claim
import GoSem.ClaimJoined
import GoSem.ClaimMapViews
import Derived.JoinedTies
import Derived.KernelRfl
namespace Go.Proofs.YtecolkjlpklaaaaDoor
/- THE CELL 'sum', in the pinned program and in every row, IS THE sha256 OF THE DUMP (.gsa) THAT YtecolkjlpklaaaaDoorProg.lean LOADS. Nothing in Lean hashes anything: it is a label: what it is worth is what the hold of that sum in a sandbox is worth. -/
noncomputable def Tryd.pinned : Pinned := { name := "ytecolkjlpklaaaadoor", sum := "3c9af846f148c764f7f353c4f80ab0de443a286882b71892ad73deafd357ce86", checked := Tryd.checked }
namespace Rows
def none {H : Type} : Left H := { results := [], args := [] }

/- WHAT THE LISTED PACKAGE-LEVEL VARIABLES READ AS WHEN THE CALL BEGINS. Each datum BY PROGRAM (the guide's laid-datum.mjs) off the statement by which the dump's own 'gosem.cut.vars' lays the variable. In a bare row this is a premise. The card (YtecolkjlpklaaaaDoorCards.lean) ties it to the program's text. -/
def laid_math_bits_deBruijn32tab {H : Type} : DataW H := .agg [.lit (.int .u8 0), .lit (.int .u8 1), .lit (.int .u8 28), .lit (.int .u8 2), .lit (.int .u8 29), .lit (.int .u8 14), .lit (.int .u8 24), .lit (.int .u8 3), .lit (.int .u8 30), .lit (.int .u8 22), .lit (.int .u8 20), .lit (.int .u8 15), .lit (.int .u8 25), .lit (.int .u8 17), .lit (.int .u8 4), .lit (.int .u8 8), .lit (.int .u8 31), .lit (.int .u8 27), .lit (.int .u8 13), .lit (.int .u8 23), .lit (.int .u8 21), .lit (.int .u8 19), .lit (.int .u8 16), .lit (.int .u8 7), .lit (.int .u8 26), .lit (.int .u8 12), .lit (.int .u8 18), .lit (.int .u8 6), .lit (.int .u8 11), .lit (.int .u8 5), .lit (.int .u8 10), .lit (.int .u8 9)]
def laid_math_bits_deBruijn64tab {H : Type} : DataW H := .agg [.lit (.int .u8 0), .lit (.int .u8 1), .lit (.int .u8 56), .lit (.int .u8 2), .lit (.int .u8 57), .lit (.int .u8 49), .lit (.int .u8 28), .lit (.int .u8 3), .lit (.int .u8 61), .lit (.int .u8 58), .lit (.int .u8 42), .lit (.int .u8 50), .lit (.int .u8 38), .lit (.int .u8 29), .lit (.int .u8 17), .lit (.int .u8 4), .lit (.int .u8 62), .lit (.int .u8 47), .lit (.int .u8 59), .lit (.int .u8 36), .lit (.int .u8 45), .lit (.int .u8 43), .lit (.int .u8 51), .lit (.int .u8 22), .lit (.int .u8 53), .lit (.int .u8 39), .lit (.int .u8 33), .lit (.int .u8 30), .lit (.int .u8 24), .lit (.int .u8 18), .lit (.int .u8 12), .lit (.int .u8 5), .lit (.int .u8 63), .lit (.int .u8 55), .lit (.int .u8 48), .lit (.int .u8 27), .lit (.int .u8 60), .lit (.int .u8 41), .lit (.int .u8 37), .lit (.int .u8 16), .lit (.int .u8 46), .lit (.int .u8 35), .lit (.int .u8 44), .lit (.int .u8 21), .lit (.int .u8 52), .lit (.int .u8 32), .lit (.int .u8 23), .lit (.int .u8 11), .lit (.int .u8 54), .lit (.int .u8 26), .lit (.int .u8 40), .lit (.int .u8 15), .lit (.int .u8 34), .lit (.int .u8 20), .lit (.int .u8 31), .lit (.int .u8 10), .lit (.int .u8 25), .lit (.int .u8 14), .lit (.int .u8 19), .lit (.int .u8 9), .lit (.int .u8 13), .lit (.int .u8 8), .lit (.int .u8 7), .lit (.int .u8 6)]
def laid_internal_strconv_uint64pow10 {H : Type} : DataW H := .agg [.lit (.int .u64 1), .lit (.int .u64 10), .lit (.int .u64 100), .lit (.int .u64 1000), .lit (.int .u64 10000), .lit (.int .u64 100000), .lit (.int .u64 1000000), .lit (.int .u64 10000000), .lit (.int .u64 100000000), .lit (.int .u64 1000000000), .lit (.int .u64 10000000000), .lit (.int .u64 100000000000), .lit (.int .u64 1000000000000), .lit (.int .u64 10000000000000), .lit (.int .u64 100000000000000), .lit (.int .u64 1000000000000000), .lit (.int .u64 10000000000000000), .lit (.int .u64 100000000000000000), .lit (.int .u64 1000000000000000000), .lit (.int .u64 10000000000000000000)]
def laid_strconv_ErrRange {H : Type} : DataW H := .iface "*errors.errorString" (.ptr (.agg [.lit (.string [118, 97, 108, 117, 101, 32, 111, 117, 116, 32, 111, 102, 32, 114, 97, 110, 103, 101])]))
def laid_strconv_ErrSyntax {H : Type} : DataW H := .iface "*errors.errorString" (.ptr (.agg [.lit (.string [105, 110, 118, 97, 108, 105, 100, 32, 115, 121, 110, 116, 97, 120])]))

/-- 'crawlwaylaw10.AddrBits': WHATEVER THE INPUT: true; the input reads as it did. -/
def addrBitsSpec : ChangeSpec := { name := "addrBits", fn := fun _ => fun
  | [d1, d2] => { results := [.lit (.bool true)], args := [d1, d2] }
  | _ => none }
def addrBitsRow : OpenClaim := { program := "ytecolkjlpklaaaadoor", sum := "3c9af846f148c764f7f353c4f80ab0de443a286882b71892ad73deafd357ce86", func := "crawlway/crawlwaylaw10.AddrBits", spec := "addrBits", inPlace := ["internal/abi.NoEscape", "internal/bytealg.MakeNoZero"], named := ["internal/strconv.uint64pow10", "math/bits.deBruijn32tab", "math/bits.deBruijn64tab"], apart := false, laid := [("math/bits.deBruijn32tab", laid_math_bits_deBruijn32tab), ("math/bits.deBruijn64tab", laid_math_bits_deBruijn64tab), ("internal/strconv.uint64pow10", laid_internal_strconv_uint64pow10)] }
def AddrBitsSaid : Prop := addrBitsRow.holds Tryd.pinned (OpenSpec.ofChange addrBitsSpec)

/-- ITS FALSE NEIGHBOUR: 'it returns false'. Refute it at one input. -/
def addrBitsWrong : ChangeSpec := { name := "addrBits", fn := fun _ => fun
  | [d1, d2] => { results := [.lit (.bool false)], args := [d1, d2] }
  | _ => none }
def AddrBitsWrongFalsely : Prop := addrBitsRow.holds Tryd.pinned (OpenSpec.ofChange addrBitsWrong)

/-- 'crawlwaylaw10.AddrKinds': WHATEVER THE INPUT: true; the input reads as it did. -/
def addrKindsSpec : ChangeSpec := { name := "addrKinds", fn := fun _ => fun
  | [d] => { results := [.lit (.bool true)], args := [d] }
  | _ => none }
def addrKindsRow : OpenClaim := { program := "ytecolkjlpklaaaadoor", sum := "3c9af846f148c764f7f353c4f80ab0de443a286882b71892ad73deafd357ce86", func := "crawlway/crawlwaylaw10.AddrKinds", spec := "addrKinds", inPlace := ["internal/abi.NoEscape", "internal/bytealg.MakeNoZero"], named := ["internal/strconv.uint64pow10", "math/bits.deBruijn32tab", "math/bits.deBruijn64tab"], apart := false, laid := [("math/bits.deBruijn32tab", laid_math_bits_deBruijn32tab), ("math/bits.deBruijn64tab", laid_math_bits_deBruijn64tab), ("internal/strconv.uint64pow10", laid_internal_strconv_uint64pow10)] }
def AddrKindsSaid : Prop := addrKindsRow.holds Tryd.pinned (OpenSpec.ofChange addrKindsSpec)

/-- ITS FALSE NEIGHBOUR: 'it returns false'. Refute it at one input. -/
def addrKindsWrong : ChangeSpec := { name := "addrKinds", fn := fun _ => fun
  | [d] => { results := [.lit (.bool false)], args := [d] }
  | _ => none }
def AddrKindsWrongFalsely : Prop := addrKindsRow.holds Tryd.pinned (OpenSpec.ofChange addrKindsWrong)

/-- 'crawlwaylaw10.AddrPairs': WHATEVER THE INPUT: true; the input reads as it did. -/
def addrPairsSpec : ChangeSpec := { name := "addrPairs", fn := fun _ => fun
  | [d1, d2] => { results := [.lit (.bool true)], args := [d1, d2] }
  | _ => none }
def addrPairsRow : OpenClaim := { program := "ytecolkjlpklaaaadoor", sum := "3c9af846f148c764f7f353c4f80ab0de443a286882b71892ad73deafd357ce86", func := "crawlway/crawlwaylaw10.AddrPairs", spec := "addrPairs", inPlace := ["internal/abi.NoEscape", "internal/bytealg.MakeNoZero", "internal/bytealg.Compare"], named := ["internal/strconv.uint64pow10", "math/bits.deBruijn32tab", "math/bits.deBruijn64tab"], apart := false, laid := [("math/bits.deBruijn32tab", laid_math_bits_deBruijn32tab), ("math/bits.deBruijn64tab", laid_math_bits_deBruijn64tab), ("internal/strconv.uint64pow10", laid_internal_strconv_uint64pow10)] }
def AddrPairsSaid : Prop := addrPairsRow.holds Tryd.pinned (OpenSpec.ofChange addrPairsSpec)

/-- ITS FALSE NEIGHBOUR: 'it returns false'. Refute it at one input. -/
def addrPairsWrong : ChangeSpec := { name := "addrPairs", fn := fun _ => fun
  | [d1, d2] => { results := [.lit (.bool false)], args := [d1, d2] }
  | _ => none }
def AddrPairsWrongFalsely : Prop := addrPairsRow.holds Tryd.pinned (OpenSpec.ofChange addrPairsWrong)

/-- 'crawlwaylaw10.AddrReads': WHATEVER THE INPUT: true; the input reads as it did. -/
def addrReadsSpec : ChangeSpec := { name := "addrReads", fn := fun _ => fun
  | [d1, d2] => { results := [.lit (.bool true)], args := [d1, d2] }
  | _ => none }
def addrReadsRow : OpenClaim := { program := "ytecolkjlpklaaaadoor", sum := "3c9af846f148c764f7f353c4f80ab0de443a286882b71892ad73deafd357ce86", func := "crawlway/crawlwaylaw10.AddrReads", spec := "addrReads", inPlace := ["internal/abi.NoEscape", "internal/bytealg.MakeNoZero", "internal/bytealg.IndexByteString"], named := ["internal/strconv.uint64pow10", "math/bits.deBruijn32tab", "math/bits.deBruijn64tab", "strconv.ErrSyntax", "strconv.ErrRange"], apart := false, laid := [("math/bits.deBruijn32tab", laid_math_bits_deBruijn32tab), ("math/bits.deBruijn64tab", laid_math_bits_deBruijn64tab), ("internal/strconv.uint64pow10", laid_internal_strconv_uint64pow10), ("strconv.ErrRange", laid_strconv_ErrRange), ("strconv.ErrSyntax", laid_strconv_ErrSyntax)] }
def AddrReadsSaid : Prop := addrReadsRow.holds Tryd.pinned (OpenSpec.ofChange addrReadsSpec)

/-- ITS FALSE NEIGHBOUR: 'it returns false'. Refute it at one input. -/
def addrReadsWrong : ChangeSpec := { name := "addrReads", fn := fun _ => fun
  | [d1, d2] => { results := [.lit (.bool false)], args := [d1, d2] }
  | _ => none }
def AddrReadsWrongFalsely : Prop := addrReadsRow.holds Tryd.pinned (OpenSpec.ofChange addrReadsWrong)

/-- 'crawlwaylaw10.AddrBytes': WHATEVER THE INPUT: true; the input reads as it did. -/
def addrBytesSpec : ChangeSpec := { name := "addrBytes", fn := fun _ => fun
  | [d] => { results := [.lit (.bool true)], args := [d] }
  | _ => none }
def addrBytesRow : OpenClaim := { program := "ytecolkjlpklaaaadoor", sum := "3c9af846f148c764f7f353c4f80ab0de443a286882b71892ad73deafd357ce86", func := "crawlway/crawlwaylaw10.AddrBytes", spec := "addrBytes", inPlace := ["internal/abi.NoEscape", "internal/bytealg.MakeNoZero", "internal/bytealg.IndexByteString"], recurses := true, named := ["internal/strconv.uint64pow10", "math/bits.deBruijn32tab", "math/bits.deBruijn64tab", "strconv.ErrSyntax", "strconv.ErrRange"], apart := false, laid := [("math/bits.deBruijn32tab", laid_math_bits_deBruijn32tab), ("math/bits.deBruijn64tab", laid_math_bits_deBruijn64tab), ("internal/strconv.uint64pow10", laid_internal_strconv_uint64pow10), ("strconv.ErrRange", laid_strconv_ErrRange), ("strconv.ErrSyntax", laid_strconv_ErrSyntax)] }
def AddrBytesSaid : Prop := addrBytesRow.holds Tryd.pinned (OpenSpec.ofChange addrBytesSpec)

/-- ITS FALSE NEIGHBOUR: 'it returns false'. Refute it at one input. -/
def addrBytesWrong : ChangeSpec := { name := "addrBytes", fn := fun _ => fun
  | [d] => { results := [.lit (.bool false)], args := [d] }
  | _ => none }
def AddrBytesWrongFalsely : Prop := addrBytesRow.holds Tryd.pinned (OpenSpec.ofChange addrBytesWrong)

/-- 'crawlwaylaw11.CidrOf': WHATEVER THE INPUT: true; the input reads as it did. -/
def cidrOfSpec : ChangeSpec := { name := "cidrOf", fn := fun _ => fun
  | [d1, d2] => { results := [.lit (.bool true)], args := [d1, d2] }
  | _ => none }
def cidrOfRow : OpenClaim := { program := "ytecolkjlpklaaaadoor", sum := "3c9af846f148c764f7f353c4f80ab0de443a286882b71892ad73deafd357ce86", func := "crawlway/crawlwaylaw11.CidrOf", spec := "cidrOf", inPlace := ["internal/bytealg.IndexByteString", "internal/abi.NoEscape", "internal/bytealg.MakeNoZero"], named := ["strconv.ErrSyntax", "strconv.ErrRange", "internal/strconv.uint64pow10", "math/bits.deBruijn32tab", "math/bits.deBruijn64tab"], apart := false, laid := [("math/bits.deBruijn32tab", laid_math_bits_deBruijn32tab), ("math/bits.deBruijn64tab", laid_math_bits_deBruijn64tab), ("internal/strconv.uint64pow10", laid_internal_strconv_uint64pow10), ("strconv.ErrRange", laid_strconv_ErrRange), ("strconv.ErrSyntax", laid_strconv_ErrSyntax)] }
def CidrOfSaid : Prop := cidrOfRow.holds Tryd.pinned (OpenSpec.ofChange cidrOfSpec)

/-- ITS FALSE NEIGHBOUR: 'it returns false'. Refute it at one input. -/
def cidrOfWrong : ChangeSpec := { name := "cidrOf", fn := fun _ => fun
  | [d1, d2] => { results := [.lit (.bool false)], args := [d1, d2] }
  | _ => none }
def CidrOfWrongFalsely : Prop := cidrOfRow.holds Tryd.pinned (OpenSpec.ofChange cidrOfWrong)

/-- 'crawlwaylaw11.CidrTexts': WHATEVER THE INPUT: true; the input reads as it did. -/
def cidrTextsSpec : ChangeSpec := { name := "cidrTexts", fn := fun _ => fun
  | [d] => { results := [.lit (.bool true)], args := [d] }
  | _ => none }
def cidrTextsRow : OpenClaim := { program := "ytecolkjlpklaaaadoor", sum := "3c9af846f148c764f7f353c4f80ab0de443a286882b71892ad73deafd357ce86", func := "crawlway/crawlwaylaw11.CidrTexts", spec := "cidrTexts", inPlace := ["internal/abi.NoEscape", "internal/bytealg.MakeNoZero", "internal/bytealg.IndexByteString"], recurses := true, named := ["internal/strconv.uint64pow10", "math/bits.deBruijn32tab", "math/bits.deBruijn64tab", "strconv.ErrSyntax", "strconv.ErrRange"], apart := false, laid := [("math/bits.deBruijn32tab", laid_math_bits_deBruijn32tab), ("math/bits.deBruijn64tab", laid_math_bits_deBruijn64tab), ("internal/strconv.uint64pow10", laid_internal_strconv_uint64pow10), ("strconv.ErrRange", laid_strconv_ErrRange), ("strconv.ErrSyntax", laid_strconv_ErrSyntax)] }
def CidrTextsSaid : Prop := cidrTextsRow.holds Tryd.pinned (OpenSpec.ofChange cidrTextsSpec)

/-- ITS FALSE NEIGHBOUR: 'it returns false'. Refute it at one input. -/
def cidrTextsWrong : ChangeSpec := { name := "cidrTexts", fn := fun _ => fun
  | [d] => { results := [.lit (.bool false)], args := [d] }
  | _ => none }
def CidrTextsWrongFalsely : Prop := cidrTextsRow.holds Tryd.pinned (OpenSpec.ofChange cidrTextsWrong)

/-- 'crawlwaylaw11.CidrReads': WHATEVER THE INPUT: true; the input reads as it did. -/
def cidrReadsSpec : ChangeSpec := { name := "cidrReads", fn := fun _ => fun
  | [d] => { results := [.lit (.bool true)], args := [d] }
  | _ => none }
def cidrReadsRow : OpenClaim := { program := "ytecolkjlpklaaaadoor", sum := "3c9af846f148c764f7f353c4f80ab0de443a286882b71892ad73deafd357ce86", func := "crawlway/crawlwaylaw11.CidrReads", spec := "cidrReads", inPlace := ["internal/bytealg.IndexByteString", "internal/abi.NoEscape", "internal/bytealg.MakeNoZero"], named := ["strconv.ErrSyntax", "strconv.ErrRange", "internal/strconv.uint64pow10", "math/bits.deBruijn32tab", "math/bits.deBruijn64tab"], apart := false, laid := [("math/bits.deBruijn32tab", laid_math_bits_deBruijn32tab), ("math/bits.deBruijn64tab", laid_math_bits_deBruijn64tab), ("internal/strconv.uint64pow10", laid_internal_strconv_uint64pow10), ("strconv.ErrRange", laid_strconv_ErrRange), ("strconv.ErrSyntax", laid_strconv_ErrSyntax)] }
def CidrReadsSaid : Prop := cidrReadsRow.holds Tryd.pinned (OpenSpec.ofChange cidrReadsSpec)

/-- ITS FALSE NEIGHBOUR: 'it returns false'. Refute it at one input. -/
def cidrReadsWrong : ChangeSpec := { name := "cidrReads", fn := fun _ => fun
  | [d] => { results := [.lit (.bool false)], args := [d] }
  | _ => none }
def CidrReadsWrongFalsely : Prop := cidrReadsRow.holds Tryd.pinned (OpenSpec.ofChange cidrReadsWrong)

/-- 'crawlwaylaw11.CidrHas': WHATEVER THE INPUT: true; the input reads as it did. -/
def cidrHasSpec : ChangeSpec := { name := "cidrHas", fn := fun _ => fun
  | [d1, d2] => { results := [.lit (.bool true)], args := [d1, d2] }
  | _ => none }
def cidrHasRow : OpenClaim := { program := "ytecolkjlpklaaaadoor", sum := "3c9af846f148c764f7f353c4f80ab0de443a286882b71892ad73deafd357ce86", func := "crawlway/crawlwaylaw11.CidrHas", spec := "cidrHas", inPlace := ["internal/bytealg.IndexByteString", "internal/abi.NoEscape", "internal/bytealg.MakeNoZero"], named := ["strconv.ErrSyntax", "strconv.ErrRange", "internal/strconv.uint64pow10", "math/bits.deBruijn32tab", "math/bits.deBruijn64tab"], apart := false, laid := [("math/bits.deBruijn32tab", laid_math_bits_deBruijn32tab), ("math/bits.deBruijn64tab", laid_math_bits_deBruijn64tab), ("internal/strconv.uint64pow10", laid_internal_strconv_uint64pow10), ("strconv.ErrRange", laid_strconv_ErrRange), ("strconv.ErrSyntax", laid_strconv_ErrSyntax)] }
def CidrHasSaid : Prop := cidrHasRow.holds Tryd.pinned (OpenSpec.ofChange cidrHasSpec)

/-- ITS FALSE NEIGHBOUR: 'it returns false'. Refute it at one input. -/
def cidrHasWrong : ChangeSpec := { name := "cidrHas", fn := fun _ => fun
  | [d1, d2] => { results := [.lit (.bool false)], args := [d1, d2] }
  | _ => none }
def CidrHasWrongFalsely : Prop := cidrHasRow.holds Tryd.pinned (OpenSpec.ofChange cidrHasWrong)

/-- 'crawlwaylaw11.CidrPairs': WHATEVER THE INPUT: true; the input reads as it did. -/
def cidrPairsSpec : ChangeSpec := { name := "cidrPairs", fn := fun _ => fun
  | [d1, d2] => { results := [.lit (.bool true)], args := [d1, d2] }
  | _ => none }
def cidrPairsRow : OpenClaim := { program := "ytecolkjlpklaaaadoor", sum := "3c9af846f148c764f7f353c4f80ab0de443a286882b71892ad73deafd357ce86", func := "crawlway/crawlwaylaw11.CidrPairs", spec := "cidrPairs", inPlace := ["internal/bytealg.IndexByteString", "internal/abi.NoEscape", "internal/bytealg.MakeNoZero", "internal/bytealg.Compare"], named := ["strconv.ErrSyntax", "strconv.ErrRange", "internal/strconv.uint64pow10", "math/bits.deBruijn32tab", "math/bits.deBruijn64tab"], apart := false, laid := [("math/bits.deBruijn32tab", laid_math_bits_deBruijn32tab), ("math/bits.deBruijn64tab", laid_math_bits_deBruijn64tab), ("internal/strconv.uint64pow10", laid_internal_strconv_uint64pow10), ("strconv.ErrRange", laid_strconv_ErrRange), ("strconv.ErrSyntax", laid_strconv_ErrSyntax)] }
def CidrPairsSaid : Prop := cidrPairsRow.holds Tryd.pinned (OpenSpec.ofChange cidrPairsSpec)

/-- ITS FALSE NEIGHBOUR: 'it returns false'. Refute it at one input. -/
def cidrPairsWrong : ChangeSpec := { name := "cidrPairs", fn := fun _ => fun
  | [d1, d2] => { results := [.lit (.bool false)], args := [d1, d2] }
  | _ => none }
def CidrPairsWrongFalsely : Prop := cidrPairsRow.holds Tryd.pinned (OpenSpec.ofChange cidrPairsWrong)

/-- 'crawlwaylaw09.ColonBack': WHATEVER THE INPUT: true; the input reads as it did. -/
def colonBackSpec : ChangeSpec := { name := "colonBack", fn := fun _ => fun
  | [d] => { results := [.lit (.bool true)], args := [d] }
  | _ => none }
def colonBackRow : OpenClaim := { program := "ytecolkjlpklaaaadoor", sum := "3c9af846f148c764f7f353c4f80ab0de443a286882b71892ad73deafd357ce86", func := "crawlway/crawlwaylaw09.ColonBack", spec := "colonBack", inPlace := ["internal/abi.NoEscape", "internal/bytealg.MakeNoZero", "internal/bytealg.IndexByteString"], recurses := true, named := ["strconv.ErrSyntax", "strconv.ErrRange", "internal/strconv.uint64pow10", "math/bits.deBruijn32tab", "math/bits.deBruijn64tab"], apart := false, laid := [("math/bits.deBruijn32tab", laid_math_bits_deBruijn32tab), ("math/bits.deBruijn64tab", laid_math_bits_deBruijn64tab), ("internal/strconv.uint64pow10", laid_internal_strconv_uint64pow10), ("strconv.ErrRange", laid_strconv_ErrRange), ("strconv.ErrSyntax", laid_strconv_ErrSyntax)] }
def ColonBackSaid : Prop := colonBackRow.holds Tryd.pinned (OpenSpec.ofChange colonBackSpec)

/-- ITS FALSE NEIGHBOUR: 'it returns false'. Refute it at one input. -/
def colonBackWrong : ChangeSpec := { name := "colonBack", fn := fun _ => fun
  | [d] => { results := [.lit (.bool false)], args := [d] }
  | _ => none }
def ColonBackWrongFalsely : Prop := colonBackRow.holds Tryd.pinned (OpenSpec.ofChange colonBackWrong)

/-- 'crawlwaylaw09.ColonReads': WHATEVER THE INPUT: true; the input reads as it did. -/
def colonReadsSpec : ChangeSpec := { name := "colonReads", fn := fun _ => fun
  | [d] => { results := [.lit (.bool true)], args := [d] }
  | _ => none }
def colonReadsRow : OpenClaim := { program := "ytecolkjlpklaaaadoor", sum := "3c9af846f148c764f7f353c4f80ab0de443a286882b71892ad73deafd357ce86", func := "crawlway/crawlwaylaw09.ColonReads", spec := "colonReads", inPlace := ["internal/bytealg.IndexByteString", "internal/abi.NoEscape", "internal/bytealg.MakeNoZero"], named := ["strconv.ErrSyntax", "strconv.ErrRange", "internal/strconv.uint64pow10", "math/bits.deBruijn32tab", "math/bits.deBruijn64tab"], apart := false, laid := [("math/bits.deBruijn32tab", laid_math_bits_deBruijn32tab), ("math/bits.deBruijn64tab", laid_math_bits_deBruijn64tab), ("internal/strconv.uint64pow10", laid_internal_strconv_uint64pow10), ("strconv.ErrRange", laid_strconv_ErrRange), ("strconv.ErrSyntax", laid_strconv_ErrSyntax)] }
def ColonReadsSaid : Prop := colonReadsRow.holds Tryd.pinned (OpenSpec.ofChange colonReadsSpec)

/-- ITS FALSE NEIGHBOUR: 'it returns false'. Refute it at one input. -/
def colonReadsWrong : ChangeSpec := { name := "colonReads", fn := fun _ => fun
  | [d] => { results := [.lit (.bool false)], args := [d] }
  | _ => none }
def ColonReadsWrongFalsely : Prop := colonReadsRow.holds Tryd.pinned (OpenSpec.ofChange colonReadsWrong)

/- THE SECOND FORM. 'bulk': how many values and letters a reading holds, each counted each time it is reached (what is shared counts as often as it is met; a slice's spare places count too). A statement '..UptoSaid' is the law's where the arguments, and the package variables that the reading takes, are together of bulk at most 1048576: NARROWER than '..Said'. Prove '..Said' where nothing that the law and all that it calls make is longer than what came in: it says more and counts as full. Else prove '..UptoSaid'. A law counts once. -/
mutual
def uptoBulk {H : Type} : DataW H → Nat
  | .lit (.string bytes) => bytes.length + 1
  | .lit _ => 1
  | .nil => 1
  | .ptr d => uptoBulk d + 1
  | .slice elems spare => uptoBulkAll elems + uptoBulkAll spare + 1
  | .agg parts => uptoBulkAll parts + 1
  | .iface _ d => uptoBulk d + 1
  | .map entries => uptoBulkEntries entries + 1
  | .held _ => 1
def uptoBulkAll {H : Type} : List (DataW H) → Nat
  | [] => 0
  | d :: r => uptoBulk d + uptoBulkAll r
def uptoBulkEntries {H : Type} : List (Lit × DataW H) → Nat
  | [] => 0
  | x :: r => uptoBulkEntry x + uptoBulkEntries r
def uptoBulkEntry {H : Type} : Lit × DataW H → Nat
  | (.string bytes, d) => bytes.length + uptoBulk d + 1
  | (_, d) => uptoBulk d + 1
 end
def uptoSmall : (H : Type) → List (DataW H) → Bool := fun _ ds => decide (uptoBulkAll ds ≤ 1048576)
def OpenSpec.upto (s : _root_.Go.ChangeSpec) : _root_.Go.OpenSpec := { _root_.Go.OpenSpec.ofChange s with cond := some uptoSmall }

/-- 'crawlwaylaw10.AddrBits', WHERE WHAT IT READS IS OF BULK AT MOST 1048576: true; the input reads as it did. -/
def addrBitsUptoRow : OpenClaim := { program := "ytecolkjlpklaaaadoor", sum := "3c9af846f148c764f7f353c4f80ab0de443a286882b71892ad73deafd357ce86", func := "crawlway/crawlwaylaw10.AddrBits", spec := "addrBits", inPlace := ["internal/abi.NoEscape", "internal/bytealg.MakeNoZero"], named := ["internal/strconv.uint64pow10", "math/bits.deBruijn32tab", "math/bits.deBruijn64tab"], apart := false, laid := [("math/bits.deBruijn32tab", laid_math_bits_deBruijn32tab), ("math/bits.deBruijn64tab", laid_math_bits_deBruijn64tab), ("internal/strconv.uint64pow10", laid_internal_strconv_uint64pow10)], narrowed := true }
def AddrBitsUptoSaid : Prop := addrBitsUptoRow.holds Tryd.pinned (OpenSpec.upto addrBitsSpec)

/-- 'crawlwaylaw10.AddrKinds', WHERE WHAT IT READS IS OF BULK AT MOST 1048576: true; the input reads as it did. -/
def addrKindsUptoRow : OpenClaim := { program := "ytecolkjlpklaaaadoor", sum := "3c9af846f148c764f7f353c4f80ab0de443a286882b71892ad73deafd357ce86", func := "crawlway/crawlwaylaw10.AddrKinds", spec := "addrKinds", inPlace := ["internal/abi.NoEscape", "internal/bytealg.MakeNoZero"], named := ["internal/strconv.uint64pow10", "math/bits.deBruijn32tab", "math/bits.deBruijn64tab"], apart := false, laid := [("math/bits.deBruijn32tab", laid_math_bits_deBruijn32tab), ("math/bits.deBruijn64tab", laid_math_bits_deBruijn64tab), ("internal/strconv.uint64pow10", laid_internal_strconv_uint64pow10)], narrowed := true }
def AddrKindsUptoSaid : Prop := addrKindsUptoRow.holds Tryd.pinned (OpenSpec.upto addrKindsSpec)

/-- 'crawlwaylaw10.AddrPairs', WHERE WHAT IT READS IS OF BULK AT MOST 1048576: true; the input reads as it did. -/
def addrPairsUptoRow : OpenClaim := { program := "ytecolkjlpklaaaadoor", sum := "3c9af846f148c764f7f353c4f80ab0de443a286882b71892ad73deafd357ce86", func := "crawlway/crawlwaylaw10.AddrPairs", spec := "addrPairs", inPlace := ["internal/abi.NoEscape", "internal/bytealg.MakeNoZero", "internal/bytealg.Compare"], named := ["internal/strconv.uint64pow10", "math/bits.deBruijn32tab", "math/bits.deBruijn64tab"], apart := false, laid := [("math/bits.deBruijn32tab", laid_math_bits_deBruijn32tab), ("math/bits.deBruijn64tab", laid_math_bits_deBruijn64tab), ("internal/strconv.uint64pow10", laid_internal_strconv_uint64pow10)], narrowed := true }
def AddrPairsUptoSaid : Prop := addrPairsUptoRow.holds Tryd.pinned (OpenSpec.upto addrPairsSpec)

/-- 'crawlwaylaw10.AddrReads', WHERE WHAT IT READS IS OF BULK AT MOST 1048576: true; the input reads as it did. -/
def addrReadsUptoRow : OpenClaim := { program := "ytecolkjlpklaaaadoor", sum := "3c9af846f148c764f7f353c4f80ab0de443a286882b71892ad73deafd357ce86", func := "crawlway/crawlwaylaw10.AddrReads", spec := "addrReads", inPlace := ["internal/abi.NoEscape", "internal/bytealg.MakeNoZero", "internal/bytealg.IndexByteString"], named := ["internal/strconv.uint64pow10", "math/bits.deBruijn32tab", "math/bits.deBruijn64tab", "strconv.ErrSyntax", "strconv.ErrRange"], apart := false, laid := [("math/bits.deBruijn32tab", laid_math_bits_deBruijn32tab), ("math/bits.deBruijn64tab", laid_math_bits_deBruijn64tab), ("internal/strconv.uint64pow10", laid_internal_strconv_uint64pow10), ("strconv.ErrRange", laid_strconv_ErrRange), ("strconv.ErrSyntax", laid_strconv_ErrSyntax)], narrowed := true }
def AddrReadsUptoSaid : Prop := addrReadsUptoRow.holds Tryd.pinned (OpenSpec.upto addrReadsSpec)

/-- 'crawlwaylaw10.AddrBytes', WHERE WHAT IT READS IS OF BULK AT MOST 1048576: true; the input reads as it did. -/
def addrBytesUptoRow : OpenClaim := { program := "ytecolkjlpklaaaadoor", sum := "3c9af846f148c764f7f353c4f80ab0de443a286882b71892ad73deafd357ce86", func := "crawlway/crawlwaylaw10.AddrBytes", spec := "addrBytes", inPlace := ["internal/abi.NoEscape", "internal/bytealg.MakeNoZero", "internal/bytealg.IndexByteString"], recurses := true, named := ["internal/strconv.uint64pow10", "math/bits.deBruijn32tab", "math/bits.deBruijn64tab", "strconv.ErrSyntax", "strconv.ErrRange"], apart := false, laid := [("math/bits.deBruijn32tab", laid_math_bits_deBruijn32tab), ("math/bits.deBruijn64tab", laid_math_bits_deBruijn64tab), ("internal/strconv.uint64pow10", laid_internal_strconv_uint64pow10), ("strconv.ErrRange", laid_strconv_ErrRange), ("strconv.ErrSyntax", laid_strconv_ErrSyntax)], narrowed := true }
def AddrBytesUptoSaid : Prop := addrBytesUptoRow.holds Tryd.pinned (OpenSpec.upto addrBytesSpec)

/-- 'crawlwaylaw11.CidrOf', WHERE WHAT IT READS IS OF BULK AT MOST 1048576: true; the input reads as it did. -/
def cidrOfUptoRow : OpenClaim := { program := "ytecolkjlpklaaaadoor", sum := "3c9af846f148c764f7f353c4f80ab0de443a286882b71892ad73deafd357ce86", func := "crawlway/crawlwaylaw11.CidrOf", spec := "cidrOf", inPlace := ["internal/bytealg.IndexByteString", "internal/abi.NoEscape", "internal/bytealg.MakeNoZero"], named := ["strconv.ErrSyntax", "strconv.ErrRange", "internal/strconv.uint64pow10", "math/bits.deBruijn32tab", "math/bits.deBruijn64tab"], apart := false, laid := [("math/bits.deBruijn32tab", laid_math_bits_deBruijn32tab), ("math/bits.deBruijn64tab", laid_math_bits_deBruijn64tab), ("internal/strconv.uint64pow10", laid_internal_strconv_uint64pow10), ("strconv.ErrRange", laid_strconv_ErrRange), ("strconv.ErrSyntax", laid_strconv_ErrSyntax)], narrowed := true }
def CidrOfUptoSaid : Prop := cidrOfUptoRow.holds Tryd.pinned (OpenSpec.upto cidrOfSpec)

/-- 'crawlwaylaw11.CidrTexts', WHERE WHAT IT READS IS OF BULK AT MOST 1048576: true; the input reads as it did. -/
def cidrTextsUptoRow : OpenClaim := { program := "ytecolkjlpklaaaadoor", sum := "3c9af846f148c764f7f353c4f80ab0de443a286882b71892ad73deafd357ce86", func := "crawlway/crawlwaylaw11.CidrTexts", spec := "cidrTexts", inPlace := ["internal/abi.NoEscape", "internal/bytealg.MakeNoZero", "internal/bytealg.IndexByteString"], recurses := true, named := ["internal/strconv.uint64pow10", "math/bits.deBruijn32tab", "math/bits.deBruijn64tab", "strconv.ErrSyntax", "strconv.ErrRange"], apart := false, laid := [("math/bits.deBruijn32tab", laid_math_bits_deBruijn32tab), ("math/bits.deBruijn64tab", laid_math_bits_deBruijn64tab), ("internal/strconv.uint64pow10", laid_internal_strconv_uint64pow10), ("strconv.ErrRange", laid_strconv_ErrRange), ("strconv.ErrSyntax", laid_strconv_ErrSyntax)], narrowed := true }
def CidrTextsUptoSaid : Prop := cidrTextsUptoRow.holds Tryd.pinned (OpenSpec.upto cidrTextsSpec)

/-- 'crawlwaylaw11.CidrReads', WHERE WHAT IT READS IS OF BULK AT MOST 1048576: true; the input reads as it did. -/
def cidrReadsUptoRow : OpenClaim := { program := "ytecolkjlpklaaaadoor", sum := "3c9af846f148c764f7f353c4f80ab0de443a286882b71892ad73deafd357ce86", func := "crawlway/crawlwaylaw11.CidrReads", spec := "cidrReads", inPlace := ["internal/bytealg.IndexByteString", "internal/abi.NoEscape", "internal/bytealg.MakeNoZero"], named := ["strconv.ErrSyntax", "strconv.ErrRange", "internal/strconv.uint64pow10", "math/bits.deBruijn32tab", "math/bits.deBruijn64tab"], apart := false, laid := [("math/bits.deBruijn32tab", laid_math_bits_deBruijn32tab), ("math/bits.deBruijn64tab", laid_math_bits_deBruijn64tab), ("internal/strconv.uint64pow10", laid_internal_strconv_uint64pow10), ("strconv.ErrRange", laid_strconv_ErrRange), ("strconv.ErrSyntax", laid_strconv_ErrSyntax)], narrowed := true }
def CidrReadsUptoSaid : Prop := cidrReadsUptoRow.holds Tryd.pinned (OpenSpec.upto cidrReadsSpec)

/-- 'crawlwaylaw11.CidrHas', WHERE WHAT IT READS IS OF BULK AT MOST 1048576: true; the input reads as it did. -/
def cidrHasUptoRow : OpenClaim := { program := "ytecolkjlpklaaaadoor", sum := "3c9af846f148c764f7f353c4f80ab0de443a286882b71892ad73deafd357ce86", func := "crawlway/crawlwaylaw11.CidrHas", spec := "cidrHas", inPlace := ["internal/bytealg.IndexByteString", "internal/abi.NoEscape", "internal/bytealg.MakeNoZero"], named := ["strconv.ErrSyntax", "strconv.ErrRange", "internal/strconv.uint64pow10", "math/bits.deBruijn32tab", "math/bits.deBruijn64tab"], apart := false, laid := [("math/bits.deBruijn32tab", laid_math_bits_deBruijn32tab), ("math/bits.deBruijn64tab", laid_math_bits_deBruijn64tab), ("internal/strconv.uint64pow10", laid_internal_strconv_uint64pow10), ("strconv.ErrRange", laid_strconv_ErrRange), ("strconv.ErrSyntax", laid_strconv_ErrSyntax)], narrowed := true }
def CidrHasUptoSaid : Prop := cidrHasUptoRow.holds Tryd.pinned (OpenSpec.upto cidrHasSpec)

/-- 'crawlwaylaw11.CidrPairs', WHERE WHAT IT READS IS OF BULK AT MOST 1048576: true; the input reads as it did. -/
def cidrPairsUptoRow : OpenClaim := { program := "ytecolkjlpklaaaadoor", sum := "3c9af846f148c764f7f353c4f80ab0de443a286882b71892ad73deafd357ce86", func := "crawlway/crawlwaylaw11.CidrPairs", spec := "cidrPairs", inPlace := ["internal/bytealg.IndexByteString", "internal/abi.NoEscape", "internal/bytealg.MakeNoZero", "internal/bytealg.Compare"], named := ["strconv.ErrSyntax", "strconv.ErrRange", "internal/strconv.uint64pow10", "math/bits.deBruijn32tab", "math/bits.deBruijn64tab"], apart := false, laid := [("math/bits.deBruijn32tab", laid_math_bits_deBruijn32tab), ("math/bits.deBruijn64tab", laid_math_bits_deBruijn64tab), ("internal/strconv.uint64pow10", laid_internal_strconv_uint64pow10), ("strconv.ErrRange", laid_strconv_ErrRange), ("strconv.ErrSyntax", laid_strconv_ErrSyntax)], narrowed := true }
def CidrPairsUptoSaid : Prop := cidrPairsUptoRow.holds Tryd.pinned (OpenSpec.upto cidrPairsSpec)

/-- 'crawlwaylaw09.ColonBack', WHERE WHAT IT READS IS OF BULK AT MOST 1048576: true; the input reads as it did. -/
def colonBackUptoRow : OpenClaim := { program := "ytecolkjlpklaaaadoor", sum := "3c9af846f148c764f7f353c4f80ab0de443a286882b71892ad73deafd357ce86", func := "crawlway/crawlwaylaw09.ColonBack", spec := "colonBack", inPlace := ["internal/abi.NoEscape", "internal/bytealg.MakeNoZero", "internal/bytealg.IndexByteString"], recurses := true, named := ["strconv.ErrSyntax", "strconv.ErrRange", "internal/strconv.uint64pow10", "math/bits.deBruijn32tab", "math/bits.deBruijn64tab"], apart := false, laid := [("math/bits.deBruijn32tab", laid_math_bits_deBruijn32tab), ("math/bits.deBruijn64tab", laid_math_bits_deBruijn64tab), ("internal/strconv.uint64pow10", laid_internal_strconv_uint64pow10), ("strconv.ErrRange", laid_strconv_ErrRange), ("strconv.ErrSyntax", laid_strconv_ErrSyntax)], narrowed := true }
def ColonBackUptoSaid : Prop := colonBackUptoRow.holds Tryd.pinned (OpenSpec.upto colonBackSpec)

/-- 'crawlwaylaw09.ColonReads', WHERE WHAT IT READS IS OF BULK AT MOST 1048576: true; the input reads as it did. -/
def colonReadsUptoRow : OpenClaim := { program := "ytecolkjlpklaaaadoor", sum := "3c9af846f148c764f7f353c4f80ab0de443a286882b71892ad73deafd357ce86", func := "crawlway/crawlwaylaw09.ColonReads", spec := "colonReads", inPlace := ["internal/bytealg.IndexByteString", "internal/abi.NoEscape", "internal/bytealg.MakeNoZero"], named := ["strconv.ErrSyntax", "strconv.ErrRange", "internal/strconv.uint64pow10", "math/bits.deBruijn32tab", "math/bits.deBruijn64tab"], apart := false, laid := [("math/bits.deBruijn32tab", laid_math_bits_deBruijn32tab), ("math/bits.deBruijn64tab", laid_math_bits_deBruijn64tab), ("internal/strconv.uint64pow10", laid_internal_strconv_uint64pow10), ("strconv.ErrRange", laid_strconv_ErrRange), ("strconv.ErrSyntax", laid_strconv_ErrSyntax)], narrowed := true }
def ColonReadsUptoSaid : Prop := colonReadsUptoRow.holds Tryd.pinned (OpenSpec.upto colonReadsSpec)

end Rows
end Go.Proofs.YtecolkjlpklaaaaDoor
