/-
  DERIVED. GIVEN WITH THE SEED: THE CARDS: each row of YtecolkjlpklaaaaDoorRows.lean that lists a variable, with what it lists TIED to the program's text (the seventh form; the later family's looks); each row that meets fmt, with fmt's text TOLD by the authors' own Lean function (tested against real Go, not proved from fmt's source: count such statements apart). THE CARD IS WHAT COUNTS. Prove the row's statement (the work); the ties are given (YtecolkjlpklaaaaDoorTie.lean); close each card by the builder's one call (the guide's Derived/Test/ToyasCard.lean, 'card_holds'). Laid BY PROGRAM, IN A SANDBOX (cutbox-door.mjs). By AI agents, Wed Nov 11 2026. No macro, syntax, notation, axiom, sorry.
-/
import Derived.Test.YtecolkjlpklaaaaDoorRows
import GoSem.ClaimSeven
namespace Go.Proofs.YtecolkjlpklaaaaDoor
namespace Rows

/-- THE TIED CARD OF 'crawlwaylaw10.AddrBits'. -/
def addrBitsCard : Claim7 := { stood := { row := addrBitsRow, standIns := [], harness := (true, "49aef082e216bde66361c3ae5eed7961983ca875d42129576f8c33f2899296fe"), looks := true }, kinds := [], alts := [], laidByText := true, laidKinds := [.data, .data, .data], laidTests := true, laidLooks := .later }
def AddrBitsCardSaid : Prop := Claim7.holds Tryd.pinned (.plain (OpenSpec.ofChange addrBitsSpec)) addrBitsCard

/-- THE TIED CARD OF 'crawlwaylaw10.AddrKinds'. -/
def addrKindsCard : Claim7 := { stood := { row := addrKindsRow, standIns := [], harness := (true, "49aef082e216bde66361c3ae5eed7961983ca875d42129576f8c33f2899296fe"), looks := true }, kinds := [], alts := [], laidByText := true, laidKinds := [.data, .data, .data], laidTests := true, laidLooks := .later }
def AddrKindsCardSaid : Prop := Claim7.holds Tryd.pinned (.plain (OpenSpec.ofChange addrKindsSpec)) addrKindsCard

/-- THE TIED CARD OF 'crawlwaylaw10.AddrPairs'. -/
def addrPairsCard : Claim7 := { stood := { row := addrPairsRow, standIns := [], harness := (true, "49aef082e216bde66361c3ae5eed7961983ca875d42129576f8c33f2899296fe"), looks := true }, kinds := [], alts := [], laidByText := true, laidKinds := [.data, .data, .data], laidTests := true, laidLooks := .later }
def AddrPairsCardSaid : Prop := Claim7.holds Tryd.pinned (.plain (OpenSpec.ofChange addrPairsSpec)) addrPairsCard

/-- THE TIED CARD OF 'crawlwaylaw10.AddrReads'. -/
def addrReadsCard : Claim7 := { stood := { row := addrReadsRow, standIns := [], harness := (true, "49aef082e216bde66361c3ae5eed7961983ca875d42129576f8c33f2899296fe"), looks := true }, kinds := [], alts := [], laidByText := true, laidKinds := [.data, .data, .data, .sentinel, .sentinel], laidTests := true, laidLooks := .later }
def AddrReadsCardSaid : Prop := Claim7.holds Tryd.pinned (.plain (OpenSpec.ofChange addrReadsSpec)) addrReadsCard

/-- THE TIED CARD OF 'crawlwaylaw10.AddrBytes'. -/
def addrBytesCard : Claim7 := { stood := { row := addrBytesRow, standIns := [], harness := (true, "49aef082e216bde66361c3ae5eed7961983ca875d42129576f8c33f2899296fe"), looks := true }, kinds := [], alts := [], laidByText := true, laidKinds := [.data, .data, .data, .sentinel, .sentinel], laidTests := true, laidLooks := .later }
def AddrBytesCardSaid : Prop := Claim7.holds Tryd.pinned (.plain (OpenSpec.ofChange addrBytesSpec)) addrBytesCard

/-- THE TIED CARD OF 'crawlwaylaw11.CidrOf'. -/
def cidrOfCard : Claim7 := { stood := { row := cidrOfRow, standIns := [], harness := (true, "49aef082e216bde66361c3ae5eed7961983ca875d42129576f8c33f2899296fe"), looks := true }, kinds := [], alts := [], laidByText := true, laidKinds := [.data, .data, .data, .sentinel, .sentinel], laidTests := true, laidLooks := .later }
def CidrOfCardSaid : Prop := Claim7.holds Tryd.pinned (.plain (OpenSpec.ofChange cidrOfSpec)) cidrOfCard

/-- THE TIED CARD OF 'crawlwaylaw11.CidrTexts'. -/
def cidrTextsCard : Claim7 := { stood := { row := cidrTextsRow, standIns := [], harness := (true, "49aef082e216bde66361c3ae5eed7961983ca875d42129576f8c33f2899296fe"), looks := true }, kinds := [], alts := [], laidByText := true, laidKinds := [.data, .data, .data, .sentinel, .sentinel], laidTests := true, laidLooks := .later }
def CidrTextsCardSaid : Prop := Claim7.holds Tryd.pinned (.plain (OpenSpec.ofChange cidrTextsSpec)) cidrTextsCard

/-- THE TIED CARD OF 'crawlwaylaw11.CidrReads'. -/
def cidrReadsCard : Claim7 := { stood := { row := cidrReadsRow, standIns := [], harness := (true, "49aef082e216bde66361c3ae5eed7961983ca875d42129576f8c33f2899296fe"), looks := true }, kinds := [], alts := [], laidByText := true, laidKinds := [.data, .data, .data, .sentinel, .sentinel], laidTests := true, laidLooks := .later }
def CidrReadsCardSaid : Prop := Claim7.holds Tryd.pinned (.plain (OpenSpec.ofChange cidrReadsSpec)) cidrReadsCard

/-- THE TIED CARD OF 'crawlwaylaw11.CidrHas'. -/
def cidrHasCard : Claim7 := { stood := { row := cidrHasRow, standIns := [], harness := (true, "49aef082e216bde66361c3ae5eed7961983ca875d42129576f8c33f2899296fe"), looks := true }, kinds := [], alts := [], laidByText := true, laidKinds := [.data, .data, .data, .sentinel, .sentinel], laidTests := true, laidLooks := .later }
def CidrHasCardSaid : Prop := Claim7.holds Tryd.pinned (.plain (OpenSpec.ofChange cidrHasSpec)) cidrHasCard

/-- THE TIED CARD OF 'crawlwaylaw11.CidrPairs'. -/
def cidrPairsCard : Claim7 := { stood := { row := cidrPairsRow, standIns := [], harness := (true, "49aef082e216bde66361c3ae5eed7961983ca875d42129576f8c33f2899296fe"), looks := true }, kinds := [], alts := [], laidByText := true, laidKinds := [.data, .data, .data, .sentinel, .sentinel], laidTests := true, laidLooks := .later }
def CidrPairsCardSaid : Prop := Claim7.holds Tryd.pinned (.plain (OpenSpec.ofChange cidrPairsSpec)) cidrPairsCard

/-- THE TIED CARD OF 'crawlwaylaw09.ColonBack'. -/
def colonBackCard : Claim7 := { stood := { row := colonBackRow, standIns := [], harness := (true, "49aef082e216bde66361c3ae5eed7961983ca875d42129576f8c33f2899296fe"), looks := true }, kinds := [], alts := [], laidByText := true, laidKinds := [.data, .data, .data, .sentinel, .sentinel], laidTests := true, laidLooks := .later }
def ColonBackCardSaid : Prop := Claim7.holds Tryd.pinned (.plain (OpenSpec.ofChange colonBackSpec)) colonBackCard

/-- THE TIED CARD OF 'crawlwaylaw09.ColonReads'. -/
def colonReadsCard : Claim7 := { stood := { row := colonReadsRow, standIns := [], harness := (true, "49aef082e216bde66361c3ae5eed7961983ca875d42129576f8c33f2899296fe"), looks := true }, kinds := [], alts := [], laidByText := true, laidKinds := [.data, .data, .data, .sentinel, .sentinel], laidTests := true, laidLooks := .later }
def ColonReadsCardSaid : Prop := Claim7.holds Tryd.pinned (.plain (OpenSpec.ofChange colonReadsSpec)) colonReadsCard

/-- THE SECOND FORM's CARD OF 'crawlwaylaw10.AddrBits'. -/
def addrBitsUptoCard : Claim7 := { stood := { row := addrBitsUptoRow, standIns := [], harness := (true, "49aef082e216bde66361c3ae5eed7961983ca875d42129576f8c33f2899296fe"), looks := true }, kinds := [], alts := [], laidByText := true, laidKinds := [.data, .data, .data], laidTests := true, laidLooks := .later }
def AddrBitsUptoCardSaid : Prop := Claim7.holds Tryd.pinned (.plain (OpenSpec.upto addrBitsSpec)) addrBitsUptoCard

/-- THE SECOND FORM's CARD OF 'crawlwaylaw10.AddrKinds'. -/
def addrKindsUptoCard : Claim7 := { stood := { row := addrKindsUptoRow, standIns := [], harness := (true, "49aef082e216bde66361c3ae5eed7961983ca875d42129576f8c33f2899296fe"), looks := true }, kinds := [], alts := [], laidByText := true, laidKinds := [.data, .data, .data], laidTests := true, laidLooks := .later }
def AddrKindsUptoCardSaid : Prop := Claim7.holds Tryd.pinned (.plain (OpenSpec.upto addrKindsSpec)) addrKindsUptoCard

/-- THE SECOND FORM's CARD OF 'crawlwaylaw10.AddrPairs'. -/
def addrPairsUptoCard : Claim7 := { stood := { row := addrPairsUptoRow, standIns := [], harness := (true, "49aef082e216bde66361c3ae5eed7961983ca875d42129576f8c33f2899296fe"), looks := true }, kinds := [], alts := [], laidByText := true, laidKinds := [.data, .data, .data], laidTests := true, laidLooks := .later }
def AddrPairsUptoCardSaid : Prop := Claim7.holds Tryd.pinned (.plain (OpenSpec.upto addrPairsSpec)) addrPairsUptoCard

/-- THE SECOND FORM's CARD OF 'crawlwaylaw10.AddrReads'. -/
def addrReadsUptoCard : Claim7 := { stood := { row := addrReadsUptoRow, standIns := [], harness := (true, "49aef082e216bde66361c3ae5eed7961983ca875d42129576f8c33f2899296fe"), looks := true }, kinds := [], alts := [], laidByText := true, laidKinds := [.data, .data, .data, .sentinel, .sentinel], laidTests := true, laidLooks := .later }
def AddrReadsUptoCardSaid : Prop := Claim7.holds Tryd.pinned (.plain (OpenSpec.upto addrReadsSpec)) addrReadsUptoCard

/-- THE SECOND FORM's CARD OF 'crawlwaylaw10.AddrBytes'. -/
def addrBytesUptoCard : Claim7 := { stood := { row := addrBytesUptoRow, standIns := [], harness := (true, "49aef082e216bde66361c3ae5eed7961983ca875d42129576f8c33f2899296fe"), looks := true }, kinds := [], alts := [], laidByText := true, laidKinds := [.data, .data, .data, .sentinel, .sentinel], laidTests := true, laidLooks := .later }
def AddrBytesUptoCardSaid : Prop := Claim7.holds Tryd.pinned (.plain (OpenSpec.upto addrBytesSpec)) addrBytesUptoCard

/-- THE SECOND FORM's CARD OF 'crawlwaylaw11.CidrOf'. -/
def cidrOfUptoCard : Claim7 := { stood := { row := cidrOfUptoRow, standIns := [], harness := (true, "49aef082e216bde66361c3ae5eed7961983ca875d42129576f8c33f2899296fe"), looks := true }, kinds := [], alts := [], laidByText := true, laidKinds := [.data, .data, .data, .sentinel, .sentinel], laidTests := true, laidLooks := .later }
def CidrOfUptoCardSaid : Prop := Claim7.holds Tryd.pinned (.plain (OpenSpec.upto cidrOfSpec)) cidrOfUptoCard

/-- THE SECOND FORM's CARD OF 'crawlwaylaw11.CidrTexts'. -/
def cidrTextsUptoCard : Claim7 := { stood := { row := cidrTextsUptoRow, standIns := [], harness := (true, "49aef082e216bde66361c3ae5eed7961983ca875d42129576f8c33f2899296fe"), looks := true }, kinds := [], alts := [], laidByText := true, laidKinds := [.data, .data, .data, .sentinel, .sentinel], laidTests := true, laidLooks := .later }
def CidrTextsUptoCardSaid : Prop := Claim7.holds Tryd.pinned (.plain (OpenSpec.upto cidrTextsSpec)) cidrTextsUptoCard

/-- THE SECOND FORM's CARD OF 'crawlwaylaw11.CidrReads'. -/
def cidrReadsUptoCard : Claim7 := { stood := { row := cidrReadsUptoRow, standIns := [], harness := (true, "49aef082e216bde66361c3ae5eed7961983ca875d42129576f8c33f2899296fe"), looks := true }, kinds := [], alts := [], laidByText := true, laidKinds := [.data, .data, .data, .sentinel, .sentinel], laidTests := true, laidLooks := .later }
def CidrReadsUptoCardSaid : Prop := Claim7.holds Tryd.pinned (.plain (OpenSpec.upto cidrReadsSpec)) cidrReadsUptoCard

/-- THE SECOND FORM's CARD OF 'crawlwaylaw11.CidrHas'. -/
def cidrHasUptoCard : Claim7 := { stood := { row := cidrHasUptoRow, standIns := [], harness := (true, "49aef082e216bde66361c3ae5eed7961983ca875d42129576f8c33f2899296fe"), looks := true }, kinds := [], alts := [], laidByText := true, laidKinds := [.data, .data, .data, .sentinel, .sentinel], laidTests := true, laidLooks := .later }
def CidrHasUptoCardSaid : Prop := Claim7.holds Tryd.pinned (.plain (OpenSpec.upto cidrHasSpec)) cidrHasUptoCard

/-- THE SECOND FORM's CARD OF 'crawlwaylaw11.CidrPairs'. -/
def cidrPairsUptoCard : Claim7 := { stood := { row := cidrPairsUptoRow, standIns := [], harness := (true, "49aef082e216bde66361c3ae5eed7961983ca875d42129576f8c33f2899296fe"), looks := true }, kinds := [], alts := [], laidByText := true, laidKinds := [.data, .data, .data, .sentinel, .sentinel], laidTests := true, laidLooks := .later }
def CidrPairsUptoCardSaid : Prop := Claim7.holds Tryd.pinned (.plain (OpenSpec.upto cidrPairsSpec)) cidrPairsUptoCard

/-- THE SECOND FORM's CARD OF 'crawlwaylaw09.ColonBack'. -/
def colonBackUptoCard : Claim7 := { stood := { row := colonBackUptoRow, standIns := [], harness := (true, "49aef082e216bde66361c3ae5eed7961983ca875d42129576f8c33f2899296fe"), looks := true }, kinds := [], alts := [], laidByText := true, laidKinds := [.data, .data, .data, .sentinel, .sentinel], laidTests := true, laidLooks := .later }
def ColonBackUptoCardSaid : Prop := Claim7.holds Tryd.pinned (.plain (OpenSpec.upto colonBackSpec)) colonBackUptoCard

/-- THE SECOND FORM's CARD OF 'crawlwaylaw09.ColonReads'. -/
def colonReadsUptoCard : Claim7 := { stood := { row := colonReadsUptoRow, standIns := [], harness := (true, "49aef082e216bde66361c3ae5eed7961983ca875d42129576f8c33f2899296fe"), looks := true }, kinds := [], alts := [], laidByText := true, laidKinds := [.data, .data, .data, .sentinel, .sentinel], laidTests := true, laidLooks := .later }
def ColonReadsUptoCardSaid : Prop := Claim7.holds Tryd.pinned (.plain (OpenSpec.upto colonReadsSpec)) colonReadsUptoCard
end Rows
end Go.Proofs.YtecolkjlpklaaaaDoor
