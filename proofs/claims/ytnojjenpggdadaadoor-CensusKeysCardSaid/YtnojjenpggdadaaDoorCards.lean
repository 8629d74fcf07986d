/-
  DERIVED. GIVEN WITH THE SEED: THE CARDS: each row of YtnojjenpggdadaaDoorRows.lean that lists a variable, with what it lists TIED to the program's text (the seventh form; the later family's looks); each row that meets fmt, with fmt's text TOLD by the authors' own Lean function (tested against real Go, not proved from fmt's source: count such statements apart). THE CARD IS WHAT COUNTS. Prove the row's statement (the work); the ties are given (YtnojjenpggdadaaDoorTie.lean); close each card by the builder's one call (the guide's Derived/Test/ToyasCard.lean, 'card_holds'). Laid BY PROGRAM, IN A SANDBOX (cutbox-door.mjs). By AI agents, Wed Nov 11 2026. No macro, syntax, notation, axiom, sorry.
-/
import Derived.Test.YtnojjenpggdadaaDoorRows
import GoSem.ClaimSeven
namespace Go.Proofs.YtnojjenpggdadaaDoor
namespace Rows

/-- THE TIED CARD OF 'crawlwaylaw03.DecimalBack'. -/
def decimalBackCard : Claim7 := { stood := { row := decimalBackRow, standIns := [], harness := (true, "0fdadda0a91a04bb8ca8b26d883148f4bb156ed365206809855d5a89fee82d61"), looks := true }, kinds := [], alts := [], laidByText := true, laidKinds := [.data, .data, .data, .sentinel, .sentinel], laidTests := true, laidLooks := .later }
def DecimalBackCardSaid : Prop := Claim7.holds Tryd.pinned (.plain (OpenSpec.ofChange decimalBackSpec)) decimalBackCard

/-- THE TIED CARD OF 'crawlwaylaw03.DecimalReads'. -/
def decimalReadsCard : Claim7 := { stood := { row := decimalReadsRow, standIns := [], harness := (true, "0fdadda0a91a04bb8ca8b26d883148f4bb156ed365206809855d5a89fee82d61"), looks := true }, kinds := [], alts := [], laidByText := true, laidKinds := [.data, .data, .data, .sentinel, .sentinel], laidTests := true, laidLooks := .later }
def DecimalReadsCardSaid : Prop := Claim7.holds Tryd.pinned (.plain (OpenSpec.ofChange decimalReadsSpec)) decimalReadsCard

/-- THE TIED CARD OF 'crawlwaylaw56.ShowSizes'. -/
def showSizesCard : Claim7 := { stood := { row := showSizesRow, standIns := [], harness := (true, "0fdadda0a91a04bb8ca8b26d883148f4bb156ed365206809855d5a89fee82d61"), looks := true }, kinds := [], alts := [], laidByText := true, laidKinds := [.data, .data, .data, .data], laidTests := true, laidLooks := .later }
def ShowSizesCardSaid : Prop := Claim7.holds Tryd.pinned (.plain (OpenSpec.ofChange showSizesSpec)) showSizesCard

/-- THE TIED CARD OF 'crawlwaylaw52.CensusTexts'. -/
def censusTextsCard : Claim7 := { stood := { row := censusTextsRow, standIns := [], harness := (true, "0fdadda0a91a04bb8ca8b26d883148f4bb156ed365206809855d5a89fee82d61"), looks := true }, kinds := [], alts := [], laidByText := true, laidKinds := [.data, .data, .data, .data], laidTests := true, laidLooks := .later }
def CensusTextsCardSaid : Prop := Claim7.holds Tryd.pinned (.plain (OpenSpec.ofChange censusTextsSpec)) censusTextsCard

/-- THE TIED CARD OF 'crawlwaylaw52.CensusCounts'. -/
def censusCountsCard : Claim7 := { stood := { row := censusCountsRow, standIns := [], harness := (true, "0fdadda0a91a04bb8ca8b26d883148f4bb156ed365206809855d5a89fee82d61"), looks := true }, kinds := [], alts := [], laidByText := true, laidKinds := [.data, .data, .data, .data], laidTests := true, laidLooks := .later }
def CensusCountsCardSaid : Prop := Claim7.holds Tryd.pinned (.plain (OpenSpec.ofChange censusCountsSpec)) censusCountsCard

/-- THE TIED CARD OF 'crawlwaylaw52.CensusKeys'. -/
def censusKeysCard : Claim7 := { stood := { row := censusKeysRow, standIns := [], harness := (true, "0fdadda0a91a04bb8ca8b26d883148f4bb156ed365206809855d5a89fee82d61"), looks := true }, kinds := [], alts := [], laidByText := true, laidKinds := [.data, .data, .data, .data], laidTests := true, laidLooks := .later }
def CensusKeysCardSaid : Prop := Claim7.holds Tryd.pinned (.plain (OpenSpec.ofChange censusKeysSpec)) censusKeysCard

/-- THE SECOND FORM's CARD OF 'crawlwaylaw03.DecimalBack'. -/
def decimalBackUptoCard : Claim7 := { stood := { row := decimalBackUptoRow, standIns := [], harness := (true, "0fdadda0a91a04bb8ca8b26d883148f4bb156ed365206809855d5a89fee82d61"), looks := true }, kinds := [], alts := [], laidByText := true, laidKinds := [.data, .data, .data, .sentinel, .sentinel], laidTests := true, laidLooks := .later }
def DecimalBackUptoCardSaid : Prop := Claim7.holds Tryd.pinned (.plain (OpenSpec.upto decimalBackSpec)) decimalBackUptoCard

/-- THE SECOND FORM's CARD OF 'crawlwaylaw03.DecimalReads'. -/
def decimalReadsUptoCard : Claim7 := { stood := { row := decimalReadsUptoRow, standIns := [], harness := (true, "0fdadda0a91a04bb8ca8b26d883148f4bb156ed365206809855d5a89fee82d61"), looks := true }, kinds := [], alts := [], laidByText := true, laidKinds := [.data, .data, .data, .sentinel, .sentinel], laidTests := true, laidLooks := .later }
def DecimalReadsUptoCardSaid : Prop := Claim7.holds Tryd.pinned (.plain (OpenSpec.upto decimalReadsSpec)) decimalReadsUptoCard

/-- THE SECOND FORM's CARD OF 'crawlwaylaw56.ShowSizes'. -/
def showSizesUptoCard : Claim7 := { stood := { row := showSizesUptoRow, standIns := [], harness := (true, "0fdadda0a91a04bb8ca8b26d883148f4bb156ed365206809855d5a89fee82d61"), looks := true }, kinds := [], alts := [], laidByText := true, laidKinds := [.data, .data, .data, .data], laidTests := true, laidLooks := .later }
def ShowSizesUptoCardSaid : Prop := Claim7.holds Tryd.pinned (.plain (OpenSpec.upto showSizesSpec)) showSizesUptoCard

/-- THE SECOND FORM's CARD OF 'crawlwaylaw52.CensusTexts'. -/
def censusTextsUptoCard : Claim7 := { stood := { row := censusTextsUptoRow, standIns := [], harness := (true, "0fdadda0a91a04bb8ca8b26d883148f4bb156ed365206809855d5a89fee82d61"), looks := true }, kinds := [], alts := [], laidByText := true, laidKinds := [.data, .data, .data, .data], laidTests := true, laidLooks := .later }
def CensusTextsUptoCardSaid : Prop := Claim7.holds Tryd.pinned (.plain (OpenSpec.upto censusTextsSpec)) censusTextsUptoCard

/-- THE SECOND FORM's CARD OF 'crawlwaylaw52.CensusCounts'. -/
def censusCountsUptoCard : Claim7 := { stood := { row := censusCountsUptoRow, standIns := [], harness := (true, "0fdadda0a91a04bb8ca8b26d883148f4bb156ed365206809855d5a89fee82d61"), looks := true }, kinds := [], alts := [], laidByText := true, laidKinds := [.data, .data, .data, .data], laidTests := true, laidLooks := .later }
def CensusCountsUptoCardSaid : Prop := Claim7.holds Tryd.pinned (.plain (OpenSpec.upto censusCountsSpec)) censusCountsUptoCard

/-- THE SECOND FORM's CARD OF 'crawlwaylaw52.CensusKeys'. -/
def censusKeysUptoCard : Claim7 := { stood := { row := censusKeysUptoRow, standIns := [], harness := (true, "0fdadda0a91a04bb8ca8b26d883148f4bb156ed365206809855d5a89fee82d61"), looks := true }, kinds := [], alts := [], laidByText := true, laidKinds := [.data, .data, .data, .data], laidTests := true, laidLooks := .later }
def CensusKeysUptoCardSaid : Prop := Claim7.holds Tryd.pinned (.plain (OpenSpec.upto censusKeysSpec)) censusKeysUptoCard
end Rows
end Go.Proofs.YtnojjenpggdadaaDoor
