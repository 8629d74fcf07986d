/-
  DERIVED. GIVEN WITH THE SEED: THE CARDS: each row of YtnekckhjmnhinaaGreatDoorRows.lean that lists a variable, with what it lists TIED to the program's text (the seventh form; the later family's looks); each row that meets fmt, with fmt's text TOLD by the authors' own Lean function (tested against real Go, not proved from fmt's source: count such statements apart). THE CARD IS WHAT COUNTS. Prove the row's statement (the work); the ties are given (YtnekckhjmnhinaaGreatDoorTie.lean); close each card by the builder's one call (the guide's Derived/Test/ToyasCard.lean, 'card_holds'). Laid BY PROGRAM, IN A SANDBOX (cutbox-door.mjs). By AI agents, Wed Nov 11 2026. No macro, syntax, notation, axiom, sorry.
-/
import Derived.Test.YtnekckhjmnhinaaGreatDoorRows
import GoSem.ClaimSeven
namespace Go.Proofs.YtnekckhjmnhinaaGreatDoor
namespace Rows

/-- THE TIED CARD OF 'crawlwaylaw56.ShowReads'. -/
def showReadsCard : Claim7 := { stood := { row := showReadsRow, standIns := [], harness := (true, "ccc147bbd85683bbb13555b948de6e17d3d109afe27b18a4ec982f09b532ee72"), looks := true }, kinds := [], alts := [], laidByText := true, laidKinds := [.data, .data, .data, .data, .sentinel, .sentinel, .data, .pinned], laidTests := true, laidLooks := .later }
def ShowReadsCardSaid : Prop := Claim7.holds Tryz.pinned (.plain (OpenSpec.ofChange showReadsSpec)) showReadsCard

/-- THE TIED CARD OF 'crawlwaylaw56.ShowPages'. -/
def showPagesCard : Claim7 := { stood := { row := showPagesRow, standIns := [], harness := (true, "ccc147bbd85683bbb13555b948de6e17d3d109afe27b18a4ec982f09b532ee72"), looks := true }, kinds := [], alts := [], laidByText := true, laidKinds := [.data, .data, .data, .data, .sentinel, .sentinel, .data, .pinned], laidTests := true, laidLooks := .later }
def ShowPagesCardSaid : Prop := Claim7.holds Tryz.pinned (.plain (OpenSpec.ofChange showPagesSpec)) showPagesCard

/-- THE SECOND FORM's CARD OF 'crawlwaylaw56.ShowReads'. -/
def showReadsUptoCard : Claim7 := { stood := { row := showReadsUptoRow, standIns := [], harness := (true, "ccc147bbd85683bbb13555b948de6e17d3d109afe27b18a4ec982f09b532ee72"), looks := true }, kinds := [], alts := [], laidByText := true, laidKinds := [.data, .data, .data, .data, .sentinel, .sentinel, .data, .pinned], laidTests := true, laidLooks := .later }
def ShowReadsUptoCardSaid : Prop := Claim7.holds Tryz.pinned (.plain (OpenSpec.upto showReadsSpec)) showReadsUptoCard

/-- THE SECOND FORM's CARD OF 'crawlwaylaw56.ShowPages'. -/
def showPagesUptoCard : Claim7 := { stood := { row := showPagesUptoRow, standIns := [], harness := (true, "ccc147bbd85683bbb13555b948de6e17d3d109afe27b18a4ec982f09b532ee72"), looks := true }, kinds := [], alts := [], laidByText := true, laidKinds := [.data, .data, .data, .data, .sentinel, .sentinel, .data, .pinned], laidTests := true, laidLooks := .later }
def ShowPagesUptoCardSaid : Prop := Claim7.holds Tryz.pinned (.plain (OpenSpec.upto showPagesSpec)) showPagesUptoCard
end Rows
end Go.Proofs.YtnekckhjmnhinaaGreatDoor
