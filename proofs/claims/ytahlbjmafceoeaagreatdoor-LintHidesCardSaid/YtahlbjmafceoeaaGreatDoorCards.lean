/-
  DERIVED. GIVEN WITH THE SEED: THE CARDS: each row of YtahlbjmafceoeaaGreatDoorRows.lean that lists a variable, with what it lists TIED to the program's text (the seventh form; the later family's looks); each row that meets fmt, with fmt's text TOLD by the authors' own Lean function (tested against real Go, not proved from fmt's source: count such statements apart). THE CARD IS WHAT COUNTS. Prove the row's statement (the work); the ties are given (YtahlbjmafceoeaaGreatDoorTie.lean); close each card by the builder's one call (the guide's Derived/Test/ToyasCard.lean, 'card_holds'). Laid BY PROGRAM, IN A SANDBOX (cutbox-door.mjs). By AI agents, Wed Nov 11 2026. No macro, syntax, notation, axiom, sorry.
-/
import Derived.Test.YtahlbjmafceoeaaGreatDoorRows
import GoSem.ClaimSeven
namespace Go.Proofs.YtahlbjmafceoeaaGreatDoor
namespace Rows

/-- THE TIED CARD OF 'crawlwaylaw60.LintTells'. -/
def lintTellsCard : Claim7 := { stood := { row := lintTellsRow, standIns := [], harness := (true, "2a96bdbd959884a9aaab4889a6c7da73d609bc88b9389c4b2a6f2200ccbd2f08"), looks := false }, kinds := [], alts := [], laidByText := true, laidKinds := [.data, .data, .data, .data], laidTests := true, laidLooks := .later }
def LintTellsCardSaid : Prop := Claim7.holds Tryz.pinned (.plain (OpenSpec.ofChange lintTellsSpec)) lintTellsCard

/-- THE TIED CARD OF 'crawlwaylaw60.LintTexts'. -/
def lintTextsCard : Claim7 := { stood := { row := lintTextsRow, standIns := [], harness := (true, "2a96bdbd959884a9aaab4889a6c7da73d609bc88b9389c4b2a6f2200ccbd2f08"), looks := false }, kinds := [], alts := [], laidByText := true, laidKinds := [.data, .data, .data, .data], laidTests := true, laidLooks := .later }
def LintTextsCardSaid : Prop := Claim7.holds Tryz.pinned (.plain (OpenSpec.ofChange lintTextsSpec)) lintTextsCard

/-- THE TIED CARD OF 'crawlwaylaw60.LintHides'. -/
def lintHidesCard : Claim7 := { stood := { row := lintHidesRow, standIns := [], harness := (true, "2a96bdbd959884a9aaab4889a6c7da73d609bc88b9389c4b2a6f2200ccbd2f08"), looks := false }, kinds := [], alts := [], laidByText := true, laidKinds := [.data, .data, .data, .data], laidTests := true, laidLooks := .later }
def LintHidesCardSaid : Prop := Claim7.holds Tryz.pinned (.plain (OpenSpec.ofChange lintHidesSpec)) lintHidesCard

/-- THE SECOND FORM's CARD OF 'crawlwaylaw60.LintTells'. -/
def lintTellsUptoCard : Claim7 := { stood := { row := lintTellsUptoRow, standIns := [], harness := (true, "2a96bdbd959884a9aaab4889a6c7da73d609bc88b9389c4b2a6f2200ccbd2f08"), looks := false }, kinds := [], alts := [], laidByText := true, laidKinds := [.data, .data, .data, .data], laidTests := true, laidLooks := .later }
def LintTellsUptoCardSaid : Prop := Claim7.holds Tryz.pinned (.plain (OpenSpec.upto lintTellsSpec)) lintTellsUptoCard

/-- THE SECOND FORM's CARD OF 'crawlwaylaw60.LintTexts'. -/
def lintTextsUptoCard : Claim7 := { stood := { row := lintTextsUptoRow, standIns := [], harness := (true, "2a96bdbd959884a9aaab4889a6c7da73d609bc88b9389c4b2a6f2200ccbd2f08"), looks := false }, kinds := [], alts := [], laidByText := true, laidKinds := [.data, .data, .data, .data], laidTests := true, laidLooks := .later }
def LintTextsUptoCardSaid : Prop := Claim7.holds Tryz.pinned (.plain (OpenSpec.upto lintTextsSpec)) lintTextsUptoCard

/-- THE SECOND FORM's CARD OF 'crawlwaylaw60.LintHides'. -/
def lintHidesUptoCard : Claim7 := { stood := { row := lintHidesUptoRow, standIns := [], harness := (true, "2a96bdbd959884a9aaab4889a6c7da73d609bc88b9389c4b2a6f2200ccbd2f08"), looks := false }, kinds := [], alts := [], laidByText := true, laidKinds := [.data, .data, .data, .data], laidTests := true, laidLooks := .later }
def LintHidesUptoCardSaid : Prop := Claim7.holds Tryz.pinned (.plain (OpenSpec.upto lintHidesSpec)) lintHidesUptoCard
end Rows
end Go.Proofs.YtahlbjmafceoeaaGreatDoor
