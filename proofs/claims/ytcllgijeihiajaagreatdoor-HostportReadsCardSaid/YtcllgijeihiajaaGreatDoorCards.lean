/-
  DERIVED. GIVEN WITH THE SEED: THE CARDS: each row of YtcllgijeihiajaaGreatDoorRows.lean that lists a variable, with what it lists TIED to the program's text (the seventh form; the later family's looks); each row that meets fmt, with fmt's text TOLD by the authors' own Lean function (tested against real Go, not proved from fmt's source: count such statements apart). THE CARD IS WHAT COUNTS. Prove the row's statement (the work); the ties are given (YtcllgijeihiajaaGreatDoorTie.lean); close each card by the builder's one call (the guide's Derived/Test/ToyasCard.lean, 'card_holds'). Laid BY PROGRAM, IN A SANDBOX (cutbox-door.mjs). By AI agents, Wed Nov 11 2026. No macro, syntax, notation, axiom, sorry.
-/
import Derived.Test.YtcllgijeihiajaaGreatDoorRows
import GoSem.ClaimSeven
namespace Go.Proofs.YtcllgijeihiajaaGreatDoor
namespace Rows

/-- THE TIED CARD OF 'crawlwaylaw12.HostportTexts'. -/
def hostportTextsCard : Claim7 := { stood := { row := hostportTextsRow, standIns := [], harness := (true, "24a33224685abc48958f91c1b0327be57b20825487d4b34990ee847999d7bcaf"), looks := true }, kinds := [], alts := [], laidByText := true, laidKinds := [.data, .data, .data, .sentinel, .sentinel], laidTests := true, laidLooks := .later }
def HostportTextsCardSaid : Prop := Claim7.holds Tryz.pinned (.plain (OpenSpec.ofChange hostportTextsSpec)) hostportTextsCard

/-- THE TIED CARD OF 'crawlwaylaw12.HostportReads'. -/
def hostportReadsCard : Claim7 := { stood := { row := hostportReadsRow, standIns := [], harness := (true, "24a33224685abc48958f91c1b0327be57b20825487d4b34990ee847999d7bcaf"), looks := true }, kinds := [], alts := [], laidByText := true, laidKinds := [.data, .data, .data, .sentinel, .sentinel], laidTests := true, laidLooks := .later }
def HostportReadsCardSaid : Prop := Claim7.holds Tryz.pinned (.plain (OpenSpec.ofChange hostportReadsSpec)) hostportReadsCard

/-- THE SECOND FORM's CARD OF 'crawlwaylaw12.HostportTexts'. -/
def hostportTextsUptoCard : Claim7 := { stood := { row := hostportTextsUptoRow, standIns := [], harness := (true, "24a33224685abc48958f91c1b0327be57b20825487d4b34990ee847999d7bcaf"), looks := true }, kinds := [], alts := [], laidByText := true, laidKinds := [.data, .data, .data, .sentinel, .sentinel], laidTests := true, laidLooks := .later }
def HostportTextsUptoCardSaid : Prop := Claim7.holds Tryz.pinned (.plain (OpenSpec.upto hostportTextsSpec)) hostportTextsUptoCard

/-- THE SECOND FORM's CARD OF 'crawlwaylaw12.HostportReads'. -/
def hostportReadsUptoCard : Claim7 := { stood := { row := hostportReadsUptoRow, standIns := [], harness := (true, "24a33224685abc48958f91c1b0327be57b20825487d4b34990ee847999d7bcaf"), looks := true }, kinds := [], alts := [], laidByText := true, laidKinds := [.data, .data, .data, .sentinel, .sentinel], laidTests := true, laidLooks := .later }
def HostportReadsUptoCardSaid : Prop := Claim7.holds Tryz.pinned (.plain (OpenSpec.upto hostportReadsSpec)) hostportReadsUptoCard
end Rows
end Go.Proofs.YtcllgijeihiajaaGreatDoor
