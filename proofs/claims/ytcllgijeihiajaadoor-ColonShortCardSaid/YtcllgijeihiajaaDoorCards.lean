/-
  DERIVED. GIVEN WITH THE SEED: THE CARDS: each row of YtcllgijeihiajaaDoorRows.lean that lists a variable, with what it lists TIED to the program's text (the seventh form; the later family's looks); each row that meets fmt, with fmt's text TOLD by the authors' own Lean function (tested against real Go, not proved from fmt's source: count such statements apart). THE CARD IS WHAT COUNTS. Prove the row's statement (the work); the ties are given (YtcllgijeihiajaaDoorTie.lean); close each card by the builder's one call (the guide's Derived/Test/ToyasCard.lean, 'card_holds'). Laid BY PROGRAM, IN A SANDBOX (cutbox-door.mjs). By AI agents, Wed Nov 11 2026. No macro, syntax, notation, axiom, sorry.
-/
import Derived.Test.YtcllgijeihiajaaDoorRows
import GoSem.ClaimSeven
namespace Go.Proofs.YtcllgijeihiajaaDoor
namespace Rows

/-- THE TIED CARD OF 'crawlwaylaw09.ColonShort'. -/
def colonShortCard : Claim7 := { stood := { row := colonShortRow, standIns := [], harness := (true, "d0bc3303eedc5c0e2c3436895a5746bb2974a5283345d3a63fa067c0dae4ee86"), looks := true }, kinds := [], alts := [], laidByText := true, laidKinds := [.data, .data, .data, .sentinel, .sentinel], laidTests := true, laidLooks := .later }
def ColonShortCardSaid : Prop := Claim7.holds Tryd.pinned (.plain (OpenSpec.ofChange colonShortSpec)) colonShortCard

/-- THE TIED CARD OF 'crawlwaylaw08.QuadBack'. -/
def quadBackCard : Claim7 := { stood := { row := quadBackRow, standIns := [], harness := (true, "d0bc3303eedc5c0e2c3436895a5746bb2974a5283345d3a63fa067c0dae4ee86"), looks := true }, kinds := [], alts := [], laidByText := true, laidKinds := [.data, .data, .data, .sentinel, .sentinel], laidTests := true, laidLooks := .later }
def QuadBackCardSaid : Prop := Claim7.holds Tryd.pinned (.plain (OpenSpec.ofChange quadBackSpec)) quadBackCard

/-- THE TIED CARD OF 'crawlwaylaw08.QuadReads'. -/
def quadReadsCard : Claim7 := { stood := { row := quadReadsRow, standIns := [], harness := (true, "d0bc3303eedc5c0e2c3436895a5746bb2974a5283345d3a63fa067c0dae4ee86"), looks := true }, kinds := [], alts := [], laidByText := true, laidKinds := [.data, .data, .data, .sentinel, .sentinel], laidTests := true, laidLooks := .later }
def QuadReadsCardSaid : Prop := Claim7.holds Tryd.pinned (.plain (OpenSpec.ofChange quadReadsSpec)) quadReadsCard

/-- THE SECOND FORM's CARD OF 'crawlwaylaw09.ColonShort'. -/
def colonShortUptoCard : Claim7 := { stood := { row := colonShortUptoRow, standIns := [], harness := (true, "d0bc3303eedc5c0e2c3436895a5746bb2974a5283345d3a63fa067c0dae4ee86"), looks := true }, kinds := [], alts := [], laidByText := true, laidKinds := [.data, .data, .data, .sentinel, .sentinel], laidTests := true, laidLooks := .later }
def ColonShortUptoCardSaid : Prop := Claim7.holds Tryd.pinned (.plain (OpenSpec.upto colonShortSpec)) colonShortUptoCard

/-- THE SECOND FORM's CARD OF 'crawlwaylaw08.QuadBack'. -/
def quadBackUptoCard : Claim7 := { stood := { row := quadBackUptoRow, standIns := [], harness := (true, "d0bc3303eedc5c0e2c3436895a5746bb2974a5283345d3a63fa067c0dae4ee86"), looks := true }, kinds := [], alts := [], laidByText := true, laidKinds := [.data, .data, .data, .sentinel, .sentinel], laidTests := true, laidLooks := .later }
def QuadBackUptoCardSaid : Prop := Claim7.holds Tryd.pinned (.plain (OpenSpec.upto quadBackSpec)) quadBackUptoCard

/-- THE SECOND FORM's CARD OF 'crawlwaylaw08.QuadReads'. -/
def quadReadsUptoCard : Claim7 := { stood := { row := quadReadsUptoRow, standIns := [], harness := (true, "d0bc3303eedc5c0e2c3436895a5746bb2974a5283345d3a63fa067c0dae4ee86"), looks := true }, kinds := [], alts := [], laidByText := true, laidKinds := [.data, .data, .data, .sentinel, .sentinel], laidTests := true, laidLooks := .later }
def QuadReadsUptoCardSaid : Prop := Claim7.holds Tryd.pinned (.plain (OpenSpec.upto quadReadsSpec)) quadReadsUptoCard
end Rows
end Go.Proofs.YtcllgijeihiajaaDoor
