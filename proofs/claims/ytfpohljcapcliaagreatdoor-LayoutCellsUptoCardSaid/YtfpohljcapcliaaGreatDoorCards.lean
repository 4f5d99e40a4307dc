/-
  DERIVED. GIVEN WITH THE SEED: THE CARDS: each row of YtfpohljcapcliaaGreatDoorRows.lean that lists a variable, with what it lists TIED to the program's text (the seventh form; the later family's looks); each row that meets fmt, with fmt's text TOLD by the authors' own Lean function (tested against real Go, not proved from fmt's source: count such statements apart). THE CARD IS WHAT COUNTS. Prove the row's statement (the work); the ties are given (YtfpohljcapcliaaGreatDoorTie.lean); close each card by the builder's one call (the guide's Derived/Test/ToyasCard.lean, 'card_holds'). Laid BY PROGRAM, IN A SANDBOX (cutbox-door.mjs). By AI agents, Wed Nov 11 2026. No macro, syntax, notation, axiom, sorry.
-/
import Derived.Test.YtfpohljcapcliaaGreatDoorRows
import GoSem.ClaimSeven
namespace Go.Proofs.YtfpohljcapcliaaGreatDoor
namespace Rows

/-- THE TIED CARD OF 'mjolnerlaw13.LayoutCells'. -/
def layoutCellsCard : Claim7 := { stood := { row := layoutCellsRow, standIns := [], harness := (true, "19ead4fbfd6f2b2e8b7102b80bc2e4bbcd4e41648ca355432e87cdd9d618c9b5"), looks := true }, kinds := [], alts := [], laidByText := true, laidKinds := [.listed, .data], laidTests := true, laidLooks := .later }
def LayoutCellsCardSaid : Prop := Claim7.holds Tryz.pinned (.plain (OpenSpec.ofChange layoutCellsSpec)) layoutCellsCard

/-- THE TIED CARD OF 'mjolnerlaw13.LayoutNames'. -/
def layoutNamesCard : Claim7 := { stood := { row := layoutNamesRow, standIns := [], harness := (true, "19ead4fbfd6f2b2e8b7102b80bc2e4bbcd4e41648ca355432e87cdd9d618c9b5"), looks := true }, kinds := [], alts := [], laidByText := true, laidKinds := [.listed, .data], laidTests := true, laidLooks := .later }
def LayoutNamesCardSaid : Prop := Claim7.holds Tryz.pinned (.plain (OpenSpec.ofChange layoutNamesSpec)) layoutNamesCard

/-- THE SECOND FORM's CARD OF 'mjolnerlaw13.LayoutCells'. -/
def layoutCellsUptoCard : Claim7 := { stood := { row := layoutCellsUptoRow, standIns := [], harness := (true, "19ead4fbfd6f2b2e8b7102b80bc2e4bbcd4e41648ca355432e87cdd9d618c9b5"), looks := true }, kinds := [], alts := [], laidByText := true, laidKinds := [.listed, .data], laidTests := true, laidLooks := .later }
def LayoutCellsUptoCardSaid : Prop := Claim7.holds Tryz.pinned (.plain (OpenSpec.upto layoutCellsSpec)) layoutCellsUptoCard

/-- THE SECOND FORM's CARD OF 'mjolnerlaw13.LayoutNames'. -/
def layoutNamesUptoCard : Claim7 := { stood := { row := layoutNamesUptoRow, standIns := [], harness := (true, "19ead4fbfd6f2b2e8b7102b80bc2e4bbcd4e41648ca355432e87cdd9d618c9b5"), looks := true }, kinds := [], alts := [], laidByText := true, laidKinds := [.listed, .data], laidTests := true, laidLooks := .later }
def LayoutNamesUptoCardSaid : Prop := Claim7.holds Tryz.pinned (.plain (OpenSpec.upto layoutNamesSpec)) layoutNamesUptoCard
end Rows
end Go.Proofs.YtfpohljcapcliaaGreatDoor
