/-
  DERIVED. GIVEN WITH THE SEED: THE CARDS: each row of YtobfakjhhpbdmaaGreatDoorRows.lean that lists a variable, with what it lists TIED to the program's text (the seventh form; the later family's looks); each row that meets fmt, with fmt's text TOLD by the authors' own Lean function (tested against real Go, not proved from fmt's source: count such statements apart). THE CARD IS WHAT COUNTS. Prove the row's statement (the work); the ties are given (YtobfakjhhpbdmaaGreatDoorTie.lean); close each card by the builder's one call (the guide's Derived/Test/ToyasCard.lean, 'card_holds'). Laid BY PROGRAM, IN A SANDBOX (cutbox-door.mjs). By AI agents, Wed Nov 11 2026. No macro, syntax, notation, axiom, sorry.
-/
import Derived.Test.YtobfakjhhpbdmaaGreatDoorRows
import GoSem.ClaimSeven
namespace Go.Proofs.YtobfakjhhpbdmaaGreatDoor
namespace Rows

/-- THE TIED CARD OF 'mjolnerlaw13.LayoutNone'. -/
def layoutNoneCard : Claim7 := { stood := { row := layoutNoneRow, standIns := [], harness := (true, "d4df1c0a5b1a24b3d81c3082112cf187fcf41f5560fcd6f369ed8f7edf4f36fd"), looks := true }, kinds := [], alts := [], laidByText := true, laidKinds := [.listed, .data], laidTests := true, laidLooks := .later }
def LayoutNoneCardSaid : Prop := Claim7.holds Tryz.pinned (.plain (OpenSpec.ofChange layoutNoneSpec)) layoutNoneCard

/-- THE SECOND FORM's CARD OF 'mjolnerlaw13.LayoutNone'. -/
def layoutNoneUptoCard : Claim7 := { stood := { row := layoutNoneUptoRow, standIns := [], harness := (true, "d4df1c0a5b1a24b3d81c3082112cf187fcf41f5560fcd6f369ed8f7edf4f36fd"), looks := true }, kinds := [], alts := [], laidByText := true, laidKinds := [.listed, .data], laidTests := true, laidLooks := .later }
def LayoutNoneUptoCardSaid : Prop := Claim7.holds Tryz.pinned (.plain (OpenSpec.upto layoutNoneSpec)) layoutNoneUptoCard
end Rows
end Go.Proofs.YtobfakjhhpbdmaaGreatDoor
