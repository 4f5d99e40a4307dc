/-
  DERIVED. GIVEN WITH THE SEED: THE CARDS: each row of YtgcjkhpfnapklaaGreatDoorRows.lean that lists a variable, with what it lists TIED to the program's text (the seventh form; the later family's looks); each row that meets fmt, with fmt's text TOLD by the authors' own Lean function (tested against real Go, not proved from fmt's source: count such statements apart). THE CARD IS WHAT COUNTS. Prove the row's statement (the work); the ties are given (YtgcjkhpfnapklaaGreatDoorTie.lean); close each card by the builder's one call (the guide's Derived/Test/ToyasCard.lean, 'card_holds'). Laid BY PROGRAM, IN A SANDBOX (cutbox-door.mjs). By AI agents, Wed Nov 11 2026. No macro, syntax, notation, axiom, sorry.
-/
import Derived.Test.YtgcjkhpfnapklaaGreatDoorRows
import GoSem.ClaimSeven
namespace Go.Proofs.YtgcjkhpfnapklaaGreatDoor
namespace Rows

/-- THE TIED CARD OF 'mjolnerlaw13.LayoutChains'. -/
def layoutChainsCard : Claim7 := { stood := { row := layoutChainsRow, standIns := [], harness := (true, "8f6f35cdb8df590354546cc5b081f43ace239273290296cf6a596b60c4cf4957"), looks := true }, kinds := [], alts := [], laidByText := true, laidKinds := [.listed, .data], laidTests := true, laidLooks := .later }
def LayoutChainsCardSaid : Prop := Claim7.holds Tryz.pinned (.plain (OpenSpec.ofChange layoutChainsSpec)) layoutChainsCard

/-- THE SECOND FORM's CARD OF 'mjolnerlaw13.LayoutChains'. -/
def layoutChainsUptoCard : Claim7 := { stood := { row := layoutChainsUptoRow, standIns := [], harness := (true, "8f6f35cdb8df590354546cc5b081f43ace239273290296cf6a596b60c4cf4957"), looks := true }, kinds := [], alts := [], laidByText := true, laidKinds := [.listed, .data], laidTests := true, laidLooks := .later }
def LayoutChainsUptoCardSaid : Prop := Claim7.holds Tryz.pinned (.plain (OpenSpec.upto layoutChainsSpec)) layoutChainsUptoCard
end Rows
end Go.Proofs.YtgcjkhpfnapklaaGreatDoor
