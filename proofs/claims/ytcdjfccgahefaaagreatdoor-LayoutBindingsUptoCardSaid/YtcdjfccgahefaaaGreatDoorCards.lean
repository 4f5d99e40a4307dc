/-
  DERIVED. GIVEN WITH THE SEED: THE CARDS: each row of YtcdjfccgahefaaaGreatDoorRows.lean that lists a variable, with what it lists TIED to the program's text (the seventh form; the later family's looks); each row that meets fmt, with fmt's text TOLD by the authors' own Lean function (tested against real Go, not proved from fmt's source: count such statements apart). THE CARD IS WHAT COUNTS. Prove the row's statement (the work); the ties are given (YtcdjfccgahefaaaGreatDoorTie.lean); close each card by the builder's one call (the guide's Derived/Test/ToyasCard.lean, 'card_holds'). Laid BY PROGRAM, IN A SANDBOX (cutbox-door.mjs). By AI agents, Wed Nov 11 2026. No macro, syntax, notation, axiom, sorry.
-/
import Derived.Test.YtcdjfccgahefaaaGreatDoorRows
import GoSem.ClaimSeven
namespace Go.Proofs.YtcdjfccgahefaaaGreatDoor
namespace Rows

/-- THE TIED CARD OF 'mjolnerlaw13.LayoutBindings'. -/
def layoutBindingsCard : Claim7 := { stood := { row := layoutBindingsRow, standIns := [], harness := (true, "334533df39ed2b9cd1481a3c4c4b230320e314f82b16d688fe504cb33dc4820f"), looks := true }, kinds := [], alts := [], laidByText := true, laidKinds := [.listed, .data], laidTests := true, laidLooks := .later }
def LayoutBindingsCardSaid : Prop := Claim7.holds Tryz.pinned (.plain (OpenSpec.ofChange layoutBindingsSpec)) layoutBindingsCard

/-- THE TIED CARD OF 'mjolnerlaw13.LayoutUps'. -/
def layoutUpsCard : Claim7 := { stood := { row := layoutUpsRow, standIns := [], harness := (true, "334533df39ed2b9cd1481a3c4c4b230320e314f82b16d688fe504cb33dc4820f"), looks := true }, kinds := [], alts := [], laidByText := true, laidKinds := [.listed, .data], laidTests := true, laidLooks := .later }
def LayoutUpsCardSaid : Prop := Claim7.holds Tryz.pinned (.plain (OpenSpec.ofChange layoutUpsSpec)) layoutUpsCard

/-- THE SECOND FORM's CARD OF 'mjolnerlaw13.LayoutBindings'. -/
def layoutBindingsUptoCard : Claim7 := { stood := { row := layoutBindingsUptoRow, standIns := [], harness := (true, "334533df39ed2b9cd1481a3c4c4b230320e314f82b16d688fe504cb33dc4820f"), looks := true }, kinds := [], alts := [], laidByText := true, laidKinds := [.listed, .data], laidTests := true, laidLooks := .later }
def LayoutBindingsUptoCardSaid : Prop := Claim7.holds Tryz.pinned (.plain (OpenSpec.upto layoutBindingsSpec)) layoutBindingsUptoCard

/-- THE SECOND FORM's CARD OF 'mjolnerlaw13.LayoutUps'. -/
def layoutUpsUptoCard : Claim7 := { stood := { row := layoutUpsUptoRow, standIns := [], harness := (true, "334533df39ed2b9cd1481a3c4c4b230320e314f82b16d688fe504cb33dc4820f"), looks := true }, kinds := [], alts := [], laidByText := true, laidKinds := [.listed, .data], laidTests := true, laidLooks := .later }
def LayoutUpsUptoCardSaid : Prop := Claim7.holds Tryz.pinned (.plain (OpenSpec.upto layoutUpsSpec)) layoutUpsUptoCard
end Rows
end Go.Proofs.YtcdjfccgahefaaaGreatDoor
