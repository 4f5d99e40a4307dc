/- Parts of a proof. -/
import Derived.Test.YtfpohljcapcliaaGreatDoorRows
import Derived.ProofKit
import Derived.JoinedCond
set_option linter.all false
noncomputable section
namespace Go.Proofs.YtfpohljcapcliaaGreatDoor
open Go
theorem closed:joinedFacts Tryz.prog 3 Tryz.f3 (Rows.OpenSpec.upto Rows.layoutCellsSpec).bare Rows.layoutCellsUptoRow=true:=by kernel_rfl
end Go.Proofs.YtfpohljcapcliaaGreatDoor
end
