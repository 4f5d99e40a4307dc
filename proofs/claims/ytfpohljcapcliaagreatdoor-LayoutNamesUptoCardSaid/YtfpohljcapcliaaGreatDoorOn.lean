/- Parts of a proof. -/
import Derived.Test.YtfpohljcapcliaaGreatDoorRows
import Derived.ProofKit
import Derived.JoinedCond
set_option linter.all false
noncomputable section
namespace Go.Proofs.YtfpohljcapcliaaGreatDoor
open Go
theorem closed:joinedFacts Tryz.prog 4 Tryz.f4 (Rows.OpenSpec.upto Rows.layoutNamesSpec).bare Rows.layoutNamesUptoRow=true:=by kernel_rfl
end Go.Proofs.YtfpohljcapcliaaGreatDoor
end
