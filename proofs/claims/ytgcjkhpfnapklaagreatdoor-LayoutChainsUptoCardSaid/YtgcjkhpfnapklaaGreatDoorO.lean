/- Parts of a proof. -/
import Derived.Test.YtgcjkhpfnapklaaGreatDoorRows
import Derived.ProofKit
import Derived.JoinedCond
set_option linter.all false
noncomputable section
namespace Go.Proofs.YtgcjkhpfnapklaaGreatDoor
open Go
theorem closed:joinedFacts Tryz.prog 3 Tryz.f3 (Rows.OpenSpec.upto Rows.layoutChainsSpec).bare Rows.layoutChainsUptoRow=true:=by kernel_rfl
end Go.Proofs.YtgcjkhpfnapklaaGreatDoor
end
