/- Parts of a proof. -/
import Derived.Test.YtcdjfccgahefaaaGreatDoorRows
import Derived.ProofKit
import Derived.JoinedCond
set_option linter.all false
noncomputable section
namespace Go.Proofs.YtcdjfccgahefaaaGreatDoor
open Go
theorem closed:joinedFacts Tryz.prog 3 Tryz.f3 (Rows.OpenSpec.upto Rows.layoutBindingsSpec).bare Rows.layoutBindingsUptoRow=true:=by kernel_rfl
end Go.Proofs.YtcdjfccgahefaaaGreatDoor
end
