/- Parts of a proof. -/
import Derived.Test.YtcdjfccgahefaaaGreatDoorRows
import Derived.ProofKit
import Derived.JoinedCond
set_option linter.all false
noncomputable section
namespace Go.Proofs.YtcdjfccgahefaaaGreatDoor
open Go
theorem closed:joinedFacts Tryz.prog 4 Tryz.f4 (Rows.OpenSpec.upto Rows.layoutUpsSpec).bare Rows.layoutUpsUptoRow=true:=by kernel_rfl
end Go.Proofs.YtcdjfccgahefaaaGreatDoor
end
