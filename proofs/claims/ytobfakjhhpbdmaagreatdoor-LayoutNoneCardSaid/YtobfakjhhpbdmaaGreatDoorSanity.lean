/-
  THE START-UP CHECK COMES TO TRUE.
-/
import Derived.Test.YtobfakjhhpbdmaaGreatDoorWords
namespace Go.Proofs.YtobfakjhhpbdmaaGreatDoor
open Go Go.Am
theorem sanity_answer : Answers Tryz.prog gEnv 12 (.bool true) :=
  answers_true (n := 5000) fTab_ok orc1_ok gEnv_ground (by kernel_rfl)
noncomputable def orc2 : Orc := addOrc 12 (.bool true) orc1
theorem orc2_ok : OrcAll Tryz.prog gEnv orc2 := orc1_ok.add sanity_answer
end Go.Proofs.YtobfakjhhpbdmaaGreatDoor
