/-
  THE RESERVED WORDS AND THE SIGNS: each of the two functions that return them, run once.
-/
import Derived.Test.YtobfakjhhpbdmaaGreatDoorTabOk
namespace Go.Proofs.YtobfakjhhpbdmaaGreatDoor
open Go Go.Am
noncomputable def wordsA : List AV := [.str [101, 110, 116, 101, 114], .str [100, 111], .str [101, 120, 105, 116], .str [105, 110, 110, 101, 114], .str [108, 101, 97, 118, 101], .str [114, 101, 115, 116, 97, 114, 116], .str [115, 117, 115, 112, 101, 110, 100], .str [105, 102], .str [116, 104, 101, 110], .str [101, 108, 115, 101], .str [102, 111, 114], .str [114, 101, 112, 101, 97, 116], .str [116, 104, 105, 115], .str [110, 111, 110, 101], .str [116, 114, 117, 101], .str [102, 97, 108, 115, 101], .str [110, 111, 116], .str [97, 110, 100], .str [111, 114], .str [100, 105, 118], .str [109, 111, 100], .str [114, 97, 110, 103, 101], .str [102, 111, 114, 107], .str [112, 97, 117, 115, 101], .str [119, 97, 105, 116], .str [115, 105, 103, 110, 97, 108], .str [115, 108, 111, 116], .str [97, 116, 116, 114, 105, 98, 117, 116, 101, 115], .str [100, 111, 112, 97, 114, 116], .str [100, 101, 115, 99, 114, 105, 112, 116, 111, 114], .str [111, 114, 105, 103, 105, 110], .str [105, 110, 99, 108, 117, 100, 101], .str [98, 111, 100, 121]]
noncomputable def signsA : List AV := [.str [40, 35], .str [35, 41], .str [40], .str [41], .str [91], .str [93], .str [91, 93], .str [58], .str [58, 60], .str [58, 58, 60], .str [58, 58], .str [64], .str [64, 124], .str [94], .str [94, 124], .str [35, 35], .str [44], .str [59], .str [46], .str [45, 62], .str [47, 47], .str [38], .str [43], .str [45], .str [42], .str [47], .str [124, 124], .str [61], .str [60, 62], .str [60], .str [60, 61], .str [62], .str [62, 61], .str [60, 60], .str [62, 62]]
theorem gEnv_ground : ∀ g cs, gEnv g = some cs → cs.all AV.ground = true := fun g cs h => by
  rw [(gOne_some h).2]
  kernel_rfl
theorem words_answer : Answers Tryz.prog gEnv 132 (.sl .dead wordsA) :=
  answers_of_runSl (n := 2000) fTab_ok OrcAll.none gEnv_ground (by kernel_rfl)
theorem signs_answer : Answers Tryz.prog gEnv 133 (.sl .dead signsA) :=
  answers_of_runSl (n := 2000) fTab_ok OrcAll.none gEnv_ground (by kernel_rfl)
noncomputable def orc1 : Orc := addOrc 132 (.sl .dead wordsA) (addOrc 133 (.sl .dead signsA) fun _ => none)
theorem orc1_ok : OrcAll Tryz.prog gEnv orc1 := (OrcAll.none.add signs_answer).add words_answer
end Go.Proofs.YtobfakjhhpbdmaaGreatDoor
