/-
  THESE FUNCTIONS ARE THE PROGRAM's.
-/
import Derived.Test.YtobfakjhhpbdmaaGreatDoorFf
import Derived.Test.YtobfakjhhpbdmaaGreatDoorChecked
import Derived.KernelRfl
namespace Go.Proofs.YtobfakjhhpbdmaaGreatDoor
open Go Go.Am
theorem ok144 : FnOK Tryz.prog gEnv 144 a144 := ⟨_, kpOf [(0, [0, 1, 2, 3, 8]), (1, [8])], Tryz.func144, by kernel_rfl, Tryz.call144⟩
theorem ok154 : FnOK Tryz.prog gEnv 154 a154 := ⟨_, kpOf [(0, [0]), (1, [0, 3]), (2, [0, 3, 4]), (3, [0, 3, 4, 5]), (4, [0, 3, 4, 5, 6]), (5, [0, 3, 4, 5, 6, 16]), (6, [0, 3, 4, 5, 6]), (7, [0, 3, 4, 5, 6, 7]), (8, [0, 3, 4, 5, 6, 7]), (9, [0, 3, 4, 5, 6, 8]), (10, [0, 3, 5, 6, 8]), (11, [0, 3, 4, 5, 6]), (12, [0, 3, 37]), (13, [2]), (14, [0, 9]), (15, [0, 9, 10]), (16, [0, 9, 10]), (17, [0, 9, 10, 12]), (18, [0, 9, 10, 12, 53]), (19, [0, 9, 10, 12]), (20, [0, 9, 10, 11, 12]), (21, [0, 9, 10, 11, 12, 60]), (22, [0, 9, 10, 11, 12, 66]), (23, [0, 9, 10, 11, 12]), (24, [0, 9, 10, 12]), (25, [0, 9, 10, 12]), (26, [0, 9, 10, 12]), (27, [0, 9, 10, 12, 91]), (28, [0, 9, 10, 12]), (29, [0, 9, 10, 11, 12]), (30, [0, 9, 10, 11, 98]), (31, [9]), (32, [2])], Tryz.func154, by kernel_rfl, Tryz.call154⟩
end Go.Proofs.YtobfakjhhpbdmaaGreatDoor
