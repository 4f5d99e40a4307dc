/-
  THESE FUNCTIONS ARE THE PROGRAM's.
-/
import Derived.Test.YtobfakjhhpbdmaaGreatDoorFe
import Derived.Test.YtobfakjhhpbdmaaGreatDoorChecked
import Derived.KernelRfl
namespace Go.Proofs.YtobfakjhhpbdmaaGreatDoor
open Go Go.Am
theorem ok99 : FnOK Tryz.prog gEnv 99 a99 := ⟨_, kpOf [(0, [2, 3]), (1, [4])], Tryz.func99, by kernel_rfl, Tryz.call99⟩
theorem ok100 : FnOK Tryz.prog gEnv 100 a100 := ⟨_, kpOf [(0, [0]), (1, [1])], Tryz.func100, by kernel_rfl, Tryz.call100⟩
theorem ok101 : FnOK Tryz.prog gEnv 101 a101 := ⟨_, kpOf [(0, [1]), (1, [1, 5]), (2, [2]), (3, [2])], Tryz.func101, by kernel_rfl, Tryz.call101⟩
theorem ok102 : FnOK Tryz.prog gEnv 102 a102 := ⟨_, kpOf [(0, [0]), (1, [1])], Tryz.func102, by kernel_rfl, Tryz.call102⟩
theorem ok103 : FnOK Tryz.prog gEnv 103 a103 := ⟨_, kpOf [(0, [1]), (1, [1, 9]), (2, [2]), (3, [1, 11, 12, 13]), (4, [1, 11, 12, 13, 14]), (5, [1, 4, 11, 12, 13]), (6, [1, 11, 12, 13, 19]), (7, [2]), (8, [1, 11, 12, 13]), (9, [1, 5]), (10, [1, 5, 26]), (11, [1, 5, 26, 27]), (12, [2]), (13, [1, 5, 26, 42]), (14, [1, 5, 26, 42]), (15, [1, 5, 26, 42]), (16, [1, 5, 26, 42]), (17, [2]), (18, [1, 5, 26, 52]), (19, [2]), (20, [1, 5, 26, 62]), (21, [2]), (22, [1, 5, 26, 79]), (23, [1, 5, 26, 79]), (24, [2]), (25, [1, 5, 94]), (26, [2]), (27, [2])], Tryz.func103, by kernel_rfl, Tryz.call103⟩
theorem ok107 : FnOK Tryz.prog gEnv 107 a107 := ⟨_, kpOf [(0, [0, 2, 6, 7, 8]), (1, [0, 2, 6, 7, 8, 9]), (2, [0, 2, 5, 6, 7, 8]), (3, [0, 2, 6, 7, 8, 17]), (4, [0, 2, 6, 7, 8])], Tryz.func107, by kernel_rfl, Tryz.call107⟩
theorem ok108 : FnOK Tryz.prog gEnv 108 a108 := ⟨_, kpOf [(0, [0, 2, 6, 7, 8]), (1, [0, 2, 6, 7, 8, 9]), (2, [0, 2, 5, 6, 7, 8]), (3, [0, 2, 6, 7, 8, 17]), (4, [0, 2, 6, 7, 8])], Tryz.func108, by kernel_rfl, Tryz.call108⟩
theorem ok109 : FnOK Tryz.prog gEnv 109 a109 := ⟨_, kpOf [(0, [0, 2, 6, 7, 8]), (1, [0, 2, 6, 7, 8, 9]), (2, [0, 2, 5, 6, 7, 8]), (3, [0, 2, 6, 7, 8, 17]), (4, [0, 2, 6, 7, 8])], Tryz.func109, by kernel_rfl, Tryz.call109⟩
theorem ok110 : FnOK Tryz.prog gEnv 110 a110 := ⟨_, kpOf [(0, [0, 2, 6, 7, 8]), (1, [0, 2, 6, 7, 8, 9]), (2, [0, 2, 5, 6, 7, 8]), (3, [0, 2, 6, 7, 8, 17]), (4, [0, 2, 6, 7, 8])], Tryz.func110, by kernel_rfl, Tryz.call110⟩
theorem ok112 : FnOK Tryz.prog gEnv 112 a112 := ⟨_, kpOf [(0, [2, 3, 4, 5, 6, 7, 24]), (1, [2, 3, 4, 5, 6, 7, 24]), (2, [2, 4, 5, 6, 7, 24]), (3, [4, 5, 6, 7, 21, 24]), (4, [7]), (5, [4, 6, 7, 23, 24]), (6, [4, 6, 7, 8]), (7, [7, 30]), (8, [7]), (9, [7])], Tryz.func112, by kernel_rfl, Tryz.call112⟩
theorem ok113 : FnOK Tryz.prog gEnv 113 a113 := ⟨_, kpOf [(0, [1]), (1, [1, 5]), (2, [2]), (3, [2])], Tryz.func113, by kernel_rfl, Tryz.call113⟩
theorem ok119 : FnOK Tryz.prog gEnv 119 a119 := ⟨_, kpOf [(0, [0]), (1, [0, 3, 4]), (2, [2])], Tryz.func119, by kernel_rfl, Tryz.call119⟩
theorem ok120 : FnOK Tryz.prog gEnv 120 a120 := ⟨_, kpOf [(0, [1, 2]), (1, [1, 2, 6]), (2, [1, 2, 6, 7]), (3, [1, 2, 6, 7]), (4, [4]), (5, [1, 2, 6, 10]), (6, [4]), (7, [1, 2, 24]), (8, [4]), (9, [4])], Tryz.func120, by kernel_rfl, Tryz.call120⟩
theorem ok121 : FnOK Tryz.prog gEnv 121 a121 := ⟨_, kpOf [(0, [1]), (1, [2])], Tryz.func121, by kernel_rfl, Tryz.call121⟩
theorem ok122 : FnOK Tryz.prog gEnv 122 a122 := ⟨_, kpOf [(0, [0]), (1, [2])], Tryz.func122, by kernel_rfl, Tryz.call122⟩
theorem ok124 : FnOK Tryz.prog gEnv 124 a124 := ⟨_, kpOf [(0, [0, 2, 3, 4, 9]), (1, [0, 2, 3, 4, 9]), (2, [0, 2, 3, 4, 9]), (3, [2, 3, 4, 8, 9]), (4, [2, 3, 4, 5]), (5, [2, 3, 4, 5, 13]), (6, [2, 3, 4]), (7, [2, 3, 4])], Tryz.func124, by kernel_rfl, Tryz.call124⟩
theorem ok125 : FnOK Tryz.prog gEnv 125 a125 := ⟨_, kpOf [(0, [1, 3]), (1, [])], Tryz.func125, by kernel_rfl, Tryz.call125⟩
theorem ok126 : FnOK Tryz.prog gEnv 126 a126 := ⟨_, kpOf [(0, [0, 1, 7]), (1, [6]), (2, []), (3, [0, 1, 7, 9]), (4, []), (5, [0, 1, 7, 11, 12]), (6, [0, 1, 5]), (7, [])], Tryz.func126, by kernel_rfl, Tryz.call126⟩
theorem ok127 : FnOK Tryz.prog gEnv 127 a127 := ⟨_, kpOf [(0, [0]), (1, [0, 5]), (2, [0]), (3, [2])], Tryz.func127, by kernel_rfl, Tryz.call127⟩
theorem ok128 : FnOK Tryz.prog gEnv 128 a128 := ⟨_, kpOf [(0, [3, 4, 5]), (1, [6])], Tryz.func128, by kernel_rfl, Tryz.call128⟩
theorem ok129 : FnOK Tryz.prog gEnv 129 a129 := ⟨_, kpOf [(0, [0, 1, 2, 3, 5]), (1, [0, 1, 2, 3, 5, 6]), (2, [0, 1, 2, 3, 5, 6, 14]), (3, [0, 1, 2, 3, 5, 6, 7]), (4, [0, 1, 2, 3, 5, 6, 7, 20]), (5, [0, 1, 2, 3, 5, 6]), (6, [0, 1, 2, 3, 5, 6, 7, 8]), (7, [0, 1, 2, 3, 5, 6, 7, 8]), (8, [0, 1, 2, 3, 5, 6, 8, 9]), (9, [0, 1, 2, 3, 5, 6, 8, 51]), (10, [0, 1, 2, 3, 5, 8]), (11, [0, 1, 2, 3, 5, 6, 8, 61]), (12, []), (13, [0, 1, 2, 3, 5, 6, 8, 71]), (14, [0, 1, 2, 3, 5, 8]), (15, [0, 1, 2, 3, 5, 8, 83]), (16, [0, 1, 2, 3, 5, 8]), (17, [0, 1, 2, 3, 5, 8, 89]), (18, [0, 1, 2, 3, 5, 6])], Tryz.func129, by kernel_rfl, Tryz.call129⟩
theorem ok130 : FnOK Tryz.prog gEnv 130 a130 := ⟨_, kpOf [(0, []), (1, [1, 2]), (2, [1, 2, 3]), (3, [0])], Tryz.func130, by kernel_rfl, Tryz.call130⟩
theorem ok131 : FnOK Tryz.prog gEnv 131 a131 := ⟨_, kpOf [(0, [0]), (1, [0, 3]), (2, [0, 3, 6]), (3, [2]), (4, [0, 3, 13]), (5, [2]), (6, [0, 3, 16]), (7, [2]), (8, [0, 3, 19]), (9, [2]), (10, [0, 26]), (11, [2]), (12, [30]), (13, [30, 31]), (14, [30, 31]), (15, [30, 31]), (16, [35]), (17, [2]), (18, [2])], Tryz.func131, by kernel_rfl, Tryz.call131⟩
theorem ok132 : FnOK Tryz.prog gEnv 132 a132 := ⟨_, kpOf [(0, []), (1, [0])], Tryz.func132, by kernel_rfl, Tryz.call132⟩
theorem ok133 : FnOK Tryz.prog gEnv 133 a133 := ⟨_, kpOf [(0, []), (1, [0])], Tryz.func133, by kernel_rfl, Tryz.call133⟩
theorem ok138 : FnOK Tryz.prog gEnv 138 a138 := ⟨_, kpOf [(0, [0, 1, 3]), (1, [0, 1, 3, 4]), (2, [0, 3, 4, 7]), (3, [3]), (4, [0, 3, 4, 20]), (5, [3]), (6, [3])], Tryz.func138, by kernel_rfl, Tryz.call138⟩
theorem ok139 : FnOK Tryz.prog gEnv 139 a139 := ⟨_, kpOf [(0, [0, 1]), (1, [0, 1, 5]), (2, [0, 1, 5, 16]), (3, [0, 1, 5]), (4, [4])], Tryz.func139, by kernel_rfl, Tryz.call139⟩
theorem ok140 : FnOK Tryz.prog gEnv 140 a140 := ⟨_, kpOf [(0, [0]), (1, [2])], Tryz.func140, by kernel_rfl, Tryz.call140⟩
theorem ok141 : FnOK Tryz.prog gEnv 141 a141 := ⟨_, kpOf [(0, [0]), (1, [2])], Tryz.func141, by kernel_rfl, Tryz.call141⟩
theorem ok143 : FnOK Tryz.prog gEnv 143 a143 := ⟨_, kpOf [(0, [0, 1]), (1, [4])], Tryz.func143, by kernel_rfl, Tryz.call143⟩
end Go.Proofs.YtobfakjhhpbdmaaGreatDoor
