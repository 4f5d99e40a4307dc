/-
  THESE FUNCTIONS ARE THE PROGRAM's.
-/
import Derived.Test.YtobfakjhhpbdmaaGreatDoorFd
import Derived.Test.YtobfakjhhpbdmaaGreatDoorChecked
import Derived.KernelRfl
namespace Go.Proofs.YtobfakjhhpbdmaaGreatDoor
open Go Go.Am
theorem ok61 : FnOK Tryz.prog gEnv 61 a61 := ⟨_, kpOf [(0, [1]), (1, [2])], Tryz.func61, by kernel_rfl, Tryz.call61⟩
theorem ok62 : FnOK Tryz.prog gEnv 62 a62 := ⟨_, kpOf [(0, [1]), (1, [1, 3]), (2, [2]), (3, [7]), (4, [2]), (5, [2])], Tryz.func62, by kernel_rfl, Tryz.call62⟩
theorem ok63 : FnOK Tryz.prog gEnv 63 a63 := ⟨_, kpOf [(0, [2, 3, 4]), (1, [2, 3, 4, 5]), (2, [2, 4, 6]), (3, [2, 4, 6, 7]), (4, [2, 4, 6, 7, 8]), (5, [2, 4, 6, 7, 8, 9]), (6, [2, 4, 6, 7, 8, 9, 18]), (7, [2, 4, 6, 7, 8, 9, 18, 19]), (8, [2, 4, 6, 7, 8, 10]), (9, [2, 4, 6, 7, 8, 10]), (10, [2, 4, 7, 8, 10]), (11, [2, 4, 7, 8, 10]), (12, [2, 4, 7, 10]), (13, [2, 4]), (14, [2, 4, 6, 7, 8, 9, 18, 67]), (15, [2, 4, 7, 9, 11]), (16, [2, 4, 7, 9, 11]), (17, [2, 4, 7, 9, 11]), (18, [2, 4, 9, 11]), (19, [2, 4]), (20, [2, 4, 6, 7, 8, 9, 18, 105]), (21, [2, 4, 6, 7, 8, 12]), (22, [2, 4, 6, 8, 12]), (23, [2, 4, 8, 12]), (24, [2, 4]), (25, [2, 4, 7, 8, 9, 18, 135]), (26, [2, 4, 8]), (27, [2, 4]), (28, [2, 4, 7, 9, 151]), (29, [2, 4, 9]), (30, [2, 4]), (31, [4])], Tryz.func63, by kernel_rfl, Tryz.call63⟩
theorem ok64 : FnOK Tryz.prog gEnv 64 a64 := ⟨_, kpOf [(0, [3, 4]), (1, [4])], Tryz.func64, by kernel_rfl, Tryz.call64⟩
theorem ok65 : FnOK Tryz.prog gEnv 65 a65 := ⟨_, kpOf [(0, [1, 2]), (1, [1, 2, 3]), (2, [1, 3]), (3, [])], Tryz.func65, by kernel_rfl, Tryz.call65⟩
theorem ok66 : FnOK Tryz.prog gEnv 66 a66 := ⟨_, kpOf [(0, [2, 3, 4, 5, 6, 17]), (1, [3, 4, 5, 6, 14, 17]), (2, [6]), (3, [3, 4, 5, 6, 7, 17]), (4, [3, 4, 6, 7, 16, 17]), (5, [3, 4, 6, 7, 8]), (6, [6, 7, 26]), (7, [6]), (8, []), (9, [6])], Tryz.func66, by kernel_rfl, Tryz.call66⟩
theorem ok67 : FnOK Tryz.prog gEnv 67 a67 := ⟨_, kpOf [(0, [1]), (1, [1, 3]), (2, [1, 3, 6]), (3, [1, 3, 6, 7]), (4, [3, 4]), (5, [3]), (6, [1, 3, 6, 27]), (7, [3]), (8, [1, 3, 6, 42]), (9, [3]), (10, [1, 3, 6, 57]), (11, [3]), (12, [1, 3, 68]), (13, [3]), (14, [2])], Tryz.func67, by kernel_rfl, Tryz.call67⟩
theorem ok68 : FnOK Tryz.prog gEnv 68 a68 := ⟨_, kpOf [(0, [0]), (1, [2])], Tryz.func68, by kernel_rfl, Tryz.call68⟩
theorem ok69 : FnOK Tryz.prog gEnv 69 a69 := ⟨_, kpOf [(0, [1]), (1, [5]), (2, [2])], Tryz.func69, by kernel_rfl, Tryz.call69⟩
theorem ok70 : FnOK Tryz.prog gEnv 70 a70 := ⟨_, kpOf [(0, [1, 2, 20]), (1, [1, 2, 3, 20]), (2, [1, 2, 17, 20]), (3, [2]), (4, [2, 19, 20]), (5, [2, 4]), (6, [2, 23]), (7, [2]), (8, [2])], Tryz.func70, by kernel_rfl, Tryz.call70⟩
theorem ok71 : FnOK Tryz.prog gEnv 71 a71 := ⟨_, kpOf [(0, [1, 2, 3, 4]), (1, [1, 2, 3, 4]), (2, [4])], Tryz.func71, by kernel_rfl, Tryz.call71⟩
theorem ok72 : FnOK Tryz.prog gEnv 72 a72 := ⟨_, kpOf [(0, [0, 1]), (1, [3])], Tryz.func72, by kernel_rfl, Tryz.call72⟩
theorem ok73 : FnOK Tryz.prog gEnv 73 a73 := ⟨_, kpOf [(0, [0, 1]), (1, [0, 1, 5]), (2, [1, 5, 8, 9, 10]), (3, [1, 5, 8, 9, 10, 11]), (4, [1, 5, 7, 8, 9, 10]), (5, [1, 5, 8, 9, 10]), (6, [1, 5, 8, 9, 10]), (7, [4])], Tryz.func73, by kernel_rfl, Tryz.call73⟩
theorem ok74 : FnOK Tryz.prog gEnv 74 a74 := ⟨_, kpOf [(0, [1, 2, 3]), (1, [3])], Tryz.func74, by kernel_rfl, Tryz.call74⟩
theorem ok75 : FnOK Tryz.prog gEnv 75 a75 := ⟨_, kpOf [(0, [1, 2]), (1, [2])], Tryz.func75, by kernel_rfl, Tryz.call75⟩
theorem ok76 : FnOK Tryz.prog gEnv 76 a76 := ⟨_, kpOf [(0, [0, 1]), (1, [3])], Tryz.func76, by kernel_rfl, Tryz.call76⟩
theorem ok77 : FnOK Tryz.prog gEnv 77 a77 := ⟨_, kpOf [(0, [0, 1]), (1, [0, 1, 5]), (2, [1, 5, 8, 9, 10]), (3, [1, 5, 8, 9, 10, 11]), (4, [1, 5, 7, 8, 9, 10]), (5, [1, 5, 8, 9, 10]), (6, [1, 5, 8, 9, 10]), (7, [4])], Tryz.func77, by kernel_rfl, Tryz.call77⟩
theorem ok80 : FnOK Tryz.prog gEnv 80 a80 := ⟨_, kpOf [(0, [0, 1]), (1, [3])], Tryz.func80, by kernel_rfl, Tryz.call80⟩
theorem ok81 : FnOK Tryz.prog gEnv 81 a81 := ⟨_, kpOf [(0, [0, 1]), (1, [0, 1, 5]), (2, [1, 5, 8, 9, 10]), (3, [1, 5, 8, 9, 10, 11]), (4, [1, 5, 7, 8, 9, 10]), (5, [1, 5, 8, 9, 10]), (6, [1, 5, 8, 9, 10]), (7, [4])], Tryz.func81, by kernel_rfl, Tryz.call81⟩
theorem ok82 : FnOK Tryz.prog gEnv 82 a82 := ⟨_, kpOf [(0, [1, 2, 3]), (1, [3])], Tryz.func82, by kernel_rfl, Tryz.call82⟩
theorem ok83 : FnOK Tryz.prog gEnv 83 a83 := ⟨_, kpOf [(0, [0, 1]), (1, [0, 1, 5]), (2, [1, 5, 8, 9, 10]), (3, [1, 5, 8, 9, 10, 11]), (4, [1, 5, 7, 8, 9, 10]), (5, [1, 5, 8, 9, 10]), (6, [1, 5, 8, 9, 10]), (7, [4])], Tryz.func83, by kernel_rfl, Tryz.call83⟩
theorem ok84 : FnOK Tryz.prog gEnv 84 a84 := ⟨_, kpOf [(0, [1, 2, 3]), (1, [3])], Tryz.func84, by kernel_rfl, Tryz.call84⟩
theorem ok85 : FnOK Tryz.prog gEnv 85 a85 := ⟨_, kpOf [(0, [1, 2]), (1, [2])], Tryz.func85, by kernel_rfl, Tryz.call85⟩
theorem ok86 : FnOK Tryz.prog gEnv 86 a86 := ⟨_, kpOf [(0, [0]), (1, [0, 4]), (2, [2]), (3, [2])], Tryz.func86, by kernel_rfl, Tryz.call86⟩
theorem ok90 : FnOK Tryz.prog gEnv 90 a90 := ⟨_, kpOf [(0, [2, 3]), (1, [4])], Tryz.func90, by kernel_rfl, Tryz.call90⟩
theorem ok91 : FnOK Tryz.prog gEnv 91 a91 := ⟨_, kpOf [(0, [2, 3]), (1, [4])], Tryz.func91, by kernel_rfl, Tryz.call91⟩
theorem ok92 : FnOK Tryz.prog gEnv 92 a92 := ⟨_, kpOf [(0, [2, 3]), (1, [4])], Tryz.func92, by kernel_rfl, Tryz.call92⟩
theorem ok93 : FnOK Tryz.prog gEnv 93 a93 := ⟨_, kpOf [(0, [2, 3]), (1, [4])], Tryz.func93, by kernel_rfl, Tryz.call93⟩
theorem ok95 : FnOK Tryz.prog gEnv 95 a95 := ⟨_, kpOf [(0, [1, 2, 13]), (1, [2, 6, 7, 8, 13]), (2, [2, 6, 7, 8, 9, 13]), (3, [2, 4, 6, 7, 8, 13]), (4, [2, 6, 7, 8, 12, 13]), (5, [2, 5]), (6, [17]), (7, [2, 6, 7, 8, 13])], Tryz.func95, by kernel_rfl, Tryz.call95⟩
theorem ok96 : FnOK Tryz.prog gEnv 96 a96 := ⟨_, kpOf [(0, [1, 2, 3]), (1, [1, 2, 3, 5]), (2, [1, 2, 3, 5]), (3, [2, 3, 4]), (4, [2, 3, 4])], Tryz.func96, by kernel_rfl, Tryz.call96⟩
theorem ok97 : FnOK Tryz.prog gEnv 97 a97 := ⟨_, kpOf [(0, [0]), (1, [1])], Tryz.func97, by kernel_rfl, Tryz.call97⟩
theorem ok98 : FnOK Tryz.prog gEnv 98 a98 := ⟨_, kpOf [(0, [1, 2]), (1, [1, 2, 3]), (2, [1, 2, 3, 4]), (3, [1, 2, 3, 4, 5]), (4, [1, 2, 3, 4, 5, 9]), (5, [1, 2, 3, 4, 5, 9, 10]), (6, [2, 3]), (7, [1, 2, 3, 4, 5, 9, 20]), (8, [2, 3]), (9, [1, 2, 3, 4, 5, 9, 36]), (10, [2, 3]), (11, [1, 2, 3, 4, 5, 9, 56]), (12, [2, 3]), (13, [1, 2, 3, 4, 5, 9, 66]), (14, [1, 2, 3, 4, 5, 9, 66]), (15, [1, 2, 3, 4, 5, 9, 66]), (16, [2, 3]), (17, [1, 2, 3, 4, 5, 9, 71]), (18, [1, 2, 3, 4, 5, 9, 71]), (19, [2, 3]), (20, [1, 2, 3, 4, 5, 9, 82]), (21, [1, 2, 3, 5]), (22, [2, 3]), (23, [1, 2, 3, 4, 5, 9, 103]), (24, [2, 3, 5]), (25, [2, 3]), (26, [1, 2, 3, 4, 5, 9, 115]), (27, [1, 2, 3, 4, 5, 9, 115]), (28, [1, 2, 3, 4, 5, 9, 115]), (29, [2, 3, 5]), (30, [2, 3]), (31, [1, 2, 3, 4, 5, 9, 129]), (32, [1, 2, 3, 4, 5, 9, 129]), (33, [2, 3, 5]), (34, [2, 3]), (35, [1, 2, 3, 4, 9, 148]), (36, [2, 3]), (37, [1, 2, 3, 4, 9, 159]), (38, [2, 3]), (39, [1, 2, 3, 4, 9, 170]), (40, [2, 3]), (41, [1, 2, 3, 4, 9, 174]), (42, [1, 2, 3]), (43, [2, 3]), (44, [1, 2, 3, 4, 195]), (45, [1, 2, 3]), (46, [2, 3]), (47, [2])], Tryz.func98, by kernel_rfl, Tryz.call98⟩
end Go.Proofs.YtobfakjhhpbdmaaGreatDoor
