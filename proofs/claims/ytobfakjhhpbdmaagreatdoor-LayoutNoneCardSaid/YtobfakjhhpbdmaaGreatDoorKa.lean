/-
  THESE FUNCTIONS ARE THE PROGRAM's.
-/
import Derived.Test.YtobfakjhhpbdmaaGreatDoorFa
import Derived.Test.YtobfakjhhpbdmaaGreatDoorChecked
import Derived.KernelRfl
namespace Go.Proofs.YtobfakjhhpbdmaaGreatDoor
open Go Go.Am
theorem ok3 : FnOK Tryz.prog gEnv 3 a3 := ⟨_, kpOf [(0, [0, 1, 2]), (1, [0, 1, 2, 7]), (2, [0, 1, 2, 7, 8]), (3, [0, 1, 2, 7, 8, 30]), (4, [0, 1, 2, 7, 8]), (5, [0, 1, 2, 7, 8, 10]), (6, [0, 1, 2, 7, 8, 10, 12]), (7, [0, 1, 2, 7, 8, 10, 12, 14]), (8, [0, 1, 2, 7, 8, 10, 12, 14, 17]), (9, [0, 1, 2, 7, 8, 10, 12, 14, 17, 19]), (10, [0, 1, 2, 7, 8, 10, 12, 14, 17, 19, 21]), (11, [0, 1, 2, 7, 8, 10, 12, 14, 17, 19, 21, 23]), (12, [0, 1, 2, 7, 8, 139]), (13, [6]), (14, [6])], Tryz.func3, by kernel_rfl, Tryz.call3⟩
theorem ok4 : FnOK Tryz.prog gEnv 4 a4 := ⟨_, kpOf [(0, [0, 1, 2, 6]), (1, [0, 1, 2, 6, 9]), (2, [6, 7]), (3, [6, 7])], Tryz.func4, by kernel_rfl, Tryz.call4⟩
theorem ok5 : FnOK Tryz.prog gEnv 5 a5 := ⟨_, kpOf [(0, [0, 1, 2, 6]), (1, [0, 1, 2, 6, 9]), (2, [6, 7]), (3, [6, 7])], Tryz.func5, by kernel_rfl, Tryz.call5⟩
theorem ok6 : FnOK Tryz.prog gEnv 6 a6 := ⟨_, kpOf [(0, [0, 1, 2]), (1, [0, 1, 8, 9]), (2, [0, 1, 8, 9, 23]), (3, [6, 7]), (4, [0, 1, 10]), (5, [0, 1, 10, 11]), (6, [0, 1, 10, 11, 12]), (7, [0, 1, 10, 11, 12, 30]), (8, [0, 1, 10, 11, 12]), (9, [0, 1, 10, 11, 12, 52, 53, 54]), (10, [0, 1, 10, 11, 12, 52, 53, 54, 55]), (11, [0, 1, 10, 11, 12, 14, 52, 53, 54]), (12, [0, 1, 10, 11, 12, 52, 53, 54, 60]), (13, [0, 1, 10, 11, 12, 52, 53, 54]), (14, [0, 1, 10, 11, 12]), (15, [11, 70]), (16, [6, 7]), (17, [6, 7])], Tryz.func6, by kernel_rfl, Tryz.call6⟩
theorem ok7 : FnOK Tryz.prog gEnv 7 a7 := ⟨_, kpOf [(0, [0, 1, 2]), (1, [0, 2, 8, 9]), (2, [0, 8, 9, 23]), (3, [6, 7, 8]), (4, [0, 8, 9, 25]), (5, [6, 7, 8]), (6, [9, 10]), (7, [9, 10, 31]), (8, [6, 7, 8]), (9, [6, 7, 8])], Tryz.func7, by kernel_rfl, Tryz.call7⟩
theorem ok8 : FnOK Tryz.prog gEnv 8 a8 := ⟨_, kpOf [(0, [0, 1, 5, 6]), (1, [0, 1, 5, 6, 12]), (2, [6, 7]), (3, [0, 1, 6, 8]), (4, [0, 1, 6, 8, 24]), (5, [6, 7]), (6, [6, 7])], Tryz.func8, by kernel_rfl, Tryz.call8⟩
theorem ok9 : FnOK Tryz.prog gEnv 9 a9 := ⟨_, kpOf [(0, [0, 1, 2]), (1, [0, 1, 2, 17]), (2, [6, 7]), (3, [6, 7])], Tryz.func9, by kernel_rfl, Tryz.call9⟩
theorem ok10 : FnOK Tryz.prog gEnv 10 a10 := ⟨_, kpOf [(0, [0, 1, 2, 3]), (1, [0, 1, 2, 3, 38]), (2, [8, 9]), (3, [0, 1, 3, 10]), (4, [0, 1, 10, 41, 42]), (5, [0, 1, 10, 41, 42, 43]), (6, [0, 1, 10, 41, 42, 75]), (7, [8, 9]), (8, [0, 1, 10, 41, 42]), (9, [0, 1, 10, 41, 42]), (10, [8, 9])], Tryz.func10, by kernel_rfl, Tryz.call10⟩
theorem ok11 : FnOK Tryz.prog gEnv 11 a11 := ⟨_, kpOf [(0, [0]), (1, [0, 7]), (2, [2]), (3, [0, 3]), (4, [0, 3, 12, 13, 14]), (5, [0, 3, 12, 13, 14, 15]), (6, [0, 3, 4, 5, 12, 13, 14]), (7, [0, 3, 12, 13, 14]), (8, [0, 3, 12, 13, 14]), (9, [2])], Tryz.func11, by kernel_rfl, Tryz.call11⟩
theorem ok12 : FnOK Tryz.prog gEnv 12 a12 := ⟨_, kpOf [(0, []), (1, [1, 2]), (2, [1, 22]), (3, [0]), (4, [1, 3]), (5, [1, 77]), (6, [0]), (7, [1, 2, 4]), (8, [1, 2, 4, 5, 6]), (9, [1, 2, 4, 5, 6, 7, 8]), (10, [2, 4, 5, 6, 7, 8, 9, 10]), (11, [150]), (12, [0]), (13, [11]), (14, [2]), (15, [2, 6]), (16, [0])], Tryz.func12, by kernel_rfl, Tryz.call12⟩
theorem ok13 : FnOK Tryz.prog gEnv 13 a13 := ⟨_, kpOf [(0, [0, 1, 2, 3, 8]), (1, [0, 1, 2, 3, 8, 15]), (2, [8, 9]), (3, [0, 1, 8, 10, 11]), (4, [0, 1, 8, 10, 25]), (5, [8, 9]), (6, [8, 9])], Tryz.func13, by kernel_rfl, Tryz.call13⟩
theorem ok14 : FnOK Tryz.prog gEnv 14 a14 := ⟨_, kpOf [(0, [0, 1, 2, 6]), (1, [0, 1, 2, 6, 8]), (2, [0, 1, 2, 6, 8, 12]), (3, [0, 1, 2, 6, 8]), (4, [0, 1, 2, 6, 8, 9, 10]), (5, [0, 1, 2, 6, 8, 9, 22]), (6, [6, 9]), (7, [6, 7]), (8, [0, 1, 2, 6, 8]), (9, [6, 7])], Tryz.func14, by kernel_rfl, Tryz.call14⟩
theorem ok15 : FnOK Tryz.prog gEnv 15 a15 := ⟨_, kpOf [(0, [1, 3, 5, 6, 7, 19, 20]), (1, [3, 5, 6, 7, 18, 19, 20]), (2, [3, 5, 6, 7, 8, 20]), (3, [3, 5, 6, 7, 8, 9]), (4, [6, 7, 8, 10, 11]), (5, [6, 7, 8, 10, 33]), (6, [6, 7, 10]), (7, [6, 7]), (8, [6, 7])], Tryz.func15, by kernel_rfl, Tryz.call15⟩
theorem ok16 : FnOK Tryz.prog gEnv 16 a16 := ⟨_, kpOf [(0, [0, 3]), (1, [0, 3, 23]), (2, [4]), (3, [4])], Tryz.func16, by kernel_rfl, Tryz.call16⟩
theorem ok17 : FnOK Tryz.prog gEnv 17 a17 := ⟨_, kpOf [(0, [0, 1, 2]), (1, [0, 1, 7, 8]), (2, [0, 1, 7, 8, 9]), (3, [0, 1, 7, 8, 11]), (4, [0, 1, 7, 8]), (5, [0, 1, 7, 8]), (6, [6])], Tryz.func17, by kernel_rfl, Tryz.call17⟩
theorem ok18 : FnOK Tryz.prog gEnv 18 a18 := ⟨_, kpOf [(0, [0, 1]), (1, [4])], Tryz.func18, by kernel_rfl, Tryz.call18⟩
end Go.Proofs.YtobfakjhhpbdmaaGreatDoor
