/-
  THE TABLE IS THE PROGRAM's.
-/
import Derived.Test.YtobfakjhhpbdmaaGreatDoorKa
import Derived.Test.YtobfakjhhpbdmaaGreatDoorKb
import Derived.Test.YtobfakjhhpbdmaaGreatDoorKc
import Derived.Test.YtobfakjhhpbdmaaGreatDoorKd
import Derived.Test.YtobfakjhhpbdmaaGreatDoorKe
import Derived.Test.YtobfakjhhpbdmaaGreatDoorKf
import Derived.Test.YtobfakjhhpbdmaaGreatDoorTab
namespace Go.Proofs.YtobfakjhhpbdmaaGreatDoor
open Go Go.Am
theorem fTab_ok : FnsOK Tryz.prog gEnv fTab.get := FnsOK.of_table (show FT.All (FnOK Tryz.prog gEnv) fTab from ⟨ok67, ⟨ok38, ⟨ok17, ⟨ok10, ⟨ok6, ⟨ok4, ⟨ok3, trivial, trivial⟩, ⟨ok5, trivial, trivial⟩⟩, ⟨ok8, ⟨ok7, trivial, trivial⟩, ⟨ok9, trivial, trivial⟩⟩⟩, ⟨ok14, ⟨ok12, ⟨ok11, trivial, trivial⟩, ⟨ok13, trivial, trivial⟩⟩, ⟨ok16, ⟨ok15, trivial, trivial⟩, trivial⟩⟩⟩, ⟨ok29, ⟨ok25, ⟨ok23, ⟨ok18, trivial, trivial⟩, ⟨ok24, trivial, trivial⟩⟩, ⟨ok27, ⟨ok26, trivial, trivial⟩, ⟨ok28, trivial, trivial⟩⟩⟩, ⟨ok33, ⟨ok31, ⟨ok30, trivial, trivial⟩, ⟨ok32, trivial, trivial⟩⟩, ⟨ok37, ⟨ok35, trivial, trivial⟩, trivial⟩⟩⟩⟩, ⟨ok53, ⟨ok46, ⟨ok42, ⟨ok40, ⟨ok39, trivial, trivial⟩, ⟨ok41, trivial, trivial⟩⟩, ⟨ok44, ⟨ok43, trivial, trivial⟩, ⟨ok45, trivial, trivial⟩⟩⟩, ⟨ok50, ⟨ok48, ⟨ok47, trivial, trivial⟩, ⟨ok49, trivial, trivial⟩⟩, ⟨ok52, ⟨ok51, trivial, trivial⟩, trivial⟩⟩⟩, ⟨ok60, ⟨ok57, ⟨ok55, ⟨ok54, trivial, trivial⟩, ⟨ok56, trivial, trivial⟩⟩, ⟨ok59, ⟨ok58, trivial, trivial⟩, trivial⟩⟩, ⟨ok64, ⟨ok62, ⟨ok61, trivial, trivial⟩, ⟨ok63, trivial, trivial⟩⟩, ⟨ok66, ⟨ok65, trivial, trivial⟩, trivial⟩⟩⟩⟩⟩, ⟨ok102, ⟨ok84, ⟨ok75, ⟨ok71, ⟨ok69, ⟨ok68, trivial, trivial⟩, ⟨ok70, trivial, trivial⟩⟩, ⟨ok73, ⟨ok72, trivial, trivial⟩, ⟨ok74, trivial, trivial⟩⟩⟩, ⟨ok81, ⟨ok77, ⟨ok76, trivial, trivial⟩, ⟨ok80, trivial, trivial⟩⟩, ⟨ok83, ⟨ok82, trivial, trivial⟩, trivial⟩⟩⟩, ⟨ok95, ⟨ok91, ⟨ok86, ⟨ok85, trivial, trivial⟩, ⟨ok90, trivial, trivial⟩⟩, ⟨ok93, ⟨ok92, trivial, trivial⟩, trivial⟩⟩, ⟨ok99, ⟨ok97, ⟨ok96, trivial, trivial⟩, ⟨ok98, trivial, trivial⟩⟩, ⟨ok101, ⟨ok100, trivial, trivial⟩, trivial⟩⟩⟩⟩, ⟨ok127, ⟨ok119, ⟨ok109, ⟨ok107, ⟨ok103, trivial, trivial⟩, ⟨ok108, trivial, trivial⟩⟩, ⟨ok112, ⟨ok110, trivial, trivial⟩, ⟨ok113, trivial, trivial⟩⟩⟩, ⟨ok124, ⟨ok121, ⟨ok120, trivial, trivial⟩, ⟨ok122, trivial, trivial⟩⟩, ⟨ok126, ⟨ok125, trivial, trivial⟩, trivial⟩⟩⟩, ⟨ok138, ⟨ok131, ⟨ok129, ⟨ok128, trivial, trivial⟩, ⟨ok130, trivial, trivial⟩⟩, ⟨ok133, ⟨ok132, trivial, trivial⟩, trivial⟩⟩, ⟨ok143, ⟨ok140, ⟨ok139, trivial, trivial⟩, ⟨ok141, trivial, trivial⟩⟩, ⟨ok154, ⟨ok144, trivial, trivial⟩, trivial⟩⟩⟩⟩⟩⟩)
end Go.Proofs.YtobfakjhhpbdmaaGreatDoor
