/- LayoutCells: for every program of bulk at most 1048576 and all further arguments the law returns true and leaves its arguments, where the package-level variables hold what the text of the program lays. -/
import Derived.Test.YtfpohljcapcliaaGreatDoorQc
import Derived.Test.YtfpohljcapcliaaGreatDoorS
set_option linter.all false
noncomputable section
namespace Go.Proofs.YtfpohljcapcliaaGreatDoor
open Go Go.ChangeMaps Go.ChangeShapes Go.WideShapes Go.ChangeAt Go.RowKit Go.Am Go.Fs Go.Gn Go.Ly
theorem plain (f:FuncId) (fn:Func) (hf:Tryz.pinned.checked.prog.funcNamed "mjolner/mjolnerlaw13.LayoutCells" =some f) (hfn:Tryz.pinned.checked.prog.funcs[f]? =some fn):
  true=Tryz.pinned.checked.prog.looks []∧∀(j:Nat) t,fn.params[j]? =some t→Tryz.pinned.checked.prog.wantsStandIn t=false:=by
 obtain rfl:f=3:=Option.some.inj ((show Tryz.prog.funcNamed "mjolner/mjolnerlaw13.LayoutCells" =some 3 by kernel_rfl).symm.trans hf)|>.symm
 obtain rfl:fn=Tryz.f3:=(Option.some.inj (Tryz.func3.symm.trans hfn)).symm
 refine ⟨by kernel_rfl,fun j t ht=> ?_⟩
 rw [Tryz.params3] at ht
 have hm:t∈[26,3]:=by simpa using Array.mem_of_getElem? ht
 have zV:([26,3].all fun u=> !Tryz.prog.wantsStandIn u)=true:=by kernel_rfl
 exact (show Tryz.prog.wantsStandIn t=false by simpa using List.all_eq_true.1 zV t hm)
theorem JS (h:Rows.LayoutCellsUptoSaid):Rows.LayoutCellsUptoCardSaid:=
 Claim7.holds_tied_plain_at .later [] _ _ _ _ h (fun _ h=>by cases h) (by kernel_rfl) (fun _ h=>by cases h) layoutCellsUpto_row_tie rfl ⟨rfl,rfl⟩ (by kernel_rfl) rfl plain (by kernel_rfl)
end Go.Proofs.YtfpohljcapcliaaGreatDoor
namespace Go.Proofs.YtfpohljcapcliaaGreatDoor
open Go Go.Am Go.Ly
theorem Ns:Has Vs.get (nH 172 yI MR):=by constructor<;>kernel_rfl
theorem DH:wU (nH 172 yI MR) wsL ssL:=⟨⟨_,.dead,rfl,rfl⟩,by decide,⟨_,rfl,rfl⟩,by decide⟩
theorem IW:AN (nH 172 yI MR):=⟨_,rfl,rfl⟩
theorem card_holds:Rows.LayoutCellsUptoCardSaid:=JS (MJ CX Ox Ns DH IW)
end Go.Proofs.YtfpohljcapcliaaGreatDoor
end
