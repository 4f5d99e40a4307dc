/- Parts of a proof. -/
import Derived.Test.YtfpohljcapcliaaGreatDoorProg
import Derived.KernelRfl
import Derived.Test.YtfpohljcapcliaaGreatDoorB
set_option linter.all false
noncomputable section
namespace Go.Ly
open Go Go.Am Go.Proofs
def N4:List AV:=(List.range 256).map fun k=> .int .u8 (if k=32∨9≤k∧k≤13 then 1 else 0)
def yO:Nat→Option (List AV):=Xf 0 N4
abbrev KE {α:Type} (e c:α) (_:e=c:=by conv=>lhs;cbv):α:=c
def KF (fn:Func) (c:AFn) (_:fnQ Tryz.prog yO (WM (kFn fn)) fn=c:=by conv=>lhs;cbv):AFn:=c
structure KS (fn:Func) where
 k:List (Nat×List Nat)
 e:kFn fn=k:=by conv=>lhs;cbv
def KG (fn:Func) (s:KS fn) (c:AFn) (_:fnQ Tryz.prog yO (WM s.k) fn=c:=by conv=>lhs;cbv):AFn:=c
theorem KO {n:Nat} {fn:Func} {c:AFn} (h:Tryz.prog.funcs[n]? =some fn) (k:∀(args:Array Value) (w:World),(callFunc n args).run Tryz.prog w= .ok (.enter n args) w) (p:Hm Tryz.prog yO (WM (kFn fn)) fn=some c:=by kernel_rfl):VJ Tryz.prog yO n c:=⟨_,_,h,p,k⟩
def _root_.Go.Am.AC.ch (i:Nat):AC→AC
 | .seq a b=>if i=0 then a else b
 | .cond _ a b=>if i=0 then a else b
 | .rf _ _ a b=>if i=0 then a else b
 | .block _ b=>b
 | .loop b=>b
 | .scope b=>b
 |c=>c
def pt (c:AC):List Nat→AC
 |[]=>c
 |i::r=>pt (c.ch i) r
end Go.Ly
end
