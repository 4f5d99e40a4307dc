/- Parts of a proof. -/
import Derived.Test.YtfpohljcapcliaaGreatDoorT
set_option linter.all false
noncomputable section
namespace Go.Am
theorem Hv {P:Program} {genv:Nat→Option (List AV)} {fns:Go.Am.F} (hF:uY P genv fns) {orc:Orc} (hO:qR P genv orc) (hG:∀g cs,genv g=some cs→cs.all AV.ground=true) {n:Nat} {f:FuncId} {args:List AV} {v:AV} {h' :aD}
  (he:eval fns orc n (.call f args .plain aD.empty)= .ok (.call (.ret v) .plain h')) (hga:args.all AV.ground=true) (hg:v.ground=true)
  {B:Nat} {w₀:World} {h:aD} {m:Mem} {w:World} (ks:List Frame) {jY :Array Value} (ha:LR m args jY.toList) (W:WR P genv B w₀ h m w):
  (callFunc f jY).run P w= .ok (.enter f jY) w∧Leaves P genv B w₀ f .normal ks h m (lone (Frame.enter P f jY .normal) ks w) (.ret v) .plain h:=by
 obtain ⟨x,rc',h1,hx,hcf,m',w',cs',fr,q1,q2,q3,q4,q5,q6,q7,q8,q9⟩:=CG (B:=w.heap.size) (w₀:=w) hF (hO _ _) n _ _ he jY m.none w .normal ks ks (ha.ground hga) (W.empty hG) (.plain rfl)
 cases hx
 refine ⟨hcf, ?_⟩
 obtain ⟨zT,fn,v',hfn,BM,hv⟩:=q6
 cases q7 with
 |plain _=>
  obtain ⟨W',E'⟩:=W.Tm q8.below
  exact ⟨_,w',ks,fr,q1,q2,q3,q4,q5,⟨zT,fn,_,hfn,BM,hv.ground hg⟩,.plain rfl,W',E'⟩
def inL (s:List UInt8) (l:List (List UInt8)):Bool:=List.rec false (fun p _ ih=>Bool.rec ih true (jI p s)) l
theorem Ve {s:List UInt8}:∀{l:List (List UInt8)},inL s l=true→s∈l:=by
 intro l
 induction l with
 |nil=>intro h;cases h
 |cons p l ih=>
  intro h
  have e:inL s (p::l)=Bool.rec (inL s l) true (jI p s):=rfl
  rw [e] at h
  cases hb:jI p s with
  |true=>rw [jV] at hb;simp at hb;simp [hb]
  |false=>rw [hb] at h;exact List.mem_cons_of_mem _ (ih h)
def nmG (l:List (List UInt8)) (args:List AV):Option AV:=match args with
 |[.str s]=>match inL s l with
  |true=>some (.bool true)
  |false=>none
 |_=>none
theorem M1 {P:Program} {genv:Nat→Option (List AV)} {fns:Go.Am.F} (hF:uY P genv fns) {orc:Orc} (hO:qR P genv orc) (hG:∀g cs,genv g=some cs→cs.all AV.ground=true) {n:Nat} {f:FuncId} {l:List (List UInt8)}
  (h:l.all (fun s=>Gb F6 (eval fns orc n (.call f [.str s] .plain aD.empty)))=true):HG P genv f (nmG l):=by
 intro args v hv B w₀ hp m w cs jY ha W
 unfold nmG at hv
 split at hv
 ·rename_i s
  split at hv
  ·rename_i hs
   cases hv
   obtain ⟨v,h',he,hv⟩:=Ho (List.all_eq_true.1 h s (Ve hs))
   cases GU hv
   exact Hv hF hO hG he rfl rfl cs ha W
  ·cases hv
 ·cases hv
end Go.Am
namespace Go.Proofs.YtfpohljcapcliaaGreatDoor
open Go Go.Am Go.Ly
def nmL:List (List UInt8):=[[80],[81],[86],[120],[121],[122],[119],[113],[105,110,116,101,103,101,114]]
theorem Jk:HG Tryz.prog yO 139 (nmG nmL):=M1 (n:=2000) CX Jf xO (by kernel_rfl)
def orcS:Orc:=nH 139 (nmG nmL) Wt
theorem UO:qR Tryz.prog yO orcS:=Jf.addF Jk
end Go.Proofs.YtfpohljcapcliaaGreatDoor
namespace Go.Proofs.YtfpohljcapcliaaGreatDoor
open Go Go.Am Go.Ly
theorem HM:As Tryz.prog yO 6 (.bool true):=
 JZ (n:=5000) CX UO xO (by kernel_rfl)
def MR:Orc:=Hy 6 (.bool true) Wt
theorem Ox:qR Tryz.prog yO MR:=Jf.add HM
end Go.Proofs.YtfpohljcapcliaaGreatDoor
end
