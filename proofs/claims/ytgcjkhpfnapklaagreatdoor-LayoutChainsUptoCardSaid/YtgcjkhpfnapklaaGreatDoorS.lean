/- Parts of a proof. -/
import Derived.Test.YtgcjkhpfnapklaaGreatDoorT
set_option linter.all false
noncomputable section
namespace Go.Am
theorem GL {P:Program} {genv:Nat→Option (List AV)} {fns:Go.Am.F} (hF:vH P genv fns) {orc:Orc} (hO:rU P genv orc) (hG:∀g cs,genv g=some cs→cs.all AV.ground=true) {n:Nat} {f:FuncId} {args:List AV} {v:AV} {h' :aD}
  (he:eval fns orc n (.call f args .plain aD.empty)= .ok (.call (.ret v) .plain h')) (hga:args.all AV.ground=true) (hg:v.ground=true)
  {B:Nat} {w₀:World} {h:aD} {m:Mem} {w:World} (ks:List Frame) {kY :Array Value} (ha:LR m args kY.toList) (W:WR P genv B w₀ h m w):
  (callFunc f kY).run P w= .ok (.enter f kY) w∧Leaves P genv B w₀ f .normal ks h m (lone (Frame.enter P f kY .normal) ks w) (.ret v) .plain h:=by
 obtain ⟨x,rc',h1,hx,hcf,m',w',cs',fr,q1,q2,q3,q4,q5,q6,q7,q8,q9⟩:=Ca (B:=w.heap.size) (w₀:=w) hF (hO _ _) n _ _ he kY m.none w .normal ks ks (ha.ground hga) (W.empty hG) (.plain rfl)
 cases hx
 refine ⟨hcf, ?_⟩
 obtain ⟨yO,fn,v',hfn,Bm,hv⟩:=q6
 cases q7 with
 |plain _=>
  obtain ⟨W',E'⟩:=W.Rm q8.below
  exact ⟨_,w',ks,fr,q1,q2,q3,q4,q5,⟨yO,fn,_,hfn,Bm,hv.ground hg⟩,.plain rfl,W',E'⟩
def inL (s:List UInt8) (l:List (List UInt8)):Bool:=List.rec false (fun p _ ih=>Bool.rec ih true (kT p s)) l
theorem Tj {s:List UInt8}:∀{l:List (List UInt8)},inL s l=true→s∈l:=by
 intro l
 induction l with
 |nil=>intro h;cases h
 |cons p l ih=>
  intro h
  have e:inL s (p::l)=Bool.rec (inL s l) true (kT p s):=rfl
  rw [e] at h
  cases hb:kT p s with
  |true=>rw [lH] at hb;simp at hb;simp [hb]
  |false=>rw [hb] at h;exact List.mem_cons_of_mem _ (ih h)
def nmG (l:List (List UInt8)) (args:List AV):Option AV:=match args with
 |[.str s]=>match inL s l with
  |true=>some (.bool true)
  |false=>none
 |_=>none
theorem LS {P:Program} {genv:Nat→Option (List AV)} {fns:Go.Am.F} (hF:vH P genv fns) {orc:Orc} (hO:rU P genv orc) (hG:∀g cs,genv g=some cs→cs.all AV.ground=true) {n:Nat} {f:FuncId} {l:List (List UInt8)}
  (h:l.all (fun s=>Fv Fk (eval fns orc n (.call f [.str s] .plain aD.empty)))=true):GW P genv f (nmG l):=by
 intro args v hv B w₀ hp m w cs kY ha W
 unfold nmG at hv
 split at hv
 ·rename_i s
  split at hv
  ·rename_i hs
   cases hv
   obtain ⟨v,h',he,hv⟩:=GD (List.all_eq_true.1 h s (Tj hs))
   cases F8 hv
   exact GL hF hO hG he rfl rfl cs ha W
  ·cases hv
 ·cases hv
end Go.Am
namespace Go.Proofs.YtgcjkhpfnapklaaGreatDoor
open Go Go.Am Go.Ly
def nmL:List (List UInt8):=[[80],[81],[86],[120],[121],[122],[119],[113],[105,110,116,101,103,101,114]]
theorem Io:GW Tryz.prog AJ 130 (nmG nmL):=LS (n:=2000) DU Ii yP (by kernel_rfl)
def orcS:Orc:=sZ 130 (nmG nmL) UJ
theorem SB:rU Tryz.prog AJ orcS:=Ii.addF Io
end Go.Proofs.YtgcjkhpfnapklaaGreatDoor
namespace Go.Proofs.YtgcjkhpfnapklaaGreatDoor
open Go Go.Am Go.Ly
theorem G1:zM Tryz.prog AJ 5 (.bool true):=
 I8 (n:=5000) DU SB yP (by kernel_rfl)
def SD:Orc:=GP 5 (.bool true) UJ
theorem SC:rU Tryz.prog AJ SD:=Ii.add G1
end Go.Proofs.YtgcjkhpfnapklaaGreatDoor
end
