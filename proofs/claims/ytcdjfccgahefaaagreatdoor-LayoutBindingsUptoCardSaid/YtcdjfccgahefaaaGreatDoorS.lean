/- Parts of a proof. -/
import Derived.Test.YtcdjfccgahefaaaGreatDoorT
set_option linter.all false
noncomputable section
namespace Go.Am
theorem Hc {P:Program} {genv:Nat→Option (List AV)} {fns:Go.Am.F} (hF:uP P genv fns) {orc:Orc} (hO:qI P genv orc) (hG:∀g cs,genv g=some cs→cs.all AV.ground=true) {n:Nat} {f:FuncId} {args:List AV} {v:AV} {h' :aD}
  (he:eval fns orc n (.call f args .plain aD.empty)= .ok (.call (.ret v) .plain h')) (hga:args.all AV.ground=true) (hg:v.ground=true)
  {B:Nat} {w₀:World} {h:aD} {m:Mem} {w:World} (ks:List Frame) {jW :Array Value} (ha:LR m args jW.toList) (W:WR P genv B w₀ h m w):
  (callFunc f jW).run P w= .ok (.enter f jW) w∧Leaves P genv B w₀ f .normal ks h m (lone (Frame.enter P f jW .normal) ks w) (.ret v) .plain h:=by
 obtain ⟨x,rc',h1,hx,hcf,m',w',cs',fr,q1,q2,q3,q4,q5,q6,q7,q8,q9⟩:=Cr (B:=w.heap.size) (w₀:=w) hF (hO _ _) n _ _ he jW m.none w .normal ks ks (ha.ground hga) (W.empty hG) (.plain rfl)
 cases hx
 refine ⟨hcf, ?_⟩
 obtain ⟨zG,fn,v',hfn,BD,hv⟩:=q6
 cases q7 with
 |plain _=>
  obtain ⟨W',E'⟩:=W.R8 q8.below
  exact ⟨_,w',ks,fr,q1,q2,q3,q4,q5,⟨zG,fn,_,hfn,BD,hv.ground hg⟩,.plain rfl,W',E'⟩
def inL (s:List UInt8) (l:List (List UInt8)):Bool:=List.rec false (fun p _ ih=>Bool.rec ih true (jD p s)) l
theorem Ue {s:List UInt8}:∀{l:List (List UInt8)},inL s l=true→s∈l:=by
 intro l
 induction l with
 |nil=>intro h;cases h
 |cons p l ih=>
  intro h
  have e:inL s (p::l)=Bool.rec (inL s l) true (jD p s):=rfl
  rw [e] at h
  cases hb:jD p s with
  |true=>rw [jT] at hb;simp at hb;simp [hb]
  |false=>rw [hb] at h;exact List.mem_cons_of_mem _ (ih h)
def nmG (l:List (List UInt8)) (args:List AV):Option AV:=match args with
 |[.str s]=>match inL s l with
  |true=>some (.bool true)
  |false=>none
 |_=>none
theorem Mq {P:Program} {genv:Nat→Option (List AV)} {fns:Go.Am.F} (hF:uP P genv fns) {orc:Orc} (hO:qI P genv orc) (hG:∀g cs,genv g=some cs→cs.all AV.ground=true) {n:Nat} {f:FuncId} {l:List (List UInt8)}
  (h:l.all (fun s=>FO FJ (eval fns orc n (.call f [.str s] .plain aD.empty)))=true):Hl P genv f (nmG l):=by
 intro args v hv B w₀ hp m w cs jW ha W
 unfold nmG at hv
 split at hv
 ·rename_i s
  split at hv
  ·rename_i hs
   cases hv
   obtain ⟨v,h',he,hv⟩:=G6 (List.all_eq_true.1 h s (Ue hs))
   cases GA hv
   exact Hc hF hO hG he rfl rfl cs ha W
  ·cases hv
 ·cases hv
end Go.Am
namespace Go.Proofs.YtcdjfccgahefaaaGreatDoor
open Go Go.Am Go.Ly
def nmL:List (List UInt8):=[[80],[81],[86],[120],[121],[122],[119],[113],[105,110,116,101,103,101,114]]
theorem IS:Hl Tryz.prog yE 134 (nmG nmL):=Mq (n:=2000) CF IL xE (by kernel_rfl)
def orcS:Orc:=mN 134 (nmG nmL) Vp
theorem TD:qI Tryz.prog yE orcS:=IL.addF IS
end Go.Proofs.YtcdjfccgahefaaaGreatDoor
namespace Go.Proofs.YtcdjfccgahefaaaGreatDoor
open Go Go.Am Go.Ly
theorem Hq:Af Tryz.prog yE 6 (.bool true):=
 JD (n:=5000) CF TD xE (by kernel_rfl)
def Mh:Orc:=Hf 6 (.bool true) Vp
theorem NP:qI Tryz.prog yE Mh:=IL.add Hq
end Go.Proofs.YtcdjfccgahefaaaGreatDoor
end
