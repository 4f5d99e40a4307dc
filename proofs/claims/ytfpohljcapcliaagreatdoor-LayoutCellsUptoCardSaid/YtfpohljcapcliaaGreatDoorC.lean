/- Parts of a proof. -/
import Derived.Test.YtfpohljcapcliaaGreatDoorB
set_option linter.all false
noncomputable section
namespace Go.Gn
open Go Go.Am Go.Fs
theorem aQ (h:aD) (i:Nat) (o:AO) (hi:i<h.next):(h.set i o).get i=some o:=by rw [aD.uC _ _ _ _ hi,if_pos rfl]
theorem aE (h:aD) (i j:Nat) (o:AO) (hi:i<h.next) (hj:j≠i):(h.set i o).get j=h.get j:=by rw [aD.uC _ _ _ _ hi,if_neg hj]
theorem aT (h:aD) (i:Nat) (o:AO) (hi:h.next≤i) (hj:i<h.next+1):(h.push o).get i=some o:=by rw [show i=h.next by omega,aD.qI]
theorem aV (h:aD) (i:Nat) (o:AO) (hi:i<h.next):(h.push o).get i=h.get i:=aD.vD h o i hi
theorem bJ (k:IntKind) (n:Int):(AV.int k n).bX=true:=rfl
theorem cF (s:List UInt8):(AV.str s).bX=true:=rfl
theorem bK (b:Bool):(AV.bool b).bX=true:=rfl
theorem bI:AV.aC.bX=true:=rfl
theorem fA (t:Tk) (x:List AV):(AV.sl t x).bX=true:=rfl
theorem eN (h:aD) (b:Bool):oUn h .not (.bool b)= .ok (.val (.bool !b) h):=by simp [oUn,iN]
theorem dW (b:Bool):(AV.bool b).cells=[AV.bool b]:=rfl
theorem dL (b:Bool):(AV.bool b).known=true:=rfl
theorem fK (k:IntKind) (n:Int):(AV.int k n).cells=[AV.int k n]:=rfl
theorem fH (s:List UInt8):(AV.str s).cells=[AV.str s]:=rfl
theorem eT (s:List UInt8):(AV.str s).known=true:=rfl
theorem fI (i o:Nat):(AV.ptr i o).cells=[AV.ptr i o]:=rfl
theorem eU (i o:Nat):(AV.ptr i o).known=true:=rfl
theorem bY:(AV.pI).cells=[AV.pI]:=rfl
theorem bP:(AV.pI).known=true:=rfl
theorem iG (c:List AV) (o:Nat):(AV.ep c o).cells=[AV.ep c o]:=rfl
theorem iB (c:List AV) (o:Nat):(AV.ep c o).known=true:=rfl
theorem iD (t:Tk) (x:List AV):(AV.sl t x).cells=[AV.sl t x]:=rfl
theorem gZ (t:Tk) (x:List AV):(AV.sl t x).known=true:=rfl
theorem cV:(AV.aC).cells=[AV.aC]:=rfl
theorem cK:(AV.aC).known=true:=rfl
theorem fL (a b c d:Nat):(AV.arr a b c d).cells=[AV.arr a b c d]:=rfl
theorem eX (a b c d:Nat):(AV.arr a b c d).known=true:=rfl
theorem fJ (i:Nat):(AV.map i).cells=[AV.map i]:=rfl
theorem eV (i:Nat):(AV.map i).known=true:=rfl
theorem bZ:(AV.qQ).cells=[AV.qQ]:=rfl
theorem bQ:(AV.qQ).known=true:=rfl
theorem iE (f:FuncId) (a b:List AV):(AV.fn f a b).cells=[AV.fn f a b]:=rfl
theorem iA (f:FuncId) (a b:List AV):(AV.fn f a b).known=true:=rfl
theorem cU (l:Nat):(AV.yield l).cells=[AV.yield l]:=rfl
theorem cJ (l:Nat):(AV.yield l).known=true:=rfl
theorem cX:(AV.rM).cells=[AV.rM]:=rfl
theorem cP:(AV.rM).known=true:=rfl
theorem dA (t:TypeId) (v:AV):(AV.iface t v).cells=[AV.iface t v]:=rfl
theorem cQ (t:TypeId) (v:AV):(AV.iface t v).known=true:=rfl
theorem cW:(AV.uX).cells=[AV.uX]:=rfl
theorem cM:(AV.uX).known=true:=rfl
theorem fM (l:List AV):(AV.agg l).cells=l:=rfl
theorem dO (i o:Nat):(AV.ptr i o).bX=true:=rfl
theorem aY:(AV.pI).bX=true:=rfl
theorem dH (i:Nat):(AV.map i).bX=true:=rfl
theorem aZ:(AV.qQ).bX=true:=rfl
theorem fB (f:FuncId) (a b:List AV):(AV.fn f a b).bX=true:=rfl
theorem bV:(AV.rM).bX=true:=rfl
theorem bR (l:Nat):(AV.yield l).bX=true:=rfl
theorem bW (t:TypeId) (v:AV):(AV.iface t v).bX=true:=rfl
theorem bT:(AV.uX).bX=true:=rfl
theorem dP (a b c d:Nat):(AV.arr a b c d).bX=true:=rfl
theorem fD (c:List AV) (o:Nat):(AV.ep c o).bX=true:=rfl
theorem eS (l:List AV):(AV.tup l).known=true:=rfl
theorem eY (x:List AV):(AV.agg x).known=true:=rfl
theorem eW (k:IntKind) (n:Int):(AV.int k n).known=true:=rfl
theorem aS {l:List Part} {v:AV} (h:RVs l v):v.bX=true:=by cases h<;>rfl
theorem qL {l:List AV} {v:AV} (h:iP v l):v.bX=true:=by cases h<;>rfl
theorem dK (hp:aD):nJ hp .sl .aC= .ok 0:=rfl
theorem iI (hp:aD) (tk:Tk) (xs:List AV):nJ hp .sl (.sl tk xs)= .ok xs.length:=rfl
theorem dQ (t e:St→R Ans) (s:St):mH t e s (.bool true)=t s:=rfl
theorem cR (t e:St→R Ans) (s:St):mH t e s (.bool false)=e s:=rfl
theorem bO {v:AV} {xs:List AV} (h:iP v xs) (hp:aD):nJ hp .sl v= .ok xs.length:=by cases h<;>rfl
theorem pE {n:Int} (h1: -9223372036854775808≤n) (h2:n<9223372036854775808):IntKind.wrap .i64 n=n:=Bg n h1 h2
theorem oG:(true==true)=true:=rfl
theorem oI:(true==false)=false:=rfl
theorem oJ:(false==true)=false:=rfl
theorem oK:(false==false)=true:=rfl
theorem gH (n:Nat):n+1+1=n+2:=rfl
theorem fX (n:Nat):n+2+1=n+3:=rfl
theorem dY (n:Nat):n+3+1=n+4:=rfl
variable {fns:Go.Am.F} {orc:Orc}
inductive Acc (h:aD):AV→List AV→Prop
 |nil:Acc h .aC []
 |opn (t:Nat) (xs:List AV):h.get t=some (.tok xs.length)→0<xs.length→Acc h (.sl (.opn t xs.length) xs) xs
def jK:AV→Option Nat
 | .sl (.opn t _) _=>some t
 |_=>none
structure Aj (t:Option Nat) (h h' :aD):Prop where
 next:h.next≤h'.next
 get:∀i,i<h.next→t≠some i→h'.get i=h.get i
theorem Aj.refl (t:Option Nat) (h:aD):Aj t h h:=⟨Nat.le_refl _,fun _ _ _=>rfl⟩
theorem Et {h h' :aD} (k:aP h h') (t:Option Nat):Aj t h h' :=⟨k.next,fun i hi _=>k.get i hi⟩
theorem Acc.grow {h h' :aD} (k:aP h h') {l:AV} {xs:List AV} (a:Acc h l xs):Acc h' l xs:=by
 cases a with
 |nil=>exact .nil
 |opn t xs ht hp=>exact .opn t xs ((k.get t (aD.mN ht)).trans ht) hp
def Ab (n:Nat) (xs:List AV):Prop:=∀x∈xs,x.cells.length=n
theorem Lu {n:Nat} {xs:List AV} (h:Ab n xs):mR n xs=true:=by
 cases xs with
 |nil=>rfl
 |cons x r=>simp [mR,h x (by simp)]
theorem Ep {n:Nat} {xs:List AV} (h:Ab n xs) (hp:0<xs.length):Bq n xs=true:=by
 cases xs with
 |nil=>simp at hp
 |cons x r=>simp [Bq,h x (by simp)]
theorem sG {h:aD} {l:AV} {xs:List AV} (a:Acc h l xs) {n:Nat} {v:AV} (hn:1≤n) (hw:Ab n xs) (hv:v.cells.length=n) (hs:(xs.length+1)*n≤1073741824):
  ∃l' h',mT h n l (.sl .full [v])= .ok (l',h')∧Acc h' l' (xs++[v])∧Aj (jK l) h h' ∧(∀t,jK l' =some t→jK l=some t∨h.next≤t):=by
 have h1:(Nat.ble 1 n && qK n [v])=true:=by simp [qK,hv,hn]
 cases a with
 |nil=>
  refine ⟨.sl (.opn h.next 1) [v],h.push (.tok 1), ?_, ?_, ?_, ?_⟩
  ·simp only [mT,oO,aM,h1,wD,yN]
   have:(Nat.ble ((([]:List AV).length+[v].length)*n) lX && mR n [])=true:=by
    simp only [mR,Bool.and_true,List.length_nil,List.length_cons,Nat.zero_add,Nat.one_mul]
    rw [Nat.ble_eq];simp only [lX];simp at hs;omega
   rw [this];rfl
  ·exact .opn h.next [v] (aD.qI _ _) (by simp)
  ·exact Et (aP.push h _) _
  ·intro t ht;cases ht;exact .inr (Nat.le_refl _)
 |opn t xs ht hp=>
  have hlt:=aD.mN ht
  refine ⟨.sl (.opn t (xs.length+1)) (xs++[v]),h.set t (.tok (xs.length+1)), ?_, ?_, ?_, ?_⟩
  ·simp only [mT,oO,aM,h1,wD,Hu,ht,List.length_cons,List.length_nil,Nat.zero_add]
   have:(Nat.beq xs.length xs.length && Nat.beq xs.length xs.length && Nat.ble ((xs.length+1)*n) lX && Bq n xs)=true:=by
    simp only [Ep hw hp,Bool.and_true,Nat.beq_refl,Bool.true_and]
    rw [Nat.ble_eq];simpa [lX] using hs
   rw [this]
  ·have:=Acc.opn (h:=h.set t (.tok (xs.length+1))) t (xs++[v]) (by rw [aQ _ _ _ hlt];simp) (by simp)
   simpa using this
  ·exact ⟨by simp,fun i hi hne=>aE _ _ _ _ hlt (fun e=>hne (by rw [e];rfl))⟩
  ·intro t' e;exact .inl e
theorem jD {p:Part} {c:List AV} (h:RV p (.agg c)):(aX p c).length=29:=by
 cases h<;>rfl
theorem lF {p:Part} {c:List AV} (h:RV p (.agg c)):(aX p c).all AV.bX=true:=by
 cases h with
 |exp h1 h2=>simp [aX,kD,kF,pX,lG,aS h1,aS h2,bJ,cF,bK,bI]
 |desc h1 h2 h3 h4 h5=>simp [aX,pY,kF,pX,lG,aS h1,aS h2,aS h3,aS h4,aS h5,bJ,cF,bK,bI]
 |decl h0 h1 h2 h3=>simp [aX,pY,kD,pX,lG,qL h0,aS h1,aS h2,aS h3,bJ,cF,bK,bI]
 |imp h1 h2 h3=>simp [aX,pY,kD,kF,lG,aS h1,aS h2,aS h3,bJ,cF,bK,bI]
 |case h1 h2=>simp [aX,pY,kD,kF,pX,aS h1,aS h2,bJ,cF,bK,bI]
theorem Ee {l:List Part} {xs:List AV} (h:RPL l xs):Ab 29 xs:=by
 intro x hx
 induction h with
 |nil=>cases hx
 |cons hp _ ih=>
  rcases List.mem_cons.1 hx with e|hx
  ·subst e
   obtain ⟨c,h1,rfl⟩:=hp
   exact jD h1
  ·exact ih hx
theorem qF {l m:List Part} {xs ys:List AV} (h:RPL l xs) (k:RPL m ys):RPL (l++m) (xs++ys):=by
 induction h with
 |nil=>exact k
 |cons hp _ ih=>exact .cons hp ih
theorem uH {l:List Part} {xs:List AV} (h:RPL l xs):xs.length=l.length:=by
 induction h with
 |nil=>rfl
 |cons _ _ ih=>simp [ih]
theorem aW:∀(c:List AV),takeN c.length c=some c
 |[]=>rfl
 |x::c=>by simp [takeN,aW c]
def C7 (sz g:Nat):AC:=
 (.seq (.seq (.reg [⟨(some 6),.mov (.t 5),none⟩,⟨(some 7),.mov (.t 1),none⟩,⟨(some 8),.u1 (.len .sl) (.t 7),none⟩,⟨(some 9),.b2 (.bin .lss) (.t 6) (.t 8),none⟩] (some [0,1,5,9]))
   (.cond (.t 9) .skip (.exit 0)))
   (.seq (.block 1
    (.reg [⟨(some 12),.mov (.t 0),none⟩,⟨(some 13),.mov (.t 1),none⟩,⟨(some 14),.mov (.t 5),none⟩,⟨(some 15),.b2 (.GY sz) (.t 13) (.t 14),none⟩,⟨(some 16),.u1 (.load (some sz)) (.t 15),none⟩,
      ⟨(some 17),.call (.c (.fn g [] [])) [(.t 16)],none⟩,⟨(some 18),.o3 (.DX 29 [(.t 17)]),none⟩,⟨(some 19),.b2 (.append 29) (.t 12) (.t 18),none⟩,⟨(some 0),.mov (.t 19),none⟩] (some [0,1,5])))
   (.reg [⟨(some 10),.mov (.t 5),none⟩,⟨(some 11),.b2 (.bin .add) (.t 10) (.c (.int .i64 1)),none⟩,⟨(some 5),.mov (.t 11),none⟩] (some [0,1,5]))))
def Ph (sz g:Nat):AC:=
 (.seq (.reg [⟨(some 4),.mov (.c .aC),none⟩] (some [0,1]))
 (.seq (.seq (.reg [⟨(some 5),.mov (.c (.int .i64 0)),none⟩] (some [0,1,5]))
 (.block 0 (.loop (C7 sz g))))
 (.seq (.reg [⟨(some 20),.mov (.t 0),none⟩,⟨(some 4),.mov (.t 20),none⟩] (some [4]))
 .ret)))
theorem Hr (h:aD) (ts:fN) (t:Nat) {v:AV} (hv:cH ts t=v) {c:List AV} (hc:v= .agg c) (hl:c.length=29) (hk:c.all AV.bX=true):jN h ts 29 [.t t]= .ok (.val (.sl .full [v]) h):=by
 subst hc
 have e:(Nat.beq c.length 29 && c.all AV.bX)=true:=by rw [hk,hl];rfl
 simp only [jN,kZ,rJ,hv,AV.cells,e,aM]
theorem yH (i:Nat):ile 0 (i:Int)=true:=rfl
theorem uP (i:Nat):(i:Int).toNat=i:=rfl
theorem kT {sz i:Nat} {x:AV} {xs:List AV} {c:List AV} (hx:iP x xs) (hi:xs[i]? =some (.agg c)) (hc:c.length=sz):pT sz x (.int .i64 (i:Int))= .ok (.ep c 0):=by
 cases hx with
 |nil=>simp at hi
 |sl tk xs=>
  have e:Nat.beq c.length sz=true:=by rw [hc];simp
  simp only [pT,F8,yH,uP,yU,hi,AV.cells,e]
theorem Jp (h:aD) {sz:Nat} {c:List AV} (hc:c.length=sz):mE h (some sz) (.ep c 0)= .ok (.agg c):=by
 subst hc
 simp only [mE,bN,List.drop_zero,aW]
theorem N6 {fn:FuncId} {sz g:Nat} {l0:List Part} {x:AV} {xs0:List AV} (hx:iP x xs0) (hl:xs0.length=l0.length) (hn:l0.length<30000000)
  (hel:∀i (hi:i<l0.length) (h:aD),∃c,xs0[i]? =some (.agg c)∧c.length=sz∧∃h' v',aP h h' ∧RP l0[i] v' ∧Ev fns orc (.call g [.agg c] .plain h) (.call (.ret v') .plain h')):
  ∀(k i:Nat) (l:AV) (ps:List Part) (xs:List AV) (rc:RC) (h:aD),i+k=l0.length→Acc h l xs→RPL ps xs→ps.length+k<30000000→
   ∃h' l' xs' ts,Ev fns orc (.code fn none (.loop (C7 sz g)) ⟨[(0,l),(1,x),(5,.int .i64 (i:Int))],[],rc,h⟩) (.code (.exit 0) ⟨(0,l')::ts,[],rc,h'⟩)∧
    Acc h' l' xs' ∧RPL (ps++l0.drop i) xs' ∧Aj (jK l) h h' ∧∀t,jK l' =some t→jK l=some t∨h.next≤t:=by
 have hlen:∀hp:aD,nJ hp .sl x= .ok xs0.length:=bO hx
 intro k
 induction k with
 |zero=>
  intro i l ps xs rc h hi ha hp hb
  have e:i=l0.length:=om
  refine ⟨h,l,xs,[(1,x),(5,.int .i64 (i:Int)),(9,.bool false)],Ev.code ⟨0,fun m _=> ?_⟩,ha,by rw [e];simpa using hp,.refl _ _,fun t q=> .inl q⟩
  have hd:decide ((i:Int)<(xs0.length:Int))=false:=by rw [hl,e];simp
  simp -implicitDefEqProofs (disch:=(first|omega|(simp only [aD.aJ,aD.aL];try omega)|skip)) only [C7,hlen,hd,eO,fE,fG,dV,cT,aI,dU,cS,fF,dR,gV,eQ,aM,dJ,iJ,opA,qS,kE,qT,pL,rJ,sB,dG,gU,fP,qM,mC,iZ,gJ,mK,dM,eZ,Nat.beq,lS,mH,eE,vl,rH,eY,eW,dW,fK,fH,fI,bY,iG,iD,cV,fL,fJ,bZ,iE,cU,cX,dA,cW,fM,dL,eT,eU,bP,iB,gZ,cK,eX,eV,bQ,iA,cJ,cP,cQ,cM,eS,dO,aY,dH,aZ,fB,bV,bR,bW,bT,dP,fD,kE,eN,kL,mE,bN,aT,aV,fO,gX,takeN,List.drop_zero,List.drop_succ_cons,rS,oEq,eqA,pR,ki,eP,eH,oneOf,iC,jH,mU,called,List.append_eq,List.nil_append,List.cons_append,List.append_assoc,Nat.zero_add,Nat.add_zero,kN,lK,cI,kR,kG,aQ,aE,aD.aJ,aD.aL,List.length_cons,List.length_nil,Bool.and_true,Bool.true_and,List.all_cons,List.all_nil,bJ,cF,bK,bI,fA,Nat.reduceAdd,Nat.reduceEqDiff,Nat.reduceBEq,ite_true,ite_false,if_true,if_false,iQ,kH,jE,iK,iN,dK,iI,decide_eq_true_eq,decide_true,decide_false,qV,intArith,Int.ofNat_zero,reduceCtorEq,Bool.not_true,Bool.not_false,Bool.false_eq_true,Int.reduceEq,Int.reduceAdd,Int.zero_add,Int.add_zero,lZ,aX,pY,kD,kF,pX,lG,dQ,cR,oG,oI,oJ,oK]
 |succ k ih=>
  intro i l ps xs rc h hi ha hp hb
  have hlt:i<l0.length:=om
  obtain ⟨c,hc,hcl,h1,v',g1,rp,nc,G2⟩:=hel i hlt h
  have hd:decide ((i:Int)<(xs0.length:Int))=true:=by rw [hl];simp;omega
  have hia:=kT hx hc hcl
  have hlo:=fun hp:aD=>Jp hp hcl
  have rp' :=rp
  obtain ⟨c',hv',rfl⟩:=rp'
  have vQ:(aX l0[i] c').all AV.bX=true:=lF hv'
  have a1:=ha.grow g1
  obtain ⟨l2,h2,happ,a2,g2,hk⟩:=sG a1 (n:=29) (v:= .agg (aX l0[i] c')) om (Ee hp) (jD hv') (by have:=uH hp;omega)
  obtain ⟨h3,l3,xs3,ts,⟨nr,uB⟩,a3,r3,g3,tk3⟩:=ih (i+1) l2 (ps++[l0[i]]) (xs++[.agg (aX l0[i] c')]) rc h2 om a2 (qF hp (.cons rp .nil)) (by simp;omega)
  refine ⟨h3,l3,xs3,ts,Ev.code ⟨max nc nr,fun m hm=> ?_⟩,a3,by rw [List.drop_eq_getElem_cons hlt];simpa using r3, ?_,fun t q=> ?_⟩
  ·have e1:=G2 m om
   have e2:=uB m om
   simp only [C7] at e2
   have hb1:∀ts,jN h1 ((17,.agg (aX l0[i] c'))::ts) 29 [.t 17]= .ok (.val (.sl .full [.agg (aX l0[i] c')]) h1):=fun ts=>Hr h1 _ 17 rfl rfl (jD hv') vQ
   simp -implicitDefEqProofs (disch:=(first|omega|(simp only [aD.aJ,aD.aL];try omega)|skip)) only [C7,hlen,hd,hia,hlo,e1,hb1,lD,happ,fE,fG,dV,cT,aI,dU,cS,fF,dR,gV,eQ,aM,dJ,iJ,opA,qS,kE,qT,pL,rJ,sB,dG,gU,fP,qM,mC,iZ,gJ,mK,dM,eZ,Nat.beq,lS,mH,eE,vl,rH,eY,eW,dW,fK,fH,fI,bY,iG,iD,cV,fL,fJ,bZ,iE,cU,cX,dA,cW,fM,dL,eT,eU,bP,iB,gZ,cK,eX,eV,bQ,iA,cJ,cP,cQ,cM,eS,dO,aY,dH,aZ,fB,bV,bR,bW,bT,dP,fD,kE,eN,kL,aT,aV,fO,gX,List.drop_zero,List.drop_succ_cons,rS,oEq,eqA,pR,ki,eP,eH,oneOf,iC,jH,mU,called,List.append_eq,List.nil_append,List.cons_append,List.append_assoc,Nat.zero_add,Nat.add_zero,kN,lK,cI,kR,kG,aQ,aE,aD.aJ,aD.aL,List.length_cons,List.length_nil,Bool.and_true,Bool.true_and,List.all_cons,List.all_nil,bJ,cF,bK,bI,fA,Nat.reduceAdd,Nat.reduceEqDiff,Nat.reduceBEq,ite_true,ite_false,if_true,if_false,iQ,kH,jE,iK,iN,dK,iI,decide_eq_true_eq,decide_true,decide_false,qV,intArith,Int.ofNat_zero,reduceCtorEq,Bool.not_true,Bool.not_false,Bool.false_eq_true,Int.reduceEq,Int.reduceAdd,Int.zero_add,Int.add_zero,lZ,dQ,cR,oG,oI,oJ,oK]
   rw [show IntKind.wrap .i64 ((i:Int)+1)=((i+1:Nat):Int) from by rw [pE om om];rfl]
   exact e2
  ·refine ⟨Nat.le_trans g1.next (Nat.le_trans g2.next g3.next),fun j hj hne=> ?_⟩
   have hj1:j<h1.next:=Nat.lt_of_lt_of_le hj g1.next
   have hj2:j<h2.next:=Nat.lt_of_lt_of_le hj1 g2.next
   rw [g3.get j hj2 (fun e=>by rcases hk j e with e|e;exact hne e;omega),g2.get j hj1 hne,g1.get j hj]
  ·rcases tk3 t q with q|q
   ·rcases hk t q with q|q
    ·exact .inl q
    ·exact .inr (Nat.le_trans g1.next q)
   ·exact .inr (Nat.le_trans g1.next (Nat.le_trans g2.next q))
theorem N5 {f:FuncId} {afn:AFn} {sz g:Nat} (hf:fns f=some afn) (ho:orc f=none) (hb:afn.body=Ph sz g) (hr:afn.results=[.tmp 4]) {l0:List Part} {x:AV} {xs0:List AV} (hx:iP x xs0) (hl:xs0.length=l0.length)
  (hel:∀i (hi:i<l0.length) (h:aD),∃c,xs0[i]? =some (.agg c)∧c.length=sz∧∃h' v',aP h h' ∧RP l0[i] v' ∧Ev fns orc (.call g [.agg c] .plain h) (.call (.ret v') .plain h'))
  {l:AV} {ps:List Part} {xs:List AV} {h:aD} (ha:Acc h l xs) (hp:RPL ps xs) (hn:ps.length+l0.length<30000000):
  ∃h' l' xs',Ev fns orc (.call f [l,x] .plain h) (.call (.ret l') .plain h')∧Acc h' l' xs' ∧RPL (ps++l0) xs' ∧Aj (jK l) h h' ∧∀t,jK l' =some t→jK l=some t∨h.next≤t:=by
 obtain ⟨h',l',xs',ts,⟨n,uB⟩,a,r,gr⟩:=N6 (fn:=f) hx hl om hel l0.length 0 l ps xs .plain h om ha hp hn
 refine ⟨h',l',xs',Ev.call hf ho ⟨n,fun m hm=> ?_⟩,a,by simpa using r,gr⟩
 have e:cG (eval fns orc m) f none (.loop (C7 sz g)) ⟨[(0,l),(1,x),(5,.int .i64 0)],[],.plain,h⟩= .ok (.code (.exit 0) ⟨(0,l')::ts,[],.plain,h'⟩):=uB (m+1) om
 rw [hb]
 obtain ⟨nt,res,body⟩:=afn
 cases hr
 simp -implicitDefEqProofs (disch:=(first|omega|(simp only [aD.aJ,aD.aL];try omega)|skip)) only [Ph,eO,e,fE,fG,dV,cT,dU,cS,fF,dR,gV,eQ,aM,dJ,iJ,opA,qS,kE,qT,pL,rJ,sB,dG,gU,fP,qM,mC,iZ,gJ,mK,dM,eZ,Nat.beq,lS,mH,eE,vl,rH,eY,eW,dW,fK,fH,fI,bY,iG,iD,cV,fL,fJ,bZ,iE,cU,cX,dA,cW,fM,dL,eT,eU,bP,iB,gZ,cK,eX,eV,bQ,iA,cJ,cP,cQ,cM,eS,dO,aY,dH,aZ,fB,bV,bR,bW,bT,dP,fD,kE,eN,kL,aT,aV,fO,gX,List.drop_zero,List.drop_succ_cons,rS,oEq,eqA,pR,ki,eP,eH,oneOf,iC,jH,mU,called,List.append_eq,List.nil_append,List.cons_append,List.append_assoc,Nat.zero_add,Nat.add_zero,kN,lK,cI,kR,kG,aQ,aE,aD.aJ,aD.aL,List.length_cons,List.length_nil,Bool.and_true,Bool.true_and,List.all_cons,List.all_nil,bJ,cF,bK,bI,fA,Nat.reduceAdd,Nat.reduceEqDiff,Nat.reduceBEq,ite_true,ite_false,if_true,if_false,iQ,kH,jE,iK,iN,dK,iI,decide_eq_true_eq,decide_true,decide_false,qV,intArith,Int.ofNat_zero,reduceCtorEq,Bool.not_true,Bool.not_false,Bool.false_eq_true,Int.reduceEq,Int.reduceAdd,Int.zero_add,Int.add_zero,lZ,dQ,cR,oG,oI,oJ,oK]
theorem Rr {p:Part} {v:AV} (h:RV p v):∃c,v= .agg c:=by cases h<;>exact ⟨_,rfl⟩
theorem jZ {l:List Part} {v:AV} (h:RVs l v):∃xs,iP v xs∧xs.length=l.length∧∀i (hi:i<l.length),∃c,xs[i]? =some (.agg c)∧RV l[i] (.agg c):=by
 obtain ⟨xs,h1,h2⟩:=h.X2
 refine ⟨xs,h1,h2.length,fun i hi=> ?_⟩
 obtain ⟨v,hv,hr⟩:=h2.get hi
 obtain ⟨c,rfl⟩:=Rr hr
 exact ⟨c,hv,hr⟩
theorem pW {e:pO} {c:List AV} (h:RV (.exp e) (.agg c)):c.length=8:=by cases h;rfl
theorem kW {e:pD} {c:List AV} (h:RV (.desc e) (.agg c)):c.length=7:=by cases h;rfl
theorem pG {e:kV} {c:List AV} (h:RV (.decl e) (.agg c)):c.length=5:=by cases h;rfl
theorem yR {e:qN} {c:List AV} (h:RV (.imp e) (.agg c)):c.length=6:=by cases h;rfl
theorem xL {e:vK} {c:List AV} (h:RV (.case e) (.agg c)):c.length=2:=by cases h;rfl
theorem gw2 {h h' :aD} (g:aP h h' :=by repeat' (first|exact aP.refl _|apply aP.tI |refine aP.set ?_ (by first|omega|(simp only [aD.aJ,aD.aL];omega)) (by first|omega|(simp only [aD.aJ,aD.aL];omega)) _)):aP h h' :=g
theorem gw3 {h h' :aD} (g:aP h h' :=by repeat' (first|assumption|exact aP.refl _|apply aP.tI |refine aP.set ?_ (by first|omega|(simp only [aD.aJ,aD.aL];omega)) (by first|omega|(simp only [aD.aJ,aD.aL];omega)) _)):aP h h' :=g
theorem cj2 {a b:Prop} (xa:a) (xb:b):a∧b:=⟨xa,xb⟩
theorem cj3 {a b c:Prop} (xa:a) (xb:b) (xc:c):a∧b∧c:=⟨xa,xb,xc⟩
theorem cj4 {a b c d:Prop} (xa:a) (xb:b) (xc:c) (xd:d):a∧b∧c∧d:=⟨xa,xb,xc,xd⟩
theorem cj5 {a b c d e:Prop} (xa:a) (xb:b) (xc:c) (xd:d) (xe:e):a∧b∧c∧d∧e:=⟨xa,xb,xc,xd,xe⟩
theorem cj6 {a b c d e f:Prop} (xa:a) (xb:b) (xc:c) (xd:d) (xe:e) (xf:f):a∧b∧c∧d∧e∧f:=⟨xa,xb,xc,xd,xe,xf⟩
theorem cj7 {a b c d e f g:Prop} (xa:a) (xb:b) (xc:c) (xd:d) (xe:e) (xf:f) (xg:g):a∧b∧c∧d∧e∧f∧g:=⟨xa,xb,xc,xd,xe,xf,xg⟩
theorem cj8 {a b c d e f g h:Prop} (xa:a) (xb:b) (xc:c) (xd:d) (xe:e) (xf:f) (xg:g) (xh:h):a∧b∧c∧d∧e∧f∧g∧h:=⟨xa,xb,xc,xd,xe,xf,xg,xh⟩
theorem cj9 {a b c d e f g h i:Prop} (xa:a) (xb:b) (xc:c) (xd:d) (xe:e) (xf:f) (xg:g) (xh:h) (xi:i):a∧b∧c∧d∧e∧f∧g∧h∧i:=⟨xa,xb,xc,xd,xe,xf,xg,xh,xi⟩
theorem tR {a b c d e f g h i j:Prop} (xa:a) (xb:b) (xc:c) (xd:d) (xe:e) (xf:f) (xg:g) (xh:h) (xi:i) (xj:j):a∧b∧c∧d∧e∧f∧g∧h∧i∧j:=⟨xa,xb,xc,xd,xe,xf,xg,xh,xi,xj⟩
theorem sC {a b c d e f g h i j k:Prop} (xa:a) (xb:b) (xc:c) (xd:d) (xe:e) (xf:f) (xg:g) (xh:h) (xi:i) (xj:j) (xk:k):a∧b∧c∧d∧e∧f∧g∧h∧i∧j∧k:=⟨xa,xb,xc,xd,xe,xf,xg,xh,xi,xj,xk⟩
theorem qC {a b c d e f g h i j k l:Prop} (xa:a) (xb:b) (xc:c) (xd:d) (xe:e) (xf:f) (xg:g) (xh:h) (xi:i) (xj:j) (xk:k) (xl:l):a∧b∧c∧d∧e∧f∧g∧h∧i∧j∧k∧l:=⟨xa,xb,xc,xd,xe,xf,xg,xh,xi,xj,xk,xl⟩
theorem wK {a b c d e f g h i j k l m:Prop} (xa:a) (xb:b) (xc:c) (xd:d) (xe:e) (xf:f) (xg:g) (xh:h) (xi:i) (xj:j) (xk:k) (xl:l) (xm:m):a∧b∧c∧d∧e∧f∧g∧h∧i∧j∧k∧l∧m:=⟨xa,xb,xc,xd,xe,xf,xg,xh,xi,xj,xk,xl,xm⟩
theorem zZ {a b c d e f g h i j k l m n:Prop} (xa:a) (xb:b) (xc:c) (xd:d) (xe:e) (xf:f) (xg:g) (xh:h) (xi:i) (xj:j) (xk:k) (xl:l) (xm:m) (xn:n):a∧b∧c∧d∧e∧f∧g∧h∧i∧j∧k∧l∧m∧n:=⟨xa,xb,xc,xd,xe,xf,xg,xh,xi,xj,xk,xl,xm,xn⟩
theorem xJ {a b c d e f g h i j k l m n o:Prop} (xa:a) (xb:b) (xc:c) (xd:d) (xe:e) (xf:f) (xg:g) (xh:h) (xi:i) (xj:j) (xk:k) (xl:l) (xm:m) (xn:n) (xo:o):a∧b∧c∧d∧e∧f∧g∧h∧i∧j∧k∧l∧m∧n∧o:=⟨xa,xb,xc,xd,xe,xf,xg,xh,xi,xj,xk,xl,xm,xn,xo⟩
theorem Bd {a b c d e f g h i j k l m n o p:Prop} (xa:a) (xb:b) (xc:c) (xd:d) (xe:e) (xf:f) (xg:g) (xh:h) (xi:i) (xj:j) (xk:k) (xl:l) (xm:m) (xn:n) (xo:o) (xp:p):a∧b∧c∧d∧e∧f∧g∧h∧i∧j∧k∧l∧m∧n∧o∧p:=⟨xa,xb,xc,xd,xe,xf,xg,xh,xi,xj,xk,xl,xm,xn,xo,xp⟩
theorem dI {a b c d e f g h i j k l m n o p q:Prop} (xa:a) (xb:b) (xc:c) (xd:d) (xe:e) (xf:f) (xg:g) (xh:h) (xi:i) (xj:j) (xk:k) (xl:l) (xm:m) (xn:n) (xo:o) (xp:p) (xq:q):a∧b∧c∧d∧e∧f∧g∧h∧i∧j∧k∧l∧m∧n∧o∧p∧q:=⟨xa,xb,xc,xd,xe,xf,xg,xh,xi,xj,xk,xl,xm,xn,xo,xp,xq⟩
theorem SP {f p:Prop} (x:f) (h:f→p:=by intro x;simp -implicitDefEqProofs (maxSteps:=3000000) (disch:=(first|omega|(simp only [aD.aJ,aD.aL];try omega)|skip)) only [x,fE,fG,dV,cT,dU,cS,fF,dR,gV,eQ,aM,dJ,iJ,opA,qS,kE,qT,pL,rJ,sB,dG,gU,fP,qM,mC,iZ,gJ,mK,dM,eZ,Nat.beq,lS,mH,eE,vl,rH,eY,eW,dW,fK,fH,fI,bY,iG,iD,cV,fL,fJ,bZ,iE,cU,cX,dA,cW,fM,dL,eT,eU,bP,iB,gZ,cK,eX,eV,bQ,iA,cJ,cP,cQ,cM,eS,dO,aY,dH,aZ,fB,bV,bR,bW,bT,dP,fD,eN,kL,aT,aV,fO,gX,List.drop_zero,List.drop_succ_cons,rS,oEq,eqA,pR,ki,eP,eH,oneOf,iC,jH,mU,called,List.append_eq,List.nil_append,List.cons_append,List.append_assoc,Nat.zero_add,Nat.add_zero,kN,lK,aQ,aE,aD.aJ,aD.aL,List.length_cons,List.length_nil,Bool.and_true,Bool.true_and,List.all_cons,List.all_nil,bJ,cF,bK,bI,fA,Nat.reduceAdd,Nat.reduceEqDiff,Nat.reduceBEq,ite_true,ite_false,if_true,if_false,iQ,kH,jE,iK,iN,dK,iI,decide_eq_true_eq,decide_true,decide_false,qV,intArith,Int.ofNat_zero,reduceCtorEq,Bool.not_true,Bool.not_false,Bool.false_eq_true,Int.reduceEq,Int.reduceAdd,Int.zero_add,Int.add_zero,lZ,dQ,cR,oG,oI,oJ,oK,kR];try rfl):p:=h x
theorem SPe {f q p:Prop} (x:f) (y:q) (h:f→q→p:=by intro x y;simp -implicitDefEqProofs (maxSteps:=3000000) (disch:=(first|omega|(simp only [aD.aJ,aD.aL];try omega)|skip)) only [x,fE,fG,dV,cT,dU,cS,fF,dR,gV,eQ,aM,dJ,iJ,opA,qS,kE,qT,pL,rJ,sB,dG,gU,fP,qM,mC,iZ,gJ,mK,dM,eZ,Nat.beq,lS,mH,eE,vl,rH,eY,eW,dW,fK,fH,fI,bY,iG,iD,cV,fL,fJ,bZ,iE,cU,cX,dA,cW,fM,dL,eT,eU,bP,iB,gZ,cK,eX,eV,bQ,iA,cJ,cP,cQ,cM,eS,dO,aY,dH,aZ,fB,bV,bR,bW,bT,dP,fD,eN,kL,aT,aV,fO,gX,List.drop_zero,List.drop_succ_cons,rS,oEq,eqA,pR,ki,eP,eH,oneOf,iC,jH,mU,called,List.append_eq,List.nil_append,List.cons_append,List.append_assoc,Nat.zero_add,Nat.add_zero,kN,lK,aQ,aE,aD.aJ,aD.aL,List.length_cons,List.length_nil,Bool.and_true,Bool.true_and,List.all_cons,List.all_nil,bJ,cF,bK,bI,fA,Nat.reduceAdd,Nat.reduceEqDiff,Nat.reduceBEq,ite_true,ite_false,if_true,if_false,iQ,kH,jE,iK,iN,dK,iI,decide_eq_true_eq,decide_true,decide_false,qV,intArith,Int.ofNat_zero,reduceCtorEq,Bool.not_true,Bool.not_false,Bool.false_eq_true,Int.reduceEq,Int.reduceAdd,Int.zero_add,Int.add_zero,lZ,dQ,cR,oG,oI,oJ,oK,kR];exact y):p:=h x y
end Go.Gn
namespace Go.Gn
open Go Go.Am Go.Fs
variable {fns:Go.Am.F} {orc:Orc}
theorem pU:∀(c z:List AV),c.length=z.length→cI 0 c z=some c
 |[],[],_=>rfl
 |a::c,b::z,h=>by simp [cI,pU c z (by simpa using h)]
 |[],_::_,h=>by simp at h
 |_::_,[],h=>by simp at h
theorem mW (h:aD) {sz:Nat} {z c:List AV} (hz:z.length=sz) (hc:c.length=sz) (hk:c.all AV.bX=true):
  kG (h.push (.cells z)) sz (.ptr h.next 0) (.agg c)= .ok ((h.push (.cells z)).set h.next (.cells c)):=by
 have e:(Nat.beq c.length sz && c.all AV.bX)=true:=by rw [hk,hc];simp
 simp only [kG,aD.qI,AV.cells,e,if_true,pU c z (by rw [hc,hz])]
theorem pM {h:aD} {i:Nat} {v:AV} (hg:h.get i=some (.cells [v])):mE h none (.ptr i 0)= .ok v:=by
 simp only [mE,bN,hg,List.drop_zero]
 rfl
theorem AB {h:aD} {i sz:Nat} {c:List AV} (hg:h.get i=some (.cells c)) (hc:c.length=sz):mE h (some sz) (.ptr i 0)= .ok (.agg c):=by
 subst hc
 simp only [mE,bN,hg,List.drop_zero,aW]
def AJ (sz:Nat) (z:List AV):AC:=
 (.seq (.reg [⟨(some 9),.b2 (.bin .lss) (.t 8) (.t 7),none⟩] (some [0,2,6,7,8,9]))
   (.seq (.cond (.t 9)
    .skip
    (.exit 0))
   (.seq (.block 1
    (.seq (.reg [⟨(some 10),.b2 (.GY sz) (.t 6) (.t 8),none⟩,
      ⟨(some 11),.u1 (.load (some sz)) (.t 10),none⟩,
      ⟨(some 5),.o3 (.alloc z),none⟩,
      ⟨none,.b2 (.store sz) (.t 5) (.t 11),none⟩] (some [0,2,5,6,7,8]))
    (.seq (.reg [⟨(some 12),.mov (.t 0),none⟩,
      ⟨(some 13),.u1 (.load none) (.t 2),none⟩,
      ⟨(some 14),.u1 (.load (some sz)) (.t 5),none⟩,
      ⟨(some 15),.call (.t 13) [(.t 14)],none⟩,
      ⟨(some 16),.call (.t 12) [(.t 15)],none⟩,
      ⟨(some 17),.u2 (.un .not) (.t 16),none⟩] (some [0,2,6,7,8,17]))
    (.cond (.t 17)
     .ret
     .skip))))
   (.reg [⟨(some 18),.b2 (.bin .add) (.t 8) (.c (.int .i64 1)),none⟩,
     ⟨(some 8),.mov (.t 18),none⟩] (some [0,2,6,7,8])))))
def Ex (sz:Nat) (z:List AV):AC:=
 (.seq (.reg [⟨(some 6),.u1 (.load none) (.t 1),none⟩,
   ⟨(some 7),.u1 (.len .sl) (.t 6),none⟩,
   ⟨(some 8),.mov (.c (.int .i64 0)),none⟩] (some [0,2,6,7,8]))
 (.block 0
  (.loop (AJ sz z))))
theorem LL {fn g l bo:Nat} {sz:Nat} {z:List AV} (hz:z.length=sz) {x:AV} {xs0 ys:List AV} (hx:iP x xs0) (hy:ys.length=xs0.length) (hn:xs0.length<30000000)
  (hel:∀i (hi:i<xs0.length),∃c,xs0[i]? =some (.agg c)∧c.length=sz∧c.all AV.bX=true∧∀h:aD,∃h',aP h h' ∧Ev fns orc (.call g [.agg c] .plain h) (.call (.ret ys[i]) .plain h'))
  {I:Nat→(Nat→Prop)→aD→Prop} {D:(Nat→Prop)→aD→Prop} (F:J4 fns orc l ys I D) {P:Nat→Prop} (hbo:P bo) (rc:RC):
  ∀(k i:Nat) (h:aD),i+k=xs0.length→(∀j,P j→j<h.next)→h.get bo=some (.cells [.fn g [] []])→I i P h→
   ∃h' e s,Ev fns orc (.code fn none (.loop (AJ sz z)) ⟨[(0,.yield l),(2,.ptr bo 0),(6,x),(7,.int .i64 (xs0.length:Nat)),(8,.int .i64 (i:Int))],[],rc,h⟩) (.code e s)∧
    (e= .exit 0∨e= .ret)∧s.heap=h' ∧s.defers=[]∧s.rc=rc∧Kept P h h' ∧(I ys.length P h' ∨D P h'):=by
 intro k
 induction k with
 |zero=>
  intro i h hi hP hb hI
  have e:i=xs0.length:=om
  have hd:decide ((i:Int)<((xs0.length:Nat):Int))=false:=by rw [e];simp
  refine ⟨h,.exit 0, ?s0,Ev.code ⟨0,fun m _=> ?b⟩,.inl rfl, ?e1, ?e2, ?e3,.refl _ _,.inl (by rw [hy,←e];exact hI)⟩
  case b=>
   exact SP (cj3 @AJ.eq_1 hd @aI)
  case e1=>rfl
  case e2=>rfl
  case e3=>rfl
 |succ k ih=>
  intro i h hi hP hb hI
  have hlt:i<xs0.length:=om
  obtain ⟨c,hc,hcl,hck,G2⟩:=hel i hlt
  have hd:decide ((i:Int)<((xs0.length:Nat):Int))=true:=by simp;omega
  have hia:=kT hx hc hcl
  have hlo:mE h (some sz) (.ep c 0)= .ok (.agg c):=Jp h hcl
  have hst:=mW h hz hcl hck
  obtain ⟨hA,hAe⟩:∃x,x=(h.push (.cells z)).set h.next (.cells c):=⟨_,rfl⟩
  rw [←hAe] at hst
  have gA:aP h hA:=by rw [hAe];exact ((aP.refl h).tI _).set (by simp) (by simp) _
  have hbo' :bo<h.next:=hP bo hbo
  have f1:mE hA none (.ptr bo 0)= .ok (.fn g [] []):=pM ((gA.get bo hbo').trans hb)
  have f2:mE hA (some sz) (.ptr h.next 0)= .ok (.agg c):=AB (by rw [hAe];exact aQ _ _ _ (by simp)) hcl
  obtain ⟨hB,gB,n1,e1⟩:=G2 hA
  have gAB:aP h hB:=gA.trans gB
  have hIB:I i P hB:=(F.ki i).less _ _ _ ((F.ki i).chg _ _ _ hI (fV gAB)) (fun j hj=> .inl hj)
  have hPB:∀j,P j→j<hB.next:=fun j hj=>Nat.lt_of_lt_of_le (hP j hj) gAB.next
  have hyi:i<ys.length:=om
  obtain ⟨hC,b,⟨n2,e2⟩,kC,hI1,hD1⟩:=F.rnd i ys[i] (List.getElem?_eq_getElem hyi) P hB hPB hIB
  have kAC:Kept P h hC:=(wB gAB hP).trans kC
  cases b with
  |false=>
   refine ⟨hC,.ret, ?s1,Ev.code ⟨max n1 n2,fun m hm=> ?b1⟩,.inr rfl, ?e11, ?e12, ?e13,kAC,.inr (hD1 rfl)⟩
   case b1=>
    have e1' :=e1 m om
    have e2' :=e2 m om
    exact SP (sC @AJ.eq_1 hd hia hlo hst f1 f2 e1' e2' @eN @aI)
   case e11=>rfl
   case e12=>rfl
   case e13=>rfl
  |true=>
   obtain ⟨h',e,s,⟨n3,e3⟩,hx1,hx2,hx3,hx4,kr,hID⟩:=ih (i+1) hC om (fun j hj=>Nat.lt_of_lt_of_le (hP j hj) kAC.next) ((kAC.get bo hbo).trans hb) (hI1 rfl)
   refine ⟨h',e,s,Ev.code ⟨max (max n1 n2) n3,fun m hm=> ?b2⟩,hx1,hx2,hx3,hx4,kAC.trans kr,hID⟩
   case b2=>
    have e1' :=e1 m om
    have e2' :=e2 m om
    have e3' :=e3 m om
    simp only [AJ] at e3'
    exact SPe (qC @AJ.eq_1 hd hia hlo hst f1 f2 e1' e2' @eN @aI (show IntKind.wrap .i64 ((i:Int)+1)=((i+1:Nat):Int) from by rw [pE om om];rfl)) e3'
theorem LJ {f g bl bo:Nat} {afn:AFn} {sz:Nat} {z:List AV} (hf:fns f=some afn) (ho:orc f=none) (hbd:afn.body=Ex sz z) (hr:afn.results=[]) (hz:z.length=sz)
  {x:AV} {xs0 ys:List AV} (hx:iP x xs0) (hy:ys.length=xs0.length) (hn:xs0.length<30000000)
  (hel:∀i (hi:i<xs0.length),∃c,xs0[i]? =some (.agg c)∧c.length=sz∧c.all AV.bX=true∧∀h:aD,∃h',aP h h' ∧Ev fns orc (.call g [.agg c] .plain h) (.call (.ret ys[i]) .plain h'))
  {P:Nat→Prop} {h0:aD} (hbl:P bl) (hbo:P bo) (h1:h0.get bl=some (.cells [x])) (h2:h0.get bo=some (.cells [.fn g [] []])):rY fns orc f [.ptr bl 0,.ptr bo 0] ys P h0:=by
 intro h l I D hk hP F hI
 have h1' :mE h none (.ptr bl 0)= .ok x:=pM ((hk.get bl hbl).trans h1)
 have hlen:nJ h .sl x= .ok xs0.length:=bO hx h
 obtain ⟨h',e,s,⟨n,uB⟩,he,hh,hd,hrc,kr,hID⟩:=LL (fns:=fns) (orc:=orc) (fn:=f) (l:=l) (bo:=bo) hz hx hy hn hel F hbo .plain xs0.length 0 h om hP ((hk.get bo hbo).trans h2) hI
 obtain ⟨ts,ds,rc,hp⟩:=s
 cases hh
 cases hd
 cases hrc
 refine ⟨hp,Ev.call hf ho ⟨n,fun m hm=> ?_⟩,kr,hID⟩
 have e1:cG (eval fns orc m) f none (.loop (AJ sz z)) ⟨[(0,.yield l),(2,.ptr bo 0),(6,x),(7,.int .i64 (xs0.length:Nat)),(8,.int .i64 0)],[],.plain,h⟩= .ok (.code e ⟨ts,[],.plain,hp⟩):=uB (m+1) om
 rw [hbd]
 obtain ⟨nt,res,body⟩:=afn
 cases hr
 rcases he with rfl|rfl
 ·exact SP (cj6 @Ex.eq_1 @eO.eq_1 @eO.eq_2 h1' hlen e1)
 ·exact SP (cj6 @Ex.eq_1 @eO.eq_1 @eO.eq_2 h1' hlen e1)
end Go.Gn
namespace Go.Gn
open Go Go.Am Go.Fs
variable {fns:Go.Am.F} {orc:Orc}
structure Marks (bs:List Nat) (ds:List vM) (h:aD):Prop where
 eq:ds=bs.map vM.collected
 nd:bs.Nodup
 lt:∀b∈bs,b<h.next
 at_:∀b∈bs,h.get b=some (.deferred (some []))
theorem Mw:∀(n:Nat) (bs:List Nat) (ds:List vM) (h:aD),Marks bs ds h→bs.length≤n→∃h',uF n ds h=some h' ∧h'.next=h.next∧∀i,i∉bs→h'.get i=h.get i:=by
 intro n
 induction n with
 |zero=>
  intro bs ds h M hl
  have:bs=[]:=List.length_eq_zero_iff.1 om
  subst this
  cases M.eq
  exact ⟨h,rfl,rfl,fun _ _=>rfl⟩
 |succ n ih=>
  intro bs ds h M hl
  cases bs with
  |nil=>
   cases M.eq
   exact ⟨h,rfl,rfl,fun _ _=>rfl⟩
  |cons b bs=>
   have hb:=M.at_ b (by simp)
   have hlt:=M.lt b (by simp)
   have hn:=List.nodup_cons.1 M.nd
   obtain ⟨h',e1,e2,e3⟩:=ih bs (bs.map vM.collected) (h.set b (.deferred none)) ⟨rfl,hn.2,fun c hc=>by simpa using M.lt c (by simp [hc]),fun c hc=>by
    rw [aE _ _ _ _ hlt (fun e=>hn.1 (e▸hc))];exact M.at_ c (by simp [hc])⟩ (by simpa using hl)
   refine ⟨h', ?_,by simpa using e2,fun i hi=> ?_⟩
   ·rw [M.eq]
    simp only [List.map_cons,uF,hb]
    exact e1
   ·rw [e3 i (fun q=>hi (List.mem_cons_of_mem _ q)),aE _ _ _ _ hlt (fun q=>hi (by rw [q];exact List.mem_cons_self ..))]
theorem Marks.kept {bs:List Nat} {ds:List vM} {h h' :aD} {P:Nat→Prop} (M:Marks bs ds h) (k:Kept P h h') (hP:∀b∈bs,P b):Marks bs ds h' :=
 ⟨M.eq,M.nd,fun b hb=>Nat.lt_of_lt_of_le (M.lt b hb) k.next,fun b hb=>(k.get b (hP b hb)).trans (M.at_ b hb)⟩
def kX (z:List AV):AC:=
 (.reg [⟨(some 5),.o3 (.alloc z),none⟩,
        ⟨none,.b2 (.store 29) (.t 5) (.t 13),none⟩] (some [2,5]))
def lV:AC:=
 (.block 3
       (.seq (.reg [⟨(some 14),.u1 (.load none) (.t 2),none⟩,
         ⟨(some 15),.u1 (.load (some 29)) (.t 5),none⟩,
         ⟨(some 16),.call (.t 14) [(.t 15)],none⟩,
         ⟨(some 17),.u2 (.un .not) (.t 16),none⟩] (some [17]))
       (.cond (.t 17)
        .ret
        .skip)))
def AE (z:List AV):AC:=
 (.seq (.reg [⟨(some 9),.b2 (.bin .lss) (.t 8) (.t 7),none⟩] (some [2,6,7,8,9,13]))
   (.seq (.cond (.t 9)
    .skip
    (.exit 0))
   (.seq (.block 1
    (.seq (.reg [⟨(some 10),.b2 (.GY 1) (.t 6) (.t 8),none⟩,
      ⟨(some 11),.u1 (.load none) (.t 10),none⟩,
      ⟨(some 4),.mov (.t 11),none⟩] (some [2,4,6,7,8,13]))
    (.seq (.reg [⟨(some 12),.mov (.t 4),none⟩] (some [2,6,7,8,12,13]))
    (.block 2
     (.rf (.t 12) [13] (kX z) lV)))))
   (.reg [⟨(some 18),.b2 (.bin .add) (.t 8) (.c (.int .i64 1)),none⟩,
     ⟨(some 8),.mov (.t 18),none⟩] (some [2,6,7,8,13])))))
def En (z:List AV):AC:=
 (.seq (.reg [⟨(some 2),.u2 .box (.t 0),none⟩] (some [1,2,13]))
 (.seq (.reg [⟨(some 6),.u1 (.load none) (.t 1),none⟩,
   ⟨(some 7),.u1 (.len .sl) (.t 6),none⟩,
   ⟨(some 8),.mov (.c (.int .i64 0)),none⟩] (some [2,6,7,8,13]))
 (.block 0
  (.loop (AE z)))))
def In (I:(Nat→Prop)→aD→Prop) (l2 b2 l:Nat) (bs:List Nat) (r:tM) (P:Nat→Prop) (h:aD):Prop:=
 I (fun i=>P i∨i=l2∨i=b2∨i∈bs) h∧¬P l2∧¬P b2∧l2≠b2∧l2∉bs∧l2<h.next∧b2<h.next∧h.get l2=some (.loop r)∧h.get b2=some (.cells [.yield l])∧
  (∀b∈bs,¬P b∧b<h.next∧h.get b=some (.deferred (some [])))
theorem In.keeps {I:(Nat→Prop)→aD→Prop} (K:yP I) (l2 b2 l:Nat) (bs:List Nat) (r:tM):yP (In I l2 b2 l bs r) where
 chg P h h' :=by
  rintro ⟨a1,a2,a3,a4,a5,a6,a7,a8,a9,a10⟩ c
  have nm:∀i,i<h.next→¬P i→¬FW P h h' i:=fun i hi hp hm=>by rcases hm with q|q;exact hp q;omega
  refine ⟨K.less _ _ _ (K.chg _ _ _ a1 ⟨c.next,fun i hi hn=>c.get i hi (fun q=>hn (.inl q))⟩) ?_,nm _ a6 a2,nm _ a7 a3,a4,a5,Nat.lt_of_lt_of_le a6 c.next,Nat.lt_of_lt_of_le a7 c.next,
   (c.get _ a6 a2).trans a8,(c.get _ a7 a3).trans a9,fun b hb=> ?_⟩
  ·rintro i (q|q)
   ·rcases q with q|q
    ·exact .inl (.inl q)
    ·exact .inr q
   ·exact .inl (.inr q)
  ·obtain ⟨q1,q2,q3⟩:=a10 b hb
   exact ⟨nm _ q2 q1,Nat.lt_of_lt_of_le q2 c.next,(c.get _ q2 q1).trans q3⟩
 less P Q h:=by
  rintro ⟨a1,a2,a3,a4,a5,a6,a7,a8,a9,a10⟩ hq
  exact ⟨K.less _ _ _ a1 (fun i q=>q.elim (fun q=> .inl (hq i q)) .inr),fun q=>a2 (hq _ q),fun q=>a3 (hq _ q),a4,a5,a6,a7,a8,a9,fun b hb=>⟨fun q=>(a10 b hb).1 (hq _ q),(a10 b hb).2⟩⟩
theorem Qg {fn l l2 b2:Nat} {bs:List Nat} {z:List AV} (hz:z.length=29) {ys:List AV} (hys:∀y∈ys,∃c,y= .agg c∧c.length=29∧c.all AV.bX=true)
  {I:Nat→(Nat→Prop)→aD→Prop} {D:(Nat→Prop)→aD→Prop} (F:J4 fns orc l ys I D) {ts:fN} {df:Nat} (ht:cH ts 2= .ptr b2 0):
  J4 fns orc l2 ys (fun n=>In (I n) l2 b2 l bs ⟨.ready,none,fn,ts,[13],kX z,lV,df⟩) (In D l2 b2 l bs ⟨.done,some .ret,fn,ts,[13],kX z,lV,df⟩) where
 ki:=fun n=>In.keeps (F.ki n) ..
 kd:=In.keeps F.kd ..
 rnd:=by
  intro n y hy P h hP hI
  have hI0:=hI
  obtain ⟨a1,a2,a3,a4,a5,a6,a7,a8,a9,a10⟩:=hI
  obtain ⟨c,rfl,hcl,hck⟩:=hys y (List.mem_of_getElem? hy)
  have hst:=mW h hz hcl hck
  obtain ⟨hA,hAe⟩:∃x,x=(h.push (.cells z)).set h.next (.cells c):=⟨_,rfl⟩
  rw [←hAe] at hst
  have gA:aP h hA:=by rw [hAe];exact ((aP.refl h).tI _).set (by simp) (by simp) _
  have hA8:hA.get l2=some (.loop ⟨.ready,none,fn,ts,[13],kX z,lV,df⟩):=(gA.get l2 a6).trans a8
  have hAl:l2<hA.next:=Nat.lt_of_lt_of_le a6 gA.next
  obtain ⟨hB,hBe⟩:∃x,x=hA.set l2 (.loop ⟨.busy,none,fn,ts,[13],kX z,lV,df⟩):=⟨_,rfl⟩
  have hBn:hB.next=hA.next:=by rw [hBe];simp
  have hBo:∀i,i≠l2→hB.get i=hA.get i:=fun i hi=>by rw [hBe];exact aE _ _ _ _ hAl hi
  have hB2:mE hB none (.ptr b2 0)= .ok (.yield l):=pM ((hBo b2 (fun e=>a4 e.symm)).trans ((gA.get b2 a7).trans a9))
  have hne:h.next≠l2:=om
  have hBx:mE hB (some 29) (.ptr h.next 0)= .ok (.agg c):=AB ((hBo _ hne).trans (by rw [hAe];exact aQ _ _ _ (by simp))) hcl
  have hIB:I n (fun i=>P i∨i=l2∨i=b2∨i∈bs) hB:=by
   refine (F.ki n).less _ _ _ ((F.ki n).chg _ _ _ a1 ⟨by rw [hBn];exact gA.next,fun i hi hn=> ?_⟩) (fun i q=> .inl q)
   rw [hBo i (fun e=>hn (.inr (.inl e))),gA.get i hi]
  have hPB:∀i,(P i∨i=l2∨i=b2∨i∈bs)→i<hB.next:=by
   intro i q
   have hle:h.next≤hB.next:=by rw [hBn];exact gA.next
   rcases q with q|rfl|rfl|q
   ·exact Nat.lt_of_lt_of_le (hP i q) hle
   ·omega
   ·omega
   ·exact Nat.lt_of_lt_of_le (a10 i q).2.1 hle
  obtain ⟨hC,b,⟨n0,e⟩,kC,hI1,hD1⟩:=F.rnd n _ hy _ hB hPB hIB
  have hC2:hC.get l2=some (.loop ⟨.busy,none,fn,ts,[13],kX z,lV,df⟩):=(kC.get l2 (.inr (.inl rfl))).trans (by rw [hBe];exact aQ _ _ _ hAl)
  have hCl:l2<hC.next:=Nat.lt_of_lt_of_le (by rw [hBn];exact hAl) kC.next
  have hlo:jG hA l2= .ok ⟨.ready,none,fn,ts,[13],kX z,lV,df⟩:=by simp only [jG,hA8]
  have Vi:jG hC l2= .ok ⟨.busy,none,fn,ts,[13],kX z,lV,df⟩:=by simp only [jG,hC2]
  have fin:∀o:AO,∀i,i≠l2→(hC.set l2 o).get i=hC.get i:=fun o i hi=>aE _ _ _ _ hCl hi
  have kY:∀o:AO,∀i,i<h.next→(P i∨i=b2∨i∈bs)→i≠l2→(hC.set l2 o).get i=h.get i:=by
   intro o i hi q hn
   rw [fin o i hn,kC.get i (by rcases q with q|q|q;exact .inl q;exact .inr (.inr (.inl q));exact .inr (.inr (.inr q))),hBo i hn,gA.get i hi]
  have hle:h.next≤hC.next:=Nat.le_trans (by rw [hBn];exact gA.next) kC.next
  have kept:∀o:AO,Kept P h (hC.set l2 o):=fun o=>⟨by simpa using hle,fun i q=>kY o i (hP i q) (.inl q) (fun e=>a2 (e▸q))⟩
  have inn:∀(J:(Nat→Prop)→aD→Prop) (KJ:yP J) (r' :tM),J (fun i=>P i∨i=l2∨i=b2∨i∈bs) hC→In J l2 b2 l bs r' P (hC.set l2 (.loop r')):=by
   intro J KJ r' hJ
   refine ⟨KJ.less _ _ _ (KJ.chg _ _ _ hJ ⟨by simp,fun i hi hn=>fin _ i (fun e=>hn (.inr (.inl e)))⟩) (fun i q=> .inl q),a2,a3,a4,a5,by simpa using hCl,by simp;omega,aQ _ _ _ hCl,
    (kY _ b2 a7 (.inr (.inl rfl)) (fun e=>a4 e.symm)).trans a9,fun q hq=>⟨(a10 q hq).1,by have:=(a10 q hq).2.1;simp;omega,(kY _ q (a10 q hq).2.1 (.inr (.inr hq)) (fun e=>a5 (e▸hq))).trans (a10 q hq).2.2⟩⟩
  cases b with
  |true=>
   refine ⟨hC.set l2 (.loop ⟨.ready,none,fn,ts,[13],kX z,lV,df⟩),true,Ev.round a8 rfl ⟨n0,fun m hm=> ?_⟩,kept _,fun _=>inn (I (n+1)) (F.ki (n+1)) _ (hI1 rfl),fun q=>by cases q⟩
   have e' :=e m hm
   simp -implicitDefEqProofs (disch:=(first|omega|(simp only [aD.aJ,aD.aL];try omega)|skip)) only [uI,iT,kX,lV,hst,fE,fG,dV,cT,dU,cS,fF,dR,gV,eQ,aM,dJ,iJ,opA,qS,kE,qT,pL,rJ,sB,dG,gU,fP,qM,mC,iZ,gJ,mK,dM,eZ,Nat.beq,lS,mH,eE,vl,rH,eY,eW,dW,fK,fH,fI,bY,iG,iD,cV,fL,fJ,bZ,iE,cU,cX,dA,cW,fM,dL,eT,eU,bP,iB,gZ,cK,eX,eV,bQ,iA,cJ,cP,cQ,cM,eS,dO,aY,dH,aZ,fB,bV,bR,bW,bT,dP,fD,kE,eN,kL,aT,aV,fO,gX,List.drop_zero,List.drop_succ_cons,rS,oEq,eqA,pR,ki,eP,eH,oneOf,iC,jH,mU,called,List.append_eq,List.nil_append,List.cons_append,List.append_assoc,Nat.zero_add,Nat.add_zero,kN,lK,aQ,aE,aD.aJ,aD.aL,List.length_cons,List.length_nil,Bool.and_true,Bool.true_and,List.all_cons,List.all_nil,bJ,cF,bK,bI,fA,Nat.reduceAdd,Nat.reduceEqDiff,Nat.reduceBEq,ite_true,ite_false,if_true,if_false,iQ,kH,jE,iK,iN,dK,iI,decide_eq_true_eq,decide_true,decide_false,qV,intArith,Int.ofNat_zero,reduceCtorEq,Bool.not_true,Bool.not_false,Bool.false_eq_true,Int.reduceEq,Int.reduceAdd,Int.zero_add,Int.add_zero,lZ,dQ,cR,oG,oI,oJ,oK,kR,kE]
   simp only [kX,lV] at hlo hBe Vi
   exact SP (xJ hlo (Eq.symm hBe) hB2 hBx e' @eN ht Vi @aN.eq_1 @aN.eq_2 @aN.eq_3 @aN.eq_4 @aN.eq_5 @oV.eq_1 @endRound.eq_1)
  |false=>
   refine ⟨hC.set l2 (.loop ⟨.done,some .ret,fn,ts,[13],kX z,lV,df⟩),false,Ev.round a8 rfl ⟨n0,fun m hm=> ?_⟩,kept _,fun q=>(by cases q),fun _=>inn D F.kd _ (hD1 rfl)⟩
   have e' :=e m hm
   simp -implicitDefEqProofs (disch:=(first|omega|(simp only [aD.aJ,aD.aL];try omega)|skip)) only [uI,iT,kX,lV,hst,fE,fG,dV,cT,dU,cS,fF,dR,gV,eQ,aM,dJ,iJ,opA,qS,kE,qT,pL,rJ,sB,dG,gU,fP,qM,mC,iZ,gJ,mK,dM,eZ,Nat.beq,lS,mH,eE,vl,rH,eY,eW,dW,fK,fH,fI,bY,iG,iD,cV,fL,fJ,bZ,iE,cU,cX,dA,cW,fM,dL,eT,eU,bP,iB,gZ,cK,eX,eV,bQ,iA,cJ,cP,cQ,cM,eS,dO,aY,dH,aZ,fB,bV,bR,bW,bT,dP,fD,kE,eN,kL,aT,aV,fO,gX,List.drop_zero,List.drop_succ_cons,rS,oEq,eqA,pR,ki,eP,eH,oneOf,iC,jH,mU,called,List.append_eq,List.nil_append,List.cons_append,List.append_assoc,Nat.zero_add,Nat.add_zero,kN,lK,aQ,aE,aD.aJ,aD.aL,List.length_cons,List.length_nil,Bool.and_true,Bool.true_and,List.all_cons,List.all_nil,bJ,cF,bK,bI,fA,Nat.reduceAdd,Nat.reduceEqDiff,Nat.reduceBEq,ite_true,ite_false,if_true,if_false,iQ,kH,jE,iK,iN,dK,iI,decide_eq_true_eq,decide_true,decide_false,qV,intArith,Int.ofNat_zero,reduceCtorEq,Bool.not_true,Bool.not_false,Bool.false_eq_true,Int.reduceEq,Int.reduceAdd,Int.zero_add,Int.add_zero,lZ,dQ,cR,oG,oI,oJ,oK,kR,kE]
   simp only [kX,lV] at hlo hBe Vi
   exact SP (xJ hlo (Eq.symm hBe) hB2 hBx e' @eN ht Vi @aN.eq_1 @aN.eq_2 @aN.eq_3 @aN.eq_4 @aN.eq_5 @oV.eq_1 @endRound.eq_1)
structure Sq where
 e:FuncId
 capt:List AV
 ys:List AV
def Sq.fn (q:Sq):AV:= .fn q.e [] q.capt
theorem oX {i:Nat} {x:AV} {xs:List AV} {v:AV} (hx:iP x xs) (hi:xs[i]? =some v) (hv:v.cells=[v]):pT 1 x (.int .i64 (i:Int))= .ok (.ep [v] 0):=by
 cases hx with
 |nil=>simp at hi
 |sl tk xs=>
  simp only [pT,F8,yH,uP,yU,hi,hv]
  rfl
def off (qs:List Sq) (i:Nat):Nat:=((qs.take i).flatMap Sq.ys).length
theorem Yc (qs:List Sq):off qs 0=0:=rfl
theorem U0 (qs:List Sq):off qs qs.length=(qs.flatMap Sq.ys).length:=by simp [off]
theorem R5 (qs:List Sq) (i:Nat) (hi:i<qs.length):off qs (i+1)=off qs i+qs[i].ys.length:=by
 unfold off
 rw [List.take_add_one,List.getElem?_eq_getElem hi]
 simp only [Option.toList,List.flatMap_append,List.length_append,List.flatMap_cons,List.flatMap_nil,List.append_nil]
theorem UZ (qs:List Sq) (i:Nat) (hi:i<qs.length) (n:Nat) (hn:n<qs[i].ys.length):(qs.flatMap Sq.ys)[off qs i+n]? =qs[i].ys[n]? :=by
 have e:qs=qs.take i++qs[i]::qs.drop (i+1):=by rw [List.getElem_cons_drop,List.take_append_drop]
 have:qs.flatMap Sq.ys=(qs.take i).flatMap Sq.ys++(qs[i].ys++(qs.drop (i+1)).flatMap Sq.ys):=by
  conv=>lhs;rw [e]
  simp only [List.flatMap_append,List.flatMap_cons]
 rw [this]
 unfold off
 rw [List.getElem?_append_right om,Nat.add_sub_cancel_left,List.getElem?_append_left hn]
theorem Lo {fn l b2:Nat} {z:List AV} (hz:z.length=29) {qs:List Sq} {x:AV} (hx:iP x (qs.map Sq.fn)) (hn:qs.length≤8)
  (hys:∀q∈qs,∀y∈q.ys,∃c,y= .agg c∧c.length=29∧c.all AV.bX=true)
  {I:Nat→(Nat→Prop)→aD→Prop} {D:(Nat→Prop)→aD→Prop} (F:J4 fns orc l (qs.flatMap Sq.ys) I D) {P:Nat→Prop} (hb2:¬P b2) {h0:aD} (hq:∀q∈qs,rY fns orc q.e q.capt q.ys P h0) (KI:∀n,yP (I n)) (KD:yP D) (rc:RC):
  ∀(k i:Nat) (h:aD) (bs:List Nat) (ds:List vM),i+k=qs.length→Marks bs ds h→bs.length=i→Kept P h0 h→(∀j,P j→j<h.next)→b2<h.next→h.get b2=some (.cells [.yield l])→(∀b∈bs,¬P b∧b≠b2)→
   I (off qs i) (fun j=>P j∨j=b2∨j∈bs) h→
   ∃h' e s bs',Ev fns orc (.code fn none (.loop (AE z)) ⟨[(2,.ptr b2 0),(6,x),(7,.int .i64 (qs.length:Nat)),(8,.int .i64 (i:Int)),(13,.unk)],ds,rc,h⟩) (.code e s)∧
    (e= .exit 0∨e= .ret)∧s.heap=h' ∧Marks bs' s.defers h' ∧bs'.length≤8∧s.rc=rc∧Kept P h h' ∧(∀b∈bs',¬P b)∧(I (qs.flatMap Sq.ys).length (fun j=>P j∨j∈bs') h' ∨D (fun j=>P j∨j∈bs') h'):=by
 intro k
 induction k with
 |zero=>
  intro i h bs ds hi hM hbl hk hP hb hg hbs hI
  have e:i=qs.length:=om
  have hd:decide ((i:Int)<((qs.length:Nat):Int))=false:=by rw [e];simp
  refine ⟨h,.exit 0, ?s0,bs,Ev.code ⟨0,fun m _=> ?b⟩,.inl rfl, ?e1, ?e2,by omega, ?e3,.refl _ _,fun b q=>(hbs b q).1,.inl (by rw [←U0,←e];exact (KI _).less _ _ _ hI (fun j q=>q.elim .inl (fun q=> .inr (.inr q))))⟩
  case b=>
   exact SP (cj3 @AE.eq_1 hd @aI)
  case e1=>rfl
  case e2=>exact hM
  case e3=>rfl
 |succ k ih=>
  intro i h bs ds hi hM hbl hk hP hb hg hbs hI
  have hlt:i<qs.length:=om
  have Jx:qs[i]∈qs:=List.getElem_mem hlt
  have hd:decide ((i:Int)<((qs.length:Nat):Int))=true:=by simp;omega
  have hxi:(qs.map Sq.fn)[i]? =some (.fn qs[i].e [] qs[i].capt):=by simp [hlt,Sq.fn]
  have hia:pT 1 x (.int .i64 (i:Int))= .ok (.ep [.fn qs[i].e [] qs[i].capt] 0):=by
   exact oX hx hxi rfl
  have hlo:mE h none (.ep [.fn qs[i].e [] qs[i].capt] 0)= .ok (.fn qs[i].e [] qs[i].capt):=rfl
  obtain ⟨ts,hts⟩:∃ts:fN,ts=[(2,.ptr b2 0),(6,x),(7,.int .i64 (qs.length:Nat)),(8,.int .i64 (i:Int)),(12,.fn qs[i].e [] qs[i].capt),(13,.unk)]:=⟨_,rfl⟩
  obtain ⟨h2,hh2⟩:∃h2,h2=(h.push (.deferred (some []))).push (.loop ⟨.ready,none,fn,ts,[13],kX z,lV,h.next⟩):=⟨_,rfl⟩
  have g2:aP h h2:=by rw [hh2];exact ((aP.refl h).tI _).tI _
  have n2:h2.next=h.next+2:=by rw [hh2];simp
  have hl2:h2.get (h.next+1)=some (.loop ⟨.ready,none,fn,ts,[13],kX z,lV,h.next⟩):=by rw [hh2];exact aT _ _ _ (by simp) (by simp)
  have hmk:h2.get h.next=some (.deferred (some [])):=by rw [hh2,aV _ _ _ (by simp)];exact aT _ _ _ (by simp) (by simp)
  have Xc:∀b∈h.next::bs,¬P b∧b<h2.next∧h2.get b=some (.deferred (some [])):=by
   intro b q
   rcases List.mem_cons.1 q with rfl|q
   ·exact ⟨fun q=>absurd (hP _ q) om,by omega,hmk⟩
   ·have:=hM.lt b q
    exact ⟨(hbs b q).1,by omega,(g2.get b this).trans (hM.at_ b q)⟩
  have hnl:h.next+1∉h.next::bs:=by
   intro q
   rcases List.mem_cons.1 q with q|q
   ·omega
   ·have:=hM.lt _ q;omega
  have hIn:In (I (off qs i+0)) (h.next+1) b2 l (h.next::bs) ⟨.ready,none,fn,ts,[13],kX z,lV,h.next⟩ P h2:=by
   refine ⟨(KI _).less _ _ _ ((KI _).chg _ _ _ hI (fV g2)) ?_,fun q=>absurd (hP _ q) om,hb2,by omega,hnl,by omega,by omega,hl2,(g2.get b2 hb).trans hg,Xc⟩
   rintro j (q|q|q|q)
   ·exact .inl (.inl q)
   ·exact .inr om
   ·exact .inl (.inr (.inl q))
   ·rcases List.mem_cons.1 q with q|q
    ·exact .inr om
    ·exact .inl (.inr (.inr q))
  have k2:Kept P h0 h2:=hk.trans (wB g2 hP)
  obtain ⟨h3,⟨n1,e1⟩,k3,hID⟩:=hq _ Jx h2 (h.next+1) _ _ k2 (fun j q=>Nat.lt_of_lt_of_le (hP j q) g2.next) (Qg (fn:=fn) (l2:=h.next+1) (b2:=b2) (bs:=h.next::bs) hz (hys _ Jx) (F.part (off qs i) (UZ qs i hlt)) (ts:=ts) (df:=h.next) (by rw [hts];rfl)) hIn
  rw [hh2,hts] at e1
  have k4:∀o,Kept P h (h3.set (h.next+1) o):=fun o=>by
   have:=(wB g2 hP).trans k3
   refine ⟨by simpa using this.next,fun j q=> ?_⟩
   have hj:=hP j q
   rw [aE _ _ _ _ (by have:=k3.next;omega) om]
   exact this.get j q
  have l3:h.next+1<h3.next:=by have:=k3.next;omega
  have M4:∀o,(∀b∈h.next::bs,h3.get b=some (.deferred (some [])))→Marks (h.next::bs) (.collected h.next::ds) (h3.set (h.next+1) o):=by
   intro o hm
   refine ⟨by rw [hM.eq];rfl,List.nodup_cons.2 ⟨fun q=>by have:=hM.lt _ q;omega,hM.nd⟩,fun b q=> ?_,fun b q=> ?_⟩
   ·have:=(Xc b q).2.1;have:=k3.next;simp;omega
   ·rw [aE _ _ _ _ l3 (fun e=>hnl (e▸q))];exact hm b q
  have nP:∀b∈h.next::bs,¬P b:=fun b q=>(Xc b q).1
  rcases hID with hI3|hD3
  ·obtain ⟨a1,a2,a3,a4,a5,a6,a7,a8,a9,a10⟩:=hI3
   have SY:jG h3 (h.next+1)= .ok ⟨.ready,none,fn,ts,[13],kX z,lV,h.next⟩:=by simp only [jG,a8]
   obtain ⟨h4,hh4⟩:∃h4,h4=h3.set (h.next+1) (.loop ⟨.exhausted,none,fn,ts,[13],kX z,lV,h.next⟩):=⟨_,rfl⟩
   have hI4:I (off qs (i+1)) (fun j=>P j∨j=b2∨j∈h.next::bs) h4:=by
    rw [hh4,R5 qs i hlt]
    refine (KI _).less _ _ _ ((KI _).chg _ _ _ a1 ⟨by simp,fun j hj hn=>aE _ _ _ _ l3 (fun e=>hn (.inr (.inl e)))⟩) ?_
    rintro j (q|q|q)
    ·exact .inl (.inl q)
    ·exact .inl (.inr (.inr (.inl q)))
    ·exact .inl (.inr (.inr (.inr q)))
   have b4:h4.get b2=some (.cells [.yield l]):=by rw [hh4,aE _ _ _ _ l3 om];exact a9
   have kk4:=k4 (.loop ⟨.exhausted,none,fn,ts,[13],kX z,lV,h.next⟩)
   rw [←hh4] at kk4
   have MM:=M4 (.loop ⟨.exhausted,none,fn,ts,[13],kX z,lV,h.next⟩) (fun b q=>(a10 b q).2.2)
   rw [←hh4] at MM
   obtain ⟨h',e,s,bs',⟨n3,e3⟩,c1,c2,c3,c4,c5,c6,c7,c8⟩:=ih (i+1) h4 (h.next::bs) (.collected h.next::ds) om MM (by simp;omega) (hk.trans kk4) (fun j q=>Nat.lt_of_lt_of_le (hP j q) kk4.next)
    (Nat.lt_of_lt_of_le hb kk4.next) b4 (fun b q=>⟨nP b q,fun e=>by
     rcases List.mem_cons.1 q with q|q
     ·omega
     ·exact (hbs b q).2 e⟩) hI4
   refine ⟨h',e,s,bs',Ev.code ⟨max n1 n3,fun m hm=> ?_⟩,c1,c2,c3,c4,c5,kk4.trans c6,c7,c8⟩
   have e1' :=e1 m om
   have e3' :=e3 m om
   rw [hts] at SY hh4
   simp only [AE] at e3'
   exact SPe (dI @AE.eq_1 hd hia hlo @zX @rfA.eq_1 @yC.eq_def @yD.eq_1 @yD.eq_2 e1' @tD.eq_1 @tD.eq_2 @tD.eq_3 SY @wE.eq_1 (Eq.symm hh4) (cj2 @aI (show IntKind.wrap .i64 ((i:Int)+1)=((i+1:Nat):Int) from by rw [pE om om];rfl))) e3'
  ·obtain ⟨a1,a2,a3,a4,a5,a6,a7,a8,a9,a10⟩:=hD3
   have SY:jG h3 (h.next+1)= .ok ⟨.done,some .ret,fn,ts,[13],kX z,lV,h.next⟩:=by simp only [jG,a8]
   have MM:=M4 (.loop ⟨.exhausted,some .ret,fn,ts,[13],kX z,lV,h.next⟩) (fun b q=>(a10 b q).2.2)
   have kk4:=k4 (.loop ⟨.exhausted,some .ret,fn,ts,[13],kX z,lV,h.next⟩)
   refine ⟨_,.ret, ?s1,h.next::bs,Ev.code ⟨n1,fun m hm=> ?b1⟩,.inr rfl, ?e11, ?e12,by simp;omega, ?e13,kk4,nP,.inr ?d⟩
   case b1=>
    have e1' :=e1 m om
    rw [hts] at SY
    exact SP (Bd @AE.eq_1 hd hia hlo @zX @rfA.eq_1 @yC.eq_def @yD.eq_1 @yD.eq_2 e1' @tD.eq_1 @tD.eq_2 @tD.eq_3 SY @wE.eq_1 @aI)
   case e11=>rw [hts]
   case e12=>exact MM
   case e13=>rfl
   case d=>
    refine KD.less _ _ _ (KD.chg _ _ _ a1 ⟨by simp,fun j hj hn=>aE _ _ _ _ l3 (fun e=>hn (.inr (.inl e)))⟩) ?_
    rintro j (q|q)
    ·exact .inl (.inl q)
    ·exact .inl (.inr (.inr (.inr q)))
theorem zS {f bl:Nat} {afn:AFn} {z:List AV} (hf:fns f=some afn) (ho:orc f=none) (hbd:afn.body=En z) (hr:afn.results=[]) (hz:z.length=29) {qs:List Sq} {x:AV} (hx:iP x (qs.map Sq.fn)) (hn:qs.length≤8)
  (hys:∀q∈qs,∀y∈q.ys,∃c,y= .agg c∧c.length=29∧c.all AV.bX=true) {P:Nat→Prop} {h0:aD} (hbl:P bl) (h1:h0.get bl=some (.cells [x])) (hq:∀q∈qs,rY fns orc q.e q.capt q.ys P h0):
  rY fns orc f [.ptr bl 0] (qs.flatMap Sq.ys) P h0:=by
 intro h l I D hk hP F hI
 have hlen:∀hp:aD,nJ hp .sl x= .ok qs.length:=fun hp=>by rw [bO hx hp,List.length_map]
 obtain ⟨hA,hAe⟩:∃hA,hA=h.push (.cells [.yield l]):=⟨_,rfl⟩
 have gA:aP h hA:=by rw [hAe];exact .push _ _
 have nA:hA.next=h.next+1:=by rw [hAe];simp
 have h1' :mE hA none (.ptr bl 0)= .ok x:=pM ((gA.get bl (hP bl hbl)).trans ((hk.get bl hbl).trans h1))
 have hb2:¬P h.next:=fun q=>by have:=hP _ q;omega
 obtain ⟨h',e,s,bs',⟨n,uB⟩,he,hh,hM,hbl8,hrc,kr,hnP,hID⟩:=Lo (fns:=fns) (orc:=orc) (fn:=f) (l:=l) (b2:=h.next) hz hx hn hys
  F hb2 hq F.ki F.kd .plain qs.length 0 hA [] [] om ⟨rfl,List.nodup_nil,fun b hb=>by simp at hb,fun b hb=>by simp at hb⟩ rfl (hk.trans (wB gA hP))
  (fun j q=>by have:=hP j q;omega) om (by rw [hAe];exact aT _ _ _ om om) (fun b hb=>by simp at hb)
  ((F.ki _).less _ _ _ ((F.ki _).chg _ _ _ hI (fV gA)) (fun j q=>by
   rcases q with q|q|q
   ·exact .inl q
   ·exact .inr om
   ·simp at q))
 obtain ⟨ts,ds,rc,hp⟩:=s
 cases hh
 cases hrc
 obtain ⟨h4,u1,u2,u3⟩:=Mw 8 bs' ds hp hM hbl8
 have c4:∀J:(Nat→Prop)→aD→Prop,yP J→J (fun j=>P j∨j∈bs') hp→J P h4:=fun J KJ hJ=>
  KJ.less _ _ _ (KJ.chg _ _ _ hJ ⟨by omega,fun i hi hn=>u3 i (fun q=>hn (.inr q))⟩) (fun i q=> .inl (.inl q))
 refine ⟨h4,Ev.A0 hf ho ⟨n,fun m hm=> ?_⟩,⟨?_,fun i q=> ?_⟩,hID.imp (c4 (I _) (F.ki _)) (c4 D F.kd)⟩
 ·have e1:cG (eval fns orc m) f none (.loop (AE z)) ⟨[(2,.ptr h.next 0),(6,x),(7,.int .i64 (qs.length:Nat)),(8,.int .i64 0),(13,.unk)],[],.plain,hA⟩= .ok (.code e ⟨ts,ds,.plain,hp⟩):=uB (m+1) om
  rw [hbd]
  obtain ⟨nt,res,body⟩:=afn
  cases hr
  rcases he with rfl|rfl
  ·exact SP (sC @En.eq_1 @eO.eq_1 @eO.eq_2 @AV.known.eq_1 @AV.known.eq_2 (Eq.symm hAe) h1' hlen e1 @iU.eq_def u1)
  ·exact SP (sC @En.eq_1 @eO.eq_1 @eO.eq_2 @AV.known.eq_1 @AV.known.eq_2 (Eq.symm hAe) h1' hlen e1 @iU.eq_def u1)
 ·have k1:hA.next≤hp.next:=kr.next
  omega
 ·rw [u3 i (fun q' =>hnP i q' q),kr.get i q,gA.get i (hP i q)]
theorem SA {f p:Prop} (x:f) (h:f→p:=by intro x;simp -implicitDefEqProofs (maxSteps:=3000000) (disch:=(first|omega|(simp only [aD.aJ,aD.aL];try omega)|skip)) only [x,eO,fE,fG,dV,cT,aI,dU,cS,fF,dR,gV,eQ,aM,dJ,iJ,opA,qS,kE,qT,pL,rJ,sB,dG,gU,fP,qM,mC,iZ,gJ,mK,dM,eZ,Nat.beq,lS,mH,eE,vl,rH,eY,eW,dW,fK,fH,fI,bY,iG,iD,cV,fL,fJ,bZ,iE,cU,cX,dA,cW,fM,dL,eT,eU,bP,iB,gZ,cK,eX,eV,bQ,iA,cJ,cP,cQ,cM,eS,dO,aY,dH,aZ,fB,bV,bR,bW,bT,dP,fD,eN,kL,mE,bN,aT,aV,fO,gX,takeN,List.drop_zero,List.drop_succ_cons,rS,oEq,eqA,pR,ki,eP,eH,oneOf,iC,jH,mU,called,List.append_eq,List.nil_append,List.cons_append,List.append_assoc,Nat.zero_add,Nat.add_zero,kN,lK,cI,kR,kG,aQ,aE,aD.aJ,aD.aL,List.length_cons,List.length_nil,Bool.and_true,Bool.true_and,List.all_cons,List.all_nil,bJ,cF,bK,bI,fA,Nat.reduceAdd,Nat.reduceEqDiff,Nat.reduceBEq,ite_true,ite_false,if_true,if_false,iQ,kH,jE,iK,iN,dK,iI,decide_eq_true_eq,decide_true,decide_false,qV,intArith,Int.ofNat_zero,reduceCtorEq,Bool.not_true,Bool.not_false,Bool.false_eq_true,Int.reduceEq,Int.reduceAdd,Int.zero_add,Int.add_zero,lZ,aX,pY,kD,kF,pX,lG,dQ,cR,oG,oI,oJ,oK];try rfl):p:=h x
end Go.Gn
namespace Go.Gn
open Go Go.Am Go.Fs
variable {fns:Go.Am.F} {orc:Orc}
theorem dF {p:Prop} [Decidable p] (h:¬p):decide p=false:=decide_eq_false h
theorem dT {p:Prop} [Decidable p] (h:p):decide p=true:=decide_eq_true h
theorem uA (h:aD) (c:List AV) (o:Nat):mE (h.push (.cells c)) none (.ptr h.next o)=bN none c o:=by
 simp only [mE,aD.qI]
theorem XL (h:aD) (c:List AV) (n o:Nat):mE (h.push (.cells c)) (some n) (.ptr h.next o)=bN (some n) c o:=by
 simp only [mE,aD.qI]
theorem OK {h:aD} {i:Nat} {c:List AV} (hg:h.get i=some (.cells c)) (n:Option Nat) (o:Nat):mE h n (.ptr i o)=bN n c o:=by
 simp only [mE,hg]
theorem Lh (h:aD) (v:AV):mE h none (.ep [v] 0)= .ok v:=rfl
theorem kJ (h:aD) (s:List UInt8):nJ h .str (.str s)= .ok s.length:=rfl
structure FO (fns:Go.Am.F) (orc:Orc) (l:Nat) (A:Nat→List AV→Prop) (I:Nat→(Nat→Prop)→aD→Prop) (D:(Nat→Prop)→aD→Prop):Prop where
 ki:∀n,yP (I n)
 kd:yP D
 rnd:∀n x,A n x→∀P h,(∀i,P i→i<h.next)→I n P h→∃h' b,Ev fns orc (.round l x h) (.call (.ret (.bool b)) .plain h')∧Kept P h h' ∧(b=true→I (n+1) P h')∧(b=false→D P h')
def EK (fns:Go.Am.F) (orc:Orc) (g:FuncId) (capt:List AV) (A:Nat→List AV→Prop) (N:Nat) (P:Nat→Prop) (h0:aD):Prop:=
 ∀h l I D,Kept P h0 h→(∀i,P i→i<h.next)→FO fns orc l A I D→I 0 P h→
  ∃h',Ev fns orc (.call g (.yield l::capt) .plain h) (.call (.ret jC) .plain h')∧Kept P h h' ∧(I N P h' ∨D P h')
def Ze (xs:List AV) (n:Nat) (x:List AV):Prop:=∃y,xs[n]? =some y∧x=[y]
theorem Vr {l:Nat} {xs:List AV} {I:Nat→(Nat→Prop)→aD→Prop} {D:(Nat→Prop)→aD→Prop} (F:FO fns orc l (Ze xs) I D):J4 fns orc l xs I D:=
 ⟨F.ki,F.kd,fun n x hx=>F.rnd n [x] ⟨x,hx,rfl⟩⟩
theorem Dy {g:FuncId} {capt xs:List AV} {P:Nat→Prop} {h0:aD} (Y:rY fns orc g capt xs P h0):EK fns orc g capt (Ze xs) xs.length P h0:=
 fun h l I D hk hP F hI=>Y h l I D hk hP (Vr F) hI
def qA (h:aD) (r:tM):aD:=(h.push (.deferred (some []))).push (.loop r)
theorem vO (h:aD) (r:tM):(qA h r).next=h.next+2:=by simp [qA]
theorem tJ (h:aD) (r:tM):aP h (qA h r):=((aP.refl h).tI _).tI _
theorem A6 (h:aD) (r:tM):(qA h r).get h.next=some (.deferred (some [])):=by
 unfold qA
 rw [aV _ _ _ (by simp)]
 exact aT _ _ _ om om
theorem A7 (h:aD) (r:tM):(qA h r).get (h.next+1)=some (.loop r):=by
 unfold qA
 exact aT _ _ _ (by simp) (by simp)
structure Old (h:aD) (r:tM) (P S:Nat→Prop) (hh:aD):Prop where
 le:h.next+2≤hh.next
 get:∀i,i<h.next→¬P i→¬S i→hh.get i=h.get i
 mark:hh.get h.next=some (.deferred (some []))
 loop:hh.get (h.next+1)=some (.loop r)
def InL (h:aD) (r:tM) (P S:Nat→Prop) (C:(Nat→Prop)→aD→Prop) (P' :Nat→Prop) (hh:aD):Prop:=
 Old h r P S hh∧(∀i,i<h.next+2→¬P i→¬P' i)∧∃Fp:Nat→Prop,(∀i,Fp i→¬P' i∧i<hh.next)∧C Fp hh
def Loc (h:aD) (P:Nat→Prop) (C:(Nat→Prop)→aD→Prop):Prop:=
 ∀Fp a b,a.next≤b.next→(∀i,i<a.next→(Fp i∨(i<h.next∧¬P i))→b.get i=a.get i)→C Fp a→C Fp b
theorem InL.keeps {h:aD} {r:tM} {P S:Nat→Prop} {C:(Nat→Prop)→aD→Prop} (hP:∀i,P i→i<h.next) (L:Loc h P C):yP (InL h r P S C) where
 chg P' a b:=by
  rintro ⟨o,np,Fp,hF,hC⟩ c
  have nP:∀i,i<h.next+2→¬P i→¬P' i:=np
  have lt:∀i,i<h.next+2→i<a.next:=fun i hi=>Nat.lt_of_lt_of_le hi o.le
  refine ⟨⟨Nat.le_trans o.le c.next,fun i hi hp hs=>(c.get i (lt i om) (nP i om hp)).trans (o.get i hi hp hs), ?_, ?_⟩, ?_,Fp, ?_, ?_⟩
  ·exact (c.get _ (lt _ om) (nP _ om (fun q=>absurd (hP _ q) om))).trans o.mark
  ·exact (c.get _ (lt _ om) (nP _ om (fun q=>absurd (hP _ q) om))).trans o.loop
  ·rintro i hi hp (q|q)
   ·exact nP i hi hp q
   ·have:=lt i hi;omega
  ·rintro i q
   refine ⟨?_,Nat.lt_of_lt_of_le (hF i q).2 c.next⟩
   rintro (q' |q')
   ·exact (hF i q).1 q'
   ·have:=(hF i q).2;omega
  ·refine L Fp a b c.next (fun i hi q=>c.get i hi ?_) hC
   rcases q with q|q
   ·exact (hF i q).1
   ·exact nP i om q.2
 less P' Q a:=by
  rintro ⟨o,np,Fp,hF,hC⟩ hq
  exact ⟨o,fun i hi hp q=>np i hi hp (hq i q),Fp,fun i q=>⟨fun q' =>(hF i q).1 (hq i q'),(hF i q).2⟩,hC⟩
def EN (fns:Go.Am.F) (orc:Orc) (h:aD) (r:tM) (P S:Nat→Prop) (A:Nat→List AV→Prop) (C:Nat→(Nat→Prop)→aD→Prop) (D:(Nat→Prop)→aD→Prop):Prop:=
 ∀n x,A n x→∀hh Fp,Old h r P S hh→(∀i,Fp i→h.next+2≤i∧i<hh.next)→C n Fp hh→
  ∃b h' Fp',Ev fns orc (.round (h.next+1) x hh) (.call (.ret (.bool b)) .plain h')∧hh.next≤h'.next∧
   (∀i,i<hh.next→¬Fp i→¬S i→i≠h.next+1→h'.get i=hh.get i)∧(∀i,Fp' i→i<h'.next∧(Fp i∨hh.next≤i))∧
   (b=true→C (n+1) Fp' h' ∧h'.get (h.next+1)=some (.loop r))∧
   (b=false→D Fp' h' ∧h'.get (h.next+1)=some (.loop {r with state:= .done,pending:=some .ret}))
theorem LG {h:aD} {r:tM} {P S:Nat→Prop} {A:Nat→List AV→Prop} {C:Nat→(Nat→Prop)→aD→Prop} {D:(Nat→Prop)→aD→Prop}
  (hP:∀i,P i→i<h.next) (hS:∀i,S i→i<h.next∧¬P i) (hL:∀n,Loc h P (C n)) (hLD:Loc h P D) (hR:EN fns orc h r P S A C D):
  FO fns orc (h.next+1) A (fun n=>InL h r P S (fun Fp hh=>(∀i,Fp i→h.next+2≤i)∧C n Fp hh)) (InL h {r with state:= .done,pending:=some .ret} P S (fun Fp hh=>(∀i,Fp i→h.next+2≤i)∧D Fp hh)) where
 ki n:=InL.keeps hP (fun Fp a b h1 h2 q=>⟨q.1,hL n Fp a b h1 h2 q.2⟩)
 kd:=InL.keeps hP (fun Fp a b h1 h2 q=>⟨q.1,hLD Fp a b h1 h2 q.2⟩)
 rnd:=by
  rintro n x hx P' hh hP' ⟨o,np,Fp,hF,hF2,hC⟩
  obtain ⟨b,h',Fp',e,nx,ch,fp,hT,hD⟩:=hR n x hx hh Fp o (fun i q=>⟨hF2 i q,(hF i q).2⟩) hC
  have sP:∀i,S i→¬P' i:=fun i q=>np i (by have:=(hS i q).1;omega) (hS i q).2
  have lP:¬P' (h.next+1):=np _ om (fun q=>absurd (hP _ q) om)
  have old:∀r',h'.get (h.next+1)=some (.loop r')→Old h r' P S h' :=by
   intro r' hr'
   have no:∀i,i<h.next+2→¬Fp i:=fun i hi q=>by have:=hF2 i q;omega
   refine ⟨Nat.le_trans o.le nx,fun i hi hp hs=>(ch i (by have:=o.le;omega) (no i om) hs om).trans (o.get i hi hp hs), ?_,hr'⟩
   exact (ch _ (by have:=o.le;omega) (no _ om) (fun q=>absurd (hS _ q).1 om) om).trans o.mark
  have fpk:∀i,Fp' i→¬P' i∧i<h'.next:=by
   intro i q
   refine ⟨fun q' => ?_,(fp i q).1⟩
   rcases (fp i q).2 with w|w
   ·exact (hF i w).1 q'
   ·have:=hP' i q';omega
  have fp2:∀i,Fp' i→h.next+2≤i:=by
   intro i q
   rcases (fp i q).2 with w|w
   ·exact hF2 i w
   ·have:=o.le;omega
  refine ⟨h',b,e,⟨nx,fun i q=>ch i (hP' i q) (fun w=>(hF i w).1 q) (fun w=>sP i w q) (fun w=>lP (w▸q))⟩,fun q=> ?_,fun q=> ?_⟩
  ·obtain ⟨t1,t2⟩:=hT q
   exact ⟨old _ t2,np,Fp',fpk,fp2,t1⟩
  ·obtain ⟨t1,t2⟩:=hD q
   exact ⟨old _ t2,np,Fp',fpk,fp2,t1⟩
theorem I1 {fn g:FuncId} {capt:List AV} {f:Opd} {ps:List Nat} {asg body:AC} {ts:fN} {ds:List vM} {rc:RC} {h:aD} {A:Nat→List AV→Prop} {N:Nat} {P S:Nat→Prop} {C:Nat→(Nat→Prop)→aD→Prop} {D:(Nat→Prop)→aD→Prop}
  (hf:ev ts f= .fn g [] capt) (Y:EK fns orc g capt A N P h) (hP:∀i,P i→i<h.next) (hS:∀i,S i→i<h.next∧¬P i)
  (hL:∀n,Loc h P (C n)) (hLD:Loc h P D) (hC:C 0 (fun _=>False) (qA h ⟨.ready,none,fn,ts,ps,asg,body,h.next⟩))
  (hR:EN fns orc h ⟨.ready,none,fn,ts,ps,asg,body,h.next⟩ P S A C D):
  ∃h' e,(∃N,∀m,N≤m→cG (eval fns orc m) fn none (.rf f ps asg body) ⟨ts,ds,rc,h⟩= .ok (.code e ⟨ts,.collected h.next::ds,rc,h'⟩))∧
   h.next+2≤h'.next∧h'.get h.next=some (.deferred (some []))∧(∀i,i<h.next→¬S i→h'.get i=h.get i)∧
   ((e= .normal∧∃Fp:Nat→Prop,(∀i,Fp i→h.next+2≤i∧i<h'.next)∧C N Fp h')∨(e= .ret∧∃Fp:Nat→Prop,(∀i,Fp i→h.next+2≤i∧i<h'.next)∧D Fp h')):=by
 obtain ⟨r,hr⟩:∃r:tM,r=⟨.ready,none,fn,ts,ps,asg,body,h.next⟩:=⟨_,rfl⟩
 rw [←hr] at hC hR
 have F:=LG hP hS hL hLD hR
 have gr:=tJ h r
 obtain ⟨h3,⟨n1,e1⟩,k3,hID⟩:=Y (qA h r) (h.next+1) _ _ (wB gr hP) (fun i q=>Nat.lt_of_lt_of_le (hP i q) gr.next) F
  ⟨⟨by rw [vO];exact Nat.le_refl _,fun i hi _ _=>gr.get i hi,A6 h r,A7 h r⟩,fun i _ hp=>hp,fun _=>False,fun i q=>q.elim,fun i q=>q.elim,hC⟩
 have fin:∀r',Old h r' P S h3→∀o:AO,h.next+2≤(h3.set (h.next+1) o).next∧(h3.set (h.next+1) o).get h.next=some (.deferred (some []))∧(∀i,i<h.next→¬S i→(h3.set (h.next+1) o).get i=h.get i):=by
  intro r' w o
  have hl:h.next+1<h3.next:=by have:=w.le;omega
  refine ⟨by simpa using w.le,(aE _ _ _ _ hl om).trans w.mark,fun i hi hs=> ?_⟩
  rw [aE _ _ _ _ hl om]
  by_cases hp:P i
  ·rw [k3.get i hp,gr.get i hi]
  ·exact w.get i hi hp hs
 have loc:∀(C' :(Nat→Prop)→aD→Prop) Fp o,Loc h P C' →h.next+2≤h3.next→(∀i,Fp i→h.next+2≤i)→C' Fp h3→C' Fp (h3.set (h.next+1) o):=by
  intro C' Fp o L hle hF hc
  refine L Fp h3 _ (by simp) (fun i hi q=>aE _ _ _ _ om ?_) hc
  rcases q with q|q
  ·have:=hF i q;omega
  ·omega
 rcases hID with ⟨w,np,Fp,hF,hF2,hc⟩|⟨w,np,Fp,hF,hF2,hc⟩
 ·obtain ⟨a1,a2,a3⟩:=fin _ w (.loop {r with state:= .exhausted})
  refine ⟨_,.normal,⟨n1,fun m hm=> ?_⟩,a1,a2,a3,.inl ⟨rfl,Fp,fun i q=>⟨hF2 i q,by simpa using (hF i q).2⟩,loc _ Fp _ (hL _) w.le hF2 hc⟩⟩
  have e1' :=e1 m hm
  have hlo:jG h3 (h.next+1)= .ok r:=by simp only [jG,w.loop]
  rw [hr] at e1' hlo
  unfold qA at e1'
  simp -implicitDefEqProofs only [zX,rfA,yC,aM,yD,hf,List.nil_append,aD.aJ,e1',tD,hlo,wE,hr]
 ·obtain ⟨a1,a2,a3⟩:=fin _ w (.loop {{r with state:= .done,pending:=some .ret} with state:= .exhausted})
  refine ⟨_,.ret,⟨n1,fun m hm=> ?_⟩,a1,a2,a3,.inr ⟨rfl,Fp,fun i q=>⟨hF2 i q,by simpa using (hF i q).2⟩,loc _ Fp _ hLD w.le hF2 hc⟩⟩
  have e1' :=e1 m hm
  have hlo:jG h3 (h.next+1)= .ok {r with state:= .done,pending:=some .ret}:=by simp only [jG,w.loop]
  rw [hr] at e1' hlo
  unfold qA at e1'
  simp -implicitDefEqProofs only [zX,rfA,yC,aM,yD,hf,List.nil_append,aD.aJ,e1',tD,hlo,wE,hr]
end Go.Gn
namespace Go.Gn
open Go Go.Am Go.Fs
def cont (h:aD) (i:Nat):Option (List AV):=match h.get i with
 |some (.cells c)=>some c
 |_=>none
theorem AY {h:aD} {i:Nat} {c:List AV} (hg:h.get i=some (.cells c)):cont h i=some c:=by simp only [cont,hg]
theorem gM {h:aD} {i:Nat} {c:List AV} (hc:cont h i=some c):h.get i=some (.cells c):=by
 unfold cont at hc
 split at hc
 ·next e=>cases hc;exact e
 ·cases hc
theorem aO {h:aD} {i:Nat} {c:List AV} (hc:cont h i=some c):i<h.next:=aD.mN (gM hc)
theorem aH {h h' :aD} {i:Nat} (e:h'.get i=h.get i):cont h' i=cont h i:=by simp only [cont,e]
theorem aG {h:aD} {i:Nat} {c:List AV} (hi:i<h.next):cont (h.set i (.cells c)) i=some c:=AY (aQ _ _ _ hi)
theorem aK {h:aD} {i j:Nat} {o:AO} (hj:j<h.next) (hij:i≠j):cont (h.set j o) i=cont h i:=aH (aE _ _ _ _ hj hij)
theorem dB {h:aD} {i:Nat} {o:AO} (hi:i<h.next):cont (h.push o) i=cont h i:=aH (aV _ _ _ hi)
theorem aR {h:aD} {i:Nat} {c:List AV} (hi:h.next≤i) (hj:i<h.next+1):cont (h.push (.cells c)) i=some c:=AY (aT _ _ _ hi hj)
theorem aF {h h' :aD} (g:aP h h') {i:Nat} (hi:i<h.next):cont h' i=cont h i:=aH (g.get i hi)
theorem qJ {P:Nat→Prop} {h h' :aD} (g:Chg P h h') {i:Nat} (hi:i<h.next) (hn:¬P i):cont h' i=cont h i:=aH (g.get i hi hn)
def ldC (n:Option Nat) (off:Nat):Option (List AV)→R AV
 |some c=>bN n c off
 |none=> .no "load: no cells"
theorem jM (h:aD) (n:Option Nat) (i off:Nat):mE h n (.ptr i off)=ldC n off (cont h i):=by
 simp only [mE,cont]
 cases h.get i with
 |none=>rfl
 |some o=>cases o<;>rfl
theorem kO (n:Option Nat) (off:Nat) (c:List AV):ldC n off (some c)=bN n c off:=rfl
def stC (h:aD) (n i off:Nat) (v:AV):Option (List AV)→R aD
 |some c=>if Nat.beq v.cells.length n && v.cells.all AV.bX then
   match cI off v.cells c with
   |some c' => .ok (h.set i (.cells c'))
   |none=> .no "store: off"
  else .no "store: value"
 |none=> .no "store: no cells"
theorem iS (h:aD) (n i off:Nat) (v:AV):kG h n (.ptr i off) v=stC h n i off v (cont h i):=by
 simp only [kG,cont]
 cases h.get i with
 |none=>rfl
 |some o=>cases o<;>rfl
theorem iO (h:aD) (n i off:Nat) (v:AV) (c:List AV):stC h n i off v (some c)=if Nat.beq v.cells.length n && v.cells.all AV.bX then
   match cI off v.cells c with
   |some c' => .ok (h.set i (.cells c'))
   |none=> .no "store: off"
  else .no "store: value" :=rfl
theorem wJ {c:List AV} {n:Nat} (h:c.length=n):bN (some n) c 0= .ok (.agg c):=by
 subst h
 simp only [bN,List.drop_zero,aW]
theorem jP (c:List AV) (off:Nat):bN none c off=match nth c off with
  |some v=> .ok v
  |none=> .no "load: off" :=rfl
theorem kM (n:Nat) (c:List AV) (off:Nat):bN (some n) c off=match takeN n (c.drop off) with
  |some l=> .ok (.agg l)
  |none=> .no "load: n" :=rfl
theorem lU (h:aD) (n:Option Nat) (c:List AV) (off:Nat):mE h n (.ep c off)=bN n c off:=rfl
theorem jJ (a b:List AV):dX (.agg a) (.agg b)=kQ a b:=by simp [dX]
theorem jQ (a b:List AV):dX (.tup a) (.tup b)=kQ a b:=by simp [dX]
theorem iX:kQ [] []=true:=by simp [kQ]
theorem eM (a b:AV) (r q:List AV):kQ (a::r) (b::q)=(dX a b && kQ r q):=by simp [kQ]
theorem gS:dX .rM .rM=true:=by simp [dX]
theorem fQ:dX .pI .pI=true:=by simp [dX]
theorem jR (i:Nat):dX (.map i) (.map i)=true:=by simp [dX]
theorem kU (f:FuncId) (a c:List AV):dX (.fn f [] a) (.fn f [] c)=kQ a c:=by simp [dX,kQ]
theorem gN (l:Nat):dX (.yield l) (.yield l)=true:=by simp [dX]
theorem kI {P:Nat→Prop} {a b c:aD} (h:Chg P a b) (k:Chg P b c):Chg P a c:=⟨Nat.le_trans h.next k.next,fun i hi hn=>(k.get i (Nat.lt_of_lt_of_le hi h.next) hn).trans (h.get i hi hn)⟩
theorem rX {P:Nat→Prop} {a b:aD} (h:Chg P a b) {i:Nat} (hi:i<b.next) (hp:P i∨a.next≤i) (o:AO):Chg P a (b.set i o):=
 ⟨by simpa using h.next,fun j hj hn=>by rw [aE _ _ _ _ hi (fun e=>by subst e;rcases hp with q|q;exact hn q;omega)];exact h.get j hj hn⟩
theorem YX {P:Nat→Prop} {a b:aD} (h:Chg P a b) (o:AO):Chg P a (b.push o):=
 ⟨by have:=h.next;simp;omega,fun j hj hn=>by rw [aV _ _ _ (by have:=h.next;omega)];exact h.get j hj hn⟩
theorem sR {P:Nat→Prop} {a b c:aD} (h:Chg P a b) (g:aP b c):Chg P a c:=kI h (fV g)
theorem Wc {a b:aD} {P:Nat→Prop} (h:Chg P a b) (hp:∀i,P i→a.next≤i):aP a b:=⟨h.next,fun i hi=>h.get i hi (fun q=>by have:=hp i q;omega)⟩
theorem ctp {p:Prop} (h:p:=by simp (disch:=(first|omega|(simp only [aD.aJ,aD.aL];try omega)|skip)) only [aR,dB,aD.aJ]):p:=h
end Go.Gn
end
