/- Parts of a proof. -/
import Derived.Test.YtfpohljcapcliaaGreatDoorD
import Derived.Test.YtfpohljcapcliaaGreatDoorC
set_option linter.all false
set_option maxHeartbeats 32000000
set_option maxRecDepth 8000
noncomputable section
namespace Go.Ly
open Go Go.Am Go.Fs Go.Gn
variable {fns:Go.Am.F} {orc:Orc}
theorem sH {i n:Nat} (h:i<n) (hn:n<9223372036854775808):IntKind.wrap .i64 ((i:Int)+1)=((i+1:Nat):Int):=by rw [pE om om];rfl
theorem rW (h:aD) {s:List UInt8} {i:Nat} (hi:i<s.length):yE h (.str s) (.int .i64 (i:Int))= .ok (.val (.int .u8 (s[i].toNat:Int)) h):=by
 simp only [yE,yH,uP,yU,List.getElem?_eq_getElem hi]
def Pred (fns:Go.Am.F) (orc:Orc) (g:FuncId) (r:UInt8→Bool):Prop:=∀b:UInt8,∃n,∀(h:aD) m,n≤m→eval fns orc m (.call g [.int .u8 (b.toNat:Int)] .plain h)= .ok (.call (.ret (.bool (r b))) .plain h)
theorem Ot {g:FuncId} (H:∀x:Int,∃r n,∀(h:aD) m,n≤m→eval fns orc m (.call g [.int .u8 x] .plain h)= .ok (.call (.ret (.bool r)) .plain h)):∃r,Pred fns orc g r:=
 ⟨fun b=>(H (b.toNat:Int)).choose,fun b=>(H (b.toNat:Int)).choose_spec⟩
theorem FB (H:Has fns orc):∃r,Pred fns orc 161 r:=by
 refine Ot fun x=> ?_
 by_cases c1:97≤x
 ·have d1:=dT c1
  by_cases c2:x≤122
  ·have d2:=dT c2
   refine ⟨true,2,fun h m hm=>fW (n:=0) H.f161 H.o161 (fun m _=> ?b1) m hm⟩
   exact SX (cj3 @a161.eq_1 d1 d2)
  ·have d2:=dF c2
   by_cases c3:65≤x
   ·have d3:=dT c3
    refine ⟨decide (x≤90),2,fun h m hm=>fW (n:=0) H.f161 H.o161 (fun m _=> ?b2) m hm⟩
    exact SX (cj4 @a161.eq_1 d1 d2 d3)
   ·omega
 ·have d1:=dF c1
  by_cases c3:65≤x
  ·have d3:=dT c3
   refine ⟨decide (x≤90),2,fun h m hm=>fW (n:=0) H.f161 H.o161 (fun m _=> ?b3) m hm⟩
   exact SX (cj3 @a161.eq_1 d1 d3)
  ·have d3:=dF c3
   refine ⟨false,2,fun h m hm=>fW (n:=0) H.f161 H.o161 (fun m _=> ?b4) m hm⟩
   exact SX (cj3 @a161.eq_1 d1 d3)
def Dk (b:UInt8):Bool:=decide (48≤((b.toNat:Nat):Int)) && decide (((b.toNat:Nat):Int)≤57)
theorem DT (H:Has fns orc):Pred fns orc 162 Dk:=by
 intro b
 obtain ⟨x,hx⟩:∃x:Int,x=((b.toNat:Nat):Int):=⟨_,rfl⟩
 refine ⟨2,fun h m hm=>fW (n:=0) H.f162 H.o162 (fun m _=> ?b1) m hm⟩
 unfold Dk
 rw [←hx]
 by_cases c1:48≤x
 ·have d1:=dT c1
  exact SX (cj2 @a162.eq_1 d1)
 ·have d1:=dF c1
  exact SX (cj3 @a162.eq_1 d1 @Bool.false_and)
theorem Gy (H:Has fns orc):∃r,Pred fns orc 168 r:=by
 refine Ot fun x=> ?_
 by_cases c1:32≤x
 ·have d1:=dT c1
  refine ⟨decide (x≤126),2,fun h m hm=>fW (n:=0) H.f168 H.o168 (fun m _=> ?b2) m hm⟩
  exact SX (cj2 @a168.eq_1 d1)
 ·have d1:=dF c1
  refine ⟨false,2,fun h m hm=>fW (n:=0) H.f168 H.o168 (fun m _=> ?b3) m hm⟩
  exact SX (cj2 @a168.eq_1 d1)
theorem N8 (H:Has fns orc) {rl:UInt8→Bool} (L:Pred fns orc 161 rl):Pred fns orc 160 (fun b=>rl b||Dk b):=by
 intro b
 obtain ⟨n1,e1⟩:=L b
 obtain ⟨n2,e2⟩:=DT H b
 refine ⟨n1+n2+2,fun h m hm=>fW (n:=n1+n2) H.f160 H.o160 (fun m hm=> ?b1) m hm⟩
 have e1' :=fun h=>e1 h m om
 have e2' :=fun h=>e2 h m om
 cases hr:rl b
 ·rw [hr] at e1'
  simp -implicitDefEqProofs (disch:=(first|omega|(simp only [aD.aJ,aD.aL];try omega)|skip)) only [a160,e1',e2',fE,fG,dV,cT,dU,cS,fF,dR,gV,eQ,aM,dJ,iJ,opA,qS,kE,qT,pL,rJ,sB,dG,gU,fP,qM,mC,iZ,gJ,mK,dM,eZ,Nat.beq,lS,mH,eE,vl,rH,eY,eW,dW,fK,fH,fI,bY,iG,iD,cV,fL,fJ,bZ,iE,cU,cX,dA,cW,fM,dL,eT,eU,bP,iB,gZ,cK,eX,eV,bQ,iA,cJ,cP,cQ,cM,eS,dO,aY,dH,aZ,fB,bV,bR,bW,bT,dP,fD,kE,eN,kL,aT,aV,fO,gX,List.drop_zero,List.drop_succ_cons,rS,oEq,eqA,pR,ki,eP,eH,oneOf,iC,jH,mU,called,List.append_eq,List.nil_append,List.cons_append,List.append_assoc,Nat.zero_add,Nat.add_zero,kN,lK,aQ,aE,aD.aJ,aD.aL,List.length_cons,List.length_nil,Bool.and_true,Bool.true_and,List.all_cons,List.all_nil,bJ,cF,bK,bI,fA,Nat.reduceAdd,Nat.reduceEqDiff,Nat.reduceBEq,ite_true,ite_false,if_true,if_false,iQ,kH,jE,iK,iN,dK,iI,decide_eq_true_eq,decide_true,decide_false,qV,intArith,Int.ofNat_zero,reduceCtorEq,Bool.not_true,Bool.not_false,Bool.false_eq_true,Int.reduceEq,Int.reduceAdd,Int.zero_add,Int.add_zero,lZ,dQ,cR,oG,oI,oJ,oK,kR,iM,qE,iL,jA,qD,iW,jO,iY,pH,fU,eJ,eK,eL,fS,kK,lT,pK,mJ,jU,iV,List.reverse_cons,List.reverse_nil,oS,dD,dZ,dC,eD,bM,jB,jN,kZ,eO,qO,oMx,lE,jT,vF,lD,jN,kZ,kE,eN,evO,mZ,jL,mX,lH,lQ,oF,oE,gH,fX,dY,iU,uF,dD,dZ,dC,eD,bM,vG,tP,bound,vl,eqA,jC,Int.reduceLE,Int.reduceLT,kJ,jM,iS,aG,aK,dB,aR,kO,iO,jP,kM,lU,takeN,cI,jJ,jQ,iX,eM,gS,fQ,jR,kU,gN,KF,KG]
  simp [hr]
 ·rw [hr] at e1'
  simp -implicitDefEqProofs (disch:=(first|omega|(simp only [aD.aJ,aD.aL];try omega)|skip)) only [a160,e1',e2',fE,fG,dV,cT,dU,cS,fF,dR,gV,eQ,aM,dJ,iJ,opA,qS,kE,qT,pL,rJ,sB,dG,gU,fP,qM,mC,iZ,gJ,mK,dM,eZ,Nat.beq,lS,mH,eE,vl,rH,eY,eW,dW,fK,fH,fI,bY,iG,iD,cV,fL,fJ,bZ,iE,cU,cX,dA,cW,fM,dL,eT,eU,bP,iB,gZ,cK,eX,eV,bQ,iA,cJ,cP,cQ,cM,eS,dO,aY,dH,aZ,fB,bV,bR,bW,bT,dP,fD,kE,eN,kL,aT,aV,fO,gX,List.drop_zero,List.drop_succ_cons,rS,oEq,eqA,pR,ki,eP,eH,oneOf,iC,jH,mU,called,List.append_eq,List.nil_append,List.cons_append,List.append_assoc,Nat.zero_add,Nat.add_zero,kN,lK,aQ,aE,aD.aJ,aD.aL,List.length_cons,List.length_nil,Bool.and_true,Bool.true_and,List.all_cons,List.all_nil,bJ,cF,bK,bI,fA,Nat.reduceAdd,Nat.reduceEqDiff,Nat.reduceBEq,ite_true,ite_false,if_true,if_false,iQ,kH,jE,iK,iN,dK,iI,decide_eq_true_eq,decide_true,decide_false,qV,intArith,Int.ofNat_zero,reduceCtorEq,Bool.not_true,Bool.not_false,Bool.false_eq_true,Int.reduceEq,Int.reduceAdd,Int.zero_add,Int.add_zero,lZ,dQ,cR,oG,oI,oJ,oK,kR,iM,qE,iL,jA,qD,iW,jO,iY,pH,fU,eJ,eK,eL,fS,kK,lT,pK,mJ,jU,iV,List.reverse_cons,List.reverse_nil,oS,dD,dZ,dC,eD,bM,jB,jN,kZ,eO,qO,oMx,lE,jT,vF,lD,jN,kZ,kE,eN,evO,mZ,jL,mX,lH,lQ,oF,oE,gH,fX,dY,iU,uF,dD,dZ,dC,eD,bM,vG,tP,bound,vl,eqA,jC,Int.reduceLE,Int.reduceLT,kJ,jM,iS,aG,aK,dB,aR,kO,iO,jP,kM,lU,takeN,cI,jJ,jQ,iX,eM,gS,fQ,jR,kU,gN,KF,KG]
  simp [hr]
theorem MK (H:Has fns orc):∃r,Pred fns orc 170 r:=by
 obtain ⟨rp,L⟩:=Gy H
 refine ⟨fun b=> !decide (((b.toNat:Nat):Int)=34) && rp b,fun b=> ?_⟩
 obtain ⟨n1,e1⟩:=L b
 obtain ⟨x,hx⟩:∃x:Int,x=((b.toNat:Nat):Int):=⟨_,rfl⟩
 rw [←hx]
 rw [←hx] at e1
 refine ⟨n1+2,fun h m hm=>fW (n:=n1) H.f170 H.o170 (fun m hm=> ?b1) m hm⟩
 have e1' :=fun h=>e1 h m om
 by_cases c1:x=34
 ·have d1:=dT c1
  simp -implicitDefEqProofs (disch:=(first|omega|(simp only [aD.aJ,aD.aL];try omega)|skip)) only [a170,d1,fE,fG,dV,cT,dU,cS,fF,dR,gV,eQ,aM,dJ,iJ,opA,qS,kE,qT,pL,rJ,sB,dG,gU,fP,qM,mC,iZ,gJ,mK,dM,eZ,Nat.beq,lS,mH,eE,vl,rH,eY,eW,dW,fK,fH,fI,bY,iG,iD,cV,fL,fJ,bZ,iE,cU,cX,dA,cW,fM,dL,eT,eU,bP,iB,gZ,cK,eX,eV,bQ,iA,cJ,cP,cQ,cM,eS,dO,aY,dH,aZ,fB,bV,bR,bW,bT,dP,fD,kE,eN,kL,aT,aV,fO,gX,List.drop_zero,List.drop_succ_cons,rS,oEq,eqA,pR,ki,eP,eH,oneOf,iC,jH,mU,called,List.append_eq,List.nil_append,List.cons_append,List.append_assoc,Nat.zero_add,Nat.add_zero,kN,lK,aQ,aE,aD.aJ,aD.aL,List.length_cons,List.length_nil,Bool.and_true,Bool.true_and,List.all_cons,List.all_nil,bJ,cF,bK,bI,fA,Nat.reduceAdd,Nat.reduceEqDiff,Nat.reduceBEq,ite_true,ite_false,if_true,if_false,iQ,kH,jE,iK,iN,dK,iI,decide_eq_true_eq,decide_true,decide_false,qV,intArith,Int.ofNat_zero,reduceCtorEq,Bool.not_true,Bool.not_false,Bool.false_eq_true,Int.reduceEq,Int.reduceAdd,Int.zero_add,Int.add_zero,lZ,dQ,cR,oG,oI,oJ,oK,kR,iM,qE,iL,jA,qD,iW,jO,iY,pH,fU,eJ,eK,eL,fS,kK,lT,pK,mJ,jU,iV,List.reverse_cons,List.reverse_nil,oS,dD,dZ,dC,eD,bM,jB,jN,kZ,eO,qO,oMx,lE,jT,vF,lD,jN,kZ,kE,eN,evO,mZ,jL,mX,lH,lQ,oF,oE,gH,fX,dY,iU,uF,dD,dZ,dC,eD,bM,vG,tP,bound,vl,eqA,jC,Int.reduceLE,Int.reduceLT,kJ,jM,iS,aG,aK,dB,aR,kO,iO,jP,kM,lU,takeN,cI,jJ,jQ,iX,eM,gS,fQ,jR,kU,gN,KF,KG]
  simp [←hx,c1]
 ·have d1:=dF c1
  simp -implicitDefEqProofs (disch:=(first|omega|(simp only [aD.aJ,aD.aL];try omega)|skip)) only [a170,d1,e1',fE,fG,dV,cT,dU,cS,fF,dR,gV,eQ,aM,dJ,iJ,opA,qS,kE,qT,pL,rJ,sB,dG,gU,fP,qM,mC,iZ,gJ,mK,dM,eZ,Nat.beq,lS,mH,eE,vl,rH,eY,eW,dW,fK,fH,fI,bY,iG,iD,cV,fL,fJ,bZ,iE,cU,cX,dA,cW,fM,dL,eT,eU,bP,iB,gZ,cK,eX,eV,bQ,iA,cJ,cP,cQ,cM,eS,dO,aY,dH,aZ,fB,bV,bR,bW,bT,dP,fD,kE,eN,kL,aT,aV,fO,gX,List.drop_zero,List.drop_succ_cons,rS,oEq,eqA,pR,ki,eP,eH,oneOf,iC,jH,mU,called,List.append_eq,List.nil_append,List.cons_append,List.append_assoc,Nat.zero_add,Nat.add_zero,kN,lK,aQ,aE,aD.aJ,aD.aL,List.length_cons,List.length_nil,Bool.and_true,Bool.true_and,List.all_cons,List.all_nil,bJ,cF,bK,bI,fA,Nat.reduceAdd,Nat.reduceEqDiff,Nat.reduceBEq,ite_true,ite_false,if_true,if_false,iQ,kH,jE,iK,iN,dK,iI,decide_eq_true_eq,decide_true,decide_false,qV,intArith,Int.ofNat_zero,reduceCtorEq,Bool.not_true,Bool.not_false,Bool.false_eq_true,Int.reduceEq,Int.reduceAdd,Int.zero_add,Int.add_zero,lZ,dQ,cR,oG,oI,oJ,oK,kR,iM,qE,iL,jA,qD,iW,jO,iY,pH,fU,eJ,eK,eL,fS,kK,lT,pK,mJ,jU,iV,List.reverse_cons,List.reverse_nil,oS,dD,dZ,dC,eD,bM,jB,jN,kZ,eO,qO,oMx,lE,jT,vF,lD,jN,kZ,kE,eN,evO,mZ,jL,mX,lH,lQ,oF,oE,gH,fX,dY,iU,uF,dD,dZ,dC,eD,bM,vG,tP,bound,vl,eqA,jC,Int.reduceLE,Int.reduceLT,kJ,jM,iS,aG,aK,dB,aR,kO,iO,jP,kM,lU,takeN,cI,jJ,jQ,iX,eM,gS,fQ,jR,kU,gN,KF,KG]
  simp [←hx,c1]
def zE:AC:=p159x11000
theorem MI {fn g:FuncId} {r:UInt8→Bool} (hp:Pred fns orc g r) {s:List UInt8} (hs:s.length<10000000):∀(k i:Nat),i+k=s.length→
  ∃j n,i≤j∧j≤s.length∧(∀(hi:i<s.length),r s[i]=true→i<j)∧∀(rc:RC) (h:aD) m,n≤m→eval fns orc m (.code fn none (.loop zE) ⟨[(0,.str s),(1,.fn g [] []),(5,.int .i64 (i:Int))],[],rc,h⟩)= .ok (.code (.exit 0) ⟨[(0,.str s),(1,.fn g [] []),(5,.int .i64 (j:Int)),(16,.bool false)],[],rc,h⟩):=by
 intro k
 induction k with
 |zero=>
  intro i hi
  have d:decide ((i:Int)<((s.length:Nat):Int))=false:=dF om
  refine ⟨i,1,Nat.le_refl _,by omega,fun hi=>by omega,fun rc h m hm=> ?b⟩
  obtain ⟨m,rfl⟩:∃k,m=k+1:=⟨m -1,by omega⟩
  show cG (eval fns orc m) fn none (.loop zE) _=_
  exact SX (cj3 @zE.eq_1 d @aI)
 |succ k ih=>
  intro i hi
  have hlt:i<s.length:=om
  have d:decide ((i:Int)<((s.length:Nat):Int))=true:=dT om
  have f1:=fun h=>rW h hlt
  obtain ⟨n1,e1⟩:=hp s[i]
  cases hr:r s[i] with
  |false=>
   rw [hr] at e1
   refine ⟨i,n1+1,Nat.le_refl _,by omega,fun _ q=>(by rw [hr] at q;cases q),fun rc h m hm=> ?b2⟩
   obtain ⟨m,rfl⟩:∃k,m=k+1:=⟨m -1,by omega⟩
   show cG (eval fns orc m) fn none (.loop zE) _=_
   have e1' :=fun h=>e1 h m om
   exact SX (cj5 @zE.eq_1 d f1 e1' @aI)
  |true=>
   rw [hr] at e1
   obtain ⟨j,n2,q1,q2,q3,e2⟩:=ih (i+1) om
   refine ⟨j,max n1 n2+1,by omega,q2,fun _ _=>by omega,fun rc h m hm=> ?b3⟩
   obtain ⟨m,rfl⟩:∃k,m=k+1:=⟨m -1,by omega⟩
   show cG (eval fns orc m) fn none (.loop zE) _=_
   have e1' :=fun h=>e1 h m om
   have e2' :=e2 rc h m om
   simp only [zE] at e2'
   exact SXe (cj6 @zE.eq_1 d f1 e1' @aI (sH hlt om)) e2'
theorem DD (H:Has fns orc) {g:FuncId} {r:UInt8→Bool} (hp:Pred fns orc g r) {s:List UInt8} (hs:s.length<10000000):
  ∃j n,j≤s.length∧(∀(hi:0<s.length),r s[0]=true→1≤j)∧∀(h:aD) m,n≤m→eval fns orc m (.call 159 [.str s,.fn g [] []] .plain h)= .ok (.call (.ret (.int .i64 (j:Int))) .plain h):=by
 obtain ⟨j,n,q1,q2,q3,e⟩:=MI (fn:=159) hp hs s.length 0 om
 refine ⟨j,n+2,q2,fun hi q=>q3 hi q,fun h m hm=>fW (n:=n) H.f159 H.o159 (fun m hm=> ?b) m hm⟩
 have e' :cG (eval fns orc m) 159 none (.loop zE) ⟨[(0,.str s),(1,.fn g [] []),(5,.int .i64 0)],[],.plain,h⟩=_:=e .plain h (m+1) om
 simp only [zE] at e'
 exact SX (cj2 @a159.eq_1 e')
end Go.Ly
namespace Go.Ly
open Go Go.Am Go.Fs Go.Gn
variable {fns:Go.Am.F} {orc:Orc}
theorem vS (H:Has fns orc) (e:Int) (su:Bool) (h:aD) (m:Nat) (hm:2≤m):eval fns orc m (.call 165 [.int .i64 e,.bool su] .plain h)=
  .ok (.call (.ret (.agg [.int .i64 0,.str [],.int .i64 0,.int .i64 0,.int .i64 0,.int .i64 e,.bool su])) .plain ((h.push (.cells [.int .i64 0,.str [],.int .i64 0,.int .i64 0,.int .i64 0,.int .i64 0,.bool false])).set h.next (.cells [.int .i64 0,.str [],.int .i64 0,.int .i64 0,.int .i64 0,.int .i64 e,.bool su]))):=
 fW (n:=0) H.f165 H.o165 (fun m _=>by
  exact SX @a165.eq_1) m hm
theorem D9 {s:List UInt8} {n:Nat} (hn:n≤s.length):tN true 1 (.str s) none (some (.int .i64 (n:Int))) none= .ok (.str (s.take n)):=by
 have e:ile (n:Int) (s.length:Int)=true:=by rw [jE];simpa using hn
 simp only [tN,Ko,Go.Am.bound,yH,e,uP,aM,Bool.true_and,if_true,List.drop_zero]
theorem wV {s:List UInt8} {n:Nat} (hn:n≤s.length):tN true 1 (.str s) (some (.int .i64 (n:Int))) none none= .ok (.str (s.drop n)):=by
 have e:ile (n:Int) (s.length:Int)=true:=by rw [jE];simpa using hn
 simp only [tN,Ko,Go.Am.bound,yH,e,uP,aM,Bool.true_and,if_true,List.take_length]
theorem PA {s:List UInt8} {l n:Nat} (hl:l≤n) (hn:n≤s.length):tN true 1 (.str s) (some (.int .i64 (l:Int))) (some (.int .i64 (n:Int))) none= .ok (.str ((s.take n).drop l)):=by
 have e:ile (n:Int) (s.length:Int)=true:=by rw [jE];simpa using hn
 have e2:ile (l:Int) (n:Int)=true:=by rw [jE];simpa using hl
 simp only [tN,Ko,Go.Am.bound,yH,e,e2,uP,aM,Bool.true_and,if_true]
theorem Cj (H:Has fns orc) (k:Int) {s:List UInt8} {n:Nat} (hn:n≤s.length) (su:Bool) (h:aD) (m:Nat) (hm:2≤m):eval fns orc m (.call 164 [.int .i64 k,.str s,.int .i64 (n:Int),.bool su] .plain h)=
  .ok (.call (.ret (.agg [.int .i64 k,.str (s.take n),.int .i64 0,.int .i64 0,.int .i64 (n:Int),.int .i64 0,.bool su])) .plain ((h.push (.cells [.int .i64 0,.str [],.int .i64 0,.int .i64 0,.int .i64 0,.int .i64 0,.bool false])).set h.next (.cells [.int .i64 k,.str (s.take n),.int .i64 0,.int .i64 0,.int .i64 (n:Int),.int .i64 0,.bool su]))):=
 fW (n:=0) H.f164 H.o164 (fun m _=>by
  have f:=D9 hn
  exact SX (cj2 @a164.eq_1 f)) m hm
theorem Er (H:Has fns orc) (s t:List UInt8):∃r,(r=true→t.length≤s.length)∧∀(h:aD) (m:Nat),4≤m→eval fns orc m (.call 157 [.str s,.str t] .plain h)= .ok (.call (.ret (.bool r)) .plain h):=by
 have key:∃r,(r=true→t.length≤s.length)∧∀(h:aD) (m:Nat),2≤m→eval fns orc m (.call 176 [.str s,.str t] .plain h)= .ok (.call (.ret (.bool r)) .plain h):=by
  by_cases c:(t.length:Int)≤(s.length:Int)
  ·have d:=dT c
   have f:=D9 (s:=s) (n:=t.length) om
   refine ⟨jI (s.take t.length) t,fun _=>by omega,fun h m hm=>fW (n:=0) H.f176 H.o176 (fun m _=> ?b1) m hm⟩
   exact SX (cj3 @a176.eq_1 d f)
  ·have d:=dF c
   refine ⟨false,(by intro q;cases q),fun h m hm=>fW (n:=0) H.f176 H.o176 (fun m _=> ?b2) m hm⟩
   exact SX (cj2 @a176.eq_1 d)
 obtain ⟨r,hr,e⟩:=key
 refine ⟨r,hr,fun h m hm=>fW (n:=2) H.f157 H.o157 (fun m hm=> ?b3) m hm⟩
 have e' :=fun h=>e h m hm
 exact SX (cj2 @a157.eq_1 e')
def wR:AC:=p70x10100
theorem Nn {fn:FuncId} {x:List UInt8} {xs:List (List UInt8)} {v:AV} (hv:iP v (xs.map AV.str)) (hn:xs.length<10000000):∀(k i:Nat),i+k=xs.length→
  ∃e s n,∀(h:aD) (m:Nat),n≤m→eval fns orc m (.code fn none (.loop wR) ⟨[(0,v),(1,.str x),(7,.int .i64 (xs.length:Nat)),(8,.int .i64 (i:Int))],[],.plain,h⟩)= .ok (.code e ⟨s,[],.plain,h⟩)∧
   (e= .exit 0∨(e= .ret∧∃j:Nat,j<xs.length∧xs[j]? =some x∧cH s 4= .int .i64 (j:Int))):=by
 intro k
 induction k with
 |zero=>
  intro i hi
  have d:decide ((i:Int)<((xs.length:Nat):Int))=false:=dF om
  refine ⟨.exit 0, ?s1,1,fun h m hm=>⟨?b1,.inl rfl⟩⟩
  case b1=>
   obtain ⟨m,rfl⟩:∃k,m=k+1:=⟨m -1,by omega⟩
   show cG (eval fns orc m) fn none (.loop wR) _=_
   exact SX (cj3 @wR.eq_1 d @aI)
 |succ k ih=>
  intro i hi
  have hlt:i<xs.length:=om
  have d:decide ((i:Int)<((xs.length:Nat):Int))=true:=dT om
  have f1:pT 1 v (.int .i64 (i:Int))= .ok (.ep [.str xs[i]] 0):=oX hv (by simp [hlt]) rfl
  cases hb:jI x xs[i] with
  |true=>
   refine ⟨.ret, ?s2,1,fun h m hm=>⟨?b2,.inr ⟨rfl,i,hlt, ?e2, ?t2⟩⟩⟩
   case b2=>
    obtain ⟨m,rfl⟩:∃k,m=k+1:=⟨m -1,by omega⟩
    show cG (eval fns orc m) fn none (.loop wR) _=_
    exact SX (cj6 @wR.eq_1 d f1 hb @fO @aI)
   case e2=>
    rw [jV] at hb
    have:x=xs[i]:=by simpa using hb
    rw [List.getElem?_eq_getElem hlt,this]
   case t2=>rfl
  |false=>
   obtain ⟨e,s,n,hr⟩:=ih (i+1) om
   refine ⟨e,s,n+1,fun h m hm=>⟨?b3,(hr h (m -1) om).2⟩⟩
   obtain ⟨m,rfl⟩:∃k,m=k+1:=⟨m -1,by omega⟩
   show cG (eval fns orc m) fn none (.loop wR) _=_
   have e' :=(hr h m om).1
   simp only [wR] at e'
   exact SXe (cj7 @wR.eq_1 d f1 hb @fO @aI (sH hlt om)) e'
theorem PH (H:Has fns orc) {x:List UInt8} {xs:List (List UInt8)} {v:AV} (hv:iP v (xs.map AV.str)) (hn:xs.length<10000000):
  ∃(r:Int) (n:Nat),(r= -1∨∃j:Nat,r=j∧xs[j]? =some x)∧∀(h:aD) (m:Nat),n≤m→eval fns orc m (.call 70 [v,.str x] .plain h)= .ok (.call (.ret (.int .i64 r)) .plain h):=by
 obtain ⟨e,s,n,hr⟩:=Nn (fns:=fns) (orc:=orc) (fn:=70) (x:=x) hv hn xs.length 0 om
 have q:∀hp,nJ hp .sl v= .ok xs.length:=fun hp=>by rw [bO hv hp,List.length_map]
 rcases (hr aD.empty n (Nat.le_refl _)).2 with rfl|⟨rfl,j,hj,hx,ht⟩
 ·refine ⟨-1,n+2,.inl rfl,fun h m hm=>fW (n:=n) H.f70 H.o70 (fun m hm=> ?b1) m hm⟩
  have e' :cG (eval fns orc m) 70 none (.loop wR) ⟨[(0,v),(1,.str x),(7,.int .i64 (xs.length:Nat)),(8,.int .i64 0)],[],.plain,h⟩=_:=(hr h (m+1) om).1
  simp only [wR] at e'
  exact SX (cj3 @a70.eq_1 q e')
 ·refine ⟨j,n+2,.inr ⟨j,rfl,hx⟩,fun h m hm=>fW (n:=n) H.f70 H.o70 (fun m hm=> ?b2) m hm⟩
  have e' :cG (eval fns orc m) 70 none (.loop wR) ⟨[(0,v),(1,.str x),(7,.int .i64 (xs.length:Nat)),(8,.int .i64 0)],[],.plain,h⟩=_:=(hr h (m+1) om).1
  simp only [wR] at e'
  exact SX (cj4 @a70.eq_1 q e' ht)
theorem Ec (H:Has fns orc) {x:List UInt8} {xs:List (List UInt8)} {v:AV} (hv:iP v (xs.map AV.str)) (hn:xs.length<10000000):
  ∃(r:Bool) (n:Nat),∀(h:aD) (m:Nat),n≤m→eval fns orc m (.call 163 [v,.str x] .plain h)= .ok (.call (.ret (.bool r)) .plain h):=by
 obtain ⟨r,n,_,e⟩:=PH H (x:=x) hv hn
 refine ⟨decide (0≤r),n+2,fun h m hm=>fW (n:=n) H.f163 H.o163 (fun m hm=> ?b1) m hm⟩
 have e' :=fun h=>e h m om
 exact SX (cj2 @a163.eq_1 e')
end Go.Ly
namespace Go.Ly
open Go Go.Am Go.Fs Go.Gn
variable {fns:Go.Am.F} {orc:Orc}
def DO:AC:=p175x10100
theorem Qt {fn g:FuncId} {capt:List AV} {xs:List (List UInt8)} {v:AV} (hv:iP v (xs.map AV.str)) (hn:xs.length<10000000) {K:aD→Prop} (hK:∀a b,aP a b→K a→K b)
  (hg:∀x∈xs,∀h,K h→∃h' r,aP h h' ∧Ev fns orc (.call g (AV.str x::capt) .plain h) (.call (.ret (.bool r)) .plain h')):∀(k i:Nat) (h:aD),i+k=xs.length→K h→
  ∃h' e s,aP h h' ∧Ev fns orc (.code fn none (.loop DO) ⟨[(0,v),(1,.fn g [] capt),(7,.int .i64 (xs.length:Nat)),(8,.int .i64 (i:Int))],[],.plain,h⟩) (.code e ⟨s,[],.plain,h'⟩)∧
   (e= .exit 0∨(e= .ret∧∃j:Int,cH s 4= .int .i64 j)):=by
 intro k
 induction k with
 |zero=>
  intro i h hi _
  have d:decide ((i:Int)<((xs.length:Nat):Int))=false:=dF om
  refine ⟨h,.exit 0, ?s1,.refl _,Ev.code ⟨0,fun m hm=> ?b1⟩,.inl rfl⟩
  case b1=>
   exact SX (cj3 @DO.eq_1 d @aI)
 |succ k ih=>
  intro i h hi hk
  have hlt:i<xs.length:=om
  have d:decide ((i:Int)<((xs.length:Nat):Int))=true:=dT om
  have f1:pT 1 v (.int .i64 (i:Int))= .ok (.ep [.str xs[i]] 0):=oX hv (by simp [hlt]) rfl
  obtain ⟨hB,r,gB,n1,e1⟩:=hg xs[i] (List.getElem_mem hlt) h hk
  cases r with
  |true=>
   refine ⟨hB,.ret, ?s2,gB,Ev.code ⟨n1,fun m hm=> ?b2⟩,.inr ⟨rfl,(i:Int), ?t2⟩⟩
   case b2=>
    have e1' :=e1 m om
    exact SX (cj6 @DO.eq_1 d f1 e1' @fO @aI)
   case t2=>rfl
  |false=>
   obtain ⟨h',e,s,gr,⟨n2,e2⟩,q⟩:=ih (i+1) hB om (hK _ _ gB hk)
   refine ⟨h',e,s,gB.trans gr,Ev.code ⟨max n1 n2,fun m hm=> ?b3⟩,q⟩
   have e1' :=e1 m om
   have e2' :=e2 m om
   simp only [DO] at e2'
   exact SXe (cj7 @DO.eq_1 d f1 e1' @fO @aI (sH hlt om)) e2'
theorem TV (H:Has fns orc) {g:FuncId} {capt:List AV} {xs:List (List UInt8)} {v:AV} (hv:iP v (xs.map AV.str)) (hn:xs.length<10000000) {K:aD→Prop} (hK:∀a b,aP a b→K a→K b)
  (hg:∀x∈xs,∀h,K h→∃h' r,aP h h' ∧Ev fns orc (.call g (AV.str x::capt) .plain h) (.call (.ret (.bool r)) .plain h')) (h:aD) (hk:K h):
  ∃h' r,aP h h' ∧Ev fns orc (.call 155 [v,.fn g [] capt] .plain h) (.call (.ret (.bool r)) .plain h'):=by
 have q:∀hp,nJ hp .sl v= .ok xs.length:=fun hp=>by rw [bO hv hp,List.length_map]
 obtain ⟨h',e,s,gr,⟨n,e1⟩,w⟩:=Qt (fns:=fns) (orc:=orc) (fn:=175) hv hn hK hg xs.length 0 h om hk
 have e2:∀m,n≤m→cG (eval fns orc m) 175 none (.loop DO) ⟨[(0,v),(1,.fn g [] capt),(7,.int .i64 (xs.length:Nat)),(8,.int .i64 0)],[],.plain,h⟩= .ok (.code e ⟨s,[],.plain,h'⟩):=fun m hm=>e1 (m+1) om
 simp only [DO] at e2
 have key:∃j:Int,Ev fns orc (.call 175 [v,.fn g [] capt] .plain h) (.call (.ret (.int .i64 j)) .plain h'):=by
  rcases w with rfl|⟨rfl,j,ht⟩
  ·refine ⟨-1,Ev.call H.f175 H.o175 ⟨n,fun m hm=> ?b1⟩⟩
   have e2' :=e2 m hm
   exact SX (cj3 @a175.eq_1 q e2')
  ·refine ⟨j,Ev.call H.f175 H.o175 ⟨n,fun m hm=> ?b2⟩⟩
   have e2' :=e2 m hm
   exact SX (cj4 @a175.eq_1 q e2' ht)
 obtain ⟨j,n3,e3⟩:=key
 refine ⟨h',decide (0≤j),gr,Ev.call H.f155 H.o155 ⟨n3,fun m hm=> ?b3⟩⟩
 have e3' :=e3 m hm
 exact SX (cj2 @a155.eq_1 e3')
structure B5 (h:aD) (b:Nat) (ss:List (List UInt8)):Prop where
 at_:cont h b=some [.sl .full (ss.map AV.str)]
 len:ss.length<1000
theorem B5.grow {h h' :aD} {b:Nat} {ss:List (List UInt8)} (g:aP h h') (S:B5 h b ss):B5 h' b ss:=⟨(aF g (aO S.at_)).trans S.at_,S.len⟩
theorem UP (H:Has fns orc) {nb sb:Nat} {w:Int} {s x:List UInt8} {h:aD} (hn:cont h nb=some [.int .i64 w]) (hs:cont h sb=some [.str s]):
  ∃h' r,aP h h' ∧Ev fns orc (.call 156 [.str x,.ptr nb 0,.ptr sb 0] .plain h) (.call (.ret (.bool r)) .plain h'):=by
 obtain ⟨mx,hmx⟩:∃k,EZ true (.int .i64 w) [.int .i64 (s.length:Int)]= .ok (.int .i64 k):=⟨_,rfl⟩
 obtain ⟨r,_,e⟩:=Er H x s
 by_cases c:mx<(x.length:Int)
 ·have d:=dT c
  refine ⟨h,r,.refl _,Ev.call H.f156 H.o156 ⟨4,fun m hm=> ?b1⟩⟩
  have e' :=fun h=>e h m hm
  exact SX (cj6 @a156.eq_1 hn hs hmx d e')
 ·have d:=dF c
  refine ⟨h,false,.refl _,Ev.call H.f156 H.o156 ⟨0,fun m hm=> ?b2⟩⟩
  exact SX (cj5 @a156.eq_1 hn hs hmx d)
theorem Wu (H:Has fns orc) {b:Nat} {ss:List (List UInt8)} {h:aD} (S:B5 h b ss) (s:List UInt8) (w:Int):
  ∃h' r,aP h h' ∧Ev fns orc (.call 154 [.str s,.int .i64 w,.ptr b 0] .plain h) (.call (.ret (.bool r)) .plain h'):=by
 have hb:=aO S.at_
 obtain ⟨hA,hAe⟩:∃x,x=((h.push (.cells [.str s])).push (.cells [.int .i64 w])).push (.tok (ss.length+1)):=⟨_,rfl⟩
 have gA:aP h hA:=by rw [hAe];exact gw2
 have x1:cont hA h.next=some [.str s]:=by rw [hAe];exact ctp
 have x2:cont hA (h.next+1)=some [.int .i64 w]:=by rw [hAe];exact ctp
 have ap:∀h0:aD,mT h0 1 (.sl .full (ss.map AV.str)) (.sl .full [.str [40,42]])= .ok (.sl (.opn h0.next (ss.length+1)) ((ss++[[40,42]]).map AV.str),h0.push (.tok (ss.length+1))):=by
  intro h0
  have e1:mR 1 (ss.map AV.str)=true:=by cases ss<;>simp [mR,AV.cells]
  have e2:Nat.ble (((ss.map AV.str).length+[AV.str [40,42]].length)*1) lX=true:=by
   rw [Nat.ble_eq];have:=S.len;simp [lX];omega
  simp only [mT,oO,aM,qK,AV.cells,List.length_cons,List.length_nil,wD,yN,e1]
  simp only [List.length_cons,List.length_nil] at e2
  simp only [e2,Bool.and_true]
  simp [Nat.ble]
 obtain ⟨hB,r,gB,n,e⟩:=TV H (g:=156) (capt:=[.ptr (h.next+1) 0,.ptr h.next 0]) (xs:=ss++[[40,42]]) (v:= .sl (.opn (h.next+2) (ss.length+1)) ((ss++[[40,42]]).map AV.str)) (.sl _ _) (by have:=S.len;simp;omega)
  (K:=fun a=>cont a (h.next+1)=some [.int .i64 w]∧cont a h.next=some [.str s]) (fun a b g q=>⟨(aF g (aO q.1)).trans q.1,(aF g (aO q.2)).trans q.2⟩)
  (fun x _ a q=>UP H q.1 q.2) hA ⟨x2,x1⟩
 refine ⟨hB,r,gA.trans gB,Ev.call H.f154 H.o154 ⟨n,fun m hm=> ?b1⟩⟩
 have e' :=e m hm
 exact SX (cj5 @a154.eq_1 @S.at_ ap (Eq.symm hAe) e')
end Go.Ly
namespace Go.Ly
open Go Go.Am Go.Fs Go.Gn
variable {fns:Go.Am.F} {orc:Orc}
def Pn (rl:UInt8→Bool) (s:List UInt8) (c:Int):Prop:=
 (c=0∨c=1∨c=2∨c=3∨c=4∨c=5∨c=6)∧(c=1→∀h:0<s.length,rl s[0]=true)∧(c=2→∀h:0<s.length,Dk s[0]=true)∧(c=5→2≤s.length)
theorem NM (H:Has fns orc) {rl:UInt8→Bool} (L:Pred fns orc 161 rl) {s:List UInt8} (hs:0<s.length):
  ∃c n,Pn rl s c∧∀(h:aD) (m:Nat),n≤m→eval fns orc m (.call 151 [.str s] .plain h)= .ok (.call (.ret (.int .i64 c)) .plain h):=by
 obtain ⟨x,hx⟩:∃x:Int,x=((s[0].toNat:Nat):Int):=⟨_,rfl⟩
 have f0:∀h,yE h (.str s) (.int .i64 0)= .ok (.val (.int .u8 x) h):=fun h=>by rw [hx];exact rW h hs
 obtain ⟨n1,e1⟩:=L s[0]
 rw [←hx] at e1
 obtain ⟨r,hr,e2⟩:=Er H s [40,42]
 by_cases c40:x=40
 ·rw [c40] at f0 e1
  cases hp:r with
  |true=>
   rw [hp] at e2
   refine ⟨5,n1+4+2, ?o1,fun h m hm=>fW (n:=n1+4) H.f151 H.o151 (fun m hm=> ?b1) m hm⟩
   case o1=>exact ⟨by omega,by omega,by omega,fun _=>hr hp⟩
   case b1=>
    have e1' :=fun h=>e1 h m om
    have e2' :=fun h=>e2 h m om
    exact SXo (cj4 @a151.eq_1 f0 e1' e2')
  |false=>
   rw [hp] at e2
   cases hl:rl s[0] with
   |true=>
    rw [hl] at e1
    refine ⟨1,n1+4+2, ?o2,fun h m hm=>fW (n:=n1+4) H.f151 H.o151 (fun m hm=> ?b2) m hm⟩
    case o2=>exact ⟨by omega,fun _ _=>hl,by omega,by omega⟩
    case b2=>
     have e1' :=fun h=>e1 h m om
     have e2' :=fun h=>e2 h m om
     exact SXo (cj4 @a151.eq_1 f0 e1' e2')
   |false=>
    rw [hl] at e1
    refine ⟨0,n1+4+2, ?o3,fun h m hm=>fW (n:=n1+4) H.f151 H.o151 (fun m hm=> ?b3) m hm⟩
    case o3=>exact ⟨by omega,by omega,by omega,by omega⟩
    case b3=>
     have e1' :=fun h=>e1 h m om
     have e2' :=fun h=>e2 h m om
     exact SXo (cj4 @a151.eq_1 f0 e1' e2')
 have d40:=dF c40
 by_cases c39:x=39
 ·have d39:=dT c39
  refine ⟨3,n1+4+2, ?o4,fun h m hm=>fW (n:=n1+4) H.f151 H.o151 (fun m hm=> ?b4) m hm⟩
  case o4=>exact ⟨by omega,by omega,by omega,by omega⟩
  case b4=>
   have e1' :=fun h=>e1 h m om
   have e2' :=fun h=>e2 h m om
   exact SXo (cj6 @a151.eq_1 f0 e1' e2' d40 d39)
 have d39:=dF c39
 by_cases c34:x=34
 ·have d34:=dT c34
  refine ⟨4,n1+4+2, ?o5,fun h m hm=>fW (n:=n1+4) H.f151 H.o151 (fun m hm=> ?b5) m hm⟩
  case o5=>exact ⟨by omega,by omega,by omega,by omega⟩
  case b5=>
   have e1' :=fun h=>e1 h m om
   have e2' :=fun h=>e2 h m om
   exact SXo (cj7 @a151.eq_1 f0 e1' e2' d40 d39 d34)
 have d34:=dF c34
 by_cases c48:48≤x
 ·have d48:=dT c48
  by_cases c57:x≤57
  ·have d57:=dT c57
   refine ⟨2,n1+4+2, ?o6,fun h m hm=>fW (n:=n1+4) H.f151 H.o151 (fun m hm=> ?b6) m hm⟩
   case o6=>exact ⟨by omega,by omega,fun _ _=>by simp [Dk,←hx,c48,c57],by omega⟩
   case b6=>
    have e1' :=fun h=>e1 h m om
    have e2' :=fun h=>e2 h m om
    exact SXo (cj9 @a151.eq_1 f0 e1' e2' d40 d39 d34 d48 d57)
  ·have d57:=dF c57
   cases hl:rl s[0] with
   |true=>
    rw [hl] at e1
    refine ⟨1,n1+4+2, ?o7,fun h m hm=>fW (n:=n1+4) H.f151 H.o151 (fun m hm=> ?b7) m hm⟩
    case o7=>exact ⟨by omega,fun _ _=>hl,by omega,by omega⟩
    case b7=>
     have e1' :=fun h=>e1 h m om
     have e2' :=fun h=>e2 h m om
     exact SXo (cj9 @a151.eq_1 f0 e1' e2' d40 d39 d34 d48 d57)
   |false=>
    rw [hl] at e1
    by_cases c9:x=9
    ·have d9:=dT c9
     refine ⟨6,n1+4+2, ?o8,fun h m hm=>fW (n:=n1+4) H.f151 H.o151 (fun m hm=> ?b8) m hm⟩
     case o8=>exact ⟨by omega,by omega,by omega,by omega⟩
     case b8=>
      have e1' :=fun h=>e1 h m om
      have e2' :=fun h=>e2 h m om
      exact SXo (tR @a151.eq_1 f0 e1' e2' d40 d39 d34 d48 d57 d9)
    have d9:=dF c9
    by_cases c10:x=10
    ·have d10:=dT c10
     refine ⟨6,n1+4+2, ?o9,fun h m hm=>fW (n:=n1+4) H.f151 H.o151 (fun m hm=> ?b9) m hm⟩
     case o9=>exact ⟨by omega,by omega,by omega,by omega⟩
     case b9=>
      have e1' :=fun h=>e1 h m om
      have e2' :=fun h=>e2 h m om
      exact SXo (sC @a151.eq_1 f0 e1' e2' d40 d39 d34 d48 d57 d9 d10)
    have d10:=dF c10
    by_cases c13:x=13
    ·have d13:=dT c13
     refine ⟨6,n1+4+2, ?o10,fun h m hm=>fW (n:=n1+4) H.f151 H.o151 (fun m hm=> ?b10) m hm⟩
     case o10=>exact ⟨by omega,by omega,by omega,by omega⟩
     case b10=>
      have e1' :=fun h=>e1 h m om
      have e2' :=fun h=>e2 h m om
      exact SXo (qC @a151.eq_1 f0 e1' e2' d40 d39 d34 d48 d57 d9 d10 d13)
    have d13:=dF c13
    by_cases c32:x=32
    ·have d32:=dT c32
     refine ⟨6,n1+4+2, ?o11,fun h m hm=>fW (n:=n1+4) H.f151 H.o151 (fun m hm=> ?b11) m hm⟩
     case o11=>exact ⟨by omega,by omega,by omega,by omega⟩
     case b11=>
      have e1' :=fun h=>e1 h m om
      have e2' :=fun h=>e2 h m om
      exact SXo (wK @a151.eq_1 f0 e1' e2' d40 d39 d34 d48 d57 d9 d10 d13 d32)
    have d32:=dF c32
    refine ⟨0,n1+4+2, ?o12,fun h m hm=>fW (n:=n1+4) H.f151 H.o151 (fun m hm=> ?b12) m hm⟩
    case o12=>exact ⟨by omega,by omega,by omega,by omega⟩
    case b12=>
     have e1' :=fun h=>e1 h m om
     have e2' :=fun h=>e2 h m om
     exact SXo (wK @a151.eq_1 f0 e1' e2' d40 d39 d34 d48 d57 d9 d10 d13 d32)
 ·have d48:=dF c48
  cases hl:rl s[0] with
  |true=>
   rw [hl] at e1
   refine ⟨1,n1+4+2, ?o13,fun h m hm=>fW (n:=n1+4) H.f151 H.o151 (fun m hm=> ?b13) m hm⟩
   case o13=>exact ⟨by omega,fun _ _=>hl,by omega,by omega⟩
   case b13=>
    have e1' :=fun h=>e1 h m om
    have e2' :=fun h=>e2 h m om
    exact SXo (cj8 @a151.eq_1 f0 e1' e2' d40 d39 d34 d48)
  |false=>
   rw [hl] at e1
   by_cases c9:x=9
   ·have d9:=dT c9
    refine ⟨6,n1+4+2, ?o14,fun h m hm=>fW (n:=n1+4) H.f151 H.o151 (fun m hm=> ?b14) m hm⟩
    case o14=>exact ⟨by omega,by omega,by omega,by omega⟩
    case b14=>
     have e1' :=fun h=>e1 h m om
     have e2' :=fun h=>e2 h m om
     exact SXo (cj9 @a151.eq_1 f0 e1' e2' d40 d39 d34 d48 d9)
   have d9:=dF c9
   by_cases c10:x=10
   ·have d10:=dT c10
    refine ⟨6,n1+4+2, ?o15,fun h m hm=>fW (n:=n1+4) H.f151 H.o151 (fun m hm=> ?b15) m hm⟩
    case o15=>exact ⟨by omega,by omega,by omega,by omega⟩
    case b15=>
     have e1' :=fun h=>e1 h m om
     have e2' :=fun h=>e2 h m om
     exact SXo (tR @a151.eq_1 f0 e1' e2' d40 d39 d34 d48 d9 d10)
   have d10:=dF c10
   by_cases c13:x=13
   ·have d13:=dT c13
    refine ⟨6,n1+4+2, ?o16,fun h m hm=>fW (n:=n1+4) H.f151 H.o151 (fun m hm=> ?b16) m hm⟩
    case o16=>exact ⟨by omega,by omega,by omega,by omega⟩
    case b16=>
     have e1' :=fun h=>e1 h m om
     have e2' :=fun h=>e2 h m om
     exact SXo (sC @a151.eq_1 f0 e1' e2' d40 d39 d34 d48 d9 d10 d13)
   have d13:=dF c13
   by_cases c32:x=32
   ·have d32:=dT c32
    refine ⟨6,n1+4+2, ?o17,fun h m hm=>fW (n:=n1+4) H.f151 H.o151 (fun m hm=> ?b17) m hm⟩
    case o17=>exact ⟨by omega,by omega,by omega,by omega⟩
    case b17=>
     have e1' :=fun h=>e1 h m om
     have e2' :=fun h=>e2 h m om
     exact SXo (qC @a151.eq_1 f0 e1' e2' d40 d39 d34 d48 d9 d10 d13 d32)
   have d32:=dF c32
   refine ⟨0,n1+4+2, ?o18,fun h m hm=>fW (n:=n1+4) H.f151 H.o151 (fun m hm=> ?b18) m hm⟩
   case o18=>exact ⟨by omega,by omega,by omega,by omega⟩
   case b18=>
    have e1' :=fun h=>e1 h m om
    have e2' :=fun h=>e2 h m om
    exact SXo (qC @a151.eq_1 f0 e1' e2' d40 d39 d34 d48 d9 d10 d13 d32)
end Go.Ly
namespace Go.Ly
open Go Go.Am Go.Fs Go.Gn
variable {fns:Go.Am.F} {orc:Orc}
def B8 (len:Nat) (v:AV):Prop:=∃(k:Int) (t:List UInt8) (n a en e:Int) (su:Bool),v= .agg [.int .i64 k,.str t,.int .i64 n,.int .i64 a,.int .i64 en,.int .i64 e,.bool su]∧(e=0→1≤en∧en≤(len:Int)+4)
def HD (orc:Orc):Prop:=∃g,orc 172=some g∧∀s t:List UInt8,s.length<10000000→t.length<10000000→∃k:Int,g [.str s,.str t]=some (.int .i64 k)∧k≤(s.length:Int)
theorem Uq (H:Has fns orc) {rl:UInt8→Bool} (L:Pred fns orc 161 rl) {s:List UInt8} (hs:0<s.length) (hs2:s.length<10000000) (hl:rl s[0]=true) {wb:Nat} {ws:List (List UInt8)} {vw:AV} {h:aD} (hw:cont h wb=some [vw]) (hv:iP vw (ws.map AV.str)) (hn:ws.length<10000000) (he:dX vw vw=true):
  ∃h' v,aP h h' ∧Ev fns orc (.call 158 [.str s,.ptr wb 0] .plain h) (.call (.ret v) .plain h')∧B8 s.length v:=by
 have lw:=aO hw
 obtain ⟨j,n1,q1,q2,e1⟩:=DD H (N8 H L) hs2
 have q3:1≤j:=q2 hs (by simp [hl])
 obtain ⟨r,n2,e2⟩:=Ec H (x:=s.take j) hv hn
 have f1:=D9 q1
 cases r with
 |true=>
  refine ⟨?hh1, ?v1, ?g1,Ev.call H.f158 H.o158 ⟨n1+n2+2,fun m hm=> ?b1⟩, ?i1⟩
  case b1=>
   have e1' :=fun h=>e1 h m om
   have e2' :=fun h=>e2 h m om
   have e3' :=fun k su h=>Cj H k q1 su h m om
   exact SX (cj7 @a158.eq_1 e1' e2' e3' f1 hw he)
  case g1=>exact gw2
  case i1=>exact ⟨_,_,_,_,_,_,_,rfl,fun _=>⟨by omega,by omega⟩⟩
 |false=>
  by_cases c:16<(j:Int)
  ·have d:=dT c
   refine ⟨?hh2, ?v2, ?g2,Ev.call H.f158 H.o158 ⟨n1+n2+2,fun m hm=> ?b2⟩, ?i2⟩
   case b2=>
    have e1' :=fun h=>e1 h m om
    have e2' :=fun h=>e2 h m om
    have e3' :=fun k su h=>vS H k su h m om
    exact SX (cj8 @a158.eq_1 e1' e2' e3' f1 d hw he)
   case g2=>exact gw2
   case i2=>exact ⟨_,_,_,_,_,_,_,rfl,fun q=>by cases q⟩
  ·have d:=dF c
   refine ⟨?hh3, ?v3, ?g3,Ev.call H.f158 H.o158 ⟨n1+n2+2,fun m hm=> ?b3⟩, ?i3⟩
   case b3=>
    have e1' :=fun h=>e1 h m om
    have e2' :=fun h=>e2 h m om
    have e3' :=fun k su h=>Cj H k q1 su h m om
    exact SX (cj8 @a158.eq_1 e1' e2' e3' f1 d hw he)
   case g3=>exact gw2
   case i3=>exact ⟨_,_,_,_,_,_,_,rfl,fun _=>⟨by omega,by omega⟩⟩
theorem U5 (H:Has fns orc) (X:HD orc) {s:List UInt8} (hs:2≤s.length) (hs2:s.length<10000000) (h:aD):
  ∃h' v,aP h h' ∧Ev fns orc (.call 171 [.str s] .plain h) (.call (.ret v) .plain h')∧B8 s.length v:=by
 obtain ⟨g,hg,X⟩:=X
 obtain ⟨k,hk,hk2⟩:=X (s.drop 2) [42,41] (by simp;omega) (by simp)
 have e1:∀(h:aD) (m:Nat),1≤m→eval fns orc m (.call 172 [.str (s.drop 2),.str [42,41]] .plain h)= .ok (.call (.ret (.int .i64 k)) .plain h):=by
  intro h m hm
  obtain ⟨m,rfl⟩:∃k,m=k+1:=⟨m -1,by omega⟩
  show Bx fns orc (eval fns orc m) 172 _ _ h=_
  unfold Bx
  rw [hg]
  show F4 (g [.str (s.drop 2),.str [42,41]]) h .plain=_
  rw [hk]
  rfl
 have f1:tN true 1 (.str s) (some (.int .i64 2)) none none= .ok (.str (s.drop 2)):=wV hs
 simp only [List.length_drop] at hk2
 by_cases c:k<0
 ·have d:=dT c
  refine ⟨?hh1, ?v1, ?g1,Ev.call H.f171 H.o171 ⟨2,fun m hm=> ?b1⟩, ?i1⟩
  case b1=>
   have e1' :=fun h=>e1 h m om
   have e3' :=fun k su h=>vS H k su h m om
   exact SX (cj5 @a171.eq_1 e1' e3' f1 d)
  case g1=>exact gw2
  case i1=>exact ⟨_,_,_,_,_,_,_,rfl,fun q=>by cases q⟩
 ·have d:=dF c
  have w:IntKind.wrap .i64 (k+4)=k+4:=pE om om
  refine ⟨?hh2, ?v2, ?g2,Ev.call H.f171 H.o171 ⟨2,fun m hm=> ?b2⟩, ?i2⟩
  case b2=>
   have e1' :=fun h=>e1 h m om
   exact SX (cj5 @a171.eq_1 e1' f1 d w)
  case g2=>exact gw2
  case i2=>exact ⟨_,_,_,_,_,_,_,rfl,fun _=>⟨by omega,by omega⟩⟩
end Go.Ly
namespace Go.Ly
open Go Go.Am Go.Fs Go.Gn
variable {fns:Go.Am.F} {orc:Orc}
theorem Uz (H:Has fns orc) {s:List UInt8} (hs:0<s.length) (h:aD):
  ∃h' v,aP h h' ∧Ev fns orc (.call 167 [.str s] .plain h) (.call (.ret v) .plain h')∧B8 s.length v:=by
 obtain ⟨rp,L⟩:=Gy H
 by_cases c1:1<(s.length:Int)
 case neg=>
  have d1:=dF c1
  have d3:decide (2<(s.length:Int))=false:=dF om
  have d4:decide ((s.length:Int)<3)=true:=dT om
  refine ⟨?hh1, ?v1, ?g1,Ev.call H.f167 H.o167 ⟨2,fun m hm=> ?b1⟩, ?i1⟩
  case b1=>
   have e3' :=fun k su h=>vS H k su h m om
   exact SX (cj5 @a167.eq_1 d1 d3 d4 e3')
  case g1=>exact gw2
  case i1=>exact ⟨_,_,_,_,_,_,_,rfl,fun q=>by cases q⟩
 have d1:=dT c1
 obtain ⟨x,hx⟩:∃x:Int,x=((s[1].toNat:Nat):Int):=⟨_,rfl⟩
 have f1:∀h,yE h (.str s) (.int .i64 1)= .ok (.val (.int .u8 x) h):=fun h=>by rw [hx];exact rW h (i:=1) om
 obtain ⟨n1,e1⟩:=L s[1]
 rw [←hx] at e1
 have bad:∀b,rp s[1]=b→(b=false∨x=39)→∃h' v,aP h h' ∧Ev fns orc (.call 167 [.str s] .plain h) (.call (.ret v) .plain h')∧B8 s.length v:=by
  intro b hb hq
  rw [hb] at e1
  refine ⟨?hh2, ?v2, ?g2,Ev.call H.f167 H.o167 ⟨n1+2,fun m hm=> ?b2⟩, ?i2⟩
  case b2=>
   have e1' :=fun h=>e1 h m om
   have e3' :=fun k su h=>vS H k su h m om
   cases b with
   |false=>
    exact SX (cj5 @a167.eq_1 d1 f1 e1' e3')
   |true=>
    have d2:decide (x=39)=true:=dT (by simpa using hq)
    exact SX (cj6 @a167.eq_1 d1 d2 f1 e1' e3')
  case g2=>exact gw2
  case i2=>exact ⟨_,_,_,_,_,_,_,rfl,fun q=>by cases q⟩
 cases hb:rp s[1] with
 |false=>exact bad false hb (.inl rfl)
 |true=>
  by_cases c2:x=39
  ·exact bad true hb (.inr c2)
  have d2:=dF c2
  rw [hb] at e1
  by_cases c3:2<(s.length:Int)
  case neg=>
   have d3:=dF c3
   have d4:decide ((s.length:Int)<3)=true:=dT om
   refine ⟨?hh3, ?v3, ?g3,Ev.call H.f167 H.o167 ⟨n1+2,fun m hm=> ?b3⟩, ?i3⟩
   case b3=>
    have e1' :=fun h=>e1 h m om
    have e3' :=fun k su h=>vS H k su h m om
    exact SX (cj8 @a167.eq_1 d1 d2 d3 d4 f1 e1' e3')
   case g3=>exact gw2
   case i3=>exact ⟨_,_,_,_,_,_,_,rfl,fun q=>by cases q⟩
  have d3:=dT c3
  have d4:decide ((s.length:Int)<3)=false:=dF om
  obtain ⟨y,hy⟩:∃y:Int,y=((s[2].toNat:Nat):Int):=⟨_,rfl⟩
  have f2:∀h,yE h (.str s) (.int .i64 2)= .ok (.val (.int .u8 y) h):=fun h=>by rw [hy];exact rW h (i:=2) om
  have w:IntKind.wrap .i64 x=x:=by
   have:=UInt8.toNat_lt s[1]
   exact pE om om
  by_cases c5:y=39
  ·have d5:=dT c5
   refine ⟨?hh4, ?v4, ?g4,Ev.call H.f167 H.o167 ⟨n1+2,fun m hm=> ?b4⟩, ?i4⟩
   case b4=>
    have e1' :=fun h=>e1 h m om
    exact SX (tR @a167.eq_1 d1 d2 d3 d4 d5 f1 f2 e1' w)
   case g4=>exact gw2
   case i4=>exact ⟨_,_,_,_,_,_,_,rfl,fun _=>⟨by omega,by omega⟩⟩
  ·have d5:=dF c5
   refine ⟨?hh5, ?v5, ?g5,Ev.call H.f167 H.o167 ⟨n1+2,fun m hm=> ?b5⟩, ?i5⟩
   case b5=>
    have e1' :=fun h=>e1 h m om
    have e3' :=fun k su h=>vS H k su h m om
    exact SX (tR @a167.eq_1 d1 d2 d3 d4 d5 f1 f2 e1' e3')
   case g5=>exact gw2
   case i5=>exact ⟨_,_,_,_,_,_,_,rfl,fun q=>by cases q⟩
theorem Rz (H:Has fns orc) {s:List UInt8} (hs:0<s.length) (hs2:s.length<10000000) (h:aD):
  ∃h' v,aP h h' ∧Ev fns orc (.call 169 [.str s] .plain h) (.call (.ret v) .plain h')∧B8 s.length v:=by
 obtain ⟨rq,L⟩:=MK H
 obtain ⟨j,n1,q1,_,e1⟩:=DD H L (s:=s.drop 1) (by simp;omega)
 simp only [List.length_drop] at q1
 have f0:tN true 1 (.str s) (some (.int .i64 1)) none none= .ok (.str (s.drop 1)):=wV (n:=1) om
 have w1:IntKind.wrap .i64 (1+(j:Int))=((j+1:Nat):Int):=by rw [pE om om];omega
 by_cases c1:((j+1:Nat):Int)=(s.length:Int)
 ·have d1:=dT c1
  refine ⟨?hh1, ?v1, ?g1,Ev.call H.f169 H.o169 ⟨n1+2,fun m hm=> ?b1⟩, ?i1⟩
  case b1=>
   have e1' :=fun h=>e1 h m om
   have e3' :=fun k su h=>vS H k su h m om
   exact SX (cj6 @a169.eq_1 f0 w1 d1 e1' e3')
  case g1=>exact gw2
  case i1=>exact ⟨_,_,_,_,_,_,_,rfl,fun q=>by cases q⟩
 have d1:=dF c1
 obtain ⟨x,hx⟩:∃x:Int,x=((s[j+1].toNat:Nat):Int):=⟨_,rfl⟩
 have f1:∀h,yE h (.str s) (.int .i64 ((j+1:Nat):Int))= .ok (.val (.int .u8 x) h):=fun h=>by rw [hx];exact rW h (i:=j+1) om
 by_cases c2:x=34
 case neg=>
  have d2:=dF c2
  refine ⟨?hh2, ?v2, ?g2,Ev.call H.f169 H.o169 ⟨n1+2,fun m hm=> ?b2⟩, ?i2⟩
  case b2=>
   have e1' :=fun h=>e1 h m om
   have e3' :=fun k su h=>vS H k su h m om
   exact SX (cj8 @a169.eq_1 f0 f1 w1 d1 d2 e1' e3')
  case g2=>exact gw2
  case i2=>exact ⟨_,_,_,_,_,_,_,rfl,fun q=>by cases q⟩
 have d2:=dT c2
 have w2:IntKind.wrap .i64 (((j+1:Nat):Int) -1)=(j:Int):=by rw [pE om om];omega
 by_cases c3:80<(j:Int)
 ·have d3:=dT c3
  refine ⟨?hh3, ?v3, ?g3,Ev.call H.f169 H.o169 ⟨n1+2,fun m hm=> ?b3⟩, ?i3⟩
  case b3=>
   have e1' :=fun h=>e1 h m om
   have e3' :=fun k su h=>vS H k su h m om
   exact SX (tR @a169.eq_1 f0 f1 w1 w2 d1 d2 d3 e1' e3')
  case g3=>exact gw2
  case i3=>exact ⟨_,_,_,_,_,_,_,rfl,fun q=>by cases q⟩
 ·have d3:=dF c3
  have f2:tN true 1 (.str s) (some (.int .i64 1)) (some (.int .i64 ((j+1:Nat):Int))) none= .ok (.str ((s.take (j+1)).drop 1)):=PA (l:=1) (n:=j+1) om om
  have w3:IntKind.wrap .i64 (((j+1:Nat):Int)+1)=((j+2:Nat):Int):=by rw [pE om om];omega
  refine ⟨?hh4, ?v4, ?g4,Ev.call H.f169 H.o169 ⟨n1+2,fun m hm=> ?b4⟩, ?i4⟩
  case b4=>
   have e1' :=fun h=>e1 h m om
   exact SX (sC @a169.eq_1 f0 f1 f2 w1 w2 w3 d1 d2 d3 e1')
  case g4=>exact gw2
  case i4=>exact ⟨_,_,_,_,_,_,_,rfl,fun _=>⟨by omega,by omega⟩⟩
end Go.Ly
namespace Go.Ly
open Go Go.Am Go.Fs Go.Gn
variable {fns:Go.Am.F} {orc:Orc}
theorem Wo (ss:List (List UInt8)):dX (.sl .full (ss.map AV.str)) (.sl .full (ss.map AV.str))=true:=vC (.sl .full _)
def DC:AC:=p173x11000
theorem PF (H:Has fns orc) {fn sb ob r:Nat} {s:List UInt8} {ss:List (List UInt8)} {h:aD} (S:B5 h sb ss):∀n:Nat,n≤3→n≤s.length→
  ∃n',n' ≤n∧Ev fns orc (.code fn none (.loop DC) ⟨[(0,.str s),(1,.ptr sb 0),(2,.ptr ob 0),(4,.ptr r 0),(5,.int .i64 (n:Int))],[],.plain,h⟩) (.code (.exit 0) ⟨[(0,.str s),(1,.ptr sb 0),(2,.ptr ob 0),(4,.ptr r 0),(5,.int .i64 (n' :Int)),(18,.bool false)],[],.plain,h⟩):=by
 intro n
 have se:=Wo ss
 induction n with
 |zero=>
  intro _ _
  have d0:decide ((0:Int)<((0:Nat):Int))=false:=rfl
  refine ⟨0,Nat.le_refl _,Ev.code ⟨0,fun m hm=> ?b1⟩⟩
  exact SX (cj5 @DC.eq_1 @S.at_ se d0 @aI)
 |succ n ih=>
  intro h1 h2
  have d:decide ((0:Int)<((n+1:Nat):Int))=true:=dT om
  have f:=D9 (s:=s) (n:=n+1) h2
  obtain ⟨b,n1,e1⟩:=Ec H (x:=s.take (n+1)) (xs:=ss) (.sl .full _) (by have:=S.len;omega)
  cases b with
  |true=>
   refine ⟨n+1,Nat.le_refl _,Ev.code ⟨n1,fun m hm=> ?b2⟩⟩
   have e1' :=fun h=>e1 h m hm
   exact SX (cj7 @DC.eq_1 @S.at_ se d f e1' @aI)
  |false=>
   obtain ⟨n',q,n2,e2⟩:=ih om om
   refine ⟨n',by omega,Ev.code ⟨max n1 n2,fun m hm=> ?b3⟩⟩
   have e1' :=fun h=>e1 h m om
   have e2' :=e2 m om
   simp only [DC] at e2'
   exact SXe (cj8 @DC.eq_1 @S.at_ se d f e1' @aI (show IntKind.wrap .i64 (((n+1:Nat):Int) -1)=(n:Int) from by rw [pE om om];omega)) e2'
theorem UC (H:Has fns orc) {sb ob:Nat} {s:List UInt8} {ss:List (List UInt8)} {h:aD} (S:B5 h sb ss) (ho:cont h ob=some [.fn 154 [] [.ptr sb 0]]):
  ∃h' v,aP h h' ∧Ev fns orc (.call 173 [.str s,.ptr sb 0,.ptr ob 0] .plain h) (.call (.ret v) .plain h')∧B8 s.length v:=by
 obtain ⟨hA,hAe⟩:∃x,x=h.push (.cells [.int .i64 0,.str [],.int .i64 0,.int .i64 0,.int .i64 0,.int .i64 0,.bool false]):=⟨_,rfl⟩
 have gA:aP h hA:=by rw [hAe];exact gw2
 have nA:hA.next=h.next+1:=by rw [hAe];simp
 have zA:cont hA h.next=some [.int .i64 0,.str [],.int .i64 0,.int .i64 0,.int .i64 0,.int .i64 0,.bool false]:=by rw [hAe];exact aR om om
 have oA:=(aF gA (aO ho)).trans ho
 obtain ⟨n0,hn0,h3,hl⟩:∃n0:Nat,EZ false (.int .i64 3) [.int .i64 (s.length:Int)]= .ok (.int .i64 (n0:Int))∧n0≤3∧n0≤s.length:=by
  by_cases c:(s.length:Int)<3
  ·exact ⟨s.length,by simp [EZ,c],by omega,Nat.le_refl _⟩
  ·exact ⟨3,by simp [EZ,c],Nat.le_refl _,by omega⟩
 obtain ⟨n,hn,n1,e1⟩:=PF H (fn:=173) (ob:=ob) (r:=h.next) (s:=s) (S.grow gA) n0 h3 hl
 have e2:∀m,n1≤m→cG (eval fns orc m) 173 none (.loop DC) ⟨[(0,.str s),(1,.ptr sb 0),(2,.ptr ob 0),(4,.ptr h.next 0),(5,.int .i64 (n0:Int))],[],.plain,hA⟩= .ok (.code (.exit 0) ⟨[(0,.str s),(1,.ptr sb 0),(2,.ptr ob 0),(4,.ptr h.next 0),(5,.int .i64 (n:Int)),(18,.bool false)],[],.plain,hA⟩):=fun m hm=>e1 (m+1) om
 simp only [DC] at e2
 obtain ⟨hB,r,gAB,n2,e3⟩:=Wu H (S.grow gA) s (n:Int)
 have gB:=gA.trans gAB
 have nB:=gAB.next
 have zB:=(aF gAB (by omega:h.next<hA.next)).trans zA
 by_cases c:(n:Int)=0
 ·have d:=dT c
  refine ⟨?hh1, ?v1, ?g1,Ev.call H.f173 H.o173 ⟨n1+n2+2,fun m hm=> ?b1⟩, ?i1⟩
  case b1=>
   have e2' :=e2 m om
   have e3' :=e3 m om
   have e4' :=fun k su h=>vS H k su h m om
   exact SX (cj9 @a173.eq_1 (Eq.symm hAe) hn0 e2' oA d e3' e4' zB)
  case g1=>exact gw3
  case i1=>exact ⟨_,_,_,_,_,_,_,rfl,fun q=>by cases q⟩
 ·have d:=dF c
  refine ⟨?hh2, ?v2, ?g2,Ev.call H.f173 H.o173 ⟨n1+n2+2,fun m hm=> ?b2⟩, ?i2⟩
  case b2=>
   have e2' :=e2 m om
   have e3' :=e3 m om
   have e4' :=fun k su h=>Cj H k (s:=s) (n:=n) om su h m om
   exact SX (cj9 @a173.eq_1 (Eq.symm hAe) hn0 e2' oA d e3' e4' zB)
  case g2=>exact gw3
  case i2=>exact ⟨_,_,_,_,_,_,_,rfl,fun _=>⟨by omega,by omega⟩⟩
end Go.Ly
namespace Go.Ly
open Go Go.Am Go.Fs Go.Gn
variable {fns:Go.Am.F} {orc:Orc}
theorem wN {a:Int} {b:Nat} (h:a=(b:Int)) (hb:b<4611686018427387904):IntKind.wrap .i64 a=(b:Int):=by rw [h];exact pE om om
def Ei:AC:=p166x1111
def wG:AC:=p166x1110
theorem MX (H:Has fns orc) {s:List UInt8} {n r:Nat} (hn1:1≤n) (hn:n≤s.length) (hs2:s.length<10000000) {kd:Int} {su:Bool} {ts:fN} {h:aD} (t0:cH ts 0= .str s) (t2:cH ts 2= .ptr r 0) (t3:cH ts 3= .int .i64 (n:Int)) (t4:cH ts 4= .int .i64 kd) (t5:cH ts 5= .bool su)
  (hr:cont h r=some [.int .i64 0,.str [],.int .i64 0,.int .i64 0,.int .i64 0,.int .i64 0,.bool false]):
  ∃h' cs,(∃N,∀m,N≤m→cG (eval fns orc m) 166 none Ei ⟨ts,[],.plain,h⟩= .ok (.code .ret ⟨[(2,.ptr r 0)],[],.plain,h'⟩))∧Chg (fun i=>i=r) h h' ∧cont h' r=some cs∧cs.length=7∧B8 s.length (.agg cs):=by
 obtain ⟨rl,L⟩:=FB H
 have lr:=aO hr
 have YR:(∃c:Bool,c=true→False)→True:=fun _=>trivial
 by_cases c1:(n:Int)<(s.length:Int)
 case neg=>
  have d1:=dF c1
  refine ⟨?hh1, ?cs1,⟨2,fun m hm=> ?b1⟩, ?g1, ?c1, ?l1, ?i1⟩
  case b1=>
   have e3' :=fun k su h=>Cj H k hn su h m om
   exact SX (cj9 @Ei.eq_1 t0 t2 t3 t4 t5 d1 e3' hr)
  case g1=>
   refine rX (P:=fun i=>i=r) (i:=r) ?_ ?_ (.inl rfl) _
   ·refine sR (Chg.refl _ _) ?_
    exact gw2
   ·simp;omega
  case c1=>
   refine aG ?_
   simp
   omega
  case l1=>rfl
  case i1=>exact ⟨_,_,_,_,_,_,_,rfl,fun _=>⟨by omega,by omega⟩⟩
 have d1:=dT c1
 have f1:=fun h=>rW h (s:=s) (i:=n) om
 obtain ⟨n1,e1⟩:=L (s[n]'om)
 cases hb:rl (s[n]'om) with
 |true=>
  rw [hb] at e1
  refine ⟨?hh2, ?cs2,⟨n1+2,fun m hm=> ?b2⟩, ?g2, ?c2, ?l2, ?i2⟩
  case b2=>
   have e1' :=fun h=>e1 h m om
   have e3' :=fun k su h=>vS H k su h m om
   exact SX (sC @Ei.eq_1 t0 t2 t3 t4 t5 d1 f1 e1' e3' hr)
  case g2=>
   refine rX (P:=fun i=>i=r) (i:=r) ?_ ?_ (.inl rfl) _
   ·refine sR (Chg.refl _ _) ?_
    exact gw2
   ·simp;omega
  case c2=>
   refine aG ?_
   simp
   omega
  case l2=>rfl
  case i2=>exact ⟨_,_,_,_,_,_,_,rfl,fun q=>by cases q⟩
 |false=>
  rw [hb] at e1
  refine ⟨?hh3, ?cs3,⟨n1+2,fun m hm=> ?b3⟩, ?g3, ?c3, ?l3, ?i3⟩
  case b3=>
   have e1' :=fun h=>e1 h m om
   have e3' :=fun k su h=>Cj H k hn su h m om
   exact SX (sC @Ei.eq_1 t0 t2 t3 t4 t5 d1 f1 e1' e3' hr)
  case g3=>
   refine rX (P:=fun i=>i=r) (i:=r) ?_ ?_ (.inl rfl) _
   ·refine sR (Chg.refl _ _) ?_
    exact gw2
   ·simp;omega
  case c3=>
   refine aG ?_
   simp
   omega
  case l3=>rfl
  case i3=>exact ⟨_,_,_,_,_,_,_,rfl,fun _=>⟨by omega,by omega⟩⟩
def Zb (s:List UInt8) (n r:Nat) (ts:fN):Prop:=∃(n' :Nat) (kd:Int) (su:Bool),n≤n' ∧n' ≤s.length∧cH ts 0= .str s∧cH ts 2= .ptr r 0∧cH ts 3= .int .i64 (n' :Int)∧cH ts 4= .int .i64 kd∧cH ts 5= .bool su
theorem PW (H:Has fns orc) {s:List UInt8} {n r:Nat} (hn:n≤s.length) (hs2:s.length<10000000) {kd:Int} {su:Bool} (h:aD):
  ∃ts' N,(∀m,N≤m→cG (eval fns orc m) 166 none wG ⟨[(0,.str s),(2,.ptr r 0),(3,.int .i64 (n:Int)),(4,.int .i64 kd),(5,.bool su)],[],.plain,h⟩= .ok (.code .normal ⟨ts',[],.plain,h⟩))∧Zb s n r ts' :=by
 have D:=DT H
 have w1:IntKind.wrap .i64 ((n:Int)+1)=((n+1:Nat):Int):=wN om om
 by_cases c1:((n+1:Nat):Int)<(s.length:Int)
 case neg=>
  have d1:=dF c1
  refine ⟨?ts1,0,fun m hm=> ?b1, ?o1⟩
  case b1=>
   exact SXw (cj3 @wG.eq_1 w1 d1)
  case o1=>exact ⟨n,_,_,by omega,by omega,rfl,rfl,rfl,rfl,rfl⟩
 have d1:=dT c1
 obtain ⟨x,hx⟩:∃y:Int,y=(((s[n]'om).toNat:Nat):Int):=⟨_,rfl⟩
 have fx:=fun h=>rW h (s:=s) (i:=n) om
 rw [←hx] at fx
 by_cases c2:x=46
 case neg=>
  have d2:=dF c2
  refine ⟨?ts2,0,fun m hm=> ?b2, ?o2⟩
  case b2=>
   exact SXw (cj5 @wG.eq_1 w1 d1 fx d2)
  case o2=>exact ⟨n,_,_,by omega,by omega,rfl,rfl,rfl,rfl,rfl⟩
 have d2:=dT c2
 have fy:=fun h=>rW h (s:=s) (i:=n+1) om
 obtain ⟨ny,gy⟩:=D (s[n+1]'om)
 cases hy:Dk (s[n+1]'om) with
 |false=>
  rw [hy] at gy
  refine ⟨?ts3,ny,fun m hm=> ?b3, ?o3⟩
  case b3=>
   have gy' :=fun h=>gy h m om
   exact SXw (cj7 @wG.eq_1 w1 d1 fx d2 fy gy')
  case o3=>exact ⟨n,_,_,by omega,by omega,rfl,rfl,rfl,rfl,rfl⟩
 |true=>
  rw [hy] at gy
  obtain ⟨j,nr,q1,_,er⟩:=DD H D (s:=s.drop (n+1)) (by simp;omega)
  simp only [List.length_drop] at q1
  have fs:tN true 1 (.str s) (some (.int .i64 ((n+1:Nat):Int))) none none= .ok (.str (s.drop (n+1))):=wV (n:=n+1) om
  have w2:IntKind.wrap .i64 (1+(j:Int))=((j+1:Nat):Int):=wN om om
  have w3:IntKind.wrap .i64 ((n:Int)+((j+1:Nat):Int))=((n+(j+1):Nat):Int):=wN om om
  obtain ⟨p,hp⟩:∃p,p=n+(j+1):=⟨_,rfl⟩
  rw [←hp] at w3
  have hpn:n≤p:=om
  have hpl:p≤s.length:=om
  by_cases c3:(p:Int)<(s.length:Int)
  case neg=>
   have d3:=dF c3
   refine ⟨?ts4,ny+nr,fun m hm=> ?b4, ?o4⟩
   case b4=>
    have gy' :=fun h=>gy h m om
    have er' :=fun h=>er h m om
    exact SXw (qC @wG.eq_1 w1 d1 fx d2 fy gy' er' fs w2 w3 d3)
   case o4=>exact ⟨p,_,_,by omega,by omega,rfl,rfl,rfl,rfl,rfl⟩
  have d3:=dT c3
  obtain ⟨z,hz⟩:∃y:Int,y=(((s[p]'om).toNat:Nat):Int):=⟨_,rfl⟩
  have fz:=fun h=>rW h (s:=s) (i:=p) om
  rw [←hz] at fz
  by_cases c4:z=101
  case neg=>
   have d4:=dF c4
   refine ⟨?ts5,ny+nr,fun m hm=> ?b5, ?o5⟩
   case b5=>
    have gy' :=fun h=>gy h m om
    have er' :=fun h=>er h m om
    exact SXw (zZ @wG.eq_1 w1 d1 fx d2 fy gy' er' fs w2 w3 d3 fz d4)
   case o5=>exact ⟨p,_,_,by omega,by omega,rfl,rfl,rfl,rfl,rfl⟩
  have d4:=dT c4
  have w4:IntKind.wrap .i64 ((p:Int)+1)=((p+1:Nat):Int):=wN om om
  by_cases c5:((p+1:Nat):Int)<(s.length:Int)
  case neg=>
   have d5:=dF c5
   refine ⟨?ts6,ny+nr,fun m hm=> ?b6, ?o6⟩
   case b6=>
    have gy' :=fun h=>gy h m om
    have er' :=fun h=>er h m om
    exact SXw (Bd @wG.eq_1 w1 d1 fx d2 fy gy' er' fs w2 w3 d3 fz d4 w4 d5)
   case o6=>exact ⟨p,_,_,by omega,by omega,rfl,rfl,rfl,rfl,rfl⟩
  have d5:=dT c5
  obtain ⟨u,hu⟩:∃y:Int,y=(((s[p+1]'om).toNat:Nat):Int):=⟨_,rfl⟩
  have fu:=fun h=>rW h (s:=s) (i:=p+1) om
  rw [←hu] at fu
  have w5:IntKind.wrap .i64 (((p+1:Nat):Int)+1)=((p+2:Nat):Int):=wN om om
  by_cases c7:u=43
  ·have d7:=dT c7
   by_cases c6:((p+2:Nat):Int)<(s.length:Int)
   case neg=>
    have d6:=dF c6
    refine ⟨?ts7,ny+nr,fun m hm=> ?b7, ?o7⟩
    case b7=>
     have gy' :=fun h=>gy h m om
     have er' :=fun h=>er h m om
     exact SXw (dI @wG.eq_1 w1 d1 fx d2 fy gy' er' fs w2 w3 d3 fz d4 w4 d5 (cj4 fu w5 d7 d6))
    case o7=>exact ⟨p,_,_,by omega,by omega,rfl,rfl,rfl,rfl,rfl⟩
   have d6:=dT c6
   have fv:=fun h=>rW h (s:=s) (i:=p+2) om
   obtain ⟨nv,gv⟩:=D (s[p+2]'om)
   cases hv:Dk (s[p+2]'om) with
   |false=>
    rw [hv] at gv
    refine ⟨?ts8,ny+nr+nv,fun m hm=> ?b8, ?o8⟩
    case b8=>
     have gy' :=fun h=>gy h m om
     have er' :=fun h=>er h m om
     have gv' :=fun h=>gv h m om
     exact SXw (dI @wG.eq_1 w1 d1 fx d2 fy gy' er' fs w2 w3 d3 fz d4 w4 d5 (cj6 fu w5 d7 d6 fv gv'))
    case o8=>exact ⟨p,_,_,by omega,by omega,rfl,rfl,rfl,rfl,rfl⟩
   |true=>
    rw [hv] at gv
    obtain ⟨i,ni,q2,_,ei⟩:=DD H D (s:=s.drop (p+2)) (by simp;omega)
    simp only [List.length_drop] at q2
    have ft:tN true 1 (.str s) (some (.int .i64 ((p+2:Nat):Int))) none none= .ok (.str (s.drop (p+2))):=wV (n:=p+2) om
    have w6:IntKind.wrap .i64 (((p+2:Nat):Int)+(i:Int))=((p+2+i:Nat):Int):=wN om om
    refine ⟨?ts9,ny+nr+nv+ni,fun m hm=> ?b9, ?o9⟩
    case b9=>
     have gy' :=fun h=>gy h m om
     have er' :=fun h=>er h m om
     have gv' :=fun h=>gv h m om
     have ei' :=fun h=>ei h m om
     exact SXw (dI @wG.eq_1 w1 d1 fx d2 fy gy' er' fs w2 w3 d3 fz d4 w4 d5 (cj9 fu w5 d7 d6 fv gv' ei' ft w6))
    case o9=>exact ⟨p+2+i,_,_,by omega,by omega,rfl,rfl,rfl,rfl,rfl⟩
  have d7:=dF c7
  by_cases c8:u=45
  ·have d8:=dT c8
   by_cases c6:((p+2:Nat):Int)<(s.length:Int)
   case neg=>
    have d6:=dF c6
    refine ⟨?ts10,ny+nr,fun m hm=> ?b10, ?o10⟩
    case b10=>
     have gy' :=fun h=>gy h m om
     have er' :=fun h=>er h m om
     exact SXw (dI @wG.eq_1 w1 d1 fx d2 fy gy' er' fs w2 w3 d3 fz d4 w4 d5 (cj5 fu w5 d7 d8 d6))
    case o10=>exact ⟨p,_,_,by omega,by omega,rfl,rfl,rfl,rfl,rfl⟩
   have d6:=dT c6
   have fv:=fun h=>rW h (s:=s) (i:=p+2) om
   obtain ⟨nv,gv⟩:=D (s[p+2]'om)
   cases hv:Dk (s[p+2]'om) with
   |false=>
    rw [hv] at gv
    refine ⟨?ts11,ny+nr+nv,fun m hm=> ?b11, ?o11⟩
    case b11=>
     have gy' :=fun h=>gy h m om
     have er' :=fun h=>er h m om
     have gv' :=fun h=>gv h m om
     exact SXw (dI @wG.eq_1 w1 d1 fx d2 fy gy' er' fs w2 w3 d3 fz d4 w4 d5 (cj7 fu w5 d7 d8 d6 fv gv'))
    case o11=>exact ⟨p,_,_,by omega,by omega,rfl,rfl,rfl,rfl,rfl⟩
   |true=>
    rw [hv] at gv
    obtain ⟨i,ni,q2,_,ei⟩:=DD H D (s:=s.drop (p+2)) (by simp;omega)
    simp only [List.length_drop] at q2
    have ft:tN true 1 (.str s) (some (.int .i64 ((p+2:Nat):Int))) none none= .ok (.str (s.drop (p+2))):=wV (n:=p+2) om
    have w6:IntKind.wrap .i64 (((p+2:Nat):Int)+(i:Int))=((p+2+i:Nat):Int):=wN om om
    refine ⟨?ts12,ny+nr+nv+ni,fun m hm=> ?b12, ?o12⟩
    case b12=>
     have gy' :=fun h=>gy h m om
     have er' :=fun h=>er h m om
     have gv' :=fun h=>gv h m om
     have ei' :=fun h=>ei h m om
     exact SXw (dI @wG.eq_1 w1 d1 fx d2 fy gy' er' fs w2 w3 d3 fz d4 w4 d5 (tR fu w5 d7 d8 d6 fv gv' ei' ft w6))
    case o12=>exact ⟨p+2+i,_,_,by omega,by omega,rfl,rfl,rfl,rfl,rfl⟩
  have d8:=dF c8
  have fv:=fun h=>rW h (s:=s) (i:=p+1) om
  obtain ⟨nv,gv⟩:=D (s[p+1]'om)
  rw [←hu] at gv
  cases hv:Dk (s[p+1]'om) with
  |false=>
   rw [hv] at gv
   refine ⟨?ts13,ny+nr+nv,fun m hm=> ?b13, ?o13⟩
   case b13=>
    have gy' :=fun h=>gy h m om
    have er' :=fun h=>er h m om
    have gv' :=fun h=>gv h m om
    exact SXw (dI @wG.eq_1 w1 d1 fx d2 fy gy' er' fs w2 w3 d3 fz d4 w4 d5 (cj5 fu w5 d7 d8 gv'))
   case o13=>exact ⟨p,_,_,by omega,by omega,rfl,rfl,rfl,rfl,rfl⟩
  |true=>
   rw [hv] at gv
   obtain ⟨i,ni,q2,_,ei⟩:=DD H D (s:=s.drop (p+1)) (by simp;omega)
   simp only [List.length_drop] at q2
   have ft:tN true 1 (.str s) (some (.int .i64 ((p+1:Nat):Int))) none none= .ok (.str (s.drop (p+1))):=wV (n:=p+1) om
   have w6:IntKind.wrap .i64 (((p+1:Nat):Int)+(i:Int))=((p+1+i:Nat):Int):=wN om om
   refine ⟨?ts14,ny+nr+nv+ni,fun m hm=> ?b14, ?o14⟩
   case b14=>
    have gy' :=fun h=>gy h m om
    have er' :=fun h=>er h m om
    have gv' :=fun h=>gv h m om
    have ei' :=fun h=>ei h m om
    exact SXw (dI @wG.eq_1 w1 d1 fx d2 fy gy' er' fs w2 w3 d3 fz d4 w4 d5 (cj8 fu w5 d7 d8 gv' ei' ft w6))
   case o14=>exact ⟨p+1+i,_,_,by omega,by omega,rfl,rfl,rfl,rfl,rfl⟩
def Ej:AC:=p166x110
theorem Sb:a166.body= .seq (p166x0) (.seq (p166x10) (.seq Ej (.seq wG Ei))):=rfl
theorem U4:a166.results=[.cell 2 (some 7)]:=rfl
theorem MY {s:List UInt8} {n r:Nat} (hn:n≤s.length) (hs2:s.length<10000000) (h:aD) (fn:FuncId):
  ∃su N,∀m,N≤m→cG (eval fns orc m) fn none Ej ⟨[(0,.str s),(2,.ptr r 0),(3,.int .i64 (n:Int)),(4,.int .i64 3)],[],.plain,h⟩= .ok (.code .normal ⟨[(0,.str s),(2,.ptr r 0),(3,.int .i64 (n:Int)),(4,.int .i64 3),(5,.bool su)],[],.plain,h⟩):=by
 have w1:IntKind.wrap .i64 ((n:Int)+1)=((n+1:Nat):Int):=wN om om
 by_cases c1:(n:Int)<(s.length:Int)
 case neg=>
  have d1:=dF c1
  refine ⟨false,0,fun m hm=> ?b1⟩
  exact SX (cj2 @Ej.eq_1 d1)
 have d1:=dT c1
 obtain ⟨x,hx⟩:∃y:Int,y=(((s[n]'om).toNat:Nat):Int):=⟨_,rfl⟩
 have fx:=fun h=>rW h (s:=s) (i:=n) om
 rw [←hx] at fx
 by_cases c2:x=46
 case neg=>
  have d2:=dF c2
  refine ⟨true,0,fun m hm=> ?b2⟩
  exact SX (cj4 @Ej.eq_1 d1 d2 fx)
 have d2:=dT c2
 refine ⟨!decide (((n+1:Nat):Int)=(s.length:Int)),0,fun m hm=> ?b3⟩
 exact SX (cj5 @Ej.eq_1 d1 d2 fx w1)
theorem PV (H:Has fns orc) {s:List UInt8} (hs:0<s.length) (hs2:s.length<10000000) (hd:Dk s[0]=true) (h:aD):
  ∃h' v,aP h h' ∧Ev fns orc (.call 166 [.str s] .plain h) (.call (.ret v) .plain h')∧B8 s.length v:=by
 obtain ⟨hA,hAe⟩:∃x,x=h.push (.cells [.int .i64 0,.str [],.int .i64 0,.int .i64 0,.int .i64 0,.int .i64 0,.bool false]):=⟨_,rfl⟩
 have gA:aP h hA:=by rw [hAe];exact gw2
 have nA:hA.next=h.next+1:=by rw [hAe];simp
 have zA:cont hA h.next=some [.int .i64 0,.str [],.int .i64 0,.int .i64 0,.int .i64 0,.int .i64 0,.bool false]:=by rw [hAe];exact aR om om
 obtain ⟨n,n1,q1,q2,e1⟩:=DD H (DT H) hs2
 have q3:=q2 hs hd
 obtain ⟨su,n2,e2⟩:=MY (fns:=fns) (orc:=orc) (r:=h.next) q1 hs2 hA 166
 obtain ⟨ts,n3,e3,n',kd,su',r1,r2,t0,t2,t3,t4,t5⟩:=PW H (r:=h.next) q1 hs2 (kd:=3) (su:=su) hA
 obtain ⟨hB,cs,⟨n4,e4⟩,ch,hc,hl,hi⟩:=MX H om r2 hs2 t0 t2 t3 t4 t5 zA
 have p7:takeN 7 cs=some cs:=by rw [←hl];exact aW cs
 have nB:=ch.next
 refine ⟨hB,.agg cs,⟨by omega,fun i hi=>(ch.get i om om).trans (gA.get i hi)⟩,Ev.call H.f166 H.o166 ⟨n1+n2+n3+n4,fun m hm=> ?b⟩,hi⟩
 have e1' :=fun h=>e1 h m om
 have e2' :=e2 m om
 have e3' :=e3 m om
 have e4' :=e4 m om
 rw [Sb]
 exact SX (wK @U4 (Eq.symm hAe) e1' e2' e3' e4' @eP.eq_1 @eP.eq_2 @eP.eq_3 @eP.eq_4 @eP.eq_5 hc p7)
end Go.Ly
namespace Go.Ly
open Go Go.Am Go.Fs Go.Gn
variable {fns:Go.Am.F} {orc:Orc}
structure wU (orc:Orc) (ws ss:List (List UInt8)):Prop where
 words:∃g tk,orc 152=some g∧g []=some (.sl tk (ws.map AV.str))
 wl:ws.length<1000
 Ih:∃g,orc 153=some g∧g []=some (.sl .full (ss.map AV.str))
 sl:ss.length<1000
theorem vT {f:FuncId} {g:List AV→Option AV} {v:AV} (ho:orc f=some g) (hg:g []=some v) (h:aD) (m:Nat) (hm:1≤m):eval fns orc m (.call f [] .plain h)= .ok (.call (.ret v) .plain h):=by
 obtain ⟨m,rfl⟩:∃k,m=k+1:=⟨m -1,by omega⟩
 show Bx fns orc (eval fns orc m) f [] .plain h=_
 unfold Bx
 rw [ho]
 show F4 (g []) h .plain=_
 rw [hg]
 rfl
def zF (wb sb ob:Nat):List (AV×AV×Nat):=[(.int .i64 1,.fn 158 [] [.ptr wb 0],0),(.int .i64 2,.fn 166 [] [],1),(.int .i64 3,.fn 167 [] [],2),(.int .i64 4,.fn 169 [] [],3),(.int .i64 5,.fn 171 [] [],4),(.int .i64 0,.fn 173 [] [.ptr sb 0,.ptr ob 0],5)]
structure B6 (h:aD) (mp wb sb ob:Nat) (ws ss:List (List UInt8)):Prop where
 map:h.get mp=some (.map (zF wb sb ob) 6)
 words:∃tk,cont h wb=some [.sl tk (ws.map AV.str)]
 wl:ws.length<1000
 Ih:B5 h sb ss
 opn:cont h ob=some [.fn 154 [] [.ptr sb 0]]
theorem B6.kY {h h' :aD} {mp wb sb ob:Nat} {ws ss:List (List UInt8)} (R:B6 h mp wb sb ob ws ss) (k:∀i,i=mp∨i=wb∨i=sb∨i=ob→h'.get i=h.get i):B6 h' mp wb sb ob ws ss:=
 ⟨(k mp (.inl rfl)).trans R.map,R.words.imp fun tk q=>(aH (k wb (.inr (.inl rfl)))).trans q,R.wl,⟨(aH (k sb (.inr (.inr (.inl rfl))))).trans R.Ih.at_,R.Ih.len⟩,(aH (k ob (.inr (.inr (.inr rfl))))).trans R.opn⟩
theorem Q0 (H:Has fns orc) {ws ss:List (List UInt8)} (X:wU orc ws ss) (h:aD):
  ∃h',aP h h' ∧h'.next=h.next+4∧Ev fns orc (.call 150 [] .plain h) (.call (.ret (.map (h.next+3))) .plain h')∧B6 h' (h.next+3) h.next (h.next+1) (h.next+2) ws ss:=by
 obtain ⟨g1,tk,o1,v1⟩:=X.words
 obtain ⟨g2,o2,v2⟩:=X.Ih
 obtain ⟨hA,hAe⟩:∃x,x=(((((h.push (.cells [.aC])).push (.cells [.aC])).set h.next (.cells [.sl tk (ws.map AV.str)])).set (h.next+1) (.cells [.sl .full (ss.map AV.str)])).push (.cells [.rM])).set (h.next+2) (.cells [.fn 154 [] [.ptr (h.next+1) 0]]):=⟨_,rfl⟩
 have gA:aP h hA:=by rw [hAe];exact gw2
 have nA:hA.next=h.next+3:=by rw [hAe];simp
 have c1:cont hA h.next=some [.sl tk (ws.map AV.str)]:=by rw [hAe];simp (disch:=(first|omega|(simp only [aD.aJ,aD.aL];try omega)|skip)) only [aG,aK,aR,dB,aD.aJ,aD.aL]
 have c2:cont hA (h.next+1)=some [.sl .full (ss.map AV.str)]:=by rw [hAe];simp (disch:=(first|omega|(simp only [aD.aJ,aD.aL];try omega)|skip)) only [aG,aK,aR,dB,aD.aJ,aD.aL]
 have c3:cont hA (h.next+2)=some [.fn 154 [] [.ptr (h.next+1) 0]]:=by rw [hAe];simp (disch:=(first|omega|(simp only [aD.aJ,aD.aL];try omega)|skip)) only [aG,aK,aR,dB,aD.aJ,aD.aL]
 obtain ⟨hP,hPe⟩:∃x,x=hA.push (.map [] 0):=⟨_,rfl⟩
 have nP:hP.next=h.next+4:=by rw [hPe];simp [nA]
 have mP:hP.get (h.next+3)=some (.map [] 0):=by rw [hPe];exact aT _ _ _ om om
 obtain ⟨hB,hBe⟩:∃x,x=(((((hP.set (h.next+3) (.map ((zF h.next (h.next+1) (h.next+2)).take 1) 1)).set (h.next+3) (.map ((zF h.next (h.next+1) (h.next+2)).take 2) 2)).set (h.next+3) (.map ((zF h.next (h.next+1) (h.next+2)).take 3) 3)).set (h.next+3) (.map ((zF h.next (h.next+1) (h.next+2)).take 4) 4)).set (h.next+3) (.map ((zF h.next (h.next+1) (h.next+2)).take 5) 5)).set (h.next+3) (.map (zF h.next (h.next+1) (h.next+2)) 6):=⟨_,rfl⟩
 have nB:hB.next=h.next+4:=by rw [hBe];simp [nP]
 have oB:∀i,i<h.next+3→hB.get i=hA.get i:=by
  intro i hi
  rw [hBe]
  rw [aE _ _ _ _ (by simp;omega) om,aE _ _ _ _ (by simp;omega) om,aE _ _ _ _ (by simp;omega) om,aE _ _ _ _ (by simp;omega) om,aE _ _ _ _ (by simp;omega) om,aE _ _ _ _ om om,hPe,aV _ _ _ om]
 have mB:hB.get (h.next+3)=some (.map (zF h.next (h.next+1) (h.next+2)) 6):=by rw [hBe];exact aQ _ _ _ (by simp;omega)
 refine ⟨hB,⟨by omega,fun i hi=>(oB i om).trans (gA.get i hi)⟩,nB,Ev.call H.f150 H.o150 ⟨1,fun m hm=> ?b⟩,⟨mB,⟨tk,(aH (oB _ om)).trans c1⟩,X.wl,⟨(aH (oB _ om)).trans c2,X.sl⟩,(aH (oB _ om)).trans c3⟩⟩
 have e1:=fun h=>vT (fns:=fns) o1 v1 h m hm
 have e2:=fun h=>vT (fns:=fns) o2 v2 h m hm
 simp only [zF,List.take] at hBe
 exact SX (wK @a150.eq_1 e1 e2 (Eq.symm hAe) nA (Eq.symm hPe) mP @findKey.eq_1 @findKey.eq_2 @pF.eq_1 @pF.eq_2 @pF.eq_3 (Eq.symm hBe))
theorem UJ (H:Has fns orc) (X:HD orc) {rl:UInt8→Bool} (L:Pred fns orc 161 rl) {h:aD} {mp wb sb ob:Nat} {ws ss:List (List UInt8)} (R:B6 h mp wb sb ob ws ss) {s:List UInt8} (hs:0<s.length) (hs2:s.length<10000000) {c:Int} (hc:Pn rl s c) (h6:c≠6):
  ∃i g capt,findKey (.simple .int) (.int .i64 c) (zF wb sb ob) 0= .ok (some (i,.fn g [] capt))∧dX (.fn g [] capt) (.fn g [] capt)=true∧
   ∀hB,aP h hB→∃h' v,aP hB h' ∧Ev fns orc (.call g (.str s::capt) .plain hB) (.call (.ret v) .plain h')∧B8 s.length v:=by
 obtain ⟨q,q1,q2,q5⟩:=hc
 have RB:∀hB,aP h hB→B6 hB mp wb sb ob ws ss:=fun hB g=>R.kY fun i hi=>g.get i (by
  obtain ⟨tk,hw⟩:=R.words
  rcases hi with rfl|rfl|rfl|rfl
  ·exact aD.mN R.map
  ·exact aO hw
  ·exact aO R.Ih.at_
  ·exact aO R.opn)
 rcases q with rfl|rfl|rfl|rfl|rfl|rfl|rfl
 ·refine ⟨5,_,_,rfl,by simp [dX,kQ],fun hB g=> ?_⟩
  exact UC H (RB hB g).Ih (RB hB g).opn
 ·refine ⟨0,_,_,rfl,by simp [dX,kQ],fun hB g=> ?_⟩
  obtain ⟨tk,hw⟩:=(RB hB g).words
  exact Uq H L hs hs2 (q1 rfl hs) hw (.sl _ _) (by have:=R.wl;omega) (vC (.sl _ _))
 ·refine ⟨1,_,_,rfl,by simp [dX,kQ],fun hB g=>PV H hs hs2 (q2 rfl hs) hB⟩
 ·refine ⟨2,_,_,rfl,by simp [dX,kQ],fun hB g=>Uz H hs hB⟩
 ·refine ⟨3,_,_,rfl,by simp [dX,kQ],fun hB g=>Rz H hs hs2 hB⟩
 ·refine ⟨4,_,_,rfl,by simp [dX,kQ],fun hB g=>U5 H X (q5 rfl) hs2 hB⟩
 ·exact absurd rfl h6
end Go.Ly
namespace Go.Ly
open Go Go.Am Go.Fs Go.Gn
variable {fns:Go.Am.F} {orc:Orc}
def J2 (n:Nat) (x:List AV):Prop:=n<10000000∧∃(k:Int) (t:List UInt8) (b a en e:Int) (su:Bool),x=[.agg [.int .i64 k,.str t,.int .i64 b,.int .i64 a,.int .i64 en,.int .i64 e,.bool su]]
def tO:AC:=p149x011100
def yB (e a:Int):List pQ:=[⟨.iface 218 (.agg [.int .i64 e,.int .i64 a]),false⟩]
structure Dv (ws ss:List (List UInt8)) (s:List UInt8) (sx mx nx mp wb sb ob:Nat) (many:Int) (h:aD):Prop where
 s_:cont h sx=some [.str s]
 m_:cont h mx=some [.bool false]
 n_:cont h nx=some [.int .i64 many]
 rd:B6 h mp wb sb ob ws ss
theorem Qo (H:Has fns orc) (X:HD orc) {rl:UInt8→Bool} (L:Pred fns orc 161 rl) {ws ss:List (List UInt8)} {s:List UInt8} (hs2:s.length<10000000) {sx mx nx mp wb sb ob l:Nat} {I:Nat→(Nat→Prop)→aD→Prop} {D:(Nat→Prop)→aD→Prop} (F:FO fns orc l J2 I D)
  {P:Nat→Prop} (hP:∀i,i=sx∨i=mx∨i=nx∨i=mp∨i=wb∨i=sb∨i=ob→P i) (hne:nx≠sx∧nx≠mx∧nx≠mp∧nx≠wb∧nx≠sb∧nx≠ob):
  ∀(k at_ n:Nat) (many:Int) (h:aD),s.length≤at_+k→at_<20000010→n≤at_→n≤s.length→(∀i,P i→i<h.next)→Dv ws ss s sx mx nx mp wb sb ob many h→I n P h→
   ∃h' x ts n',Ev fns orc (.code 149 none (.loop tO) ⟨[(0,.yield l),(1,.ptr sx 0),(2,.ptr mx 0),(3,.ptr nx 0),(5,.map mp),(6,.int .i64 (at_:Int))],[],.plain,h⟩) (.code x ⟨ts,[],.plain,h'⟩)∧h.next≤h'.next∧n' ≤s.length∧
    ((x= .exit 0∧I n' P h')∨(x= .ret∧D P h')∨(∃e a,x= .panic (yB e a)∧I n' P h')):=by
 intro k
 induction k with
 |zero=>
  intro at_ n many h hk hat hn hn2 hlt V hI
  have d:decide ((at_:Int)<(s.length:Int))=false:=dF om
  refine ⟨h,.exit 0, ?ts0,n,Ev.code ⟨0,fun m hm=> ?b0⟩,Nat.le_refl _,hn2,.inl ⟨rfl,hI⟩⟩
  case b0=>
   exact SX (cj4 @tO.eq_1 @V.s_ d @aI)
 |succ k ih=>
  intro at_ n many h hk hat hn hn2 hlt V hI
  by_cases c0:(at_:Int)<(s.length:Int)
  case neg=>
   have d:=dF c0
   refine ⟨h,.exit 0, ?ts1,n,Ev.code ⟨0,fun m hm=> ?b1⟩,Nat.le_refl _,hn2,.inl ⟨rfl,hI⟩⟩
   case b1=>
    exact SX (cj4 @tO.eq_1 @V.s_ d @aI)
  have d0:=dT c0
  have f1:=wV (s:=s) (n:=at_) om
  have hsd:0<(s.drop at_).length:=by simp;omega
  have hsd2:(s.drop at_).length<10000000:=by simp;omega
  obtain ⟨c,n1,hc,e1⟩:=NM H L hsd
  by_cases c6:c=6
  ·subst c6
   obtain ⟨h',x,ts,n',⟨n2,e2⟩,r1,r2,r3⟩:=ih (at_+1) n many h om om om hn2 hlt V hI
   refine ⟨h',x,ts,n',Ev.code ⟨n1+n2,fun m hm=> ?b2⟩,r1,r2,r3⟩
   have e1' :=fun h=>e1 h m om
   have e2' :=e2 m om
   have w:IntKind.wrap .i64 ((at_:Int)+1)=((at_+1:Nat):Int):=wN om om
   simp only [tO] at e2'
   exact SXe (cj7 @tO.eq_1 @V.s_ d0 f1 e1' w @aI) e2'
  have d6:=dF c6
  obtain ⟨iF,g,capt,fk,fe,rd⟩:=UJ H X L V.rd hsd hsd2 hc c6
  have lsx:=aO V.s_
  have lmx:=aO V.m_
  have lnx:=aO V.n_
  have lmp:=aD.mN V.rd.map
  obtain ⟨hQ,hQe⟩:∃x,x=h.push (.cells [.int .i64 0,.str [],.int .i64 0,.int .i64 0,.int .i64 0,.int .i64 0,.bool false]):=⟨_,rfl⟩
  have gQ:aP h hQ:=by rw [hQe];exact gw2
  have nQ:hQ.next=h.next+1:=by rw [hQe];simp
  have gtQ:hQ.get h.next=some (.cells [.int .i64 0,.str [],.int .i64 0,.int .i64 0,.int .i64 0,.int .i64 0,.bool false]):=by rw [hQe];exact aT _ _ _ om om
  obtain ⟨hB,v,gB,⟨n2,e2⟩,kd,tx,nn,aa,en,ee,su,rfl,hen⟩:=rd hQ gQ
  have nB:=gB.next
  have gtB:=(gB.get h.next om).trans gtQ
  have zB:=AY gtB
  have sQ:=(aF gQ lsx).trans V.s_
  have mpQ:=(gQ.get mp lmp).trans V.rd.map
  obtain ⟨E,hE⟩:∃E,E=IntKind.wrap .i64 ((at_:Int)+en):=⟨_,rfl⟩
  obtain ⟨hT,hTe⟩:∃x,x=((hB.set h.next (.cells [.int .i64 kd,.str tx,.int .i64 nn,.int .i64 aa,.int .i64 en,.int .i64 ee,.bool su])).set h.next (.cells [.int .i64 kd,.str tx,.int .i64 nn,.int .i64 (at_:Int),.int .i64 en,.int .i64 ee,.bool su])).set h.next (.cells [.int .i64 kd,.str tx,.int .i64 nn,.int .i64 (at_:Int),.int .i64 E,.int .i64 ee,.bool su]):=⟨_,rfl⟩
  have nT:hT.next=hB.next:=by rw [hTe];simp
  have tT:cont hT h.next=some [.int .i64 kd,.str tx,.int .i64 nn,.int .i64 (at_:Int),.int .i64 E,.int .i64 ee,.bool su]:=by rw [hTe];exact aG (by simp;omega)
  have oT:∀i,i<h.next→hT.get i=h.get i:=fun i hi=>by
   rw [hTe,aE _ _ _ _ (by simp;omega) om,aE _ _ _ _ (by simp;omega) om,aE _ _ _ _ om om,gB.get i om,gQ.get i hi]
  have VT:Dv ws ss s sx mx nx mp wb sb ob many hT:=by
   refine ⟨(aH (oT _ lsx)).trans V.s_,(aH (oT _ lmx)).trans V.m_,(aH (oT _ lnx)).trans V.n_,V.rd.kY fun i hi=>oT i (hlt i (hP i ?_))⟩
   rcases hi with q|q|q|q<;>simp [q]
  have gT:aP h hT:=⟨by omega,oT⟩
  have nI:∀hh:aD,Chg P h hh→I n (FW P h hh) hh:=fun hh ch=>(F.ki n).chg _ _ _ hI ch
  have nI0:∀hh:aD,Chg P h hh→I n P hh:=fun hh ch=>(F.ki n).less _ _ _ (nI hh ch) (fun i q=> .inl q)
  have hce:(c=5)∨¬(c=5):=om
  by_cases c5:c=5
  case pos=>
   have d5:=dT c5
   by_cases ce:ee=0
   case neg=>
    have de:=dF ce
    refine ⟨hT,.panic (yB ee at_), ?tx1,n,Ev.code ⟨n1+n2,fun m hm=> ?bb1⟩,by omega,by omega,.inr (.inr ⟨ee,at_,rfl,nI0 hT (fV gT)⟩)⟩
    case bb1=>
     have e1' :=fun h=>e1 h m om
     have e2' :=e2 m om
     exact SX (dI @tO.eq_1 @V.s_ d0 f1 e1' d6 (Eq.symm hQe) sQ mpQ fk fe e2' gtQ gtB zB @allEq.eq_1 (sC @allEq.eq_2 @allEq.eq_3 (Eq.symm hE) (Eq.symm hTe) tT @VT.s_ @VT.m_ @VT.n_ d5 de @aI))
   have de:=dT ce
   obtain ⟨en1,en2⟩:=hen ce
   simp only [List.length_drop] at en2
   have hE2:E=(((at_:Int)+en).toNat:Int):=by rw [hE,pE om om];omega
   by_cases ck:kd=0
   case pos=>
    have dk:=dT ck
    obtain ⟨hY,hYe⟩:∃x,x=hT:=⟨_,rfl⟩
    have mY:∃z,cont hY nx=some [.int .i64 z]:=⟨many,by rw [hYe];exact VT.n_⟩
    have nY:hY.next=hT.next:=by rw [hYe]
    have oY:∀i,i≠nx→hY.get i=hT.get i:=fun i _=>by rw [hYe]
    obtain ⟨AA,mY⟩:=mY
    have tY:cont hY h.next=some [.int .i64 kd,.str tx,.int .i64 nn,.int .i64 (at_:Int),.int .i64 E,.int .i64 ee,.bool su]:=(aH (oY _ om)).trans tT
    have cY:Chg P h hY:=⟨by omega,fun i hi hp=>(oY i (fun e=>hp (hP i (by simp [e])))).trans (oT i hi)⟩
    have VY:Dv ws ss s sx mx nx mp wb sb ob AA hY:=by
     refine ⟨(aH (oY _ om)).trans VT.s_,(aH (oY _ om)).trans VT.m_,mY,VT.rd.kY fun i hi=>oY i ?_⟩
     rcases hi with q|q|q|q<;>omega
    obtain ⟨hC,r,⟨n3,e3⟩,kC,rT,rD⟩:=F.rnd n [.agg [.int .i64 kd,.str tx,.int .i64 nn,.int .i64 (at_:Int),.int .i64 E,.int .i64 ee,.bool su]] ⟨by omega,_,_,_,_,_,_,_,rfl⟩ (FW P h hY) hY (fun i q=>by
     rcases q with q|q
     ·have:=hlt i q;have:=cY.next;omega
     ·exact q.2) (nI hY cY)
    have nC:=kC.next
    have tC:cont hC h.next=some [.int .i64 kd,.str tx,.int .i64 nn,.int .i64 (at_:Int),.int .i64 E,.int .i64 ee,.bool su]:=(aH (kC.get _ (.inr ⟨Nat.le_refl _,by omega⟩))).trans tY
    have KC:∀i,P i→hC.get i=hY.get i:=fun i q=>kC.get i (.inl q)
    have VC:Dv ws ss s sx mx nx mp wb sb ob AA hC:=by
     refine ⟨(aH (KC _ (hP _ (by simp)))).trans VY.s_,(aH (KC _ (hP _ (by simp)))).trans VY.m_,(aH (KC _ (hP _ (by simp)))).trans VY.n_,VY.rd.kY fun i hi=>KC i (hP i ?_)⟩
     rcases hi with q|q|q|q<;>simp [q]
    cases r with
    |false=>
     refine ⟨hC,.ret, ?tx2,n,Ev.code ⟨n1+n2+n3,fun m hm=> ?bb2⟩,by omega,by omega,.inr (.inl ⟨rfl,(F.kd).less _ _ _ (rD rfl) (fun i q=> .inl q)⟩)⟩
     case bb2=>
      have e1' :=fun h=>e1 h m om
      have e2' :=e2 m om
      have e3' :=e3 m om
      rw [hYe] at e3' tY
      exact SX (dI @tO.eq_1 @V.s_ d0 f1 e1' d6 (Eq.symm hQe) sQ mpQ fk fe e2' gtQ gtB zB @allEq.eq_1 (zZ @allEq.eq_2 @allEq.eq_3 (Eq.symm hE) (Eq.symm hTe) tT @VT.s_ @VT.m_ @VT.n_ d5 de dk tY e3' @aI))
    |true=>
     obtain ⟨h',x,ts,n',⟨n4,e4⟩,r1,r2,r3⟩:=ih ((at_:Int)+en).toNat (n+1) AA hC om om om om (fun i q=>by have:=hlt i q;have:=cY.next;omega) VC ((F.ki (n+1)).less _ _ _ (rT rfl) (fun i q=> .inl q))
     refine ⟨h',x,ts,n',Ev.code ⟨n1+n2+n3+n4,fun m hm=> ?c2⟩,by have:=cY.next;omega,r2,r3⟩
     have e1' :=fun h=>e1 h m om
     have e2' :=e2 m om
     have e3' :=e3 m om
     have e4' :=e4 m om
     simp only [tO] at e4'
     rw [←hE2] at e4'
     rw [hYe] at e3' tY
     exact SXe (dI @tO.eq_1 @V.s_ d0 f1 e1' d6 (Eq.symm hQe) sQ mpQ fk fe e2' gtQ gtB zB @allEq.eq_1 (xJ @allEq.eq_2 @allEq.eq_3 (Eq.symm hE) (Eq.symm hTe) tT @VT.s_ @VT.m_ @VT.n_ d5 de dk tY e3' tC @aI)) e4'
   have dk:=dF ck
   obtain ⟨hY,hYe⟩:∃x,x=hT.set nx (.cells [.int .i64 (IntKind.wrap .i64 (many+1))]):=⟨_,rfl⟩
   have mY:∃z,cont hY nx=some [.int .i64 z]:=⟨_,by rw [hYe];exact aG om⟩
   have nY:hY.next=hT.next:=by rw [hYe];simp
   have oY:∀i,i≠nx→hY.get i=hT.get i:=fun i hi=>by rw [hYe];exact aE _ _ _ _ om hi
   obtain ⟨AA,mY⟩:=mY
   have tY:cont hY h.next=some [.int .i64 kd,.str tx,.int .i64 nn,.int .i64 (at_:Int),.int .i64 E,.int .i64 ee,.bool su]:=(aH (oY _ om)).trans tT
   have cY:Chg P h hY:=⟨by omega,fun i hi hp=>(oY i (fun e=>hp (hP i (by simp [e])))).trans (oT i hi)⟩
   have VY:Dv ws ss s sx mx nx mp wb sb ob AA hY:=by
    refine ⟨(aH (oY _ om)).trans VT.s_,(aH (oY _ om)).trans VT.m_,mY,VT.rd.kY fun i hi=>oY i ?_⟩
    rcases hi with q|q|q|q<;>omega
   obtain ⟨hC,r,⟨n3,e3⟩,kC,rT,rD⟩:=F.rnd n [.agg [.int .i64 kd,.str tx,.int .i64 nn,.int .i64 (at_:Int),.int .i64 E,.int .i64 ee,.bool su]] ⟨by omega,_,_,_,_,_,_,_,rfl⟩ (FW P h hY) hY (fun i q=>by
    rcases q with q|q
    ·have:=hlt i q;have:=cY.next;omega
    ·exact q.2) (nI hY cY)
   have nC:=kC.next
   have tC:cont hC h.next=some [.int .i64 kd,.str tx,.int .i64 nn,.int .i64 (at_:Int),.int .i64 E,.int .i64 ee,.bool su]:=(aH (kC.get _ (.inr ⟨Nat.le_refl _,by omega⟩))).trans tY
   have KC:∀i,P i→hC.get i=hY.get i:=fun i q=>kC.get i (.inl q)
   have VC:Dv ws ss s sx mx nx mp wb sb ob AA hC:=by
    refine ⟨(aH (KC _ (hP _ (by simp)))).trans VY.s_,(aH (KC _ (hP _ (by simp)))).trans VY.m_,(aH (KC _ (hP _ (by simp)))).trans VY.n_,VY.rd.kY fun i hi=>KC i (hP i ?_)⟩
    rcases hi with q|q|q|q<;>simp [q]
   cases r with
   |false=>
    refine ⟨hC,.ret, ?tx3,n,Ev.code ⟨n1+n2+n3,fun m hm=> ?bb3⟩,by omega,by omega,.inr (.inl ⟨rfl,(F.kd).less _ _ _ (rD rfl) (fun i q=> .inl q)⟩)⟩
    case bb3=>
     have e1' :=fun h=>e1 h m om
     have e2' :=e2 m om
     have e3' :=e3 m om
     exact SX (dI @tO.eq_1 @V.s_ d0 f1 e1' d6 (Eq.symm hQe) sQ mpQ fk fe e2' gtQ gtB zB @allEq.eq_1 (xJ @allEq.eq_2 @allEq.eq_3 (Eq.symm hE) (Eq.symm hTe) tT @VT.s_ @VT.m_ @VT.n_ d5 de dk (Eq.symm hYe) tY e3' @aI))
   |true=>
    obtain ⟨h',x,ts,n',⟨n4,e4⟩,r1,r2,r3⟩:=ih ((at_:Int)+en).toNat (n+1) AA hC om om om om (fun i q=>by have:=hlt i q;have:=cY.next;omega) VC ((F.ki (n+1)).less _ _ _ (rT rfl) (fun i q=> .inl q))
    refine ⟨h',x,ts,n',Ev.code ⟨n1+n2+n3+n4,fun m hm=> ?c3⟩,by have:=cY.next;omega,r2,r3⟩
    have e1' :=fun h=>e1 h m om
    have e2' :=e2 m om
    have e3' :=e3 m om
    have e4' :=e4 m om
    simp only [tO] at e4'
    rw [←hE2] at e4'
    exact SXe (dI @tO.eq_1 @V.s_ d0 f1 e1' d6 (Eq.symm hQe) sQ mpQ fk fe e2' gtQ gtB zB @allEq.eq_1 (Bd @allEq.eq_2 @allEq.eq_3 (Eq.symm hE) (Eq.symm hTe) tT @VT.s_ @VT.m_ @VT.n_ d5 de dk (Eq.symm hYe) tY e3' tC @aI)) e4'
  have d5:=dF c5
  by_cases cm:131072≤many
  case pos=>
   have dm:=dT cm
   refine ⟨hT,.panic (yB 2 at_), ?tx4,n,Ev.code ⟨n1+n2,fun m hm=> ?bb4⟩,by omega,by omega,.inr (.inr ⟨2,at_,rfl,nI0 hT (fV gT)⟩)⟩
   case bb4=>
    have e1' :=fun h=>e1 h m om
    have e2' :=e2 m om
    exact SX (dI @tO.eq_1 @V.s_ d0 f1 e1' d6 (Eq.symm hQe) sQ mpQ fk fe e2' gtQ gtB zB @allEq.eq_1 (sC @allEq.eq_2 @allEq.eq_3 (Eq.symm hE) (Eq.symm hTe) tT @VT.s_ @VT.m_ @VT.n_ d5 dm @aI))
  have dm:=dF cm
  by_cases ce:ee=0
  case neg=>
   have de:=dF ce
   refine ⟨hT,.panic (yB ee at_), ?tx5,n,Ev.code ⟨n1+n2,fun m hm=> ?bb5⟩,by omega,by omega,.inr (.inr ⟨ee,at_,rfl,nI0 hT (fV gT)⟩)⟩
   case bb5=>
    have e1' :=fun h=>e1 h m om
    have e2' :=e2 m om
    exact SX (dI @tO.eq_1 @V.s_ d0 f1 e1' d6 (Eq.symm hQe) sQ mpQ fk fe e2' gtQ gtB zB @allEq.eq_1 (qC @allEq.eq_2 @allEq.eq_3 (Eq.symm hE) (Eq.symm hTe) tT @VT.s_ @VT.m_ @VT.n_ d5 dm de @aI))
  have de:=dT ce
  obtain ⟨en1,en2⟩:=hen ce
  simp only [List.length_drop] at en2
  have hE2:E=(((at_:Int)+en).toNat:Int):=by rw [hE,pE om om];omega
  by_cases ck:kd=0
  case pos=>
   have dk:=dT ck
   obtain ⟨hY,hYe⟩:∃x,x=hT:=⟨_,rfl⟩
   have mY:∃z,cont hY nx=some [.int .i64 z]:=⟨many,by rw [hYe];exact VT.n_⟩
   have nY:hY.next=hT.next:=by rw [hYe]
   have oY:∀i,i≠nx→hY.get i=hT.get i:=fun i _=>by rw [hYe]
   obtain ⟨AA,mY⟩:=mY
   have tY:cont hY h.next=some [.int .i64 kd,.str tx,.int .i64 nn,.int .i64 (at_:Int),.int .i64 E,.int .i64 ee,.bool su]:=(aH (oY _ om)).trans tT
   have cY:Chg P h hY:=⟨by omega,fun i hi hp=>(oY i (fun e=>hp (hP i (by simp [e])))).trans (oT i hi)⟩
   have VY:Dv ws ss s sx mx nx mp wb sb ob AA hY:=by
    refine ⟨(aH (oY _ om)).trans VT.s_,(aH (oY _ om)).trans VT.m_,mY,VT.rd.kY fun i hi=>oY i ?_⟩
    rcases hi with q|q|q|q<;>omega
   obtain ⟨hC,r,⟨n3,e3⟩,kC,rT,rD⟩:=F.rnd n [.agg [.int .i64 kd,.str tx,.int .i64 nn,.int .i64 (at_:Int),.int .i64 E,.int .i64 ee,.bool su]] ⟨by omega,_,_,_,_,_,_,_,rfl⟩ (FW P h hY) hY (fun i q=>by
    rcases q with q|q
    ·have:=hlt i q;have:=cY.next;omega
    ·exact q.2) (nI hY cY)
   have nC:=kC.next
   have tC:cont hC h.next=some [.int .i64 kd,.str tx,.int .i64 nn,.int .i64 (at_:Int),.int .i64 E,.int .i64 ee,.bool su]:=(aH (kC.get _ (.inr ⟨Nat.le_refl _,by omega⟩))).trans tY
   have KC:∀i,P i→hC.get i=hY.get i:=fun i q=>kC.get i (.inl q)
   have VC:Dv ws ss s sx mx nx mp wb sb ob AA hC:=by
    refine ⟨(aH (KC _ (hP _ (by simp)))).trans VY.s_,(aH (KC _ (hP _ (by simp)))).trans VY.m_,(aH (KC _ (hP _ (by simp)))).trans VY.n_,VY.rd.kY fun i hi=>KC i (hP i ?_)⟩
    rcases hi with q|q|q|q<;>simp [q]
   cases r with
   |false=>
    refine ⟨hC,.ret, ?tx6,n,Ev.code ⟨n1+n2+n3,fun m hm=> ?bb6⟩,by omega,by omega,.inr (.inl ⟨rfl,(F.kd).less _ _ _ (rD rfl) (fun i q=> .inl q)⟩)⟩
    case bb6=>
     have e1' :=fun h=>e1 h m om
     have e2' :=e2 m om
     have e3' :=e3 m om
     rw [hYe] at e3' tY
     exact SX (dI @tO.eq_1 @V.s_ d0 f1 e1' d6 (Eq.symm hQe) sQ mpQ fk fe e2' gtQ gtB zB @allEq.eq_1 (xJ @allEq.eq_2 @allEq.eq_3 (Eq.symm hE) (Eq.symm hTe) tT @VT.s_ @VT.m_ @VT.n_ d5 dm de dk tY e3' @aI))
   |true=>
    obtain ⟨h',x,ts,n',⟨n4,e4⟩,r1,r2,r3⟩:=ih ((at_:Int)+en).toNat (n+1) AA hC om om om om (fun i q=>by have:=hlt i q;have:=cY.next;omega) VC ((F.ki (n+1)).less _ _ _ (rT rfl) (fun i q=> .inl q))
    refine ⟨h',x,ts,n',Ev.code ⟨n1+n2+n3+n4,fun m hm=> ?c6⟩,by have:=cY.next;omega,r2,r3⟩
    have e1' :=fun h=>e1 h m om
    have e2' :=e2 m om
    have e3' :=e3 m om
    have e4' :=e4 m om
    simp only [tO] at e4'
    rw [←hE2] at e4'
    rw [hYe] at e3' tY
    exact SXe (dI @tO.eq_1 @V.s_ d0 f1 e1' d6 (Eq.symm hQe) sQ mpQ fk fe e2' gtQ gtB zB @allEq.eq_1 (Bd @allEq.eq_2 @allEq.eq_3 (Eq.symm hE) (Eq.symm hTe) tT @VT.s_ @VT.m_ @VT.n_ d5 dm de dk tY e3' tC @aI)) e4'
  have dk:=dF ck
  obtain ⟨hY,hYe⟩:∃x,x=hT.set nx (.cells [.int .i64 (IntKind.wrap .i64 (many+1))]):=⟨_,rfl⟩
  have mY:∃z,cont hY nx=some [.int .i64 z]:=⟨_,by rw [hYe];exact aG om⟩
  have nY:hY.next=hT.next:=by rw [hYe];simp
  have oY:∀i,i≠nx→hY.get i=hT.get i:=fun i hi=>by rw [hYe];exact aE _ _ _ _ om hi
  obtain ⟨AA,mY⟩:=mY
  have tY:cont hY h.next=some [.int .i64 kd,.str tx,.int .i64 nn,.int .i64 (at_:Int),.int .i64 E,.int .i64 ee,.bool su]:=(aH (oY _ om)).trans tT
  have cY:Chg P h hY:=⟨by omega,fun i hi hp=>(oY i (fun e=>hp (hP i (by simp [e])))).trans (oT i hi)⟩
  have VY:Dv ws ss s sx mx nx mp wb sb ob AA hY:=by
   refine ⟨(aH (oY _ om)).trans VT.s_,(aH (oY _ om)).trans VT.m_,mY,VT.rd.kY fun i hi=>oY i ?_⟩
   rcases hi with q|q|q|q<;>omega
  obtain ⟨hC,r,⟨n3,e3⟩,kC,rT,rD⟩:=F.rnd n [.agg [.int .i64 kd,.str tx,.int .i64 nn,.int .i64 (at_:Int),.int .i64 E,.int .i64 ee,.bool su]] ⟨by omega,_,_,_,_,_,_,_,rfl⟩ (FW P h hY) hY (fun i q=>by
   rcases q with q|q
   ·have:=hlt i q;have:=cY.next;omega
   ·exact q.2) (nI hY cY)
  have nC:=kC.next
  have tC:cont hC h.next=some [.int .i64 kd,.str tx,.int .i64 nn,.int .i64 (at_:Int),.int .i64 E,.int .i64 ee,.bool su]:=(aH (kC.get _ (.inr ⟨Nat.le_refl _,by omega⟩))).trans tY
  have KC:∀i,P i→hC.get i=hY.get i:=fun i q=>kC.get i (.inl q)
  have VC:Dv ws ss s sx mx nx mp wb sb ob AA hC:=by
   refine ⟨(aH (KC _ (hP _ (by simp)))).trans VY.s_,(aH (KC _ (hP _ (by simp)))).trans VY.m_,(aH (KC _ (hP _ (by simp)))).trans VY.n_,VY.rd.kY fun i hi=>KC i (hP i ?_)⟩
   rcases hi with q|q|q|q<;>simp [q]
  cases r with
  |false=>
   refine ⟨hC,.ret, ?tx7,n,Ev.code ⟨n1+n2+n3,fun m hm=> ?bb7⟩,by omega,by omega,.inr (.inl ⟨rfl,(F.kd).less _ _ _ (rD rfl) (fun i q=> .inl q)⟩)⟩
   case bb7=>
    have e1' :=fun h=>e1 h m om
    have e2' :=e2 m om
    have e3' :=e3 m om
    exact SX (dI @tO.eq_1 @V.s_ d0 f1 e1' d6 (Eq.symm hQe) sQ mpQ fk fe e2' gtQ gtB zB @allEq.eq_1 (Bd @allEq.eq_2 @allEq.eq_3 (Eq.symm hE) (Eq.symm hTe) tT @VT.s_ @VT.m_ @VT.n_ d5 dm de dk (Eq.symm hYe) tY e3' @aI))
  |true=>
   obtain ⟨h',x,ts,n',⟨n4,e4⟩,r1,r2,r3⟩:=ih ((at_:Int)+en).toNat (n+1) AA hC om om om om (fun i q=>by have:=hlt i q;have:=cY.next;omega) VC ((F.ki (n+1)).less _ _ _ (rT rfl) (fun i q=> .inl q))
   refine ⟨h',x,ts,n',Ev.code ⟨n1+n2+n3+n4,fun m hm=> ?c7⟩,by have:=cY.next;omega,r2,r3⟩
   have e1' :=fun h=>e1 h m om
   have e2' :=e2 m om
   have e3' :=e3 m om
   have e4' :=e4 m om
   simp only [tO] at e4'
   rw [←hE2] at e4'
   exact SXe (dI @tO.eq_1 @V.s_ d0 f1 e1' d6 (Eq.symm hQe) sQ mpQ fk fe e2' gtQ gtB zB @allEq.eq_1 (dI @allEq.eq_2 @allEq.eq_3 (Eq.symm hE) (Eq.symm hTe) tT @VT.s_ @VT.m_ @VT.n_ d5 dm de dk (Eq.symm hYe) tY e3' tC @aI)) e4'
end Go.Ly
namespace Go.Ly
open Go Go.Am Go.Fs Go.Gn
variable {fns:Go.Am.F} {orc:Orc}
theorem Qn (H:Has fns orc) (X:HD orc) {ws ss:List (List UInt8)} (W:wU orc ws ss) {s:List UInt8} (hs2:s.length<10000000) {sx mx nx l:Nat} {I:Nat→(Nat→Prop)→aD→Prop} {D:(Nat→Prop)→aD→Prop} (F:FO fns orc l J2 I D)
  {P:Nat→Prop} (hP:P sx∧P mx∧P nx) (hne:nx≠sx∧nx≠mx) {many:Int} {h:aD} (hlt:∀i,P i→i<h.next) (c1:cont h sx=some [.str s]) (c2:cont h mx=some [.bool false]) (c3:cont h nx=some [.int .i64 many]) (hI:I 0 P h):
  ∃h' x n',Ev fns orc (.call 149 [.yield l,.ptr sx 0,.ptr mx 0,.ptr nx 0] .plain h) (.call x .plain h')∧h.next≤h'.next∧n' ≤s.length∧((x= .ret jC∧(I n' P h' ∨D P h'))∨(∃e a,x= .panic (yB e a)∧I n' P h')):=by
 obtain ⟨rl,L⟩:=FB H
 obtain ⟨hA,gA,nA,⟨n1,e1⟩,R⟩:=Q0 H W h
 have cA:Chg P h hA:=fV gA
 have l1:=aO c1
 have l2:=aO c2
 have l3:=aO c3
 obtain ⟨h',x,ts,n',⟨n2,e2⟩,r1,r2,r3⟩:=Qo H X L hs2 F (P:=FW P h hA) (sx:=sx) (mx:=mx) (nx:=nx) (mp:=h.next+3) (wb:=h.next) (sb:=h.next+1) (ob:=h.next+2) (fun i q=>by
   rcases q with rfl|rfl|rfl|rfl|rfl|rfl|rfl
   ·exact .inl hP.1
   ·exact .inl hP.2.1
   ·exact .inl hP.2.2
   ·exact .inr ⟨by omega,by omega⟩
   ·exact .inr ⟨by omega,by omega⟩
   ·exact .inr ⟨by omega,by omega⟩
   ·exact .inr ⟨by omega,by omega⟩) om s.length 0 0 many hA om om om om (fun i q=>by
   rcases q with q|q
   ·have:=hlt i q;omega
   ·exact q.2) ⟨(aF gA l1).trans c1,(aF gA l2).trans c2,(aF gA l3).trans c3,R⟩ ((F.ki 0).chg _ _ _ hI cA)
 have less:∀n hh,I n (FW P h hA) hh→I n P hh:=fun n hh q=>(F.ki n).less _ _ _ q (fun i w=> .inl w)
 have e3:∀m,n2≤m→cG (eval fns orc m) 149 none (.loop tO) ⟨[(0,.yield l),(1,.ptr sx 0),(2,.ptr mx 0),(3,.ptr nx 0),(5,.map (h.next+3)),(6,.int .i64 0)],[],.plain,hA⟩= .ok (.code x ⟨ts,[],.plain,h'⟩):=fun m hm=>e2 (m+1) om
 simp only [tO] at e3
 have key:∀y,(x= .exit 0→y= .ret jC)→(x= .ret→y= .ret jC)→(∀ch,x= .panic ch→y= .panic ch)→(x= .exit 0∨x= .ret∨∃ch,x= .panic ch)→Ev fns orc (.call 149 [.yield l,.ptr sx 0,.ptr mx 0,.ptr nx 0] .plain h) (.call y .plain h'):=by
  intro y y1 y2 y3 hx
  refine Ev.call H.f149 H.o149 ⟨n1+n2,fun m hm=> ?b⟩
  have e1' :=e1 m om
  have e3' :=e3 m om
  rcases hx with rfl|rfl|⟨ch,rfl⟩
  ·cases y1 rfl
   exact SX (cj3 @a149.eq_1 e1' e3')
  ·cases y2 rfl
   exact SX (cj3 @a149.eq_1 e1' e3')
  ·cases y3 ch rfl
   exact SX (cj3 @a149.eq_1 e1' e3')
 rcases r3 with ⟨rfl,q⟩|⟨rfl,q⟩|⟨e,a,rfl,q⟩
 ·exact ⟨h',.ret jC,n',key _ (fun _=>rfl) (fun w=>by cases w) (fun ch w=>by cases w) (.inl rfl),by omega,r2,.inl ⟨rfl,.inl (less _ _ q)⟩⟩
 ·exact ⟨h',.ret jC,n',key _ (fun w=>by cases w) (fun _=>rfl) (fun ch w=>by cases w) (.inr (.inl rfl)),by omega,r2,.inl ⟨rfl,.inr (F.kd.less _ _ _ q (fun i w=> .inl w))⟩⟩
 ·exact ⟨h',.panic (yB e a),n',key _ (fun w=>by cases w) (fun w=>by cases w) (fun ch w=>by cases w;rfl) (.inr (.inr ⟨_,rfl⟩)),by omega,r2,.inr ⟨e,a,rfl,less _ _ q⟩⟩
theorem Rb (H:Has fns orc) (s:List UInt8) (h:aD):∃h',aP h h' ∧
  ((Ev fns orc (.call 147 [.str s] .plain h) (.call (.ret (.fn 149 [] [.ptr h.next 0,.ptr (h.next+2) 0,.ptr (h.next+1) 0])) .plain h')∧h'.next=h.next+3∧cont h' h.next=some [.str s]∧cont h' (h.next+2)=some [.bool false]∧cont h' (h.next+1)=some [.int .i64 0]∧s.length≤1048576)∨
   (Ev fns orc (.call 147 [.str s] .plain h) (.call (.panic (yB 2 0)) .plain h'))):=by
 by_cases c:1048576<(s.length:Int)
 ·have d:=dT c
  refine ⟨h,.refl _,.inr (Ev.call H.f147 H.o147 ⟨0,fun m hm=> ?b1⟩)⟩
  exact SX (cj2 @a147.eq_1 d)
 ·have d:=dF c
  have e1:∀(h:aD) (m:Nat),2≤m→eval fns orc m (.call 148 [.str s,.int .i64 0,.bool false] .plain h)= .ok (.call (.ret (.fn 149 [] [.ptr h.next 0,.ptr (h.next+2) 0,.ptr (h.next+1) 0])) .plain (((h.push (.cells [.str s])).push (.cells [.int .i64 0])).push (.cells [.bool false]))):=fun h m hm=>
   fW (n:=0) H.f148 H.o148 (fun m _=>by
    exact SX @a148.eq_1) m hm
  refine ⟨((h.push (.cells [.str s])).push (.cells [.int .i64 0])).push (.cells [.bool false]),by exact gw2,.inl ⟨Ev.call H.f147 H.o147 ⟨2,fun m hm=> ?b2⟩,by simp, ?_, ?_, ?_,by omega⟩⟩
  case b2=>
   have e1' :=fun h=>e1 h m hm
   exact SX (cj3 @a147.eq_1 d e1')
  all_goals exact ctp
end Go.Ly
namespace Go.Ly
open Go Go.Am Go.Fs Go.Gn
variable {fns:Go.Am.F} {orc:Orc}
theorem NW (H:Has fns orc) (e a:Nat) (h:aD):Ev fns orc (.call 146 [.ptr e 0,.ptr a 0] .ret h) (.call (.ret jC) .ret h):=by
 refine Ev.call H.f146 H.o146 ⟨0,fun m hm=> ?b⟩
 exact SX (cj2 @a146.eq_1 @Bj.eq_def)
theorem NY (H:Has fns orc) {eb ab:Nat} (hne:eb≠ab) {x y e a:Int} {h:aD} (he:cont h eb=some [.int .i64 x]) (ha:cont h ab=some [.int .i64 y]):
  ∃h',Ev fns orc (.call 146 [.ptr eb 0,.ptr ab 0] (.pan (yB e a)) h) (.call (.ret jC) (.pan [⟨.iface 218 (.agg [.int .i64 e,.int .i64 a]),true⟩]) h')∧Chg (fun i=>i=eb∨i=ab) h h' ∧cont h' eb=some [.int .i64 e]∧cont h' ab=some [.int .i64 a]:=by
 have le:=aO he
 have la:=aO ha
 refine ⟨(((h.push (.cells [.int .i64 0,.int .i64 0])).set h.next (.cells [.int .i64 e,.int .i64 a])).set eb (.cells [.int .i64 e])).set ab (.cells [.int .i64 a]),Ev.call H.f146 H.o146 ⟨0,fun m hm=> ?b⟩, ?c, ?d, ?f⟩
 case b=>exact SX (cj6 @a146.eq_1 @Bj.eq_def @yB.eq_1 @Nat.beq_refl he ha)
 case c=>
  refine rX (rX (sR (Chg.refl _ _) ?_) (by simp;omega) (.inl (.inl rfl)) _) (by simp;omega) (.inl (.inr rfl)) _
  exact gw2
 case d=>rw [aK (by simp;omega) hne];exact aG (by simp;omega)
 case f=>exact aG (by simp;omega)
theorem U8 (H:Has fns orc) {eb lb:Nat} {e:Int} {lv:AV} {h:aD} (he:cont h eb=some [.int .i64 e]) (hl:cont h lb=some [lv]):
  ∃h',Ev fns orc (.call 145 [.ptr eb 0,.ptr lb 0] .ret h) (.call (.ret jC) .ret h')∧Chg (fun i=>i=lb) h h' ∧(cont h' lb=some [lv]∨cont h' lb=some [.aC]):=by
 have le:=aO he
 have ll:=aO hl
 by_cases c:e=0
 ·have d:=dT c
  refine ⟨h,Ev.call H.f145 H.o145 ⟨0,fun m hm=> ?b1⟩,.refl _ _,.inl hl⟩
  exact SX (cj3 @a145.eq_1 he d)
 ·have d:=dF c
  refine ⟨h.set lb (.cells [.aC]),Ev.call H.f145 H.o145 ⟨0,fun m hm=> ?b2⟩,rX (P:=fun i=>i=lb) (.refl _ _) ll (.inl rfl) _,.inr (aG ll)⟩
  exact SX (cj4 @a145.eq_1 he hl d)
def Q4 (xs:List AV):Prop:=∀x∈xs,∃(k:Int) (t:List UInt8) (n a en:Int),x= .agg [.int .i64 k,.str t,.int .i64 n,.int .i64 a,.int .i64 en]
theorem Q4.wide {xs:List AV} (h:Q4 xs):Ab 5 xs:=fun x hx=>by obtain ⟨k,t,n,a,en,rfl⟩:=h x hx;rfl
def zP:AC:=p144x1110100
def tZ:AC:=p144x1110101
def VI (lb:Nat) (n:Nat) (Fp:Nat→Prop) (hh:aD):Prop:=∃lv xs,cont hh lb=some [lv]∧Acc hh lv xs∧(∀t,jK lv=some t→Fp t)∧xs.length≤n∧Q4 xs
theorem C9 {h h' :aD} {l:AV} {xs:List AV} (a:Acc h l xs) (k:∀t,jK l=some t→h'.get t=h.get t):Acc h' l xs:=by
 cases a with
 |nil=>exact .nil
 |opn t xs ht hp=>exact .opn t xs ((k t rfl).trans ht) hp
theorem Gf {h:aD} {l:AV} {xs:List AV} (a:Acc h l xs) {t:Nat} (e:jK l=some t):t<h.next:=by
 cases a with
 |nil=>cases e
 |opn t xs ht hp=>cases e;exact aD.mN ht
theorem By {h:aD} {l:AV} {xs:List AV} (a:Acc h l xs):l.bX=true∧l.cells=[l]:=by cases a<;>exact ⟨rfl,rfl⟩
theorem Qe {h:aD} {lb:Nat} {ts:fN} {P:Nat→Prop} (hlb:lb<h.next∧¬P lb) (hP:∀i,P i→i<h.next) (t2:cH ts 2= .ptr lb 0) (t3:∃e,cH ts 3= .ptr e 0) (t4:∃a,cH ts 4= .ptr a 0):
  EN fns orc h ⟨.ready,none,144,ts,[9],zP,tZ,h.next⟩ P (fun i=>i=lb) J2 (VI lb) (fun _ _=>False):=by
 obtain ⟨eb,t3⟩:=t3
 obtain ⟨ab,t4⟩:=t4
 rintro n x ⟨hn,k,t,b,a,en,e,su,rfl⟩ hh Fp o hF ⟨lv,xs,c1,ac,tk,hl,tks⟩
 have ho:=o.le
 obtain ⟨hY,hYe⟩:∃x,x=(hh.push (.cells [.int .i64 0,.str [],.int .i64 0,.int .i64 0,.int .i64 0,.int .i64 0,.bool false])).set hh.next (.cells [.int .i64 k,.str t,.int .i64 b,.int .i64 a,.int .i64 en,.int .i64 e,.bool su]):=⟨_,rfl⟩
 have gY:aP hh hY:=by rw [hYe];exact gw2
 have nY:hY.next=hh.next+1:=by rw [hYe];simp
 have cY:cont hY hh.next=some [.int .i64 k,.str t,.int .i64 b,.int .i64 a,.int .i64 en,.int .i64 e,.bool su]:=by rw [hYe];exact aG (by simp)
 have lY:hY.get (h.next+1)=some (.loop ⟨.ready,none,144,ts,[9],zP,tZ,h.next⟩):=(gY.get _ om).trans o.loop
 obtain ⟨hZ,hZe⟩:∃x,x=hY.set (h.next+1) (.loop ⟨.busy,none,144,ts,[9],zP,tZ,h.next⟩):=⟨_,rfl⟩
 have nZ:hZ.next=hh.next+1:=by rw [hZe];simp [nY]
 have zY:∀i,i≠h.next+1→hZ.get i=hY.get i:=fun i hi=>by rw [hZe];exact aE _ _ _ _ om hi
 have zH:∀i,i<hh.next→i≠h.next+1→hZ.get i=hh.get i:=fun i h1 h2=>(zY i h2).trans (gY.get i h1)
 have zL:hZ.get (h.next+1)=some (.loop ⟨.busy,none,144,ts,[9],zP,tZ,h.next⟩):=by rw [hZe];exact aQ _ _ _ om
 have cZ:cont hZ hh.next=some [.int .i64 k,.str t,.int .i64 b,.int .i64 a,.int .i64 en,.int .i64 e,.bool su]:=(aH (zY _ om)).trans cY
 have lo1:jG hY (h.next+1)= .ok ⟨.ready,none,144,ts,[9],zP,tZ,h.next⟩:=by simp only [jG,lY]
 have lbZ:cont hZ lb=some [lv]:=(aH (zH lb om om)).trans c1
 have lbY:cont hY lb=some [lv]:=(aF gY om).trans c1
 have acZ:Acc hZ lv xs:=by
  cases ac with
  |nil=>exact .nil
  |opn t xs ht hp=>
   have hfp:=hF t (tk t rfl)
   exact .opn t xs ((zH t hfp.2 om).trans ht) hp
 by_cases ck:k=0
 ·have dk:=dT ck
  have lo2:jG hZ (h.next+1)= .ok ⟨.busy,none,144,ts,[9],zP,tZ,h.next⟩:=by simp only [jG,zL]
  refine ⟨true,hZ.set (h.next+1) (.loop ⟨.ready,none,144,ts,[9],zP,tZ,h.next⟩),Fp,Ev.round o.loop rfl ⟨0,fun m hm=> ?b1⟩,by simp;omega,fun i h1 h2 h3 h4=>(aE _ _ _ _ om h4).trans (zH i h1 h4),fun i q=>⟨by have:=(hF i q).2;simp;omega,.inl q⟩,fun _=>⟨?t1,aQ _ _ _ om⟩,fun q=>by cases q⟩
  case b1=>
   simp only [zP,tZ] at lo1 hZe lo2
   exact SX (dI @uI.eq_1 @iT.eq_1 @iT.eq_2 @zP.eq_1 @tZ.eq_1 t2 t3 t4 (Eq.symm hYe) lo1 (Eq.symm hZe) cZ cY dk lo2 @aN.eq_1 (cj6 @aN.eq_2 @aN.eq_3 @aN.eq_4 @aN.eq_5 @oV.eq_1 @endRound.eq_1))
  case t1=>
   refine ⟨lv,xs,(aK om om).trans lbZ, ?_,tk,by omega,tks⟩
   cases acZ with
   |nil=>exact .nil
   |opn t xs ht hp=>
    have hfp:=hF t (tk t rfl)
    exact .opn t xs ((aE _ _ _ _ om om).trans ht) hp
 ·have dk:=dF ck
  obtain ⟨l2,h2,ap,a2,g2,tk2⟩:=sG acZ (n:=5) (v:= .agg [.int .i64 k,.str t,.int .i64 b,.int .i64 a,.int .i64 en]) om tks.wide rfl om
  have n2:=g2.next
  have ntk:∀i,i<hh.next→¬Fp i→jK lv≠some i:=fun i _ hf e=>hf (tk i e)
  have nl:jK lv≠some (h.next+1):=fun e=>by have:=hF _ (tk _ e);omega
  have nb:jK lv≠some lb:=fun e=>by have:=hF _ (tk _ e);omega
  have l2c:=By a2
  have lb2:cont h2 lb=some [lv]:=(aH (g2.get lb om nb)).trans lbZ
  obtain ⟨hW,hWe⟩:∃x,x=h2.set lb (.cells [l2]):=⟨_,rfl⟩
  have nW:hW.next=h2.next:=by rw [hWe];simp
  have wL:hW.get (h.next+1)=some (.loop ⟨.busy,none,144,ts,[9],zP,tZ,h.next⟩):=by rw [hWe,aE _ _ _ _ om om,g2.get _ om nl];exact zL
  have lo2:jG hW (h.next+1)= .ok ⟨.busy,none,144,ts,[9],zP,tZ,h.next⟩:=by simp only [jG,wL]
  refine ⟨true,hW.set (h.next+1) (.loop ⟨.ready,none,144,ts,[9],zP,tZ,h.next⟩),fun i=>jK l2=some i,Ev.round o.loop rfl ⟨0,fun m hm=> ?b2⟩,by simp;omega,fun i h1 hf h3 h4=> ?o2,fun i q=>⟨?f2, ?f3⟩,fun _=>⟨?t2,aQ _ _ _ om⟩,fun q=>by cases q⟩
  case b2=>
   simp only [zP,tZ] at lo1 hZe lo2
   exact SX (dI @uI.eq_1 @iT.eq_1 @iT.eq_2 @zP.eq_1 @tZ.eq_1 t2 t3 t4 (Eq.symm hYe) lo1 (Eq.symm hZe) cZ cY lbZ lbY dk (wK ap lb2 l2c.1 l2c.2 (Eq.symm hWe) lo2 @aN.eq_1 @aN.eq_2 @aN.eq_3 @aN.eq_4 @aN.eq_5 @oV.eq_1 @endRound.eq_1))
  case o2=>
   rw [aE _ _ _ _ om h4,hWe,aE _ _ _ _ om h3,g2.get i om (ntk i h1 hf)]
   exact zH i h1 h4
  case f2=>
   have:=Gf a2 q
   simp
   omega
  case f3=>
   rcases tk2 i q with w|w
   ·exact .inl (tk i w)
   ·exact .inr om
  case t2=>
   refine ⟨l2,xs++[.agg [.int .i64 k,.str t,.int .i64 b,.int .i64 a,.int .i64 en]],(aK om om).trans (by rw [hWe];exact aG om), ?_,fun t q=>q,by simp;omega,fun x hx=> ?_⟩
   ·refine C9 a2 fun t' w=> ?_
    have ht' :t' ≠h.next+1∧t' ≠lb:=by
     rcases tk2 t' w with w|w
     ·have:=hF _ (tk _ w);omega
     ·omega
    rw [aE _ _ _ _ om ht'.1,hWe,aE _ _ _ _ om ht'.2]
   ·rcases List.mem_append.1 hx with q|q
    ·exact tks x q
    ·rw [List.mem_singleton.1 q];exact ⟨_,_,_,_,_,rfl⟩
end Go.Ly
namespace Go.Ly
open Go Go.Am Go.Fs Go.Gn
variable {fns:Go.Am.F} {orc:Orc}
theorem Nh (H:Has fns orc) {lb eb ab:Nat} (hne:lb≠eb∧lb≠ab∧eb≠ab) {lv:AV} {e a:Int} {h:aD} (cl:cont h lb=some [lv]) (ce:cont h eb=some [.int .i64 e]) (ca:cont h ab=some [.int .i64 a]) {ts:fN} (t2:cH ts 2= .ptr lb 0) (t3:cH ts 3= .ptr eb 0) (t4:cH ts 4= .ptr ab 0)
  {mode:Option (List pQ)} (hm:mode=none∨∃e' a',mode=some (yB e' a')):
  ∃h' lv' e' a',Ev fns orc (.unwind 144 mode ⟨ts,[.call 146 [.ptr eb 0,.ptr ab 0],.call 145 [.ptr eb 0,.ptr lb 0]],.plain,h⟩) (.call (.ret (.tup [lv',.int .i64 e',.int .i64 a'])) .plain h')∧Chg (fun i=>i=lb∨i=eb∨i=ab) h h' ∧(lv' =lv∨lv' = .aC):=by
 have fin:∀{h1:aD} {e1 a1:Int},Chg (fun i=>i=lb∨i=eb∨i=ab) h h1→cont h1 lb=some [lv]→cont h1 eb=some [.int .i64 e1]→cont h1 ab=some [.int .i64 a1]→
   ∃h' lv' e' a',Ev fns orc (.unwind 144 none ⟨ts,[.call 145 [.ptr eb 0,.ptr lb 0]],.plain,h1⟩) (.call (.ret (.tup [lv',.int .i64 e',.int .i64 a'])) .plain h')∧Chg (fun i=>i=lb∨i=eb∨i=ab) h h' ∧(lv' =lv∨lv' = .aC):=by
  intro h1 e1 a1 ch c1 c2 c3
  obtain ⟨h2,ev2,ch2,q⟩:=U8 H c2 c1
  have d2:=(aH (ch2.get eb (aO c2) (fun w=>hne.1 w.symm))).trans c2
  have d3:=(aH (ch2.get ab (aO c3) (fun w=>hne.2.1 w.symm))).trans c3
  have key:∀lv',cont h2 lb=some [lv']→Ev fns orc (.unwind 144 none ⟨ts,[.call 145 [.ptr eb 0,.ptr lb 0]],.plain,h1⟩) (.call (.ret (.tup [lv',.int .i64 e1,.int .i64 a1])) .plain h2):=by
   intro lv' d1
   refine Ev.Mu ev2 (Ev.Mv (l:=[lv',.int .i64 e1,.int .i64 a1]) H.f144 ?_)
   have hr:a144.results=[.cell 2 none,.cell 3 none,.cell 4 none]:=rfl
   rw [hr]
   simp only [eH,t2,t3,t4,jM,d1,d2,d3,kO,bN,fO,aM]
  have ch3:Chg (fun i=>i=lb∨i=eb∨i=ab) h h2:=kI ch ⟨ch2.next,fun i hi hn=>ch2.get i hi (fun w=>hn (.inl w))⟩
  rcases q with q|q
  ·exact ⟨h2,lv,e1,a1,key lv q,ch3,.inl rfl⟩
  ·exact ⟨h2,.aC,e1,a1,key .aC q,ch3,.inr rfl⟩
 rcases hm with rfl|⟨e',a',rfl⟩
 ·obtain ⟨h',lv',e1,a1,ev,r⟩:=fin (.refl _ _) cl ce ca
  exact ⟨h',lv',e1,a1,Ev.Mu (NW H eb ab h) ev,r⟩
 ·obtain ⟨h1,ev1,ch1,d2,d3⟩:=NY H hne.2.2 (e:=e') (a:=a') ce ca
  obtain ⟨h',lv',e1,a1,ev,r⟩:=fin (⟨ch1.next,fun i hi hn=>ch1.get i hi (fun w=>hn (.inr w))⟩) ((aH (ch1.get lb (aO cl) om)).trans cl) d2 d3
  exact ⟨h',lv',e1,a1,Ev.Rk ev1 ev,r⟩
theorem D7:Q4 []:=fun x hx=>nomatch hx
theorem WI (H:Has fns orc) (X:HD orc) {ws ss:List (List UInt8)} (W:wU orc ws ss) {s:List UInt8} (hs2:s.length<10000000) (h:aD):
  ∃h' lv xs e a,aP h h' ∧Ev fns orc (.call 144 [.str s] .plain h) (.call (.ret (.tup [lv,.int .i64 e,.int .i64 a])) .plain h')∧iP lv xs∧Q4 xs∧(s=[]→xs=[]):=by
 obtain ⟨hA,hAe⟩:∃x,x=((h.push (.cells [.aC])).push (.cells [.int .i64 0])).push (.cells [.int .i64 0]):=⟨_,rfl⟩
 have gA:aP h hA:=by rw [hAe];exact gw2
 have nA:hA.next=h.next+3:=by rw [hAe];simp
 have a1:cont hA h.next=some [.aC]:=by rw [hAe];exact ctp
 have a2:cont hA (h.next+1)=some [.int .i64 0]:=by rw [hAe];exact ctp
 have a3:cont hA (h.next+2)=some [.int .i64 0]:=by rw [hAe];exact ctp
 obtain ⟨hW,gW,hw⟩:=Rb H s hA
 have w1:=(aF gW (by omega:h.next<hA.next)).trans a1
 have w2:=(aF gW (by omega:h.next+1<hA.next)).trans a2
 have w3:=(aF gW (by omega:h.next+2<hA.next)).trans a3
 have nW:=gW.next
 have slOf:∀{hh:aD} {lv:AV} {xs:List AV},Acc hh lv xs→iP lv xs:=fun ac=>by cases ac;exact .nil;exact .sl _ _
 rcases hw with ⟨⟨n1,e1⟩,nW3,s1,s2,s3,_⟩|⟨n1,e1⟩
 case inr=>
  obtain ⟨ts,hts⟩:∃ts:fN,ts=[(7,.str s),(0,.str s),(2,.ptr h.next 0),(3,.ptr (h.next+1) 0),(4,.ptr (h.next+2) 0),(9,.unk)]:=⟨_,rfl⟩
  obtain ⟨h',lv',e',a',ev,ch,q⟩:=Nh H om w1 w2 w3 (ts:=ts) (by rw [hts];rfl) (by rw [hts];rfl) (by rw [hts];rfl) (mode:=some (yB 2 0)) (.inr ⟨2,0,rfl⟩)
  refine ⟨h',lv',[],e',a',⟨by have:=ch.next;omega,fun i hi=>(ch.get i om om).trans ((gW.get i om).trans (gA.get i hi))⟩,Ev.Hq H.f144 H.o144 (x:= .panic (yB 2 0)) ⟨n1,fun m hm=> ?b0⟩ (.panic _) ev, ?s0,D7,fun _=>rfl⟩
  case b0=>
   have e1' :=e1 m om
   exact SX (cj5 @a144.eq_1 @Hh.eq_def (Eq.symm hAe) e1' hts)
  case s0=>rcases q with rfl|rfl<;>exact .nil
 obtain ⟨ts,hts⟩:∃ts:fN,ts=[(2,.ptr h.next 0),(3,.ptr (h.next+1) 0),(4,.ptr (h.next+2) 0),(8,.fn 149 [] [.ptr hA.next 0,.ptr (hA.next+2) 0,.ptr (hA.next+1) 0]),(9,.unk)]:=⟨_,rfl⟩
 have t2:cH ts 2= .ptr h.next 0:=by rw [hts];rfl
 have t3:cH ts 3= .ptr (h.next+1) 0:=by rw [hts];rfl
 have t4:cH ts 4= .ptr (h.next+2) 0:=by rw [hts];rfl
 obtain ⟨P,hPd⟩:∃P:Nat→Prop,P=fun i=>hA.next≤i∧i<hA.next+3:=⟨_,rfl⟩
 have pP:∀i,P i↔(hA.next≤i∧i<hA.next+3):=fun i=>by rw [hPd]
 have hP:∀i,P i→i<hW.next:=fun i q=>by have:=(pP i).1 q;omega
 have nPl:∀i,i<hA.next→¬P i:=fun i hi q=>by have:=(pP i).1 q;omega
 obtain ⟨r,hr⟩:∃r:tM,r=⟨.ready,none,144,ts,[9],zP,tZ,hW.next⟩:=⟨_,rfl⟩
 have hL:∀n,Go.Gn.Loc hW P (VI h.next n):=by
  intro n Fp a b hab hk ⟨lv,xs,c1,ac,tk,q⟩
  exact ⟨lv,xs,(aH (hk _ (aO c1) (.inr ⟨by omega,nPl _ om⟩))).trans c1,C9 ac (fun t w=>hk t (Gf ac w) (.inl (tk t w))),tk,q⟩
 have F:=LG (fns:=fns) (orc:=orc) (h:=hW) (r:=r) (P:=P) (S:=fun i=>i=h.next) (A:=J2) (C:=VI h.next) (D:=fun _ _=>False) hP (fun i q=>by subst q;exact ⟨by omega,nPl _ om⟩) hL (fun Fp a b h1 h2 q=>q)
  (by rw [hr];exact Qe ⟨by omega,nPl _ om⟩ hP t2 ⟨_,t3⟩ ⟨_,t4⟩)
 have gl:=tJ hW r
 obtain ⟨h3,x,n',⟨n2,e2⟩,nx3,hn',hx⟩:=Qn H X W hs2 (sx:=hA.next) (mx:=hA.next+2) (nx:=hA.next+1) F (P:=P) ⟨(pP _).2 ⟨by omega,by omega⟩,(pP _).2 ⟨by omega,by omega⟩,(pP _).2 ⟨by omega,by omega⟩⟩ ⟨by omega,by omega⟩
  (h:=qA hW r) (fun i q=>by have:=hP i q;have:=gl.next;omega) ((aF gl om).trans s1) ((aF gl om).trans s2) ((aF gl om).trans s3)
  ⟨⟨by rw [vO];exact Nat.le_refl _,fun i hi _ _=>gl.get i hi,A6 hW r,A7 hW r⟩,fun i _ hp=>hp,fun _=>False,fun i q=>q.elim,fun i q=>q.elim,⟨.aC,[],(aF gl om).trans w1,.nil,fun t q=>(by cases q),Nat.zero_le _,D7⟩⟩
 have We:InL hW r P (fun i=>i=h.next) (fun Fp hh=>(∀i,Fp i→hW.next+2≤i)∧VI h.next n' Fp hh) P h3→
   ∃lv xs,h3.get hW.next=some (.deferred (some []))∧h3.get (hW.next+1)=some (.loop r)∧hW.next+2≤h3.next∧cont h3 h.next=some [lv]∧cont h3 (h.next+1)=some [.int .i64 0]∧cont h3 (h.next+2)=some [.int .i64 0]∧iP lv xs∧lv.bX=true∧lv.cells=[lv]∧Q4 xs∧(s=[]→xs=[])∧(∀i,i<h.next→h3.get i=h.get i):=by
  rintro ⟨o,np,Fp,hF,hF2,lv,xs,c1,ac,tk,hl,tks⟩
  refine ⟨lv,xs,o.mark,o.loop,o.le,c1,(aH (o.get _ om (nPl _ om) om)).trans w2,(aH (o.get _ om (nPl _ om) om)).trans w3,slOf ac,(By ac).1,(By ac).2,tks,fun e=> ?_,fun i hi=>(o.get i om (nPl _ om) om).trans ((gW.get i om).trans (gA.get i hi))⟩
  subst e
  simp at hn'
  subst hn'
  exact List.length_eq_zero_iff.1 om
 have he2:Ev fns orc (.call 149 [.yield (hW.next+1),.ptr hA.next 0,.ptr (hA.next+2) 0,.ptr (hA.next+1) 0] .plain (qA hW r)) (.call x .plain h3):=⟨n2,e2⟩
 rcases hx with ⟨rfl,hI|hD⟩|⟨e,a,rfl,hI⟩
 ·obtain ⟨lv,xs,mk,lp,le3,c1,c2,c3,isl,lc1,lc2,tks,SU,old⟩:=We hI
  obtain ⟨h4,h4e⟩:∃x,x=(((h3.set (hW.next+1) (.loop {r with state:= .exhausted})).set h.next (.cells [lv])).set (h.next+1) (.cells [.int .i64 0])).set (h.next+2) (.cells [.int .i64 0]):=⟨_,rfl⟩
  have n4:h4.next=h3.next:=by rw [h4e];simp
  have mk4:h4.get hW.next=some (.deferred (some [])):=by rw [h4e,aE _ _ _ _ (by simp;omega) om,aE _ _ _ _ (by simp;omega) om,aE _ _ _ _ (by simp;omega) om,aE _ _ _ _ om om];exact mk
  have o4:∀i,i<h.next→h4.get i=h3.get i:=fun i hi=>by rw [h4e,aE _ _ _ _ (by simp;omega) om,aE _ _ _ _ (by simp;omega) om,aE _ _ _ _ (by simp;omega) om,aE _ _ _ _ om om]
  obtain ⟨h5,h5e⟩:∃x,x=h4.set hW.next (.deferred none):=⟨_,rfl⟩
  have k1:cont h5 h.next=some [lv]:=by rw [h5e,aK om om,h4e,aK (by simp;omega) om,aK (by simp;omega) om];exact aG (by simp;omega)
  have k2:cont h5 (h.next+1)=some [.int .i64 0]:=by rw [h5e,aK om om,h4e,aK (by simp;omega) om];exact aG (by simp;omega)
  have k3:cont h5 (h.next+2)=some [.int .i64 0]:=by rw [h5e,aK om om,h4e];exact aG (by simp;omega)
  obtain ⟨h',lv',e',a',ev,ch,q⟩:=Nh H om k1 k2 k3 (ts:=[(2,.ptr h.next 0),(3,.ptr (h.next+1) 0),(4,.ptr (h.next+2) 0)]) rfl rfl rfl (mode:=none) (.inl rfl)
  have nc:=ch.next
  have n5:h5.next=h4.next:=by rw [h5e];simp
  have ev2:=Ev.D6 (b:=hW.next) mk4 (by rw [←h5e];exact ev)
  have gr:aP h h' :=⟨by omega,fun i hi=>by rw [ch.get i om om,h5e,aE _ _ _ _ om om,o4 i hi,old i hi]⟩
  have body:∃N,∀m,N≤m→cG (eval fns orc m) 144 none a144.body ⟨eO 0 [.str s],[],.plain,h⟩= .ok (.code .ret ⟨[(2,.ptr h.next 0),(3,.ptr (h.next+1) 0),(4,.ptr (h.next+2) 0)],[.collected hW.next,.call 146 [.ptr (h.next+1) 0,.ptr (h.next+2) 0],.call 145 [.ptr (h.next+1) 0,.ptr h.next 0]],.plain,h4⟩):=by
   refine ⟨n1+n2,fun m hm=> ?_⟩
   have e1' :=e1 m om
   have e2' :=e2 m om
   have hlo:jG h3 (hW.next+1)= .ok r:=by simp only [jG,lp]
   rw [hr,hts] at e2' hlo
   rw [hr,hts] at h4e
   unfold qA at e2'
   simp only [zP,tZ] at e2' hlo h4e
   exact SX (dI @a144.eq_1 @Hh.eq_def (Eq.symm hAe) e1' @zX @rfA.eq_1 @yC.eq_def @yD.eq_1 @yD.eq_2 e2' @tD.eq_1 @tD.eq_2 @tD.eq_3 hlo @wE.eq_1 c1 (cj5 c2 c3 lc1 lc2 h4e))
  rcases q with rfl|rfl
  ·exact ⟨h',_,xs,e',a',gr,Ev.Hq H.f144 H.o144 body .ret ev2,isl,tks,SU⟩
  ·exact ⟨h',_,[],e',a',gr,Ev.Hq H.f144 H.o144 body .ret ev2,.nil,D7,fun _=>rfl⟩
 ·obtain ⟨_,_,_,_,_,q⟩:=hD
  exact q.elim
 ·obtain ⟨lv,xs,mk,lp,le3,c1,c2,c3,isl,lc1,lc2,tks,SU,old⟩:=We hI
  obtain ⟨h5,h5e⟩:∃x,x=h3.set hW.next (.deferred none):=⟨_,rfl⟩
  have k1:cont h5 h.next=some [lv]:=by rw [h5e,aK om om];exact c1
  have k2:cont h5 (h.next+1)=some [.int .i64 0]:=by rw [h5e,aK om om];exact c2
  have k3:cont h5 (h.next+2)=some [.int .i64 0]:=by rw [h5e,aK om om];exact c3
  obtain ⟨h',lv',e',a',ev,ch,q⟩:=Nh H om k1 k2 k3 (ts:=ts) t2 t3 t4 (mode:=some (yB e a)) (.inr ⟨e,a,rfl⟩)
  have nc:=ch.next
  have n5:h5.next=h3.next:=by rw [h5e];simp
  have ev2:=Ev.D6 (b:=hW.next) mk (by rw [←h5e];exact ev)
  have gr:aP h h' :=⟨by omega,fun i hi=>by rw [ch.get i om om,h5e,aE _ _ _ _ om om,old i hi]⟩
  have body:∃N,∀m,N≤m→cG (eval fns orc m) 144 none a144.body ⟨eO 0 [.str s],[],.plain,h⟩= .ok (.code (.panic (yB e a)) ⟨ts,[.collected hW.next,.call 146 [.ptr (h.next+1) 0,.ptr (h.next+2) 0],.call 145 [.ptr (h.next+1) 0,.ptr h.next 0]],.plain,h3⟩):=by
   refine ⟨n1+n2,fun m hm=> ?_⟩
   have e1' :=e1 m om
   have e2' :=e2 m om
   rw [hr,hts] at e2'
   unfold qA at e2'
   simp only [zP,tZ] at e2'
   exact SX (zZ @a144.eq_1 @Hh.eq_def (Eq.symm hAe) e1' @zX @rfA.eq_1 @yC.eq_def @yD.eq_1 @yD.eq_2 e2' @tD.eq_1 @tD.eq_2 @tD.eq_3 hts)
  rcases q with rfl|rfl
  ·exact ⟨h',_,xs,e',a',gr,Ev.Hq H.f144 H.o144 body (.panic _) ev2,isl,tks,SU⟩
  ·exact ⟨h',_,[],e',a',gr,Ev.Hq H.f144 H.o144 body (.panic _) ev2,.nil,D7,fun _=>rfl⟩
end Go.Ly
end
