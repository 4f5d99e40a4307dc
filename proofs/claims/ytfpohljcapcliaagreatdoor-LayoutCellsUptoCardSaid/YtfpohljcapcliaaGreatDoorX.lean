/- Parts of a proof. -/
import Derived.Test.YtfpohljcapcliaaGreatDoorD
import Derived.Test.YtfpohljcapcliaaGreatDoorG
set_option linter.all false
set_option maxHeartbeats 8000000
noncomputable section
namespace Go.Ly
open Go Go.Am Go.Fs Go.Gn
variable {fns:Go.Am.F} {orc:Orc}
def irr (e:Int):List pQ:=[{v:= .iface 100 (.agg [.int .i64 e]),recovered:=false}]
def Out (fns:Go.Am.F) (orc:Orc) (P:Nat→Prop) (t:Task) (h:aD) (Q:AV→aD→Prop):Prop:=
 (∃v h',Ev fns orc t (.call (.ret v) .plain h')∧Chg P h h' ∧Q v h')∨(∃e h',0<e∧Ev fns orc t (.call (.panic (irr e)) .plain h')∧Chg P h h')
theorem Out.ret {P:Nat→Prop} {t:Task} {h:aD} {Q:AV→aD→Prop} (v:AV) (h' :aD) (e:Ev fns orc t (.call (.ret v) .plain h')) (c:Chg P h h') (q:Q v h'):Out fns orc P t h Q:= .inl ⟨v,h',e,c,q⟩
theorem Out.pan {P:Nat→Prop} {t:Task} {h:aD} {Q:AV→aD→Prop} (e:Int) (h' :aD) (he:0<e) (ev:Ev fns orc t (.call (.panic (irr e)) .plain h')) (c:Chg P h h'):Out fns orc P t h Q:= .inr ⟨e,h',he,ev,c⟩
theorem uZ (H:Has fns orc) (e:Int) (h:aD):Ev fns orc (.call 59 [.bool true,.int .i64 e] .plain h) (.call (.ret jC) .plain h):=by
 refine Ev.call H.f59 H.o59 ⟨0,fun m _=> ?b⟩
 case b=>
  exact SX @a59.eq_1
theorem vB (H:Has fns orc) (e:Int) (h:aD):Ev fns orc (.call 59 [.bool false,.int .i64 e] .plain h) (.call (.panic (irr e)) .plain h):=by
 refine Ev.call H.f59 H.o59 ⟨0,fun m _=> ?b⟩
 case b=>
  exact SX @a59.eq_1
def vJ {α:Type} (p:α→Bool):List α→Option Nat
 |[]=>none
 |a::r=>if p a then some 0 else (vJ p r).map (·+1)
theorem Bu {α:Type} {p:α→Bool}:∀{l:List α} {k:Nat},vJ p l=some k→∃a,l[k]? =some a∧p a=true∧∀j b,j<k→l[j]? =some b→p b=false
 |[],k,h=>by cases h
 |a::r,k,h=>by
  simp only [vJ] at h
  split at h
  ·rename_i hp
   cases h
   exact ⟨a,rfl,hp,fun j b hj=>by omega⟩
  ·rename_i hp
   cases hr:vJ p r with
   |none=>rw [hr] at h;cases h
   |some j=>
    rw [hr] at h
    cases h
    obtain ⟨b,h1,h2,h3⟩:=Bu hr
    refine ⟨b,by simpa using h1,h2,fun i c hi hc=> ?_⟩
    cases i with
    |zero=>simp at hc;subst hc;simpa using hp
    |succ i=>exact h3 i c (Nat.lt_of_succ_lt_succ hi) (by simpa using hc)
theorem CW {α:Type} {p:α→Bool}:∀{l:List α},vJ p l=none→∀a∈l,p a=false
 |[],_,a,ha=>by cases ha
 |b::r,h,a,ha=>by
  simp only [vJ] at h
  split at h
  ·cases h
  ·rename_i hp
   rcases List.mem_cons.1 ha with rfl|q
   ·simpa using hp
   ·cases hr:vJ p r with
    |none=>exact CW hr a q
    |some j=>rw [hr] at h;cases h
theorem O4 {α:Type} {p:α→Bool} {l:List α} {k:Nat} (h:vJ p l=some k):k<l.length:=by
 obtain ⟨a,h1,_⟩:=Bu h
 exact (List.getElem?_eq_some_iff.1 h1).1
def A8:Option Nat→AV
 |some k=> .int .i64 (k:Nat)
 |none=> .int .i64 (-1)
def ints (l:List Nat):List AV:=l.map fun n=> .int .i64 (n:Nat)
theorem Qr (H:Has fns orc) {v:AV} {l:List (List UInt8)} (hv:iP v (l.map AV.str)) (hn:l.length<10000000) (s:List UInt8) (h:aD):
  Ev fns orc (.call 70 [v,.str s] .plain h) (.call (.ret (A8 (vJ (fun x=>decide (s=x)) l))) .plain h):=by
 have key:∀k i,i+k=l.length→∃n,∀m,n≤m→(cG (eval fns orc m) 70 none (.loop p70x10100) ⟨[(0,v),(1,.str s),(7,.int .i64 (l.length:Nat)),(8,.int .i64 (i:Nat))],[],.plain,h⟩=
   match vJ (fun x=>decide (s=x)) (l.drop i) with
   |some k=> .ok (.code .ret ⟨[(4,.int .i64 ((i+k:Nat):Int))],[],.plain,h⟩)
   |none=> .ok (.code (.exit 0) ⟨[(0,v),(1,.str s),(7,.int .i64 (l.length:Nat)),(8,.int .i64 (l.length:Nat)),(9,.bool false)],[],.plain,h⟩)):=by
  intro k
  induction k with
  |zero=>
   intro i hi
   refine ⟨0,fun m _=> ?_⟩
   have d:decide ((i:Int)<((l.length:Nat):Int))=false:=dF om
   rw [show i=l.length by omega] at d⊢
   rw [List.drop_length]
   exact SX (cj4 d @aI @vJ.eq_1 @vJ.eq_2)
  |succ k ih=>
   intro i hi
   obtain ⟨n,ih⟩:=ih (i+1) om
   refine ⟨n+1,fun m hm=> ?_⟩
   obtain ⟨m,rfl⟩:∃j,m=j+1:=⟨m -1,by omega⟩
   have hlt:i<l.length:=om
   have d:decide ((i:Int)<((l.length:Nat):Int))=true:=dT om
   have hia:=oX hv (i:=i) (v:= .str l[i]) (by simp [hlt]) rfl
   have ih' :=ih m om
   rw [List.drop_eq_getElem_cons hlt,vJ]
   rw [aI]
   cases c:decide (s=l[i]) with
   |true=>
    have e:jI s l[i]=true:=by rw [jV];simpa using c
    exact SX (cj3 d hia e)
   |false=>
    have e:jI s l[i]=false:=by rw [jV];simpa using c
    simp -implicitDefEqProofs (disch:=(first|omega|(simp only [aD.aJ,aD.aL];try omega)|skip)) only [d,hia,e,fE,fG,dV,cT,dU,cS,fF,dR,gV,eQ,aM,dJ,iJ,opA,qS,kE,qT,pL,rJ,sB,dG,gU,fP,qM,mC,iZ,gJ,mK,dM,eZ,Nat.beq,lS,mH,eE,vl,rH,eY,eW,dW,fK,fH,fI,bY,iG,iD,cV,fL,fJ,bZ,iE,cU,cX,dA,cW,fM,dL,eT,eU,bP,iB,gZ,cK,eX,eV,bQ,iA,cJ,cP,cQ,cM,eS,dO,aY,dH,aZ,fB,bV,bR,bW,bT,dP,fD,kE,eN,kL,aT,aV,fO,gX,List.drop_zero,List.drop_succ_cons,rS,oEq,eqA,pR,ki,eP,eH,oneOf,iC,jH,mU,called,List.append_eq,List.nil_append,List.cons_append,List.append_assoc,Nat.zero_add,Nat.add_zero,kN,lK,aQ,aE,aD.aJ,aD.aL,List.length_cons,List.length_nil,Bool.and_true,Bool.true_and,List.all_cons,List.all_nil,bJ,cF,bK,bI,fA,Nat.reduceAdd,Nat.reduceEqDiff,Nat.reduceBEq,ite_true,ite_false,if_true,if_false,iQ,kH,jE,iK,iN,dK,iI,decide_eq_true_eq,decide_true,decide_false,qV,intArith,Int.ofNat_zero,reduceCtorEq,Bool.not_true,Bool.not_false,Bool.false_eq_true,Int.reduceEq,Int.reduceAdd,Int.zero_add,Int.add_zero,lZ,dQ,cR,oG,oI,oJ,oK,kR,iM,qE,iL,jA,qD,iW,jO,iY,pH,fU,eJ,eK,eL,fS,kK,lT,pK,mJ,jU,iV,List.reverse_cons,List.reverse_nil,oS,dD,dZ,dC,eD,bM,jB,jN,kZ,eO,qO,oMx,lE,jT,vF,lD,jN,kZ,kE,eN,evO,mZ,jL,mX,lH,lQ,oF,oE,gH,fX,dY,iU,uF,dD,dZ,dC,eD,bM,vG,tP,bound,vl,eqA,jC,Int.reduceLE,Int.reduceLT,kJ,jM,iS,aG,aK,dB,aR,kO,iO,jP,kM,lU,takeN,cI,jJ,jQ,iX,eM,gS,fQ,jR,kU,gN,KF,KG]
    rw [sH hlt om]
    show cG (eval fns orc m) 70 none (.loop p70x10100) _=_
    rw [ih']
    cases vJ (fun x=>decide (s=x)) (l.drop (i+1)) with
    |none=>rfl
    |some k=>simp only [Option.map];rw [show i+1+k=i+(k+1) by omega]
 obtain ⟨n,e⟩:=key l.length 0 om
 refine Ev.call H.f70 H.o70 ⟨n,fun m hm=> ?bIx⟩
 case bIx=>
  have e1:=e m hm
  simp only [List.drop_zero,Int.ofNat_zero,Nat.zero_add] at e1
  have q:∀hp,nJ hp .sl v= .ok l.length:=fun hp=>by rw [bO hv hp,List.length_map]
  cases c:vJ (fun x=>decide (s=x)) l with
  |none=>
   rw [c] at e1
   exact SX (cj5 @a70.eq_1 q e1 @A8.eq_1 @A8.eq_2)
  |some k=>
   rw [c] at e1
   exact SX (cj5 @a70.eq_1 q e1 @A8.eq_1 @A8.eq_2)
end Go.Ly
namespace Go.Ly
open Go Go.Am Go.Fs Go.Gn
variable {fns:Go.Am.F} {orc:Orc}
theorem Qs (H:Has fns orc) {v:AV} {l:List Nat} (hv:iP v (ints l)) (hn:l.length<10000000) (s:Int) (h:aD):
  Ev fns orc (.call 107 [v,.int .i64 s] .plain h) (.call (.ret (A8 (vJ (fun x:Nat=>decide (s=(x:Int))) l))) .plain h):=by
 have key:∀k i,i+k=l.length→∃n,∀m,n≤m→(cG (eval fns orc m) 107 none (.loop p107x10100) ⟨[(0,v),(1,.int .i64 s),(7,.int .i64 (l.length:Nat)),(8,.int .i64 (i:Nat))],[],.plain,h⟩=
   match vJ (fun x:Nat=>decide (s=(x:Int))) (l.drop i) with
   |some k=> .ok (.code .ret ⟨[(4,.int .i64 ((i+k:Nat):Int))],[],.plain,h⟩)
   |none=> .ok (.code (.exit 0) ⟨[(0,v),(1,.int .i64 s),(7,.int .i64 (l.length:Nat)),(8,.int .i64 (l.length:Nat)),(9,.bool false)],[],.plain,h⟩)):=by
  intro k
  induction k with
  |zero=>
   intro i hi
   refine ⟨0,fun m _=> ?_⟩
   have d:decide ((i:Int)<((l.length:Nat):Int))=false:=dF om
   rw [show i=l.length by omega] at d⊢
   rw [List.drop_length]
   exact SX (cj4 d @aI @vJ.eq_1 @vJ.eq_2)
  |succ k ih=>
   intro i hi
   obtain ⟨n,ih⟩:=ih (i+1) om
   refine ⟨n+1,fun m hm=> ?_⟩
   obtain ⟨m,rfl⟩:∃j,m=j+1:=⟨m -1,by omega⟩
   have hlt:i<l.length:=om
   have d:decide ((i:Int)<((l.length:Nat):Int))=true:=dT om
   have hia:=oX hv (i:=i) (v:= .int .i64 (l[i]:Nat)) (by simp [ints,hlt]) rfl
   have ih' :=ih m om
   rw [List.drop_eq_getElem_cons hlt,vJ]
   rw [aI]
   cases c:decide (s=((l[i]:Nat):Int)) with
   |true=>
    have e:=c
    exact SX (cj3 d hia e)
   |false=>
    have e:=c
    simp -implicitDefEqProofs (disch:=(first|omega|(simp only [aD.aJ,aD.aL];try omega)|skip)) only [d,hia,e,fE,fG,dV,cT,dU,cS,fF,dR,gV,eQ,aM,dJ,iJ,opA,qS,kE,qT,pL,rJ,sB,dG,gU,fP,qM,mC,iZ,gJ,mK,dM,eZ,Nat.beq,lS,mH,eE,vl,rH,eY,eW,dW,fK,fH,fI,bY,iG,iD,cV,fL,fJ,bZ,iE,cU,cX,dA,cW,fM,dL,eT,eU,bP,iB,gZ,cK,eX,eV,bQ,iA,cJ,cP,cQ,cM,eS,dO,aY,dH,aZ,fB,bV,bR,bW,bT,dP,fD,kE,eN,kL,aT,aV,fO,gX,List.drop_zero,List.drop_succ_cons,rS,oEq,eqA,pR,ki,eP,eH,oneOf,iC,jH,mU,called,List.append_eq,List.nil_append,List.cons_append,List.append_assoc,Nat.zero_add,Nat.add_zero,kN,lK,aQ,aE,aD.aJ,aD.aL,List.length_cons,List.length_nil,Bool.and_true,Bool.true_and,List.all_cons,List.all_nil,bJ,cF,bK,bI,fA,Nat.reduceAdd,Nat.reduceEqDiff,Nat.reduceBEq,ite_true,ite_false,if_true,if_false,iQ,kH,jE,iK,iN,dK,iI,decide_eq_true_eq,decide_true,decide_false,qV,intArith,Int.ofNat_zero,reduceCtorEq,Bool.not_true,Bool.not_false,Bool.false_eq_true,Int.reduceEq,Int.reduceAdd,Int.zero_add,Int.add_zero,lZ,dQ,cR,oG,oI,oJ,oK,kR,iM,qE,iL,jA,qD,iW,jO,iY,pH,fU,eJ,eK,eL,fS,kK,lT,pK,mJ,jU,iV,List.reverse_cons,List.reverse_nil,oS,dD,dZ,dC,eD,bM,jB,jN,kZ,eO,qO,oMx,lE,jT,vF,lD,jN,kZ,kE,eN,evO,mZ,jL,mX,lH,lQ,oF,oE,gH,fX,dY,iU,uF,dD,dZ,dC,eD,bM,vG,tP,bound,vl,eqA,jC,Int.reduceLE,Int.reduceLT,kJ,jM,iS,aG,aK,dB,aR,kO,iO,jP,kM,lU,takeN,cI,jJ,jQ,iX,eM,gS,fQ,jR,kU,gN,KF,KG]
    rw [sH hlt om]
    show cG (eval fns orc m) 107 none (.loop p107x10100) _=_
    rw [ih']
    cases vJ (fun x:Nat=>decide (s=(x:Int))) (l.drop (i+1)) with
    |none=>rfl
    |some k=>simp only [Option.map];rw [show i+1+k=i+(k+1) by omega]
 obtain ⟨n,e⟩:=key l.length 0 om
 refine Ev.call H.f107 H.o107 ⟨n,fun m hm=> ?bIx⟩
 case bIx=>
  have e1:=e m hm
  simp only [List.drop_zero,Int.ofNat_zero,Nat.zero_add] at e1
  have q:∀hp,nJ hp .sl v= .ok l.length:=fun hp=>by rw [bO hv hp];simp [ints]
  cases c:vJ (fun x:Nat=>decide (s=(x:Int))) l with
  |none=>
   rw [c] at e1
   exact SX (cj5 @a107.eq_1 q e1 @A8.eq_1 @A8.eq_2)
  |some k=>
   rw [c] at e1
   exact SX (cj5 @a107.eq_1 q e1 @A8.eq_1 @A8.eq_2)
def pN:List kV→List UInt8→Option (Nat×Nat)
 |[],_=>none
 |d::r,s=>match vJ (fun x=>decide (s=x)) (fR d) with
  |some k=>some (0,k)
  |none=>(pN r s).map fun x=>(x.1+1,x.2)
theorem xH {s:List UInt8}:∀{l:List kV} {i k:Nat},pN l s=some (i,k)→∃d,l[i]? =some d∧vJ (fun x=>decide (s=x)) (fR d)=some k∧∀j e,j<i→l[j]? =some e→s∉fR e
 |[],i,k,h=>by cases h
 |d::r,i,k,h=>by
  simp only [pN] at h
  split at h
  ·rename_i j hj
   cases h
   exact ⟨d,rfl,hj,fun j e hj=>absurd hj (Nat.not_lt_zero _)⟩
  ·rename_i hn
   cases hr:pN r s with
   |none=>rw [hr] at h;cases h
   |some x=>
    obtain ⟨i',k'⟩:=x
    rw [hr] at h
    cases h
    obtain ⟨e,h1,h2,h3⟩:=xH hr
    refine ⟨e,by simpa using h1,h2,fun j f hj hf=> ?_⟩
    cases j with
    |zero=>
     simp at hf
     subst hf
     intro q
     have:=CW hn s q
     simp at this
    |succ j=>exact h3 j f (Nat.lt_of_succ_lt_succ hj) (by simpa using hf)
theorem Hi {s:List UInt8}:∀{l:List kV},pN l s=none→∀d∈l,s∉fR d
 |[],_,d,hd=>by cases hd
 |e::r,h,d,hd=>by
  simp only [pN] at h
  split at h
  ·cases h
  ·rename_i hn
   rcases List.mem_cons.1 hd with rfl|q
   ·intro q
    have:=CW hn s q
    simp at this
   ·cases hr:pN r s with
    |none=>exact Hi hr d q
    |some x=>rw [hr] at h;cases h
def AQ:Option (Nat×Nat)→AV
 |some (i,k)=> .tup [.agg [.int .i64 0,.int .i64 0,.int .i64 (i:Nat),.int .i64 (k:Nat)],.bool true]
 |none=> .tup [.agg [.int .i64 0,.int .i64 0,.int .i64 0,.int .i64 0],.bool false]
theorem Cr {p:kV}:(fR p).length<(Part.decl p).nodes:=by cases p;rw [GG];simp only [fR];omega
theorem LQ (H:Has fns orc) {vd:AV} {dl:List kV} {xs:List AV} (hx:iP vd xs) (hxl:xs.length=dl.length) (hg:∀i (hi:i<dl.length),∃c,xs[i]? =some (.agg c)∧RV (.decl dl[i]) (.agg c)) (hn:dl.length<10000000)
  (hnn:∀d∈dl,(fR d).length<10000000) (s:List UInt8) {b4:Nat}:∀(k i:Nat) (h:aD),i+k=dl.length→cont h b4=some [.int .i64 0,.int .i64 0,.int .i64 0,.int .i64 0]→
   ∃h',h.next≤h'.next∧(∀j,j<h.next→j≠b4→h'.get j=h.get j)∧match pN (dl.drop i) s with
    |some (j,k)=>cont h' b4=some [.int .i64 0,.int .i64 0,.int .i64 ((i+j:Nat):Int),.int .i64 (k:Nat)]∧Ev fns orc (.code 47 none (.loop p47x10100) ⟨[(1,.str s),(4,.ptr b4 0),(13,vd),(14,.int .i64 (dl.length:Nat)),(15,.int .i64 (i:Nat))],[],.plain,h⟩) (.code .ret ⟨[(4,.ptr b4 0),(5,.bool true)],[],.plain,h'⟩)
    |none=>cont h' b4=some [.int .i64 0,.int .i64 0,.int .i64 0,.int .i64 0]∧Ev fns orc (.code 47 none (.loop p47x10100) ⟨[(1,.str s),(4,.ptr b4 0),(13,vd),(14,.int .i64 (dl.length:Nat)),(15,.int .i64 (i:Nat))],[],.plain,h⟩) (.code (.exit 0) ⟨[(1,.str s),(4,.ptr b4 0),(13,vd),(14,.int .i64 (dl.length:Nat)),(15,.int .i64 (dl.length:Nat)),(16,.bool false)],[],.plain,h'⟩):=by
 intro k
 induction k with
 |zero=>
  intro i h hi hb
  have d:decide ((i:Int)<((dl.length:Nat):Int))=false:=dF om
  refine ⟨h,Nat.le_refl _,fun _ _ _=>rfl, ?_⟩
  rw [show i=dl.length by omega] at d⊢
  rw [List.drop_length]
  refine ⟨hb,Ev.code ⟨0,fun m _=> ?b0⟩⟩
  case b0=>
   exact SX (cj2 d @aI)
 |succ k ih=>
  intro i h hi hb
  have hlt:i<dl.length:=om
  have d:decide ((i:Int)<((dl.length:Nat):Int))=true:=dT om
  obtain ⟨c,hc,rv⟩:=hg i hlt
  rw [List.drop_eq_getElem_cons hlt,pN]
  have WX:=hnn _ (List.getElem_mem hlt)
  generalize dl[i]=e at rv WX
  have hcl:=pG rv
  have hck:=uG rv
  have hia:=kT hx hc hcl
  have p8:takeN 5 c=some c:=by rw [←hcl];exact aW c
  have hst:=mW h (sz:=5) (z:=kF) rfl hcl hck
  obtain ⟨hA,hAe⟩:∃x,x=(h.push (.cells kF)).set h.next (.cells c):=⟨_,rfl⟩
  rw [←hAe] at hst
  simp only [kF] at hst
  have gA:aP h hA:=by rw [hAe];exact gw2
  have nA:hA.next=h.next+1:=by rw [hAe];simp
  have cA:cont hA h.next=some c:=by rw [hAe];exact aG (by simp)
  have bA:=(aF gA (aO hb)).trans hb
  have lb:=aO hb
  cases e with|mk k1 nm sl pl ds=>
  cases rv with|decl r0 r1 r2 r3=>
  rename_i vn vs vp vy
  simp only [fR] at WX⊢
  obtain ⟨n1,e1⟩:=Qr H r0 WX s hA
  cases cf:vJ (fun x=>decide (s=x)) nm with
  |some j=>
   obtain ⟨hB,hBe⟩:∃x,x=hA.set b4 (.cells [.int .i64 0,.int .i64 0,.int .i64 (i:Nat),.int .i64 (j:Nat)]):=⟨_,rfl⟩
   have hsB:kG hA 4 (.ptr b4 0) (.agg [.int .i64 0,.int .i64 0,.int .i64 (i:Nat),.int .i64 (j:Nat)])= .ok hB:=by
    rw [hBe]
    simp only [iS,bA,iO,AV.cells,List.length_cons,List.length_nil,List.all_cons,List.all_nil,bJ,cI]
    rfl
   refine ⟨hB,by rw [hBe];simp;omega,fun q hq hne=>by rw [hBe,aE _ _ _ _ om hne,gA.get q hq],by rw [hBe];exact aG om,Ev.code ⟨n1,fun m hm=> ?b1⟩⟩
   case b1=>
    have e1' :=e1 m om
    rw [cf] at e1'
    simp only [A8] at e1'
    have d2:decide (0≤((j:Nat):Int))=true:=dT om
    exact SM (cj9 d hia p8 hst cA e1' d2 hsB @aI)
  |none=>
   obtain ⟨h',n',o',r⟩:=ih (i+1) hA om bA
   refine ⟨h',by omega,fun q hq hne=>(o' q om hne).trans (gA.get q hq), ?_⟩
   have step:∀a,Ev fns orc (.code 47 none (.loop p47x10100) ⟨[(1,.str s),(4,.ptr b4 0),(13,vd),(14,.int .i64 (dl.length:Nat)),(15,.int .i64 ((i+1:Nat):Int))],[],.plain,hA⟩) a→
     Ev fns orc (.code 47 none (.loop p47x10100) ⟨[(1,.str s),(4,.ptr b4 0),(13,vd),(14,.int .i64 (dl.length:Nat)),(15,.int .i64 (i:Nat))],[],.plain,h⟩) a:=by
    rintro a ⟨n2,e2⟩
    refine Ev.code ⟨n1+n2,fun m hm=> ?b2⟩
    case b2=>
     have e1' :=e1 m om
     have e2' :=e2 m om
     rw [cf] at e1'
     simp only [A8] at e1'
     have d2:decide (0≤(-1:Int))=false:=rfl
     exact SMe (cj9 d hia p8 hst cA e1' d2 @aI (sH hlt om)) e2'
   cases cd:pN (dl.drop (i+1)) s with
   |none=>
    rw [cd] at r
    exact ⟨r.1,step _ r.2⟩
   |some x=>
    obtain ⟨j,k'⟩:=x
    rw [cd] at r
    refine ⟨?_,step _ r.2⟩
    rw [r.1,show i+1+j=i+(j+1) by omega]
theorem zW (H:Has fns orc) {vd:AV} {dl:List kV} (hv:RVs (dl.map Part.decl) vd) (hn:dl.length<10000000) (hnn:∀d∈dl,(fR d).length<10000000) (s:List UInt8) {loc:Nat} {cc:List AV} {h:aD} (hc:cont h loc=some cc) (h2:nth cc 2=some vd):
  ∃h',aP h h' ∧Ev fns orc (.call 47 [.ptr loc 0,.str s] .plain h) (.call (.ret (AQ (pN dl s))) .plain h'):=by
 obtain ⟨ys,hy,hyl,hyg⟩:=jZ hv
 simp only [List.length_map,List.getElem_map] at hyl hyg
 have q2:∀hp,nJ hp .sl vd= .ok dl.length:=fun hp=>by rw [bO hy hp,hyl]
 have l1:=aO hc
 obtain ⟨hA,hAe⟩:∃x,x=h.push (.cells [.int .i64 0,.int .i64 0,.int .i64 0,.int .i64 0]):=⟨_,rfl⟩
 have gA:aP h hA:=by rw [hAe];exact gw2
 have nA:hA.next=h.next+1:=by rw [hAe];simp
 have bA:cont hA h.next=some [.int .i64 0,.int .i64 0,.int .i64 0,.int .i64 0]:=by rw [hAe];exact aR om om
 have cA:=(aF gA l1).trans hc
 obtain ⟨hB,nB,oB,r⟩:=LQ H hy hyl hyg hn hnn s (b4:=h.next) dl.length 0 hA om bA
 rw [List.drop_zero] at r
 have gB:aP h hB:=⟨by omega,fun i hi=>(oB i om om).trans (gA.get i hi)⟩
 cases cd:pN dl s with
 |some x=>
  obtain ⟨i,k⟩:=x
  rw [cd] at r
  obtain ⟨r1,n1,e1⟩:=r
  refine ⟨hB,gB,Ev.call H.f47 H.o47 ⟨n1,fun m hm=> ?b1⟩⟩
  case b1=>
   have e1' :cG (eval fns orc m) 47 none (.loop p47x10100) _=_:=e1 (m+1) om
   simp only [Int.ofNat_zero] at e1'
   simp only [Nat.zero_add] at r1
   exact SM (cj9 @a47.eq_1 (Eq.symm hAe) cA h2 q2 e1' r1 @AQ.eq_1 @AQ.eq_2)
 |none=>
  rw [cd] at r
  obtain ⟨r1,n1,e1⟩:=r
  have hsB:=iO hB 4 h.next 0 (.agg [.int .i64 0,.int .i64 0,.int .i64 0,.int .i64 0]) [.int .i64 0,.int .i64 0,.int .i64 0,.int .i64 0]
  obtain ⟨hC,hCe⟩:∃x,x=hB.set h.next (.cells [.int .i64 0,.int .i64 0,.int .i64 0,.int .i64 0]):=⟨_,rfl⟩
  have hsC:kG hB 4 (.ptr h.next 0) (.agg [.int .i64 0,.int .i64 0,.int .i64 0,.int .i64 0])= .ok hC:=by
   rw [hCe]
   simp only [iS,r1,iO,AV.cells,List.length_cons,List.length_nil,List.all_cons,List.all_nil,bJ,cI]
   rfl
  have cC:cont hC h.next=some [.int .i64 0,.int .i64 0,.int .i64 0,.int .i64 0]:=by rw [hCe];exact aG om
  refine ⟨hC,by rw [hCe];exact gB.set om om _,Ev.call H.f47 H.o47 ⟨n1,fun m hm=> ?b2⟩⟩
  case b2=>
   have e1' :cG (eval fns orc m) 47 none (.loop p47x10100) _=_:=e1 (m+1) om
   simp only [Int.ofNat_zero] at e1'
   exact SM (tR @a47.eq_1 (Eq.symm hAe) cA h2 q2 e1' hsC cC @AQ.eq_1 @AQ.eq_2)
end Go.Ly
namespace Go.Ly
open Go Go.Am Go.Fs Go.Gn
variable {fns:Go.Am.F} {orc:Orc}
structure Tb where
 n:Nat
 loc:Nat→Nat
 D:Nat→DS
 tb:Nat
 mb:Nat
 es:Es
structure Tb.Ok (Γ:Tb):Prop where
 pos:0<Γ.n
 lt:Γ.n<10000000
 ar:∀i,i<Γ.n→ -1≤(Γ.D i).ar∧(Γ.D i).ar<(i:Int)
 ok:∀i,i<Γ.n→(Γ.D i).Ok
 inj:∀i j,i<Γ.n→j<Γ.n→Γ.loc i=Γ.loc j→i=j
 es:∀e∈Γ.es,∃o i v,o<Γ.n∧v<Γ.n∧e.1=key o i∧e.2.1= .int .i64 (v:Nat)∧(Γ.D v).ar=(o:Int)∧(aU (Γ.D o).pd)[i]? =some (Γ.D v).ow∧(Γ.D v).pd∈qP (Γ.D v).ow
 th:∀o,o<Γ.n→∀(i:Nat) d,(aU (Γ.D o).pd)[i]? =some d→qP d≠[]→∃e∈Γ.es,e.1=key o i
structure DY where
 busy:Bool
 ch:Option (List Nat×List Nat)
 off:Int
 cl:Int
 cc:List AV
def ChV:Option (List Nat×List Nat)→AV→AV→Prop
 |none,vc,_=>vc= .aC
 |some (c,u),vc,vu=>c≠[]∧iP vc (ints c)∧iP vu (ints u)
def Tb.xs (Γ:Tb):List AV:=(List.range Γ.n).map fun i=> .ptr (Γ.loc i) 0
structure TB (Γ:Tb) (S:Nat→DY) (h:aD):Prop where
 t_:∃tk v2,cont h Γ.tb=some [.sl tk Γ.xs,.map Γ.mb,v2]
 m_:∃clk,h.get Γ.mb=some (.map Γ.es clk)
 d_:∀i,i<Γ.n→∃vc vu,cont h (Γ.loc i)=some (bx (Γ.D i) (S i).busy vc vu (S i).off (S i).cl)∧ChV (S i).ch vc vu
 e_:∀i,i<Γ.n→cont h (Γ.loc i)=some (S i).cc
def pJ (Γ:Tb) (i:Nat):Prop:=∃k,k<Γ.n∧i=Γ.loc k
theorem TB.grow {Γ:Tb} {S:Nat→DY} {a b:aD} (T:TB Γ S a) (g:aP a b):TB Γ S b:=by
 refine ⟨?_,T.m_.imp fun c w=>(g.get _ (aD.mN w)).trans w,fun i hi=> ?_,fun i hi=>(aF g (aO (T.e_ i hi))).trans (T.e_ i hi)⟩
 ·obtain ⟨tk,v2,w⟩:=T.t_
  exact ⟨tk,v2,(aF g (aO w)).trans w⟩
 ·obtain ⟨vc,vu,w,k⟩:=T.d_ i hi
  exact ⟨vc,vu,(aF g (aO w)).trans w,k⟩
theorem Tb.at (Γ:Tb) (tk:Tk) {i:Nat} (hi:i<Γ.n):pT 1 (.sl tk Γ.xs) (.int .i64 (i:Nat))= .ok (.ep [.ptr (Γ.loc i) 0] 0):=
 oX (.sl tk _) (by simp [Tb.xs,hi]) rfl
section
variable {D:DS} (k:D.Ok) (b:Bool) (vc vu:AV) (off cl:Int)
include k
theorem sX:∃s vp vd ve hb vi vx kk vn vs vq vy,D.dc=[.str s,vp,vd,ve,.bool hb,vi,vx]∧D.oc=[.int .i64 kk,vn,vs,vq,vy]∧RVs ((BT D.pd).map Part.exp) vp∧RVs ((aU D.pd).map Part.decl) vd∧kk=iR D.ow∧iP vn ((fR D.ow).map AV.str):=by
 obtain ⟨pd,ow,num,ar,dc,oc⟩:=D
 have h1:=k.rd
 have h2:=k.ro
 simp only at h1 h2
 cases h1 with|desc r1 r2 r3 r4 r5=>
 cases h2 with|decl s0 s1 s2 s3=>
 exact ⟨_,_,_,_,_,_,_,_,_,_,_,_,rfl,rfl,r1,r2,rfl,s0⟩
theorem HU:nth (bx D b vc vu off cl) 8=some (.int .i64 D.ar):=by
 obtain ⟨s,vp,vd,ve,hb,vi,vx,kk,vn,vs,vq,vy,e1,e2,_⟩:=sX k
 rw [bx,e1,e2];rfl
theorem nbx7:nth (bx D b vc vu off cl) 7=some (.int .i64 D.num):=by
 obtain ⟨s,vp,vd,ve,hb,vi,vx,kk,vn,vs,vq,vy,e1,e2,_⟩:=sX k
 rw [bx,e1,e2];rfl
theorem Si:nth (bx D b vc vu off cl) 14=some (.bool b):=by
 obtain ⟨s,vp,vd,ve,hb,vi,vx,kk,vn,vs,vq,vy,e1,e2,_⟩:=sX k
 rw [bx,e1,e2];rfl
theorem Fz:nth (bx D b vc vu off cl) 15=some vc:=by
 obtain ⟨s,vp,vd,ve,hb,vi,vx,kk,vn,vs,vq,vy,e1,e2,_⟩:=sX k
 rw [bx,e1,e2];rfl
theorem V1:nth (bx D b vc vu off cl) 16=some vu:=by
 obtain ⟨s,vp,vd,ve,hb,vi,vx,kk,vn,vs,vq,vy,e1,e2,_⟩:=sX k
 rw [bx,e1,e2];rfl
theorem Sh:nth (bx D b vc vu off cl) 17=some (.int .i64 off):=by
 obtain ⟨s,vp,vd,ve,hb,vi,vx,kk,vn,vs,vq,vy,e1,e2,_⟩:=sX k
 rw [bx,e1,e2];rfl
theorem V0:nth (bx D b vc vu off cl) 18=some (.int .i64 cl):=by
 obtain ⟨s,vp,vd,ve,hb,vi,vx,kk,vn,vs,vq,vy,e1,e2,_⟩:=sX k
 rw [bx,e1,e2];rfl
theorem Ye:∃vp,nth (bx D b vc vu off cl) 1=some vp∧RVs ((BT D.pd).map Part.exp) vp:=by
 obtain ⟨s,vp,vd,ve,hb,vi,vx,kk,vn,vs,vq,vy,e1,e2,r1,r2,_⟩:=sX k
 exact ⟨vp,by rw [bx,e1,e2];rfl,r1⟩
theorem FU:∃vd,nth (bx D b vc vu off cl) 2=some vd∧RVs ((aU D.pd).map Part.decl) vd:=by
 obtain ⟨s,vp,vd,ve,hb,vi,vx,kk,vn,vs,vq,vy,e1,e2,r1,r2,_⟩:=sX k
 exact ⟨vd,by rw [bx,e1,e2];rfl,r2⟩
theorem nbx9:nth (bx D b vc vu off cl) 9=some (.int .i64 (iR D.ow)):=by
 obtain ⟨s,vp,vd,ve,hb,vi,vx,kk,vn,vs,vq,vy,e1,e2,_,_,r3,_⟩:=sX k
 subst r3
 rw [bx,e1,e2];rfl
theorem V2:∃vn,nth (bx D b vc vu off cl) 10=some vn∧iP vn ((fR D.ow).map AV.str):=by
 obtain ⟨s,vp,vd,ve,hb,vi,vx,kk,vn,vs,vq,vy,e1,e2,_,_,_,r4⟩:=sX k
 exact ⟨vn,by rw [bx,e1,e2];rfl,r4⟩
end
def upF (Γ:Tb):Nat→Int→Int
 |0,a=>a
 |k+1,a=>if a<0 then a else upF Γ k (Γ.D a.toNat).ar
theorem D5 (Γ:Tb) (k:Nat) {a:Int} (h:a<0):upF Γ k a=a:=by cases k with|zero=>rfl|succ k=>simp only [upF,h,if_true]
theorem CL {Γ:Tb} (O:Γ.Ok):∀(k:Nat) {a:Int}, -1≤a∧a<(Γ.n:Int)→ -1≤upF Γ k a∧upF Γ k a≤a
 |0,a,h=>⟨h.1,Int.le_refl _⟩
 |k+1,a,h=>by
  simp only [upF]
  split
  ·exact ⟨h.1,Int.le_refl _⟩
  ·have:=O.ar a.toNat om
   have:=CL O k (a:=(Γ.D a.toNat).ar) ⟨by omega,by omega⟩
   omega
theorem FZ (Γ:Tb):∀(k j:Nat) (a:Int),upF Γ (k+j) a=upF Γ j (upF Γ k a)
 |0,j,a=>by rw [Nat.zero_add];rfl
 |k+1,j,a=>by
  rw [show k+1+j=(k+j)+1 by omega]
  simp only [upF]
  split
  ·rename_i h;rw [D5 Γ j h]
  ·exact FZ Γ k j _
theorem BD {Γ:Tb} (O:Γ.Ok):∀(k:Nat) {a:Int}, -1≤a∧a<(Γ.n:Int)→0≤upF Γ k a→upF Γ k a+k≤a
 |0,a,_,_=>by simp [upF]
 |k+1,a,h,hp=>by
  simp only [upF] at hp⊢
  split at hp
  ·omega
  ·rename_i hn
   rw [if_neg hn]
   have:=O.ar a.toNat om
   have:=BD O k (a:=(Γ.D a.toNat).ar) ⟨by omega,by omega⟩ hp
   omega
theorem Om (H:Has fns orc) {Γ:Tb} (O:Γ.Ok) {S:Nat→DY} {h:aD} (T:TB Γ S h) {a:Int} (ha: -1≤a∧a<(Γ.n:Int)) {k:Nat} (hk:k<1000000000):
  Ev fns orc (.call 43 [.ptr Γ.tb 0,.int .i64 a,.int .i64 (k:Nat)] .plain h) (.call (.ret (.int .i64 (upF Γ k a))) .plain h):=by
 obtain ⟨tk,v2,tT⟩:=T.t_
 have key:∀j i a,i+j=k→ -1≤a∧a<(Γ.n:Int)→∃n ts,(∀m,n≤m→cG (eval fns orc m) 43 none (.loop p43x10100) ⟨[(0,.ptr Γ.tb 0),(1,.int .i64 a),(7,.int .i64 (k:Nat)),(8,.int .i64 (i:Nat))],[],.plain,h⟩=
   .ok (.code (.exit 0) ⟨ts,[],.plain,h⟩))∧cH ts 1= .int .i64 (upF Γ j a):=by
  intro j
  induction j with
  |zero=>
   intro i a hi ha
   have d:decide ((i:Int)<(k:Int))=false:=dF om
   refine ⟨0, ?ts0,fun m _=> ?bU0, ?tU0⟩
   case bU0=>
    exact SX (cj2 d @aI)
   case tU0=>rfl
  |succ j ih=>
   intro i a hi ha
   have d:decide ((i:Int)<(k:Int))=true:=dT om
   by_cases c:a<0
   ·have dc:decide (a<0)=true:=dT c
    refine ⟨0, ?ts1,fun m _=> ?bU1, ?tU1⟩
    case bU1=>
     exact SX (cj3 d dc @aI)
    case tU1=>rw [D5 Γ _ c];rfl
   ·have dc:decide (a<0)=false:=dF c
    obtain ⟨an,rfl⟩:∃an:Nat,a=(an:Int):=⟨a.toNat,by omega⟩
    have hlt:an<Γ.n:=om
    have ra:=O.ar an hlt
    obtain ⟨n,ts,e,t⟩:=ih (i+1) (Γ.D an).ar om ⟨by omega,by omega⟩
    obtain ⟨vc,vu,hb,_⟩:=T.d_ an hlt
    have n8:=HU (O.ok an hlt) (S an).busy vc vu (S an).off (S an).cl
    have hia:=Γ.at tk hlt
    refine ⟨n+1,ts,fun m hm=> ?bU2, ?tU2⟩
    case bU2=>
     obtain ⟨m,rfl⟩:∃q,m=q+1:=⟨m -1,by omega⟩
     have e' :=e m om
     rw [aI]
     simp -implicitDefEqProofs (disch:=(first|omega|(simp only [aD.aJ,aD.aL];try omega)|skip)) only [d,dc,tT,hia,hb,n8,fE,fG,dV,cT,dU,cS,fF,dR,gV,eQ,aM,dJ,iJ,opA,qS,kE,qT,pL,rJ,sB,dG,gU,fP,qM,mC,iZ,gJ,mK,dM,eZ,Nat.beq,lS,mH,eE,vl,rH,eY,eW,dW,fK,fH,fI,bY,iG,iD,cV,fL,fJ,bZ,iE,cU,cX,dA,cW,fM,dL,eT,eU,bP,iB,gZ,cK,eX,eV,bQ,iA,cJ,cP,cQ,cM,eS,dO,aY,dH,aZ,fB,bV,bR,bW,bT,dP,fD,kE,eN,kL,aT,aV,fO,gX,List.drop_zero,List.drop_succ_cons,rS,oEq,eqA,pR,ki,eP,eH,oneOf,iC,jH,mU,called,List.append_eq,List.nil_append,List.cons_append,List.append_assoc,Nat.zero_add,Nat.add_zero,kN,lK,aQ,aE,aD.aJ,aD.aL,List.length_cons,List.length_nil,Bool.and_true,Bool.true_and,List.all_cons,List.all_nil,bJ,cF,bK,bI,fA,Nat.reduceAdd,Nat.reduceEqDiff,Nat.reduceBEq,ite_true,ite_false,if_true,if_false,iQ,kH,jE,iK,iN,dK,iI,decide_eq_true_eq,decide_true,decide_false,qV,intArith,Int.ofNat_zero,reduceCtorEq,Bool.not_true,Bool.not_false,Bool.false_eq_true,Int.reduceEq,Int.reduceAdd,Int.zero_add,Int.add_zero,lZ,dQ,cR,oG,oI,oJ,oK,kR,iM,qE,iL,jA,qD,iW,jO,iY,pH,fU,eJ,eK,eL,fS,kK,lT,pK,mJ,jU,iV,List.reverse_cons,List.reverse_nil,oS,dD,dZ,dC,eD,bM,jB,jN,kZ,eO,qO,oMx,lE,jT,vF,lD,jN,kZ,kE,eN,evO,mZ,jL,mX,lH,lQ,oF,oE,gH,fX,dY,iU,uF,dD,dZ,dC,eD,bM,vG,tP,bound,vl,eqA,jC,Int.reduceLE,Int.reduceLT,kJ,jM,iS,aG,aK,dB,aR,kO,iO,jP,kM,lU,takeN,cI,jJ,jQ,iX,eM,gS,fQ,jR,kU,gN,KF,KG]
     rw [sH (n:=k) om om]
     exact e'
    case tU2=>
     rw [t]
     simp only [upF,c,if_false]
     rfl
 obtain ⟨n,ts,e,t⟩:=key k 0 a om ha
 refine Ev.call H.f43 H.o43 ⟨n,fun m hm=> ?bU⟩
 case bU=>
  have e' :=e m hm
  simp only [Int.ofNat_zero] at e'
  exact SX (cj3 @a43.eq_1 e' t)
end Go.Ly
namespace Go.Ly
open Go Go.Am Go.Fs Go.Gn
variable {fns:Go.Am.F} {orc:Orc}
def Ul (c:List Nat) (n:Nat) (x:List AV):Prop:=∃q d:Nat,n+q+1=c.length∧c[q]? =some d∧x=[.int .i64 (q:Nat),.int .i64 (d:Nat)]
theorem OM (H:Has fns orc) (v:AV) (h:aD) (hv:v.cells=[v]) (hk:v.known=true) (m:Nat) (hm:2≤m):eval fns orc m (.call 46 [v] .plain h)= .ok (.call (.ret (.fn 69 [] [.ptr h.next 0])) .plain (h.push (.cells [v]))):=
 fW (n:=0) H.f46 H.o46 (fun m _=>by
  exact SX (cj3 @a46.eq_1 hv hk)) m hm
theorem Lm {c:List Nat} {vc:AV} (hc:iP vc (ints c)) (hn:c.length<1000000000) {l b:Nat} {I:Nat→(Nat→Prop)→aD→Prop} {D:(Nat→Prop)→aD→Prop} (F:FO fns orc l (Ul c) I D) {P:Nat→Prop} (hb:P b):
  ∀(k n:Nat) (h:aD),n+k=c.length→(∀j,P j→j<h.next)→cont h b=some [vc]→I n P h→
   ∃h' e s,Ev fns orc (.code 69 none (.loop p69x100) ⟨[(0,.yield l),(1,.ptr b 0),(3,.int .i64 ((k:Nat) -1:Int))],[],.plain,h⟩) (.code e s)∧
    (e= .exit 0∨e= .ret)∧s.heap=h' ∧s.defers=[]∧s.rc= .plain∧Kept P h h' ∧(I c.length P h' ∨D P h'):=by
 intro k
 induction k with
 |zero=>
  intro n h hi hP hbb hI
  have e:n=c.length:=om
  have hd:decide (0≤(((0:Nat):Int) -1))=false:=rfl
  refine ⟨h,.exit 0, ?s0,Ev.code ⟨0,fun m _=> ?b0⟩,.inl rfl, ?e1, ?e2, ?e3,.refl _ _,.inl (by rw [←e];exact hI)⟩
  case b0=>
   exact SX (cj2 hd @aI)
  case e1=>rfl
  case e2=>rfl
  case e3=>rfl
 |succ k ih=>
  intro n h hi hP hbb hI
  have hlt:k<c.length:=om
  have hd:decide (0≤(((k+1:Nat):Int) -1))=true:=dT om
  have ek:((k+1:Nat):Int) -1=(k:Nat):=om
  have hia:=oX hc (i:=k) (v:= .int .i64 (c[k]:Nat)) (by simp [ints,hlt]) rfl
  obtain ⟨hC,b',⟨n2,e2⟩,kC,hI1,hD1⟩:=F.rnd n [.int .i64 (k:Nat),.int .i64 (c[k]:Nat)] ⟨k,c[k],by omega,List.getElem?_eq_getElem hlt,rfl⟩ P h hP hI
  rw [ek] at hd⊢
  cases b' with
  |false=>
   refine ⟨hC,.ret, ?s1,Ev.code ⟨n2,fun m hm=> ?b1⟩,.inr rfl, ?e11, ?e12, ?e13,kC,.inr (hD1 rfl)⟩
   case b1=>
    have e2' :=e2 m om
    exact SX (cj5 hd hbb hia e2' @aI)
   case e11=>rfl
   case e12=>rfl
   case e13=>rfl
  |true=>
   obtain ⟨h',e,s,⟨n3,e3⟩,hx1,hx2,hx3,hx4,kr,hID⟩:=ih (n+1) hC om (fun j hj=>Nat.lt_of_lt_of_le (hP j hj) kC.next) ((aH (kC.get b hb)).trans hbb) (hI1 rfl)
   refine ⟨h',e,s,Ev.code ⟨max n2 n3,fun m hm=> ?b2⟩,hx1,hx2,hx3,hx4,kC.trans kr,hID⟩
   case b2=>
    have e2' :=e2 m om
    have e3' :=e3 m om
    have w:IntKind.wrap .i64 ((k:Int) -1)=(k:Int) -1:=pE om om
    exact SXe (cj6 hd hbb hia e2' w @aI) e3'
theorem Ll (H:Has fns orc) {c:List Nat} {vc:AV} (hc:iP vc (ints c)) (hn:c.length<1000000000) {b:Nat} {P:Nat→Prop} {h0:aD} (hb:P b) (h1:cont h0 b=some [vc]):EK fns orc 69 [.ptr b 0] (Ul c) c.length P h0:=by
 intro h l I D hk hP F hI
 have h1' :cont h b=some [vc]:=(aH (hk.get b hb)).trans h1
 have hlen:nJ h .sl vc= .ok c.length:=by rw [bO hc h];simp [ints]
 obtain ⟨h',e,s,⟨n,uB⟩,he,hh,hd,hrc,kr,hID⟩:=Lm hc hn F hb c.length 0 h om hP h1' hI
 obtain ⟨ts,ds,rc,hp⟩:=s
 cases hh
 cases hd
 cases hrc
 refine ⟨hp,Ev.call H.f69 H.o69 ⟨n,fun m hm=> ?_⟩,kr,hID⟩
 have e1:cG (eval fns orc m) 69 none (.loop p69x100) _=_:=uB (m+1) om
 have w:IntKind.wrap .i64 ((c.length:Int) -1)=(c.length:Int) -1:=pE om om
 rcases he with rfl|rfl
 ·exact SX (cj5 @a69.eq_1 h1' hlen w e1)
 ·exact SX (cj5 @a69.eq_1 h1' hlen w e1)
def Ext (S S' :Nat→DY):Prop:=∀i,S' i=S i∨((S i).ch=none∧(S i).busy=false∧(S' i).ch≠none∧(S' i).busy=false)
theorem Ext.refl (S:Nat→DY):Ext S S:=fun _=> .inl rfl
theorem Ext.kY {S S' :Nat→DY} (e:Ext S S') {i:Nat} (h:(S i).ch≠none):S' i=S i:=by
 rcases e i with q|⟨q,_⟩
 ·exact q
 ·exact absurd q h
theorem Ext.trans {A B C:Nat→DY} (h:Ext A B) (k:Ext B C):Ext A C:=by
 intro i
 rcases h i with q|⟨q1,q2,q3,q4⟩
 ·rcases k i with w|⟨w1,w2,w3,w4⟩
  ·exact .inl (w.trans q)
  ·rw [q] at w1 w2
   exact .inr ⟨w1,w2,w3,w4⟩
 ·have w:=k.kY q3
  exact .inr ⟨q1,q2,by rw [w];exact q3,by rw [w];exact q4⟩
def opn (S:Nat→DY):Nat→Nat
 |0=>0
 |n+1=>opn S n+(if (S n).ch=none∧(S n).busy=false then 1 else 0)
theorem zG {S S' :Nat→DY} (e:Ext S S'):∀n,opn S' n≤opn S n
 |0=>Nat.le_refl _
 |n+1=>by
  have:=zG e n
  simp only [opn]
  rcases e n with q|⟨q1,q2,q3,q4⟩
  ·rw [q];omega
  ·rw [if_neg (fun w=>q3 w.1),if_pos ⟨q1,q2⟩];omega
def EY (Γ:Tb) (s:List UInt8) (c:List Nat):Nat→Option (Nat×Nat×Nat)
 |0=>none
 |q+1=>match c[q]? with
  |some d=>match pN (aU (Γ.D d).pd) s with
   |some (i,k)=>some (q,i,k)
   |none=>EY Γ s c q
  |none=>EY Γ s c q
def uW (Γ:Tb) (s:List UInt8) (c:List Nat):Option (Nat×Nat×Nat):=EY Γ s c c.length
theorem CP {Γ:Tb} {s:List UInt8} {c:List Nat}:∀{n q i k:Nat},EY Γ s c n=some (q,i,k)→q<n∧(∃d,c[q]? =some d∧pN (aU (Γ.D d).pd) s=some (i,k))∧∀(q' d:Nat),q<q' →q' <n→c[q']? =some d→pN (aU (Γ.D d).pd) s=none
 |0,q,i,k,h=>by cases h
 |n+1,q,i,k,h=>by
  simp only [EY] at h
  have later:EY Γ s c n=some (q,i,k)→(∀d,c[n]? =some d→pN (aU (Γ.D d).pd) s=none)→q<n+1∧(∃d,c[q]? =some d∧pN (aU (Γ.D d).pd) s=some (i,k))∧∀(q' d:Nat),q<q' →q' <n+1→c[q']? =some d→pN (aU (Γ.D d).pd) s=none:=by
   intro h hn
   obtain ⟨h1,h2,h3⟩:=CP h
   refine ⟨by omega,h2,fun q' d a b hd=> ?_⟩
   by_cases e:q' =n
   ·subst e;exact hn d hd
   ·exact h3 q' d a om hd
  cases hd:c[n]? with
  |none=>
   rw [hd] at h
   exact later h (fun d w=>by rw [hd] at w;cases w)
  |some d=>
   rw [hd] at h
   simp only at h
   cases hf:pN (aU (Γ.D d).pd) s with
   |none=>
    rw [hf] at h
    exact later h (fun e w=>by rw [hd] at w;cases w;exact hf)
   |some x=>
    obtain ⟨i',k'⟩:=x
    rw [hf] at h
    cases h
    exact ⟨by omega,⟨d,hd,hf⟩,fun q' d a b=>by omega⟩
def Ac (Γ:Tb) (S:Nat→DY) (s:List UInt8) (a:Int) (l:Nat):Prop:=∀w:Nat,upF Γ l a=(w:Int)→∃c u,(S w).ch=some (c,u)∧uW Γ s c=none
theorem Ac.ext {Γ:Tb} {S S' :Nat→DY} {s:List UInt8} {a:Int} {l:Nat} (e:Ext S S') (k:Ac Γ S s a l):Ac Γ S' s a l:=by
 intro w hw
 obtain ⟨c,u,h1,h2⟩:=k w hw
 exact ⟨c,u,by rw [e.kY (by rw [h1];simp)];exact h1,h2⟩
def B9 (Γ:Tb) (S:Nat→DY) (s:List UInt8) (a:Int) (lv q i k:Nat):Prop:=
 (∃w c u,upF Γ lv a=((w:Nat):Int)∧w<Γ.n∧(S w).ch=some (c,u)∧uW Γ s c=some (q,i,k))∧∀l,l<lv→Ac Γ S s a l
def Ov:pO→Int| .mk k _ _ _ _ _ _ _=>k
def KK:pO→List UInt8| .mk _ _ _ _ _ t _ _=>t
def HT:List UInt8:=[111,98,106,101,99,116]
def Le (S S' :Nat→DY):Prop:=∀i,(S i).ch≠none→S' i=S i
theorem Ext.le {S S' :Nat→DY} (e:Ext S S'):Le S S' :=fun _ h=>e.kY h
theorem Le.ch {S S' :Nat→DY} (e:Le S S') {i:Nat} {x:List Nat×List Nat} (h:(S i).ch=some x):(S' i).ch=some x:=by rw [e i (by rw [h];simp)];exact h
def ThR (Γ:Tb) (o i v:Nat):Prop:=v<Γ.n∧∃j,findKey (.cells [.int,.int]) (key o i) Γ.es 0= .ok (some (j,AV.int .i64 (v:Nat)))
theorem ThR.uniq {Γ:Tb} {o i v v' :Nat} (h:ThR Γ o i v) (h' :ThR Γ o i v'):v=v' :=by
 obtain ⟨_,j,e⟩:=h
 obtain ⟨_,j',e'⟩:=h'
 rw [e] at e'
 injection e' with q
 injection q with q
 injection q with _ q
 injection q with _ q
 omega
abbrev Tg:=Option (Nat×Nat×Nat)
def CH (Γ:Tb) (S:Nat→DY) (a:Int) (e:pO) (t:Tg):Prop:=Ov e=8∧
 ((t=none∧KK e=HT∧∀l,Ac Γ S (KK e) a l)∨∃lv q i k w c u o d v,B9 Γ S (KK e) a lv q i k∧upF Γ lv a=((w:Nat):Int)∧(S w).ch=some (c,u)∧c[q]? =some o∧o<Γ.n∧(aU (Γ.D o).pd)[i]? =some d∧iR d=1∧ThR Γ o i v∧t=some (v,lv,q))
def A1 (Γ:Tb) (s:List UInt8):List Nat→Nat→List Nat→List Nat
 |[],_,acc=>acc
 |d::r,q,acc=>A1 Γ s r (q+1) (match pN (aU (Γ.D d).pd) s with
  |none=>acc
  |some (i,_)=>match (aU (Γ.D d).pd)[i]? with
   |none=>acc
   |some x=>if iR x=2 then [q] else if (iR x=3∨iR x=4)∧acc≠[] then acc++[q] else acc)
def pV (Γ:Tb) (s:List UInt8) (c:List Nat):List Nat:=A1 Γ s c 0 []
def AP (Γ:Tb) (S:Nat→DY) (c:List Nat) (q:Nat) (s:List UInt8) (t:Tg):Prop:=
 ∃o i k d,c[q]? =some o∧o<Γ.n∧pN (aU (Γ.D o).pd) s=some (i,k)∧(aU (Γ.D o).pd)[i]? =some d∧
  (((qP d).length=1∧∃v,ThR Γ o i v∧t=some (v,0,q))∨((qP d).length≠1∧∃e,(wM d)[0]? =some e∧CH Γ S (o:Int) e t))
def HH (Γ:Tb) (S:Nat→DY) (a:Int) (lv pt lv' pt' :Nat):Prop:=
 ∃w c u k t w' c' u',upF Γ lv a=((w:Nat):Int)∧(S w).ch=some (c,u)∧c[pt]? =some k∧u[pt]? =some t∧lv' =lv+1+t∧upF Γ lv' a=((w' :Nat):Int)∧(S w').ch=some (c',u')∧vJ (fun x:Nat=>decide ((Γ.D k).ar=(x:Int))) c' =some pt'
def vY (Γ:Tb) (S:Nat→DY) (a:Int):Nat→Nat→Nat→Nat→Nat→Prop
 |0,lv,pt,lv',pt' =>lv' =lv∧pt' =pt
 |n+1,lv,pt,lv',pt' =>∃l p,HH Γ S a lv pt l p∧vY Γ S a n l p lv' pt'
def D2 (Γ:Tb) (S:Nat→DY) (i:Nat) (t:Tg):Prop:=
 (∃e,BT (Γ.D i).pd=[e]∧(((Γ.D i).ar<0∧Ov e=8∧KK e=HT∧t=none)∨(0≤(Γ.D i).ar∧CH Γ S (Γ.D i).ar e t)))∨
 ((BT (Γ.D i).pd).length≠1∧¬(iR (Γ.D i).ow=3∨iR (Γ.D i).ow=4)∧t=none)∨
 ((BT (Γ.D i).pd).length≠1∧(iR (Γ.D i).ow=3∨iR (Γ.D i).ow=4)∧∃s a c u q t0,fR (Γ.D i).ow=[s]∧(Γ.D i).ar=((a:Nat):Int)∧(S a).ch=some (c,u)∧(pV Γ s c.dropLast).getLast? =some q∧AP Γ S c q s t0∧
  ((t0=none∧t=none)∨(∃v pt,t0=some (v,0,pt)∧t=t0)∨∃v lv pt lv' p,t0=some (v,lv,pt)∧0<lv∧vY Γ S (Γ.D i).ar lv 0 q lv' p∧t=some (v,lv',pt)))
section
variable {Γ:Tb} {S S' :Nat→DY} (e:Le S S')
include e
theorem Ac.le {s:List UInt8} {a:Int} {l:Nat} (k:Ac Γ S s a l):Ac Γ S' s a l:=fun w hw=>(k w hw).imp fun _ h=>h.imp fun _ h=>⟨e.ch h.1,h.2⟩
theorem B9.le {s:List UInt8} {a:Int} {lv q i k:Nat} (h:B9 Γ S s a lv q i k):B9 Γ S' s a lv q i k:=by
 obtain ⟨⟨w,c,u,h1,h2,h3,h4⟩,h5⟩:=h
 exact ⟨⟨w,c,u,h1,h2,e.ch h3,h4⟩,fun l hl=>(h5 l hl).le e⟩
theorem CH.le {a:Int} {x:pO} {t:Tg} (h:CH Γ S a x t):CH Γ S' a x t:=by
 obtain ⟨h0,⟨h1,h2,h3⟩|⟨lv,q,i,k,w,c,u,o,d,v,h1,h2,h3,h4⟩⟩:=h
 ·exact ⟨h0,.inl ⟨h1,h2,fun l=>(h3 l).le e⟩⟩
 ·exact ⟨h0,.inr ⟨lv,q,i,k,w,c,u,o,d,v,h1.le e,h2,e.ch h3,h4⟩⟩
theorem AP.le {c:List Nat} {q:Nat} {s:List UInt8} {t:Tg} (h:AP Γ S c q s t):AP Γ S' c q s t:=by
 obtain ⟨o,i,k,d,h1,h0,h2,h3,h4|⟨h4,x,h5,h6⟩⟩:=h
 ·exact ⟨o,i,k,d,h1,h0,h2,h3,.inl h4⟩
 ·exact ⟨o,i,k,d,h1,h0,h2,h3,.inr ⟨h4,x,h5,h6.le e⟩⟩
theorem HH.le {a:Int} {lv pt lv' pt' :Nat} (h:HH Γ S a lv pt lv' pt'):HH Γ S' a lv pt lv' pt' :=by
 obtain ⟨w,c,u,k,t,w',c',u',h1,h2,h3,h4,h5,h6,h7,h8⟩:=h
 exact ⟨w,c,u,k,t,w',c',u',h1,e.ch h2,h3,h4,h5,h6,e.ch h7,h8⟩
theorem vY.le {a:Int}:∀{n lv pt lv' pt' :Nat},vY Γ S a n lv pt lv' pt' →vY Γ S' a n lv pt lv' pt'
 |0,_,_,_,_,h=>h
 |_+1,_,_,_,_,⟨l,p,h1,h2⟩=>⟨l,p,h1.le e,h2.le⟩
theorem D2.le {i:Nat} {t:Tg} (h:D2 Γ S i t):D2 Γ S' i t:=by
 rcases h with ⟨x,h1,h2|⟨h2,h3⟩⟩|h|⟨h1,h2,s,a,c,u,q,t0,h3,h4,h5,h6,h7,h8⟩
 ·exact .inl ⟨x,h1,.inl h2⟩
 ·exact .inl ⟨x,h1,.inr ⟨h2,h3.le e⟩⟩
 ·exact .inr (.inl h)
 ·refine .inr (.inr ⟨h1,h2,s,a,c,u,q,t0,h3,h4,e.ch h5,h6,h7.le e, ?_⟩)
  rcases h8 with h8|h8|⟨v,lv,pt,lv',p,g1,g2,g3,g4⟩
  ·exact .inl h8
  ·exact .inr (.inl h8)
  ·exact .inr (.inr ⟨v,lv,pt,lv',p,g1,g2,g3.le e,g4⟩)
end
def xW (k:Int):Bool:=decide (k=5∨k=6∨k=7∨k=8∨k=9)
def lB (l:List kV):Nat:=(l.map fun d=>if xW (iR d) then (fR d).length else 0).sum
def Pl (Γ:Tb) (S:Nat→DY) (a:Int) (lv:Nat) (pt:Nat) (t:Int):Prop:=
 ∃w c u,upF Γ lv a=((w:Nat):Int)∧w<Γ.n∧(S w).ch=some (c,u)∧∃k:Nat,c[pt]? =some k∧(k:Int)=t
structure WFi (Γ:Tb) (S:Nat→DY) (i:Nat) (c u:List Nat):Prop where
 len:u.length=c.length
 max:c.length≤40
 ub:∀x∈u,x<10000000
 cl:(S i).cl=(lB (aU (Γ.D i).pd):Nat)
 R4:0≤(S i).off∧(S i).off+10000000≤10000000*(c.length:Int)
 shape:∃t,D2 Γ S i t∧((t=none∧c=[i]∧u=[0]∧(S i).off=0)∨∃x lv pt cx ux u0,t=some (x,lv,pt)∧x<Γ.n∧(S x).ch=some (cx,ux)∧c=cx++[i]∧u=u0++[0]∧i∉cx∧(S i).off=(S x).off+(S x).cl∧u0.length=cx.length∧0≤(Γ.D i).ar∧
  (∀(q n:Nat),ux[q]? =some n→∃l p,u0[q]? =some l∧vY Γ S (Γ.D i).ar n lv pt l p)∧
  ∀(q:Nat) k t,cx[q]? =some k→u0[q]? =some t→∃w c' u' r,upF Γ t (Γ.D i).ar=((w:Nat):Int)∧w<Γ.n∧(S w).ch=some (c',u')∧(Γ.D k).ar=((r:Nat):Int)∧r∈c')
def WF (Γ:Tb) (S:Nat→DY):Prop:=∀i,i<Γ.n→∀c u,(S i).ch=some (c,u)→WFi Γ S i c u
theorem Pl.ext {Γ:Tb} {S S' :Nat→DY} (e:Ext S S') {a:Int} {lv pt:Nat} {t:Int} (p:Pl Γ S a lv pt t):Pl Γ S' a lv pt t:=by
 obtain ⟨w,c,u,h1,h2,h3,h4⟩:=p
 exact ⟨w,c,u,h1,h2,by rw [e.kY (by rw [h3];simp)];exact h3,h4⟩
theorem WFi.le {Γ:Tb} {S S' :Nat→DY} (e:Le S S') {i:Nat} {c u:List Nat} (hi:(S i).ch≠none) (p:WFi Γ S i c u):WFi Γ S' i c u:=by
 obtain ⟨t,ha,hs⟩:=p.shape
 refine ⟨p.len,p.max,p.ub,by rw [e i hi];exact p.cl,by rw [e i hi];exact p.R4,t,ha.le e, ?_⟩
 rw [e i hi]
 rcases hs with h|⟨x,lv,pt,cx,ux,u0,h0,h1,h2,h3,h4,h5,h6,h7,h8,h9,h10⟩
 ·exact .inl h
 ·refine .inr ⟨x,lv,pt,cx,ux,u0,h0,h1,e.ch h2,h3,h4,h5, ?_,h7,h8,fun q n w=> ?_,fun q k t a b=> ?_⟩
  ·rw [e x (by rw [h2];simp)];exact h6
  ·obtain ⟨l,p,g1,g2⟩:=h9 q n w
   exact ⟨l,p,g1,g2.le e⟩
  ·obtain ⟨w,c',u',r,g1,g2,g3,g4,g5⟩:=h10 q k t a b
   exact ⟨w,c',u',r,g1,g2,e.ch g3,g4,g5⟩
theorem WFi.ext {Γ:Tb} {S S' :Nat→DY} (e:Ext S S') {i:Nat} {c u:List Nat} (hi:(S i).ch≠none) (p:WFi Γ S i c u):WFi Γ S' i c u:=p.le e.le hi
theorem WF.part {Γ:Tb} {S:Nat→DY} (W:WF Γ S):∀(n i:Nat) (c u:List Nat),c.length≤n→i<Γ.n→(S i).ch=some (c,u)→∀(q k:Nat),c[q]? =some k→k<Γ.n∧∃u',(S k).ch=some (c.take (q+1),u'):=by
 intro n
 induction n with
 |zero=>
  intro i c u hn hi hc q k hq
  have:c.length=0:=om
  rw [List.length_eq_zero_iff.1 this] at hq
  simp at hq
 |succ n ih=>
  intro i c u hn hi hc q k hq
  obtain ⟨t,_,⟨_,rfl,rfl,_⟩|⟨x,lv,pt,cx,ux,u0,_,h1,h2,rfl,rfl,_⟩⟩:=(W i hi c u hc).shape
  ·cases q with
   |zero=>simp at hq;subst hq;exact ⟨hi,[0],hc⟩
   |succ q=>simp at hq
  ·by_cases cq:q<cx.length
   ·rw [List.getElem?_append_left cq] at hq
    obtain ⟨g1,u',g2⟩:=ih x cx ux (by simp at hn;omega) h1 h2 q k hq
    refine ⟨g1,u', ?_⟩
    rw [List.take_append_of_le_length om]
    exact g2
   ·have e:q=cx.length:=by
     have:=(List.getElem?_eq_some_iff.1 hq).1
     simp at this
     omega
    subst e
    simp at hq
    subst hq
    refine ⟨hi,u0++[0], ?_⟩
    rw [List.take_of_length_le (by simp)]
    exact hc
theorem WF.last {Γ:Tb} {S:Nat→DY} (W:WF Γ S) {i:Nat} (hi:i<Γ.n) {c u:List Nat} (hc:(S i).ch=some (c,u)):∃c0,c=c0++[i]∧i∉c0:=by
 obtain ⟨t,_,⟨_,rfl,_⟩|⟨x,lv,pt,cx,ux,u0,_,h1,h2,rfl,_,h4,_⟩⟩:=(W i hi c u hc).shape
 ·exact ⟨[],rfl,by simp⟩
 ·exact ⟨cx,rfl,h4⟩
theorem tX {α:Type} {l:List α} {x:α} (h:x∈l):∃q:Nat,l[q]? =some x:=by
 obtain ⟨q,hq,rfl⟩:=List.getElem_of_mem h
 exact ⟨q,List.getElem?_eq_getElem hq⟩
def HF (fns:Go.Am.F) (orc:Orc) (Γ:Tb) (N:Nat):Prop:=∀S h (a:Nat),TB Γ S h→WF Γ S→opn S Γ.n≤N→a<Γ.n→
 Out fns orc (pJ Γ) (.call 38 [.ptr Γ.tb 0,.int .i64 (a:Nat)] .plain h) h fun v h' =>v= .ptr (Γ.loc a) 0∧∃S',Ext S S' ∧TB Γ S' h' ∧WF Γ S' ∧(S' a).ch≠none
theorem CC {c u:List Nat} {vc vu:AV} (h:ChV (some (c,u)) vc vu):∃tk,vc= .sl tk (ints c):=by
 obtain ⟨h1,h2,_⟩:=h
 generalize e:ints c=xs at h2
 cases h2 with
 |nil=>simp [ints] at e;exact absurd e h1
 |sl tk xs=>exact ⟨tk,rfl⟩
theorem xV (H:Has fns orc) {Γ:Tb} (O:Γ.Ok) {S:Nat→DY} {h:aD} (T:TB Γ S h) {a:Nat} (ha:a<Γ.n) (hc:(S a).ch≠none):Ev fns orc (.call 38 [.ptr Γ.tb 0,.int .i64 (a:Nat)] .plain h) (.call (.ret (.ptr (Γ.loc a) 0)) .plain h):=by
 obtain ⟨tk,v2,tT⟩:=T.t_
 obtain ⟨vc,vu,hb,hv⟩:=T.d_ a ha
 have n15:=Fz (O.ok a ha) (S a).busy vc vu (S a).off (S a).cl
 have hia:=Γ.at tk ha
 cases cc:(S a).ch with
 |none=>exact absurd cc hc
 |some x=>
  obtain ⟨c,u⟩:=x
  rw [cc] at hv
  obtain ⟨tk2,rfl⟩:=CC hv
  refine Ev.call H.f38 H.o38 ⟨0,fun m _=> ?b⟩
  case b=>
   exact SX (cj5 @a38.eq_1 tT hia hb n15)
end Go.Ly
namespace Go.Ly
open Go Go.Am Go.Fs Go.Gn
variable {fns:Go.Am.F} {orc:Orc}
theorem Tb.D3 (Γ:Tb) (tk:Tk):dX (.sl tk Γ.xs) (.sl tk Γ.xs)=true:=by
 have:∀l:List Nat,kQ (l.map fun i=>AV.ptr (Γ.loc i) 0) (l.map fun i=>AV.ptr (Γ.loc i) 0)=true:=by
  intro l
  induction l with
  |nil=>simp [kQ]
  |cons e l ih=>simp only [List.map_cons,eM,dZ,Nat.beq_refl,Bool.and_self,Bool.true_and,ih]
 simp only [dX,Tb.xs,this,vN,Bool.and_self]
theorem vH (tk:Tk) (c:List Nat):dX (.sl tk (ints c)) (.sl tk (ints c))=true:=by
 have:kQ (ints c) (ints c)=true:=by
  induction c with
  |nil=>simp [kQ,ints]
  |cons e l ih=>simp only [ints,List.map_cons,eM,dD,Bool.true_and];exact ih
 simp only [dX,this,vN,Bool.and_self]
def Ao (lv:Nat):Option (Nat×Nat×Nat)→AV
 |some (q,i,k)=> .tup [.agg [.int .i64 (lv:Nat),.int .i64 (q:Nat),.int .i64 (i:Nat),.int .i64 (k:Nat)],.bool true]
 |none=> .tup [.agg [.int .i64 0,.int .i64 0,.int .i64 0,.int .i64 0],.bool false]
theorem qB {D:DS} (k:D.Ok):(aU D.pd).length<10000000∧∀d∈aU D.pd,(fR d).length<10000000:=by
 have h:=k.nd
 cases hp:D.pd with|mk s pl dl el b il xl=>
 rw [hp,xD] at h
 have l:=BL (dl.map Part.decl)
 simp only [List.length_map] at l
 refine ⟨by simp only [aU];omega,fun d hd=> ?_⟩
 simp only [aU] at hd
 have h1:=tW (p:= .desc (.mk s pl dl el b il xl)) (q:= .decl d) (by simp only [Part.kids,List.mem_append,List.mem_map];exact .inl (.inl (.inl (.inr ⟨d,hd,rfl⟩))))
 have h2:=Cr (p:=d)
 rw [xD] at h1
 omega
theorem TB.lt {Γ:Tb} {S:Nat→DY} {h:aD} (T:TB Γ S h):Γ.tb<h.next∧Γ.mb<h.next∧∀i,pJ Γ i→i<h.next:=by
 obtain ⟨tk,v2,w⟩:=T.t_
 obtain ⟨c,m⟩:=T.m_
 refine ⟨aO w,aD.mN m, ?_⟩
 rintro i ⟨k,hk,rfl⟩
 obtain ⟨vc,vu,q,_⟩:=T.d_ k hk
 exact aO q
theorem TB.wH {Γ:Tb} {S:Nat→DY} {a b:aD} (T:TB Γ S a) (h:∀i,i<a.next→(i=Γ.tb∨i=Γ.mb∨pJ Γ i)→b.get i=a.get i):TB Γ S b:=by
 obtain ⟨l1,l2,l3⟩:=T.lt
 refine ⟨?_,T.m_.imp fun c w=>(h _ l2 (.inr (.inl rfl))).trans w,fun i hi=> ?_,fun i hi=>(aH (h _ (aO (T.e_ i hi)) (.inr (.inr ⟨i,hi,rfl⟩)))).trans (T.e_ i hi)⟩
 ·obtain ⟨tk,v2,w⟩:=T.t_
  exact ⟨tk,v2,(aH (h _ l1 (.inl rfl))).trans w⟩
 ·obtain ⟨vc,vu,w,k⟩:=T.d_ i hi
  exact ⟨vc,vu,(aH (h _ (aO w) (.inr (.inr ⟨i,hi,rfl⟩)))).trans w,k⟩
def yF:AC:=p26x10100
def sZ:AC:=p26x10101
def MbC (b6 b7:Nat) (Γ:Tb) (s:List UInt8) (c:List Nat) (n:Nat) (_:Nat→Prop) (hh:aD):Prop:=
 cont hh b6=some [.int .i64 0,.int .i64 0,.int .i64 0,.int .i64 0]∧cont hh b7=some [.bool false]∧uW Γ s c=EY Γ s c (c.length -n)
def MbD (b6 b7:Nat) (Γ:Tb) (s:List UInt8) (c:List Nat) (_:Nat→Prop) (hh:aD):Prop:=
 ∃q i k:Nat,cont hh b6=some [.int .i64 0,.int .i64 (q:Nat),.int .i64 (i:Nat),.int .i64 (k:Nat)]∧cont hh b7=some [.bool true]∧uW Γ s c=some (q,i,k)
theorem Jl (H:Has fns orc) {Γ:Tb} (O:Γ.Ok) {S:Nat→DY} {h:aD} (T:TB Γ S h) {s:List UInt8} {c:List Nat} (hc:∀k∈c,k<Γ.n) {b3 b5 b6 b7 bL:Nat} (t3:cont h b3=some [.ptr Γ.tb 0]) (t5:cont h b5=some [.str s]) (l6:b6<h.next) (l7:b7<h.next) (ne:b6≠b7∧b3≠b6∧b3≠b7∧b5≠b6∧b5≠b7∧b3≠bL∧b5≠bL∧b6≠bL∧b7≠bL)
  (sep:∀i,(i=Γ.tb∨i=Γ.mb∨pJ Γ i)→i≠b6∧i≠b7∧i≠bL) (lL:bL<h.next)
  {ts:fN} (hts:ts=[(3,.ptr b3 0),(5,.ptr b5 0),(6,.ptr b6 0),(7,.ptr b7 0),(18,.fn 69 [] [.ptr bL 0]),(19,.unk),(20,.unk)]):
  EN fns orc h ⟨.ready,none,26,ts,[19,20],yF,sZ,h.next⟩ (fun i=>i=bL) (fun i=>i=b6∨i=b7) (Ul c) (MbC b6 b7 Γ s c) (MbD b6 b7 Γ s c):=by
 rintro n x ⟨q,dd,hq,hd,rfl⟩ hh Fp o hF ⟨c6,c7,hm⟩
 have ho:=o.le
 have f3:cH ts 3= .ptr b3 0:=by rw [hts];rfl
 have f5:cH ts 5= .ptr b5 0:=by rw [hts];rfl
 have f6:cH ts 6= .ptr b6 0:=by rw [hts];rfl
 have f7:cH ts 7= .ptr b7 0:=by rw [hts];rfl
 have hdn:=hc dd (List.mem_of_getElem? hd)
 have gh:∀i,i<h.next→i≠bL→i≠b6→i≠b7→hh.get i=h.get i:=fun i h1 h2 h3 h4=>o.get i h1 h2 (fun w=>by rcases w with w|w;exact h3 w;exact h4 w)
 have Th:TB Γ S hh:=T.wH fun i hi w=>gh i hi (sep i w).2.2 (sep i w).1 (sep i w).2.1
 have r3:cont hh b3=some [.ptr Γ.tb 0]:=(aH (gh b3 (aO t3) ne.2.2.2.2.2.1 ne.2.1 ne.2.2.1)).trans t3
 have r5:cont hh b5=some [.str s]:=(aH (gh b5 (aO t5) ne.2.2.2.2.2.2.1 ne.2.2.2.1 ne.2.2.2.2.1)).trans t5
 have k3:=aO t3
 have k5:=aO t5
 have lo1:jG hh (h.next+1)= .ok ⟨.ready,none,26,ts,[19,20],yF,sZ,h.next⟩:=by simp only [jG,o.loop]
 obtain ⟨hZ,hZe⟩:∃x,x=hh.set (h.next+1) (.loop ⟨.busy,none,26,ts,[19,20],yF,sZ,h.next⟩):=⟨_,rfl⟩
 have nZ:hZ.next=hh.next:=by rw [hZe];simp
 have oZ:∀i,i≠h.next+1→hZ.get i=hh.get i:=fun i hi=>by rw [hZe];exact aE _ _ _ _ om hi
 have zL:hZ.get (h.next+1)=some (.loop ⟨.busy,none,26,ts,[19,20],yF,sZ,h.next⟩):=by rw [hZe];exact aQ _ _ _ om
 obtain ⟨hQ,hQe⟩:∃x,x=hZ.push (.cells [.int .i64 0,.int .i64 0,.int .i64 0,.int .i64 0]):=⟨_,rfl⟩
 have gQ:aP hZ hQ:=by rw [hQe];exact gw2
 have nQ:hQ.next=hh.next+1:=by rw [hQe];simp [nZ]
 have xQ:hQ.get hh.next=some (.cells [.int .i64 0,.int .i64 0,.int .i64 0,.int .i64 0]):=by rw [hQe];exact aT _ _ _ om om
 have oQ:∀i,i<hh.next→i≠h.next+1→hQ.get i=hh.get i:=fun i h1 h2=>(gQ.get i om).trans (oZ i h2)
 have ltT:=T.lt
 have TQ:TB Γ S hQ:=Th.wH fun i hi w=>oQ i hi (by rcases w with rfl|rfl|w;have:=ltT.1;omega;have:=ltT.2.1;omega;have:=ltT.2.2 i w;omega)
 have q3:cont hQ b3=some [.ptr Γ.tb 0]:=(aH (oQ b3 om om)).trans r3
 have q5:cont hQ b5=some [.str s]:=(aH (oQ b5 om om)).trans r5
 obtain ⟨tk,v2,tQ⟩:=TQ.t_
 obtain ⟨vc,vu,hb,hv⟩:=TQ.d_ dd hdn
 obtain ⟨vd,n2,rvd⟩:=FU (O.ok dd hdn) (S dd).busy vc vu (S dd).off (S dd).cl
 have hia:=Γ.at tk hdn
 have tH:cont hh Γ.tb=some [.sl tk Γ.xs,.map Γ.mb,v2]:=(aH (oQ _ (by have:=ltT.1;omega) (by have:=ltT.1;omega))).symm.trans tQ
 have bH:cont hh (Γ.loc dd)=some (bx (Γ.D dd) (S dd).busy vc vu (S dd).off (S dd).cl):=(aH (oQ _ (by have:=ltT.2.2 _ ⟨dd,hdn,rfl⟩;omega) (by have:=ltT.2.2 _ ⟨dd,hdn,rfl⟩;omega))).symm.trans hb
 obtain ⟨bn1,bn2⟩:=qB (O.ok dd hdn)
 obtain ⟨hR,gR,n1,e1⟩:=zW H rvd bn1 bn2 s hb n2
 have nR:=gR.next
 have xR:hR.get hh.next=some (.cells [.int .i64 0,.int .i64 0,.int .i64 0,.int .i64 0]):=(gR.get _ om).trans xQ
 have xRc:=AY xR
 have oR:∀i,i<hh.next→i≠h.next+1→hR.get i=hh.get i:=fun i h1 h2=>(gR.get i om).trans (oQ i h1 h2)
 have c6R:=(aH (oR b6 om om)).trans c6
 have c7R:=(aH (oR b7 om om)).trans c7
 have lR:hR.get (h.next+1)=some (.loop ⟨.busy,none,26,ts,[19,20],yF,sZ,h.next⟩):=((gR.get _ om).trans (gQ.get _ om)).trans zL
 have z2:allEq (Me CY) [.int .i64 0,.int .i64 0,.int .i64 0,.int .i64 0] [.int .i64 0,.int .i64 0,.int .i64 0,.int .i64 0]=true:=rfl
 have ep:(c.length -n)=q+1:=om
 rw [ep] at hm
 simp only [EY,hd] at hm
 cases cd:pN (aU (Γ.D dd).pd) s with
 |none=>
  rw [cd] at hm e1
  obtain ⟨hT,hTe⟩:∃x,x=hR.set hh.next (.cells [.int .i64 0,.int .i64 0,.int .i64 0,.int .i64 0]):=⟨_,rfl⟩
  have sT:kG hR 4 (.ptr hh.next 0) (.agg [.int .i64 0,.int .i64 0,.int .i64 0,.int .i64 0])= .ok hT:=by
   rw [hTe]
   simp only [iS,xRc,iO,AV.cells,List.length_cons,List.length_nil,List.all_cons,List.all_nil,bJ,cI]
   rfl
  have nT:hT.next=hR.next:=by rw [hTe];simp
  have oT:∀i,i<hh.next→i≠h.next+1→hT.get i=hh.get i:=fun i h1 h2=>by rw [hTe,aE _ _ _ _ om om];exact oR i h1 h2
  have xT:hT.get hh.next=some (.cells [.int .i64 0,.int .i64 0,.int .i64 0,.int .i64 0]):=by rw [hTe];exact aQ _ _ _ om
  have lo2:jG hT (h.next+1)= .ok ⟨.busy,none,26,ts,[19,20],yF,sZ,h.next⟩:=by
   have:hT.get (h.next+1)=some (.loop ⟨.busy,none,26,ts,[19,20],yF,sZ,h.next⟩):=by rw [hTe];exact (aE _ _ _ _ om om).trans lR
   simp only [jG,this]
  refine ⟨true,hT.set (h.next+1) (.loop ⟨.ready,none,26,ts,[19,20],yF,sZ,h.next⟩),fun _=>False,Ev.round o.loop rfl ⟨n1,fun m hm=> ?b1⟩,by simp;omega,
   fun i h1 _ h2 h3' =>(aE _ _ _ _ om h3').trans (oT i h1 h3'),fun i w=>w.elim,fun _=>⟨⟨?x6, ?x7, ?xm⟩,aQ _ _ _ om⟩,(by intro w;cases w)⟩
  case x6=>rw [aK om om];exact (aH (oT b6 om om)).trans c6
  case x7=>rw [aK om om];exact (aH (oT b7 om om)).trans c7
  case xm=>rw [hm];rw [show c.length -(n+1)=q by omega]
  case b1=>
   have e1' :=e1 m hm
   simp only [yF,sZ] at lo1 hZe lo2
   simp only [AQ] at e1'
   exact SS (dI @Tb.D3 @uI.eq_1 @iT.eq_1 @iT.eq_2 @yF.eq_1 @sZ.eq_1 f3 f5 f6 f7 lo1 (Eq.symm hZe) (Eq.symm hQe) nZ q3 tQ (dI hia q5 r3 r5 tH bH e1' xQ xR z2 sT @iV.eq_1 @iV.eq_2 lo2 @aN.eq_1 @aN.eq_2 (cj5 @aN.eq_3 @aN.eq_4 @aN.eq_5 @oV.eq_1 @endRound.eq_1)))
 |some x=>
  obtain ⟨i,k⟩:=x
  rw [cd] at hm e1
  obtain ⟨hT,hTe⟩:∃x,x=((hR.set hh.next (.cells [.int .i64 0,.int .i64 0,.int .i64 (i:Nat),.int .i64 (k:Nat)])).set hh.next (.cells [.int .i64 0,.int .i64 (q:Nat),.int .i64 (i:Nat),.int .i64 (k:Nat)])):=⟨_,rfl⟩
  obtain ⟨hS,hSe⟩:∃x,x=hR.set hh.next (.cells [.int .i64 0,.int .i64 0,.int .i64 (i:Nat),.int .i64 (k:Nat)]):=⟨_,rfl⟩
  rw [←hSe] at hTe
  have nS:hS.next=hR.next:=by rw [hSe];simp
  have xS:cont hS hh.next=some [.int .i64 0,.int .i64 0,.int .i64 (i:Nat),.int .i64 (k:Nat)]:=by rw [hSe];exact aG om
  have sS:kG hR 4 (.ptr hh.next 0) (.agg [.int .i64 0,.int .i64 0,.int .i64 (i:Nat),.int .i64 (k:Nat)])= .ok hS:=by
   rw [hSe]
   simp only [iS,xRc,iO,AV.cells,List.length_cons,List.length_nil,List.all_cons,List.all_nil,bJ,cI]
   rfl
  have sT:kG hS 1 (.ptr hh.next 1) (.int .i64 (q:Nat))= .ok hT:=by
   rw [hTe]
   simp only [iS,xS,iO,AV.cells,List.length_cons,List.length_nil,List.all_cons,List.all_nil,bJ,cI]
   rfl
  have nT:hT.next=hR.next:=by rw [hTe];simp [nS]
  have oT:∀i,i<hh.next→i≠h.next+1→hT.get i=hh.get i:=fun i h1 h2=>by rw [hTe,aE _ _ _ _ om om,hSe,aE _ _ _ _ om om];exact oR i h1 h2
  have xT:cont hT hh.next=some [.int .i64 0,.int .i64 (q:Nat),.int .i64 (i:Nat),.int .i64 (k:Nat)]:=by rw [hTe];exact aG om
  have c6T:=(aH (oT b6 om om)).trans c6
  have c7T:=(aH (oT b7 om om)).trans c7
  obtain ⟨hU,hUe⟩:∃x,x=(hT.set b6 (.cells [.int .i64 0,.int .i64 (q:Nat),.int .i64 (i:Nat),.int .i64 (k:Nat)])).set b7 (.cells [.bool true]):=⟨_,rfl⟩
  obtain ⟨hV,hVe⟩:∃x,x=hT.set b6 (.cells [.int .i64 0,.int .i64 (q:Nat),.int .i64 (i:Nat),.int .i64 (k:Nat)]):=⟨_,rfl⟩
  rw [←hVe] at hUe
  have nV:hV.next=hR.next:=by rw [hVe];simp [nT]
  have sV:kG hT 4 (.ptr b6 0) (.agg [.int .i64 0,.int .i64 (q:Nat),.int .i64 (i:Nat),.int .i64 (k:Nat)])= .ok hV:=by
   rw [hVe]
   simp only [iS,c6T,iO,AV.cells,List.length_cons,List.length_nil,List.all_cons,List.all_nil,bJ,cI]
   rfl
  have c7V:cont hV b7=some [.bool false]:=by rw [hVe,aK om (fun e=>ne.1 e.symm)];exact c7T
  have sU:kG hV 1 (.ptr b7 0) (.bool true)= .ok hU:=by
   rw [hUe]
   exact kS (gM c7V) rfl rfl
  have nU:hU.next=hR.next:=by rw [hUe];simp [nV]
  have oU:∀i,i<hh.next→i≠h.next+1→i≠b6→i≠b7→hU.get i=hh.get i:=fun i h1 h2 h3 h4=>by rw [hUe,aE _ _ _ _ om h4,hVe,aE _ _ _ _ om h3];exact oT i h1 h2
  have lo2:jG hU (h.next+1)= .ok ⟨.busy,none,26,ts,[19,20],yF,sZ,h.next⟩:=by
   have:hU.get (h.next+1)=some (.loop ⟨.busy,none,26,ts,[19,20],yF,sZ,h.next⟩):=by
    rw [hUe,aE _ _ _ _ om om,hVe,aE _ _ _ _ om om,hTe,aE _ _ _ _ om om,hSe,aE _ _ _ _ om om]
    exact lR
   simp only [jG,this]
  refine ⟨false,hU.set (h.next+1) (.loop ⟨.done,some .ret,26,ts,[19,20],yF,sZ,h.next⟩),fun _=>False,Ev.round o.loop rfl ⟨n1,fun m hm=> ?b2⟩,by simp;omega,
   fun i h1 _ h2 h3' =>(aE _ _ _ _ om h3').trans (oU i h1 h3' (fun e=>h2 (.inl e)) (fun e=>h2 (.inr e))),fun i w=>w.elim,(by intro w;cases w),fun _=>⟨⟨q,i,k, ?y6, ?y7,hm⟩,aQ _ _ _ om⟩⟩
  case y6=>
   rw [aK om om,hUe,aK om ne.1,hVe]
   exact aG om
  case y7=>
   rw [aK om om,hUe]
   exact aG om
  case b2=>
   have e1' :=e1 m hm
   simp only [yF,sZ] at lo1 hZe lo2
   simp only [AQ] at e1'
   have xSg:=gM xS
   exact SS (dI @Tb.D3 @uI.eq_1 @iT.eq_1 @iT.eq_2 @yF.eq_1 @sZ.eq_1 f3 f5 f6 f7 lo1 (Eq.symm hZe) (Eq.symm hQe) nZ q3 tQ (dI hia q5 r3 r5 tH bH e1' xQ xR z2 sS sT xT sV sU @iV.eq_1 (cj9 @iV.eq_2 lo2 @aN.eq_1 @aN.eq_2 @aN.eq_3 @aN.eq_4 @aN.eq_5 @oV.eq_1 @endRound.eq_1)))
end Go.Ly
namespace Go.Ly
open Go Go.Am Go.Fs Go.Gn
variable {fns:Go.Am.F} {orc:Orc}
def Fq (E:Int→Prop) (fns:Go.Am.F) (orc:Orc) (P:Nat→Prop) (t:Task) (h:aD) (Q:AV→aD→Prop):Prop:=
 (∃v h',Ev fns orc t (.call (.ret v) .plain h')∧Chg P h h' ∧Q v h')∨∃e h',E e∧Ev fns orc t (.call (.panic (irr e)) .plain h')∧Chg P h h'
theorem Fq.ret {E:Int→Prop} {P:Nat→Prop} {t:Task} {h:aD} {Q:AV→aD→Prop} (v:AV) (h' :aD) (e:Ev fns orc t (.call (.ret v) .plain h')) (c:Chg P h h') (q:Q v h'):Fq E fns orc P t h Q:= .inl ⟨v,h',e,c,q⟩
theorem Fq.pan {E:Int→Prop} {P:Nat→Prop} {t:Task} {h:aD} {Q:AV→aD→Prop} (e:Int) (h' :aD) (he:E e) (ev:Ev fns orc t (.call (.panic (irr e)) .plain h')) (c:Chg P h h'):Fq E fns orc P t h Q:= .inr ⟨e,h',he,ev,c⟩
def Po (fns:Go.Am.F) (orc:Orc) (Γ:Tb) (E:Int→Prop) (I:(Nat→DY)→Prop):Prop:=∀S h (a:Nat),TB Γ S h→WF Γ S→I S→a<Γ.n→
 Fq E fns orc (pJ Γ) (.call 38 [.ptr Γ.tb 0,.int .i64 (a:Nat)] .plain h) h fun v h' =>v= .ptr (Γ.loc a) 0∧∃S',Ext S S' ∧TB Γ S' h' ∧WF Γ S' ∧(S' a).ch≠none
theorem pJ.not {Γ:Tb} {S:Nat→DY} {h:aD} (T:TB Γ S h) {i:Nat} (hi:h.next≤i):¬pJ Γ i:=fun q=>by have:=T.lt.2.2 i q;omega
def MemQ (Γ:Tb) (S:Nat→DY) (a:Nat) (s:List UInt8) (v:AV) (h' :aD):Prop:=
 ∃S' c u,Ext S S' ∧TB Γ S' h' ∧WF Γ S' ∧(S' a).ch=some (c,u)∧v=Ao 0 (uW Γ s c)
theorem Iq (H:Has fns orc) {Γ:Tb} (O:Γ.Ok) {E:Int→Prop} {I:(Nat→DY)→Prop} (C:Po fns orc Γ E I) {S:Nat→DY} {h:aD} (T:TB Γ S h) (W:WF Γ S) (hN:I S) {a:Nat} (ha:a<Γ.n) (s:List UInt8):
  Fq E fns orc (pJ Γ) (.call 26 [.ptr Γ.tb 0,.int .i64 (a:Nat),.str s] .plain h) h (MemQ Γ S a s):=by
 obtain ⟨hA,hAe⟩:∃x,x=(((h.push (.cells [.ptr Γ.tb 0])).push (.cells [.str s])).push (.cells [.int .i64 0,.int .i64 0,.int .i64 0,.int .i64 0])).push (.cells [.bool false]):=⟨_,rfl⟩
 have gA:aP h hA:=by rw [hAe];exact gw2
 have nA:hA.next=h.next+4:=by rw [hAe];simp
 have a3:cont hA h.next=some [.ptr Γ.tb 0]:=by rw [hAe];exact ctp
 have a5:cont hA (h.next+1)=some [.str s]:=by rw [hAe];exact ctp
 have a6:cont hA (h.next+2)=some [.int .i64 0,.int .i64 0,.int .i64 0,.int .i64 0]:=by rw [hAe];exact ctp
 have a7:cont hA (h.next+3)=some [.bool false]:=by rw [hAe];exact ctp
 have TA:=T.grow gA
 have ltT:=T.lt
 rcases C S hA a TA W hN ha with ⟨v,h1,⟨n1,e1⟩,ch1,rfl,S',ext,T1,W1,hne⟩|⟨e,h1,he,⟨n1,e1⟩,ch1⟩
 case inr=>
  refine Fq.pan e h1 he (Ev.call H.f26 H.o26 ⟨n1,fun m hm=> ?bp⟩) (kI (fV gA) ch1)
  case bp=>
   have e1' :=e1 m hm
   exact SX (cj4 @a26.eq_1 (Eq.symm hAe) a3 e1')
 have nn1:=ch1.next
 have nl:∀i,h.next≤i→¬pJ Γ i:=fun i hi=>pJ.not T hi
 have b3:cont h1 h.next=some [.ptr Γ.tb 0]:=(qJ ch1 om (nl _ om)).trans a3
 have b5:cont h1 (h.next+1)=some [.str s]:=(qJ ch1 om (nl _ om)).trans a5
 have b6:cont h1 (h.next+2)=some [.int .i64 0,.int .i64 0,.int .i64 0,.int .i64 0]:=(qJ ch1 om (nl _ om)).trans a6
 have b7:cont h1 (h.next+3)=some [.bool false]:=(qJ ch1 om (nl _ om)).trans a7
 obtain ⟨vc,vu,hb,hv⟩:=T1.d_ a ha
 have n15:=Fz (O.ok a ha) (S' a).busy vc vu (S' a).off (S' a).cl
 cases cc:(S' a).ch with
 |none=>exact absurd cc hne
 |some x=>
 obtain ⟨c,u⟩:=x
 rw [cc] at hv
 have wf:=W1 a ha c u cc
 have hcn:∀k∈c,k<Γ.n:=fun k hk=>by obtain ⟨q,hq⟩:=tX hk;exact (W1.part c.length a c u (Nat.le_refl _) ha cc q k hq).1
 have hcl:=wf.max
 obtain ⟨tk2,rfl⟩:=CC hv
 obtain ⟨hL,hLe⟩:∃x,x=h1.push (.cells [.sl tk2 (ints c)]):=⟨_,rfl⟩
 have gL:aP h1 hL:=by rw [hLe];exact .push _ _
 have nL:hL.next=h1.next+1:=by rw [hLe];simp
 have cL:cont hL h1.next=some [.sl tk2 (ints c)]:=by rw [hLe];exact aR om om
 have TL:=T1.grow gL
 obtain ⟨ts,hts⟩:∃ts:fN,ts=[(3,.ptr h.next 0),(5,.ptr (h.next+1) 0),(6,.ptr (h.next+2) 0),(7,.ptr (h.next+3) 0),(18,.fn 69 [] [.ptr h1.next 0]),(19,.unk),(20,.unk)]:=⟨_,rfl⟩
 have YL:=Ll (fns:=fns) (orc:=orc) H (c:=c) (.sl tk2 (ints c)) om (b:=h1.next) (P:=fun i=>i=h1.next) (h0:=hL) rfl cL
 have RR:=I1 (fns:=fns) (orc:=orc) (fn:=26) (f:= .t 18) (ps:=[19,20]) (asg:=yF) (body:=sZ) (ts:=ts) (ds:=[]) (rc:= .plain) (h:=hL) (S:=fun i=>i=h.next+2∨i=h.next+3)
  (C:=MbC (h.next+2) (h.next+3) Γ s c) (D:=MbD (h.next+2) (h.next+3) Γ s c) (by rw [hts];rfl) YL (fun i q=>by omega) (fun i q=>by omega) ?L ?LD ?C0
  (Jl H O TL (s:=s) (c:=c) hcn (b3:=h.next) (b5:=h.next+1) (b6:=h.next+2) (b7:=h.next+3) (bL:=h1.next) ((aF gL om).trans b3) ((aF gL om).trans b5) om om om
   (fun i w=> ?sep) om hts)
 case sep=>
  rcases w with rfl|rfl|w
  ·omega
  ·omega
  ·have:=ltT.2.2 i w;omega
 case L=>
  rintro n Fp x y hxy hk ⟨c1,c2,c3⟩
  exact ⟨(aH (hk _ (aO c1) (.inr ⟨by omega,by omega⟩))).trans c1,(aH (hk _ (aO c2) (.inr ⟨by omega,by omega⟩))).trans c2,c3⟩
 case LD=>
  rintro Fp x y hxy hk ⟨q,i,k,c1,c2,c3⟩
  exact ⟨q,i,k,(aH (hk _ (aO c1) (.inr ⟨by omega,by omega⟩))).trans c1,(aH (hk _ (aO c2) (.inr ⟨by omega,by omega⟩))).trans c2,c3⟩
 case C0=>
  have gl:=tJ hL ⟨.ready,none,26,ts,[19,20],yF,sZ,hL.next⟩
  exact ⟨(aF gl om).trans ((aF gL om).trans b6),(aF gl om).trans ((aF gL om).trans b7),rfl⟩
 obtain ⟨h5,x,⟨n5,e5⟩,le5,mk5,KN,hE⟩:=RR
 have o5:∀i,i<h.next→h5.get i=h1.get i:=fun i hi=>by rw [KN i om om,gL.get i om]
 have o5' :∀i,i<h1.next→i≠h.next+2→i≠h.next+3→h5.get i=h1.get i:=fun i hi h2 h3=>by rw [KN i om om,gL.get i om]
 have T5:TB Γ S' h5:=T1.wH fun i hi w=>o5 i (by rcases w with rfl|rfl|w;omega;omega;have:=ltT.2.2 i w;omega)
 rcases hE with ⟨rfl,Fp,hF,c6,c7,hm⟩|⟨rfl,Fp,hF,q,i,k,c6,c7,hm⟩
 ·obtain ⟨h6,h6e⟩:∃x,x=(h5.set (h.next+2) (.cells [.int .i64 0,.int .i64 0,.int .i64 0,.int .i64 0])).set (h.next+3) (.cells [.bool false]):=⟨_,rfl⟩
  obtain ⟨h6a,Lw⟩:∃x,x=h5.set (h.next+2) (.cells [.int .i64 0,.int .i64 0,.int .i64 0,.int .i64 0]):=⟨_,rfl⟩
  rw [←Lw] at h6e
  have n6a:h6a.next=h5.next:=by rw [Lw];simp
  have n6:h6.next=h5.next:=by rw [h6e];simp [n6a]
  have s6a:kG h5 4 (.ptr (h.next+2) 0) (.agg [.int .i64 0,.int .i64 0,.int .i64 0,.int .i64 0])= .ok h6a:=by
   rw [Lw]
   simp only [iS,c6,iO,AV.cells,List.length_cons,List.length_nil,List.all_cons,List.all_nil,bJ,cI]
   rfl
  have s6:kG h6a 1 (.ptr (h.next+3) 0) (.bool false)= .ok h6:=by
   rw [h6e]
   exact kS (gM (by rw [Lw,aK om om];exact c7)) rfl rfl
  have mk6:h6.get hL.next=some (.deferred (some [])):=by rw [h6e,aE _ _ _ _ om om,Lw,aE _ _ _ _ om om];exact mk5
  have x6:cont h6 (h.next+2)=some [.int .i64 0,.int .i64 0,.int .i64 0,.int .i64 0]:=by rw [h6e,aK om om,Lw];exact aG om
  have x7:cont h6 (h.next+3)=some [.bool false]:=by rw [h6e];exact aG om
  refine Fq.ret (.tup [.agg [.int .i64 0,.int .i64 0,.int .i64 0,.int .i64 0],.bool false]) (h6.set hL.next (.deferred none)) (Ev.A0 H.f26 H.o26 ⟨n1+n5+2,fun m hm=> ?b⟩) ⟨by simp;omega,fun i hi hn=> ?g⟩ ⟨S',c,u,ext,T5.wH fun i hi w=> ?t,W1,cc, ?r⟩
  case g=>
   rw [aE _ _ _ _ om om,h6e,aE _ _ _ _ om om,Lw,aE _ _ _ _ om om,o5 i hi,ch1.get i om hn,gA.get i hi]
  case t=>
   have:i<h.next:=by rcases w with rfl|rfl|w;omega;omega;exact ltT.2.2 i w
   rw [aE _ _ _ _ om om,h6e,aE _ _ _ _ om om,Lw,aE _ _ _ _ om om]
  case r=>
   rw [hm,Nat.sub_self]
   rfl
  case b=>
   have e1' :=e1 m om
   have e2' :=OM (fns:=fns) (orc:=orc) H (.sl tk2 (ints c)) h1 rfl rfl m om
   have e5' :=e5 m om
   rw [hts] at e5'
   simp only [yF,sZ] at e5'
   exact SS (zZ @a26.eq_1 (Eq.symm hAe) a3 e1' hb n15 e2' (Eq.symm hLe) e5' s6a s6 mk6 x6 x7)
 ·refine Fq.ret (Ao 0 (some (q,i,k))) (h5.set hL.next (.deferred none)) (Ev.A0 H.f26 H.o26 ⟨n1+n5+2,fun m hm=> ?b2⟩) ⟨by simp;omega,fun i hi hn=> ?g2⟩ ⟨S',c,u,ext,T5.wH fun i hi w=> ?t2,W1,cc,by rw [hm]⟩
  case g2=>rw [aE _ _ _ _ om om,o5 i hi,ch1.get i om hn,gA.get i hi]
  case t2=>
   have:i<h.next:=by rcases w with rfl|rfl|w;omega;omega;exact ltT.2.2 i w
   rw [aE _ _ _ _ om om]
  case b2=>
   have e1' :=e1 m om
   have e2' :=OM (fns:=fns) (orc:=orc) H (.sl tk2 (ints c)) h1 rfl rfl m om
   have e5' :=e5 m om
   rw [hts] at e5'
   simp only [yF,sZ] at e5'
   exact SS (xJ @a26.eq_1 (Eq.symm hAe) a3 e1' hb n15 e2' (Eq.symm hLe) e5' c6 c7 mk5 @Ao.eq_1 @Ao.eq_2 @Int.ofNat_zero)
end Go.Ly
namespace Go.Ly
open Go Go.Am Go.Fs Go.Gn
variable {fns:Go.Am.F} {orc:Orc}
def Zd (Γ:Tb) (S:Nat→DY) (a:Int) (s:List UInt8) (v:AV) (h' :aD):Prop:=
 ∃S',Ext S S' ∧TB Γ S' h' ∧WF Γ S' ∧((v=Ao 0 none∧∀l,Ac Γ S' s a l)∨∃lv q i k,v=Ao lv (some (q,i,k))∧B9 Γ S' s a lv q i k)
theorem LC (H:Has fns orc) {Γ:Tb} (O:Γ.Ok) {E:Int→Prop} {I:(Nat→DY)→Prop} (C:Po fns orc Γ E I) (hI:∀{S S'},Ext S S' →I S→I S') (s:List UInt8) {a:Int} (ha: -1≤a∧a<(Γ.n:Int)) {b6:Nat} (nb:¬pJ Γ b6) (nt:b6≠Γ.tb) (nm:b6≠Γ.mb):
  ∀(k:Nat) (S:Nat→DY) (h:aD) (n:Nat) (a' :Int),a' +1≤k→upF Γ n a=a' →(a' :Int)+n≤a→TB Γ S h→WF Γ S→I S→cont h b6=some [.int .i64 0,.int .i64 0,.int .i64 0,.int .i64 0]→(∀l,l<n→Ac Γ S s a l)→
   (∃h' S' lv q i k,Ev fns orc (.code 27 none (.loop p27x10100) ⟨[(0,.ptr Γ.tb 0),(1,.int .i64 a'),(2,.str s),(6,.ptr b6 0),(8,.int .i64 (n:Nat))],[],.plain,h⟩) (.code .ret ⟨[(6,.ptr b6 0),(7,.bool true)],[],.plain,h'⟩)∧Chg (fun i=>pJ Γ i∨i=b6) h h' ∧
    Ext S S' ∧TB Γ S' h' ∧WF Γ S' ∧cont h' b6=some [.int .i64 (lv:Nat),.int .i64 (q:Nat),.int .i64 (i:Nat),.int .i64 (k:Nat)]∧B9 Γ S' s a lv q i k)∨
   (∃h' S' ts,Ev fns orc (.code 27 none (.loop p27x10100) ⟨[(0,.ptr Γ.tb 0),(1,.int .i64 a'),(2,.str s),(6,.ptr b6 0),(8,.int .i64 (n:Nat))],[],.plain,h⟩) (.code (.exit 0) ⟨ts,[],.plain,h'⟩)∧cH ts 6= .ptr b6 0∧Chg (fun i=>pJ Γ i∨i=b6) h h' ∧
    Ext S S' ∧TB Γ S' h' ∧WF Γ S' ∧cont h' b6=some [.int .i64 0,.int .i64 0,.int .i64 0,.int .i64 0]∧∀l,Ac Γ S' s a l)∨
   (∃h' e ts,E e∧Ev fns orc (.code 27 none (.loop p27x10100) ⟨[(0,.ptr Γ.tb 0),(1,.int .i64 a'),(2,.str s),(6,.ptr b6 0),(8,.int .i64 (n:Nat))],[],.plain,h⟩) (.code (.panic (irr e)) ⟨ts,[],.plain,h'⟩)∧Chg (fun i=>pJ Γ i∨i=b6) h h'):=by
 intro k
 induction k with
 |zero=>
  intro S h n a' hk hup hle T W hN hb G1
  have rg:=CL O n ha
  rw [hup] at rg
  have d:decide (0≤a')=false:=dF om
  refine .inr (.inl ⟨h,S, ?ts,Ev.code ⟨0,fun m _=> ?b0⟩, ?t6,.refl _ _,.refl _,T,W,hb,fun l=> ?nn⟩)
  case b0=>
   exact SX (cj2 d @aI)
  case t6=>rfl
  case nn=>
   by_cases c:l<n
   ·exact G1 l c
   ·intro w hw
    rw [show l=n+(l -n) by omega,FZ,hup,D5 _ _ om] at hw
    omega
 |succ k ih=>
  intro S h n a' hk hup hle T W hN hb G1
  have rg:=CL O n ha
  rw [hup] at rg
  by_cases c:0≤a'
  case neg=>
   have d:decide (0≤a')=false:=dF c
   refine .inr (.inl ⟨h,S, ?ts1,Ev.code ⟨0,fun m _=> ?b01⟩, ?t61,.refl _ _,.refl _,T,W,hb,fun l=> ?nn1⟩)
   case b01=>
    exact SX (cj2 d @aI)
   case t61=>rfl
   case nn1=>
    by_cases c:l<n
    ·exact G1 l c
    ·intro w hw
     rw [show l=n+(l -n) by omega,FZ,hup,D5 _ _ om] at hw
     omega
  have d:decide (0≤a')=true:=dT c
  obtain ⟨an,rfl⟩:∃an:Nat,a' =(an:Int):=⟨a'.toNat,by omega⟩
  have han:an<Γ.n:=om
  rcases Iq H O C T W hN han s with ⟨v,h1,⟨n1,e1⟩,ch1,S',cc,u,ext,T1,W1,hcc,rfl⟩|⟨e,h1,he,⟨n1,e1⟩,ch1⟩
  case inr=>
   refine .inr (.inr ⟨h1,e, ?tsp,he,Ev.code ⟨n1,fun m hm=> ?bp⟩,⟨ch1.next,fun i hi hn=>ch1.get i hi (fun w=>hn (.inl w))⟩⟩)
   case bp=>
    have e1' :=e1 m hm
    exact SX (cj3 d e1' @aI)
  have nn:=ch1.next
  have lb:=aO hb
  have b1:cont h1 b6=some [.int .i64 0,.int .i64 0,.int .i64 0,.int .i64 0]:=(qJ ch1 lb nb).trans hb
  have z4:kG (h1.push (.cells [.int .i64 0,.int .i64 0,.int .i64 0,.int .i64 0])) 4=kG (h1.push (.cells [.int .i64 0,.int .i64 0,.int .i64 0,.int .i64 0])) 4:=rfl
  cases hm:uW Γ s cc with
  |some x=>
   obtain ⟨q,i,k'⟩:=x
   rw [hm] at e1
   obtain ⟨hB,hBe⟩:∃x,x=(((h1.push (.cells [.int .i64 0,.int .i64 0,.int .i64 0,.int .i64 0])).set h1.next (.cells [.int .i64 0,.int .i64 (q:Nat),.int .i64 (i:Nat),.int .i64 (k' :Nat)])).set h1.next (.cells [.int .i64 (n:Nat),.int .i64 (q:Nat),.int .i64 (i:Nat),.int .i64 (k' :Nat)])):=⟨_,rfl⟩
   have gB:aP h1 hB:=by rw [hBe];exact gw2
   have nB:hB.next=h1.next+1:=by rw [hBe];simp
   have xB:cont hB h1.next=some [.int .i64 (n:Nat),.int .i64 (q:Nat),.int .i64 (i:Nat),.int .i64 (k' :Nat)]:=by rw [hBe];exact aG (by simp)
   have b2:=(aF gB (by omega:b6<h1.next)).trans b1
   obtain ⟨hC,hCe⟩:∃x,x=hB.set b6 (.cells [.int .i64 (n:Nat),.int .i64 (q:Nat),.int .i64 (i:Nat),.int .i64 (k' :Nat)]):=⟨_,rfl⟩
   refine .inl ⟨hC,S',n,q,i,k',Ev.code ⟨n1,fun m hm=> ?bs⟩,⟨by rw [hCe];simp;omega,fun j hj hn=> ?gs⟩,ext, ?Ts,W1,by rw [hCe];exact aG om,⟨an,cc,u,hup,han,hcc,hm⟩,fun l hl=>(G1 l hl).ext ext⟩
   case gs=>rw [hCe,aE _ _ _ _ om (fun e=>hn (.inr e)),gB.get j om,ch1.get j hj (fun w=>hn (.inl w))]
   case Ts=>
    refine (T1.grow gB).wH fun j hj w=> ?_
    rw [hCe,aE _ _ _ _ om ?_]
    rintro rfl
    rcases w with w|w|w
    ·exact nt w
    ·exact nm w
    ·exact nb w
   case bs=>
    have e1' :=e1 m hm
    simp only [Ao,Int.ofNat_zero] at e1'
    exact SX (cj7 d e1' (Eq.symm hBe) xB b2 (Eq.symm hCe) @aI)
  |none=>
   rw [hm] at e1
   obtain ⟨hB,hBe⟩:∃x,x=(h1.push (.cells [.int .i64 0,.int .i64 0,.int .i64 0,.int .i64 0])).set h1.next (.cells [.int .i64 0,.int .i64 0,.int .i64 0,.int .i64 0]):=⟨_,rfl⟩
   have gB:aP h1 hB:=by rw [hBe];exact gw2
   have nB:hB.next=h1.next+1:=by rw [hBe];simp
   have b2:=(aF gB (by omega:b6<h1.next)).trans b1
   have TB' :=T1.grow gB
   obtain ⟨tk,v2,tT⟩:=TB'.t_
   obtain ⟨vc,vu,hbb,_⟩:=TB'.d_ an han
   have n8:=HU (O.ok an han) (S' an).busy vc vu (S' an).off (S' an).cl
   have hia:=Γ.at tk han
   have ra:=O.ar an han
   have hup1:upF Γ (n+1) a=(Γ.D an).ar:=by
    rw [FZ,hup]
    simp only [upF]
    rw [if_neg om]
    rfl
   have step:∀ans,Ev fns orc (.code 27 none (.loop p27x10100) ⟨[(0,.ptr Γ.tb 0),(1,.int .i64 (Γ.D an).ar),(2,.str s),(6,.ptr b6 0),(8,.int .i64 ((n+1:Nat):Int))],[],.plain,hB⟩) ans→
     Ev fns orc (.code 27 none (.loop p27x10100) ⟨[(0,.ptr Γ.tb 0),(1,.int .i64 (an:Nat)),(2,.str s),(6,.ptr b6 0),(8,.int .i64 (n:Nat))],[],.plain,h⟩) ans:=by
    rintro ans ⟨n2,e2⟩
    refine Ev.code ⟨n1+n2,fun m hm=> ?bt⟩
    case bt=>
     have e1' :=e1 m om
     have e2' :=e2 m om
     have w:IntKind.wrap .i64 ((n:Int)+1)=((n+1:Nat):Int):=by have:=O.lt;rw [pE om om];rfl
     simp only [Ao] at e1'
     exact SXe (cj9 d e1' (Eq.symm hBe) tT hia hbb n8 w @aI) e2'
   have Yd :∀l,l<n+1→Ac Γ S' s a l:=by
    intro l hl
    by_cases c:l<n
    ·exact (G1 l c).ext ext
    ·obtain rfl:l=n:=om
     intro w hw
     rw [hup] at hw
     obtain rfl:an=w:=om
     exact ⟨cc,u,hcc,hm⟩
   have CB:Chg (fun i=>pJ Γ i∨i=b6) h hB:=sR ⟨ch1.next,fun i hi hn=>ch1.get i hi (fun w=>hn (.inl w))⟩ gB
   rcases ih S' hB (n+1) (Γ.D an).ar om hup1 om TB' W1 (hI ext hN) b2 Yd with ⟨h',S2,lv,q,i,k2,ev,ch,ex,T2,W2,c6,fa⟩|⟨h',S2,ts,ev,t6,ch,ex,T2,W2,c6,nn⟩|⟨h',e,ts,he,ev,ch⟩
   ·exact .inl ⟨h',S2,lv,q,i,k2,step _ ev,kI CB ch,ext.trans ex,T2,W2,c6,fa⟩
   ·exact .inr (.inl ⟨h',S2,ts,step _ ev,t6,kI CB ch,ext.trans ex,T2,W2,c6,nn⟩)
   ·exact .inr (.inr ⟨h',e,ts,he,step _ ev,kI CB ch⟩)
theorem O1 (H:Has fns orc) {Γ:Tb} (O:Γ.Ok) {E:Int→Prop} {I:(Nat→DY)→Prop} (C:Po fns orc Γ E I) (hI:∀{S S'},Ext S S' →I S→I S') {S:Nat→DY} {h:aD} (T:TB Γ S h) (W:WF Γ S) (hN:I S) {a:Int} (ha: -1≤a∧a<(Γ.n:Int)) (s:List UInt8):
  Fq E fns orc (pJ Γ) (.call 27 [.ptr Γ.tb 0,.int .i64 a,.str s] .plain h) h (Zd Γ S a s):=by
 obtain ⟨hA,hAe⟩:∃x,x=h.push (.cells [.int .i64 0,.int .i64 0,.int .i64 0,.int .i64 0]):=⟨_,rfl⟩
 have gA:aP h hA:=by rw [hAe];exact gw2
 have nA:hA.next=h.next+1:=by rw [hAe];simp
 have a6:cont hA h.next=some [.int .i64 0,.int .i64 0,.int .i64 0,.int .i64 0]:=by rw [hAe];exact aR om om
 have ltT:=T.lt
 have mk:∀{h' :aD},Chg (fun i=>pJ Γ i∨i=h.next) hA h' →Chg (pJ Γ) h h' :=fun ch=>⟨by have:=ch.next;omega,fun i hi hn=>by rw [ch.get i om (fun w=>by rcases w with w|w;exact hn w;omega),gA.get i hi]⟩
 rcases LC H O C hI s ha (b6:=h.next) (pJ.not T (Nat.le_refl _)) om om (Γ.n+1) S hA 0 a om rfl om (T.grow gA) W hN a6 (fun l hl=>absurd hl (Nat.not_lt_zero _)) with ⟨h',S2,lv,q,i,k2,⟨n1,e1⟩,ch,ex,T2,W2,c6,fa⟩|⟨h',S2,ts,⟨n1,e1⟩,t6,ch,ex,T2,W2,c6,nn⟩|⟨h',e,ts,he,⟨n1,e1⟩,ch⟩
 ·refine Fq.ret _ h' (Ev.call H.f27 H.o27 ⟨n1,fun m hm=> ?b1⟩) (mk ch) ⟨S2,ex,T2,W2,.inr ⟨lv,q,i,k2,rfl,fa⟩⟩
  case b1=>
   have e1' :cG (eval fns orc m) 27 none (.loop p27x10100) _=_:=e1 (m+1) om
   simp only [Int.ofNat_zero] at e1'
   exact SX (cj6 @a27.eq_1 (Eq.symm hAe) e1' c6 @Ao.eq_1 @Ao.eq_2)
 ·obtain ⟨h6,h6e⟩:∃x,x=h'.set h.next (.cells [.int .i64 0,.int .i64 0,.int .i64 0,.int .i64 0]):=⟨_,rfl⟩
  have x6:cont h6 h.next=some [.int .i64 0,.int .i64 0,.int .i64 0,.int .i64 0]:=by rw [h6e];exact aG (aO c6)
  have nn6:=ch.next
  refine Fq.ret _ h6 (Ev.call H.f27 H.o27 ⟨n1,fun m hm=> ?b2⟩) ⟨by rw [h6e];simp;omega,fun i hi hn=> ?g2⟩ ⟨S2,ex, ?T2,W2,.inl ⟨rfl,nn⟩⟩
  case g2=>rw [h6e,aE _ _ _ _ om om,(mk ch).get i hi hn]
  case T2=>
   refine T2.wH fun j hj w=> ?_
   have:j<h.next:=by rcases w with rfl|rfl|w;omega;omega;exact ltT.2.2 j w
   rw [h6e,aE _ _ _ _ om om]
  case b2=>
   have e1' :cG (eval fns orc m) 27 none (.loop p27x10100) _=_:=e1 (m+1) om
   simp only [Int.ofNat_zero] at e1'
   exact SX (cj9 @a27.eq_1 (Eq.symm hAe) e1' t6 c6 (Eq.symm h6e) x6 @Ao.eq_1 @Ao.eq_2)
 ·refine Fq.pan e h' he (Ev.call H.f27 H.o27 ⟨n1,fun m hm=> ?b3⟩) (mk ch)
  case b3=>
   have e1' :cG (eval fns orc m) 27 none (.loop p27x10100) _=_:=e1 (m+1) om
   simp only [Int.ofNat_zero] at e1'
   exact SX (cj3 @a27.eq_1 (Eq.symm hAe) e1')
end Go.Ly
end
