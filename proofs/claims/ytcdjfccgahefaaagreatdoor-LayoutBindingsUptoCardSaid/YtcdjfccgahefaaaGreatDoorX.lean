/- Parts of a proof. -/
import Derived.Test.YtcdjfccgahefaaaGreatDoorD
import Derived.Test.YtcdjfccgahefaaaGreatDoorG
set_option linter.all false
set_option maxHeartbeats 8000000
noncomputable section
namespace Go.Ly
open Go Go.Am Go.Fs Go.Gn
variable {fns:Go.Am.F} {orc:Orc}
def irr (e:Int):List pI:=[{v:= .iface 96 (.agg [.int .i64 e]),recovered:=false}]
def Out (fns:Go.Am.F) (orc:Orc) (P:Nat→Prop) (t:Task) (h:aD) (Q:AV→aD→Prop):Prop:=
 (∃v h',Ev fns orc t (.call (.ret v) .plain h')∧Chg P h h' ∧Q v h')∨(∃e h',0<e∧Ev fns orc t (.call (.panic (irr e)) .plain h')∧Chg P h h')
theorem Out.ret {P:Nat→Prop} {t:Task} {h:aD} {Q:AV→aD→Prop} (v:AV) (h' :aD) (e:Ev fns orc t (.call (.ret v) .plain h')) (c:Chg P h h') (q:Q v h'):Out fns orc P t h Q:= .inl ⟨v,h',e,c,q⟩
theorem Out.pan {P:Nat→Prop} {t:Task} {h:aD} {Q:AV→aD→Prop} (e:Int) (h' :aD) (he:0<e) (ev:Ev fns orc t (.call (.panic (irr e)) .plain h')) (c:Chg P h h'):Out fns orc P t h Q:= .inr ⟨e,h',he,ev,c⟩
theorem tN (H:Has fns orc) (e:Int) (h:aD):Ev fns orc (.call 41 [.bool true,.int .i64 e] .plain h) (.call (.ret iW) .plain h):=by
 refine Ev.call H.f41 H.o41 ⟨0,fun m _=> ?b⟩
 case b=>
  exact SX @a41.eq_1
theorem uQ (H:Has fns orc) (e:Int) (h:aD):Ev fns orc (.call 41 [.bool false,.int .i64 e] .plain h) (.call (.panic (irr e)) .plain h):=by
 refine Ev.call H.f41 H.o41 ⟨0,fun m _=> ?b⟩
 case b=>
  exact SX @a41.eq_1
def wQ {α:Type} (p:α→Bool):List α→Option Nat
 |[]=>none
 |a::r=>if p a then some 0 else (wQ p r).map (·+1)
theorem Ah {α:Type} {p:α→Bool}:∀{l:List α} {k:Nat},wQ p l=some k→∃a,l[k]? =some a∧p a=true∧∀j b,j<k→l[j]? =some b→p b=false
 |[],k,h=>by cases h
 |a::r,k,h=>by
  simp only [wQ] at h
  split at h
  ·rename_i hp
   cases h
   exact ⟨a,rfl,hp,fun j b hj=>by omega⟩
  ·rename_i hp
   cases hr:wQ p r with
   |none=>rw [hr] at h;cases h
   |some j=>
    rw [hr] at h
    cases h
    obtain ⟨b,h1,h2,h3⟩:=Ah hr
    refine ⟨b,by simpa using h1,h2,fun i c hi hc=> ?_⟩
    cases i with
    |zero=>simp at hc;subst hc;simpa using hp
    |succ i=>exact h3 i c (Nat.lt_of_succ_lt_succ hi) (by simpa using hc)
theorem Bg {α:Type} {p:α→Bool}:∀{l:List α},wQ p l=none→∀a∈l,p a=false
 |[],_,a,ha=>by cases ha
 |b::r,h,a,ha=>by
  simp only [wQ] at h
  split at h
  ·cases h
  ·rename_i hp
   rcases List.mem_cons.1 ha with rfl|q
   ·simpa using hp
   ·cases hr:wQ p r with
    |none=>exact Bg hr a q
    |some j=>rw [hr] at h;cases h
theorem fidx_lt {α:Type} {p:α→Bool} {l:List α} {k:Nat} (h:wQ p l=some k):k<l.length:=by
 obtain ⟨a,h1,_⟩:=Ah h
 exact (List.getElem?_eq_some_iff.1 h1).1
def DA:Option Nat→AV
 |some k=> .int .i64 (k:Nat)
 |none=> .int .i64 (-1)
def ints (l:List Nat):List AV:=l.map fun n=> .int .i64 (n:Nat)
theorem Py (H:Has fns orc) {v:AV} {l:List (List UInt8)} (hv:iK v (l.map AV.str)) (hn:l.length<10000000) (s:List UInt8) (h:aD):
  Ev fns orc (.call 71 [v,.str s] .plain h) (.call (.ret (DA (wQ (fun x=>decide (s=x)) l))) .plain h):=by
 have key:∀k i,i+k=l.length→∃n,∀m,n≤m→(bZ (eval fns orc m) 71 none (.loop p71x10100) ⟨[(0,v),(1,.str s),(7,.int .i64 (l.length:Nat)),(8,.int .i64 (i:Nat))],[],.plain,h⟩=
   match wQ (fun x=>decide (s=x)) (l.drop i) with
   |some k=> .ok (.code .ret ⟨[(4,.int .i64 ((i+k:Nat):Int))],[],.plain,h⟩)
   |none=> .ok (.code (.exit 0) ⟨[(0,v),(1,.str s),(7,.int .i64 (l.length:Nat)),(8,.int .i64 (l.length:Nat)),(9,.bool false)],[],.plain,h⟩)):=by
  intro k
  induction k with
  |zero=>
   intro i hi
   refine ⟨0,fun m _=> ?_⟩
   have d:decide ((i:Int)<((l.length:Nat):Int))=false:=dF om
   rw [show i=l.length by omega] at d⊢
   rw [List.drop_length]
   exact SX (cj4 d @aI @wQ.eq_1 @wQ.eq_2)
  |succ k ih=>
   intro i hi
   obtain ⟨n,ih⟩:=ih (i+1) om
   refine ⟨n+1,fun m hm=> ?_⟩
   obtain ⟨m,rfl⟩:∃j,m=j+1:=⟨m -1,by omega⟩
   have hlt:i<l.length:=om
   have d:decide ((i:Int)<((l.length:Nat):Int))=true:=dT om
   have hia:=pN hv (i:=i) (v:= .str l[i]) (by simp [hlt]) rfl
   have ih' :=ih m om
   rw [List.drop_eq_getElem_cons hlt,wQ]
   rw [aI]
   cases c:decide (s=l[i]) with
   |true=>
    have e:jD s l[i]=true:=by rw [jT];simpa using c
    exact SX (cj3 d hia e)
   |false=>
    have e:jD s l[i]=false:=by rw [jT];simpa using c
    simp -implicitDefEqProofs (disch:=(first|omega|(simp only [aD.aJ,aD.aL];try omega)|skip)) only [d,hia,e,fC,fE,dQ,cQ,dP,cP,fD,dO,gJ,eO,aM,dG,iD,opA,qP,kE,qQ,pH,rE,rZ,dC,gH,fN,qG,lU,iU,fV,mE,dK,eW,Nat.beq,lQ,lX,dX,vl,qX,eV,eT,dR,fI,fF,fG,bW,iA,gX,cS,fJ,fH,bX,gZ,cR,cU,cV,cT,fK,dJ,eQ,eR,bO,gU,gN,cH,eU,eS,bP,gS,cG,cJ,cK,cI,eP,dL,aY,dE,aZ,fA,bT,bQ,bV,bR,dM,fB,kE,eK,kH,aQ,aU,fL,gM,List.drop_zero,List.drop_succ_cons,rS,oEq,eqA,pO,ki,eL,dY,oneOf,gV,jC,mQ,called,List.append_eq,List.nil_append,List.cons_append,List.append_assoc,Nat.zero_add,Nat.add_zero,kL,lF,aO,aE,aD.aJ,aD.aL,List.length_cons,List.length_nil,Bool.and_true,Bool.true_and,List.all_cons,List.all_nil,bI,bY,bM,bD,eZ,Nat.reduceAdd,Nat.reduceEqDiff,Nat.reduceBEq,ite_true,ite_false,if_true,if_false,iM,kG,jI,iE,iL,dI,fW,decide_eq_true_eq,decide_true,decide_false,qS,intArith,Int.ofNat_zero,reduceCtorEq,Bool.not_true,Bool.not_false,Bool.false_eq_true,Int.reduceEq,Int.reduceAdd,Int.zero_add,Int.add_zero,lW,dN,cM,mX,mZ,nH,nJ,kQ,iI,qA,iH,iY,pZ,iR,jM,iT,oX,fR,dZ,eD,eE,fQ,kI,lV,pK,mJ,jR,iQ,List.reverse_cons,List.reverse_nil,oL,dH,dV,dB,dW,bN,iZ,jL,kW,eH,qJ,oMx,lB,jQ,vE,kX,jL,kW,kE,eK,evO,mR,jF,mU,lG,lI,oF,oE,fU,fS,dU,iP,uD,dH,dV,dB,dW,bN,vF,uA,bound,vl,eqA,iW,Int.reduceLE,Int.reduceLT,kF,jG,jB,aH,aK,dA,aS,kO,iS,jN,kN,mC,takeN,cW,jH,jO,jA,eM,iC,fO,jP,kS,iB,KF,KG]
    rw [tM hlt om]
    show bZ (eval fns orc m) 71 none (.loop p71x10100) _=_
    rw [ih']
    cases wQ (fun x=>decide (s=x)) (l.drop (i+1)) with
    |none=>rfl
    |some k=>simp only [Option.map];rw [show i+1+k=i+(k+1) by omega]
 obtain ⟨n,e⟩:=key l.length 0 om
 refine Ev.call H.f71 H.o71 ⟨n,fun m hm=> ?bIx⟩
 case bIx=>
  have e1:=e m hm
  simp only [List.drop_zero,Int.ofNat_zero,Nat.zero_add] at e1
  have q:∀hp,mK hp .sl v= .ok l.length:=fun hp=>by rw [bJ hv hp,List.length_map]
  cases c:wQ (fun x=>decide (s=x)) l with
  |none=>
   rw [c] at e1
   exact SX (cj5 @a71.eq_1 q e1 @DA.eq_1 @DA.eq_2)
  |some k=>
   rw [c] at e1
   exact SX (cj5 @a71.eq_1 q e1 @DA.eq_1 @DA.eq_2)
end Go.Ly
namespace Go.Ly
open Go Go.Am Go.Fs Go.Gn
variable {fns:Go.Am.F} {orc:Orc}
theorem H2 (H:Has fns orc) {v:AV} {l:List Nat} (hv:iK v (ints l)) (hn:l.length<10000000) (s:Int) (h:aD):
  Ev fns orc (.call 42 [v,.int .i64 s] .plain h) (.call (.ret (DA (wQ (fun x:Nat=>decide (s=(x:Int))) l))) .plain h):=by
 have key:∀k i,i+k=l.length→∃n,∀m,n≤m→(bZ (eval fns orc m) 42 none (.loop p42x10100) ⟨[(0,v),(1,.int .i64 s),(7,.int .i64 (l.length:Nat)),(8,.int .i64 (i:Nat))],[],.plain,h⟩=
   match wQ (fun x:Nat=>decide (s=(x:Int))) (l.drop i) with
   |some k=> .ok (.code .ret ⟨[(4,.int .i64 ((i+k:Nat):Int))],[],.plain,h⟩)
   |none=> .ok (.code (.exit 0) ⟨[(0,v),(1,.int .i64 s),(7,.int .i64 (l.length:Nat)),(8,.int .i64 (l.length:Nat)),(9,.bool false)],[],.plain,h⟩)):=by
  intro k
  induction k with
  |zero=>
   intro i hi
   refine ⟨0,fun m _=> ?_⟩
   have d:decide ((i:Int)<((l.length:Nat):Int))=false:=dF om
   rw [show i=l.length by omega] at d⊢
   rw [List.drop_length]
   exact SX (cj4 d @aI @wQ.eq_1 @wQ.eq_2)
  |succ k ih=>
   intro i hi
   obtain ⟨n,ih⟩:=ih (i+1) om
   refine ⟨n+1,fun m hm=> ?_⟩
   obtain ⟨m,rfl⟩:∃j,m=j+1:=⟨m -1,by omega⟩
   have hlt:i<l.length:=om
   have d:decide ((i:Int)<((l.length:Nat):Int))=true:=dT om
   have hia:=pN hv (i:=i) (v:= .int .i64 (l[i]:Nat)) (by simp [ints,hlt]) rfl
   have ih' :=ih m om
   rw [List.drop_eq_getElem_cons hlt,wQ]
   rw [aI]
   cases c:decide (s=((l[i]:Nat):Int)) with
   |true=>
    have e:=c
    exact SX (cj3 d hia e)
   |false=>
    have e:=c
    simp -implicitDefEqProofs (disch:=(first|omega|(simp only [aD.aJ,aD.aL];try omega)|skip)) only [d,hia,e,fC,fE,dQ,cQ,dP,cP,fD,dO,gJ,eO,aM,dG,iD,opA,qP,kE,qQ,pH,rE,rZ,dC,gH,fN,qG,lU,iU,fV,mE,dK,eW,Nat.beq,lQ,lX,dX,vl,qX,eV,eT,dR,fI,fF,fG,bW,iA,gX,cS,fJ,fH,bX,gZ,cR,cU,cV,cT,fK,dJ,eQ,eR,bO,gU,gN,cH,eU,eS,bP,gS,cG,cJ,cK,cI,eP,dL,aY,dE,aZ,fA,bT,bQ,bV,bR,dM,fB,kE,eK,kH,aQ,aU,fL,gM,List.drop_zero,List.drop_succ_cons,rS,oEq,eqA,pO,ki,eL,dY,oneOf,gV,jC,mQ,called,List.append_eq,List.nil_append,List.cons_append,List.append_assoc,Nat.zero_add,Nat.add_zero,kL,lF,aO,aE,aD.aJ,aD.aL,List.length_cons,List.length_nil,Bool.and_true,Bool.true_and,List.all_cons,List.all_nil,bI,bY,bM,bD,eZ,Nat.reduceAdd,Nat.reduceEqDiff,Nat.reduceBEq,ite_true,ite_false,if_true,if_false,iM,kG,jI,iE,iL,dI,fW,decide_eq_true_eq,decide_true,decide_false,qS,intArith,Int.ofNat_zero,reduceCtorEq,Bool.not_true,Bool.not_false,Bool.false_eq_true,Int.reduceEq,Int.reduceAdd,Int.zero_add,Int.add_zero,lW,dN,cM,mX,mZ,nH,nJ,kQ,iI,qA,iH,iY,pZ,iR,jM,iT,oX,fR,dZ,eD,eE,fQ,kI,lV,pK,mJ,jR,iQ,List.reverse_cons,List.reverse_nil,oL,dH,dV,dB,dW,bN,iZ,jL,kW,eH,qJ,oMx,lB,jQ,vE,kX,jL,kW,kE,eK,evO,mR,jF,mU,lG,lI,oF,oE,fU,fS,dU,iP,uD,dH,dV,dB,dW,bN,vF,uA,bound,vl,eqA,iW,Int.reduceLE,Int.reduceLT,kF,jG,jB,aH,aK,dA,aS,kO,iS,jN,kN,mC,takeN,cW,jH,jO,jA,eM,iC,fO,jP,kS,iB,KF,KG]
    rw [tM hlt om]
    show bZ (eval fns orc m) 42 none (.loop p42x10100) _=_
    rw [ih']
    cases wQ (fun x:Nat=>decide (s=(x:Int))) (l.drop (i+1)) with
    |none=>rfl
    |some k=>simp only [Option.map];rw [show i+1+k=i+(k+1) by omega]
 obtain ⟨n,e⟩:=key l.length 0 om
 refine Ev.call H.f42 H.o42 ⟨n,fun m hm=> ?bIx⟩
 case bIx=>
  have e1:=e m hm
  simp only [List.drop_zero,Int.ofNat_zero,Nat.zero_add] at e1
  have q:∀hp,mK hp .sl v= .ok l.length:=fun hp=>by rw [bJ hv hp];simp [ints]
  cases c:wQ (fun x:Nat=>decide (s=(x:Int))) l with
  |none=>
   rw [c] at e1
   exact SX (cj5 @a42.eq_1 q e1 @DA.eq_1 @DA.eq_2)
  |some k=>
   rw [c] at e1
   exact SX (cj5 @a42.eq_1 q e1 @DA.eq_1 @DA.eq_2)
def pL:List lH→List UInt8→Option (Nat×Nat)
 |[],_=>none
 |d::r,s=>match wQ (fun x=>decide (s=x)) (iJ d) with
  |some k=>some (0,k)
  |none=>(pL r s).map fun x=>(x.1+1,x.2)
theorem Ay {s:List UInt8}:∀{l:List lH} {i k:Nat},pL l s=some (i,k)→∃d,l[i]? =some d∧wQ (fun x=>decide (s=x)) (iJ d)=some k∧∀j e,j<i→l[j]? =some e→s∉iJ e
 |[],i,k,h=>by cases h
 |d::r,i,k,h=>by
  simp only [pL] at h
  split at h
  ·rename_i j hj
   cases h
   exact ⟨d,rfl,hj,fun j e hj=>absurd hj (Nat.not_lt_zero _)⟩
  ·rename_i hn
   cases hr:pL r s with
   |none=>rw [hr] at h;cases h
   |some x=>
    obtain ⟨i',k'⟩:=x
    rw [hr] at h
    cases h
    obtain ⟨e,h1,h2,h3⟩:=Ay hr
    refine ⟨e,by simpa using h1,h2,fun j f hj hf=> ?_⟩
    cases j with
    |zero=>
     simp at hf
     subst hf
     intro q
     have:=Bg hn s q
     simp at this
    |succ j=>exact h3 j f (Nat.lt_of_succ_lt_succ hj) (by simpa using hf)
theorem G1 {s:List UInt8}:∀{l:List lH},pL l s=none→∀d∈l,s∉iJ d
 |[],_,d,hd=>by cases hd
 |e::r,h,d,hd=>by
  simp only [pL] at h
  split at h
  ·cases h
  ·rename_i hn
   rcases List.mem_cons.1 hd with rfl|q
   ·intro q
    have:=Bg hn s q
    simp at this
   ·cases hr:pL r s with
    |none=>exact G1 hr d q
    |some x=>rw [hr] at h;cases h
def AG:Option (Nat×Nat)→AV
 |some (i,k)=> .tup [.agg [.int .i64 0,.int .i64 0,.int .i64 (i:Nat),.int .i64 (k:Nat)],.bool true]
 |none=> .tup [.agg [.int .i64 0,.int .i64 0,.int .i64 0,.int .i64 0],.bool false]
theorem Cc {p:lH}:(iJ p).length<(Part.decl p).nodes:=by cases p;rw [Gl];simp only [iJ];omega
theorem Lm (H:Has fns orc) {vd:AV} {dl:List lH} {xs:List AV} (hx:iK vd xs) (hxl:xs.length=dl.length) (hg:∀i (hi:i<dl.length),∃c,xs[i]? =some (.agg c)∧RV (.decl dl[i]) (.agg c)) (hn:dl.length<10000000)
  (hnn:∀d∈dl,(iJ d).length<10000000) (s:List UInt8) {b4:Nat}:∀(k i:Nat) (h:aD),i+k=dl.length→cont h b4=some [.int .i64 0,.int .i64 0,.int .i64 0,.int .i64 0]→
   ∃h',h.next≤h'.next∧(∀j,j<h.next→j≠b4→h'.get j=h.get j)∧match pL (dl.drop i) s with
    |some (j,k)=>cont h' b4=some [.int .i64 0,.int .i64 0,.int .i64 ((i+j:Nat):Int),.int .i64 (k:Nat)]∧Ev fns orc (.code 56 none (.loop p56x10100) ⟨[(1,.str s),(4,.ptr b4 0),(13,vd),(14,.int .i64 (dl.length:Nat)),(15,.int .i64 (i:Nat))],[],.plain,h⟩) (.code .ret ⟨[(4,.ptr b4 0),(5,.bool true)],[],.plain,h'⟩)
    |none=>cont h' b4=some [.int .i64 0,.int .i64 0,.int .i64 0,.int .i64 0]∧Ev fns orc (.code 56 none (.loop p56x10100) ⟨[(1,.str s),(4,.ptr b4 0),(13,vd),(14,.int .i64 (dl.length:Nat)),(15,.int .i64 (i:Nat))],[],.plain,h⟩) (.code (.exit 0) ⟨[(1,.str s),(4,.ptr b4 0),(13,vd),(14,.int .i64 (dl.length:Nat)),(15,.int .i64 (dl.length:Nat)),(16,.bool false)],[],.plain,h'⟩):=by
 intro k
 induction k with
 |zero=>
  intro i h hi hb
  have d:decide ((i:Int)<((dl.length:Nat):Int))=false:=dF om
  refine ⟨h,Nat.le_refl _,fun _ _ _=>rfl, ?_⟩
  rw [show i=dl.length by omega] at d⊢
  rw [List.drop_length]
  refine ⟨hb,Ev.code ⟨0,fun m _=> ?b0⟩⟩
  case b0=>
   exact SX (cj2 d @aI)
 |succ k ih=>
  intro i h hi hb
  have hlt:i<dl.length:=om
  have d:decide ((i:Int)<((dl.length:Nat):Int))=true:=dT om
  obtain ⟨c,hc,rv⟩:=hg i hlt
  rw [List.drop_eq_getElem_cons hlt,pL]
  have VO:=hnn _ (List.getElem_mem hlt)
  generalize dl[i]=e at rv VO
  have hcl:=pJ rv
  have hck:=tX rv
  have hia:=jZ hx hc hcl
  have p8:takeN 5 c=some c:=by rw [←hcl];exact aX c
  have hst:=pM h (sz:=5) (z:=kD) rfl hcl hck
  obtain ⟨hA,hAe⟩:∃x,x=(h.push (.cells kD)).set h.next (.cells c):=⟨_,rfl⟩
  rw [←hAe] at hst
  simp only [kD] at hst
  have gA:aR h hA:=by rw [hAe];exact gw2
  have nA:hA.next=h.next+1:=by rw [hAe];simp
  have cA:cont hA h.next=some c:=by rw [hAe];exact aH (by simp)
  have bA:=(aF gA (aT hb)).trans hb
  have lb:=aT hb
  cases e with|mk k1 nm sl pl ds=>
  cases rv with|decl r0 r1 r2 r3=>
  rename_i vn vs vp vy
  simp only [iJ] at VO⊢
  obtain ⟨n1,e1⟩:=Py H r0 VO s hA
  cases cf:wQ (fun x=>decide (s=x)) nm with
  |some j=>
   obtain ⟨hB,hBe⟩:∃x,x=hA.set b4 (.cells [.int .i64 0,.int .i64 0,.int .i64 (i:Nat),.int .i64 (j:Nat)]):=⟨_,rfl⟩
   have hsB:kK hA 4 (.ptr b4 0) (.agg [.int .i64 0,.int .i64 0,.int .i64 (i:Nat),.int .i64 (j:Nat)])= .ok hB:=by
    rw [hBe]
    simp only [jB,bA,iS,AV.cells,List.length_cons,List.length_nil,List.all_cons,List.all_nil,bI,cW]
    rfl
   refine ⟨hB,by rw [hBe];simp;omega,fun q hq hne=>by rw [hBe,aE _ _ _ _ om hne,gA.get q hq],by rw [hBe];exact aH om,Ev.code ⟨n1,fun m hm=> ?b1⟩⟩
   case b1=>
    have e1' :=e1 m om
    rw [cf] at e1'
    simp only [DA] at e1'
    have d2:decide (0≤((j:Nat):Int))=true:=dT om
    exact SM (cj9 d hia p8 hst cA e1' d2 hsB @aI)
  |none=>
   obtain ⟨h',n',o',r⟩:=ih (i+1) hA om bA
   refine ⟨h',by omega,fun q hq hne=>(o' q om hne).trans (gA.get q hq), ?_⟩
   have step:∀a,Ev fns orc (.code 56 none (.loop p56x10100) ⟨[(1,.str s),(4,.ptr b4 0),(13,vd),(14,.int .i64 (dl.length:Nat)),(15,.int .i64 ((i+1:Nat):Int))],[],.plain,hA⟩) a→
     Ev fns orc (.code 56 none (.loop p56x10100) ⟨[(1,.str s),(4,.ptr b4 0),(13,vd),(14,.int .i64 (dl.length:Nat)),(15,.int .i64 (i:Nat))],[],.plain,h⟩) a:=by
    rintro a ⟨n2,e2⟩
    refine Ev.code ⟨n1+n2,fun m hm=> ?b2⟩
    case b2=>
     have e1' :=e1 m om
     have e2' :=e2 m om
     rw [cf] at e1'
     simp only [DA] at e1'
     have d2:decide (0≤(-1:Int))=false:=rfl
     exact SMe (cj9 d hia p8 hst cA e1' d2 @aI (tM hlt om)) e2'
   cases cd:pL (dl.drop (i+1)) s with
   |none=>
    rw [cd] at r
    exact ⟨r.1,step _ r.2⟩
   |some x=>
    obtain ⟨j,k'⟩:=x
    rw [cd] at r
    refine ⟨?_,step _ r.2⟩
    rw [r.1,show i+1+j=i+(j+1) by omega]
theorem zK (H:Has fns orc) {vd:AV} {dl:List lH} (hv:RVs (dl.map Part.decl) vd) (hn:dl.length<10000000) (hnn:∀d∈dl,(iJ d).length<10000000) (s:List UInt8) {loc:Nat} {cc:List AV} {h:aD} (hc:cont h loc=some cc) (h2:nth cc 2=some vd):
  ∃h',aR h h' ∧Ev fns orc (.call 56 [.ptr loc 0,.str s] .plain h) (.call (.ret (AG (pL dl s))) .plain h'):=by
 obtain ⟨ys,hy,hyl,hyg⟩:=jX hv
 simp only [List.length_map,List.getElem_map] at hyl hyg
 have q2:∀hp,mK hp .sl vd= .ok dl.length:=fun hp=>by rw [bJ hy hp,hyl]
 have l1:=aT hc
 obtain ⟨hA,hAe⟩:∃x,x=h.push (.cells [.int .i64 0,.int .i64 0,.int .i64 0,.int .i64 0]):=⟨_,rfl⟩
 have gA:aR h hA:=by rw [hAe];exact gw2
 have nA:hA.next=h.next+1:=by rw [hAe];simp
 have bA:cont hA h.next=some [.int .i64 0,.int .i64 0,.int .i64 0,.int .i64 0]:=by rw [hAe];exact aS om om
 have cA:=(aF gA l1).trans hc
 obtain ⟨hB,nB,oB,r⟩:=Lm H hy hyl hyg hn hnn s (b4:=h.next) dl.length 0 hA om bA
 rw [List.drop_zero] at r
 have gB:aR h hB:=⟨by omega,fun i hi=>(oB i om om).trans (gA.get i hi)⟩
 cases cd:pL dl s with
 |some x=>
  obtain ⟨i,k⟩:=x
  rw [cd] at r
  obtain ⟨r1,n1,e1⟩:=r
  refine ⟨hB,gB,Ev.call H.f56 H.o56 ⟨n1,fun m hm=> ?b1⟩⟩
  case b1=>
   have e1' :bZ (eval fns orc m) 56 none (.loop p56x10100) _=_:=e1 (m+1) om
   simp only [Int.ofNat_zero] at e1'
   simp only [Nat.zero_add] at r1
   exact SM (cj9 @a56.eq_1 (Eq.symm hAe) cA h2 q2 e1' r1 @AG.eq_1 @AG.eq_2)
 |none=>
  rw [cd] at r
  obtain ⟨r1,n1,e1⟩:=r
  have hsB:=iS hB 4 h.next 0 (.agg [.int .i64 0,.int .i64 0,.int .i64 0,.int .i64 0]) [.int .i64 0,.int .i64 0,.int .i64 0,.int .i64 0]
  obtain ⟨hC,hCe⟩:∃x,x=hB.set h.next (.cells [.int .i64 0,.int .i64 0,.int .i64 0,.int .i64 0]):=⟨_,rfl⟩
  have hsC:kK hB 4 (.ptr h.next 0) (.agg [.int .i64 0,.int .i64 0,.int .i64 0,.int .i64 0])= .ok hC:=by
   rw [hCe]
   simp only [jB,r1,iS,AV.cells,List.length_cons,List.length_nil,List.all_cons,List.all_nil,bI,cW]
   rfl
  have cC:cont hC h.next=some [.int .i64 0,.int .i64 0,.int .i64 0,.int .i64 0]:=by rw [hCe];exact aH om
  refine ⟨hC,by rw [hCe];exact gB.set om om _,Ev.call H.f56 H.o56 ⟨n1,fun m hm=> ?b2⟩⟩
  case b2=>
   have e1' :bZ (eval fns orc m) 56 none (.loop p56x10100) _=_:=e1 (m+1) om
   simp only [Int.ofNat_zero] at e1'
   exact SM (uK @a56.eq_1 (Eq.symm hAe) cA h2 q2 e1' hsC cC @AG.eq_1 @AG.eq_2)
end Go.Ly
namespace Go.Ly
open Go Go.Am Go.Fs Go.Gn
variable {fns:Go.Am.F} {orc:Orc}
structure Tb where
 n:Nat
 loc:Nat→Nat
 D:Nat→DS
 tb:Nat
 mb:Nat
 es:Es
structure Tb.Ok (Γ:Tb):Prop where
 pos:0<Γ.n
 lt:Γ.n<10000000
 ar:∀i,i<Γ.n→ -1≤(Γ.D i).ar∧(Γ.D i).ar<(i:Int)
 ok:∀i,i<Γ.n→(Γ.D i).Ok
 inj:∀i j,i<Γ.n→j<Γ.n→Γ.loc i=Γ.loc j→i=j
 es:∀e∈Γ.es,∃o i v,o<Γ.n∧v<Γ.n∧e.1=key o i∧e.2.1= .int .i64 (v:Nat)∧(Γ.D v).ar=(o:Int)∧(aV (Γ.D o).pd)[i]? =some (Γ.D v).ow∧(Γ.D v).pd∈pY (Γ.D v).ow
 th:∀o,o<Γ.n→∀(i:Nat) d,(aV (Γ.D o).pd)[i]? =some d→pY d≠[]→∃e∈Γ.es,e.1=key o i
structure DY where
 busy:Bool
 ch:Option (List Nat×List Nat)
 off:Int
 cl:Int
 cc:List AV
def ChV:Option (List Nat×List Nat)→AV→AV→Prop
 |none,vc,_=>vc= .aC
 |some (c,u),vc,vu=>c≠[]∧iK vc (ints c)∧iK vu (ints u)
def Tb.xs (Γ:Tb):List AV:=(List.range Γ.n).map fun i=> .ptr (Γ.loc i) 0
structure TB (Γ:Tb) (S:Nat→DY) (h:aD):Prop where
 t_:∃tk v2,cont h Γ.tb=some [.sl tk Γ.xs,.map Γ.mb,v2]
 m_:∃clk,h.get Γ.mb=some (.map Γ.es clk)
 d_:∀i,i<Γ.n→∃vc vu,cont h (Γ.loc i)=some (bx (Γ.D i) (S i).busy vc vu (S i).off (S i).cl)∧ChV (S i).ch vc vu
 e_:∀i,i<Γ.n→cont h (Γ.loc i)=some (S i).cc
def pE (Γ:Tb) (i:Nat):Prop:=∃k,k<Γ.n∧i=Γ.loc k
theorem TB.grow {Γ:Tb} {S:Nat→DY} {a b:aD} (T:TB Γ S a) (g:aR a b):TB Γ S b:=by
 refine ⟨?_,T.m_.imp fun c w=>(g.get _ (aD.mM w)).trans w,fun i hi=> ?_,fun i hi=>(aF g (aT (T.e_ i hi))).trans (T.e_ i hi)⟩
 ·obtain ⟨tk,v2,w⟩:=T.t_
  exact ⟨tk,v2,(aF g (aT w)).trans w⟩
 ·obtain ⟨vc,vu,w,k⟩:=T.d_ i hi
  exact ⟨vc,vu,(aF g (aT w)).trans w,k⟩
theorem Tb.at (Γ:Tb) (tk:Tk) {i:Nat} (hi:i<Γ.n):oG 1 (.sl tk Γ.xs) (.int .i64 (i:Nat))= .ok (.ep [.ptr (Γ.loc i) 0] 0):=
 pN (.sl tk _) (by simp [Tb.xs,hi]) rfl
section
variable {D:DS} (k:D.Ok) (b:Bool) (vc vu:AV) (off cl:Int)
include k
theorem sB:∃s vp vd ve hb vi vx kk vn vs vq vy,D.dc=[.str s,vp,vd,ve,.bool hb,vi,vx]∧D.oc=[.int .i64 kk,vn,vs,vq,vy]∧RVs ((A1 D.pd).map Part.exp) vp∧RVs ((aV D.pd).map Part.decl) vd∧kk=iO D.ow∧iK vn ((iJ D.ow).map AV.str):=by
 obtain ⟨pd,ow,num,ar,dc,oc⟩:=D
 have h1:=k.rd
 have h2:=k.ro
 simp only at h1 h2
 cases h1 with|desc r1 r2 r3 r4 r5=>
 cases h2 with|decl s0 s1 s2 s3=>
 exact ⟨_,_,_,_,_,_,_,_,_,_,_,_,rfl,rfl,r1,r2,rfl,s0⟩
theorem FA:nth (bx D b vc vu off cl) 8=some (.int .i64 D.ar):=by
 obtain ⟨s,vp,vd,ve,hb,vi,vx,kk,vn,vs,vq,vy,e1,e2,_⟩:=sB k
 rw [bx,e1,e2];rfl
theorem nbx7:nth (bx D b vc vu off cl) 7=some (.int .i64 D.num):=by
 obtain ⟨s,vp,vd,ve,hb,vi,vx,kk,vn,vs,vq,vy,e1,e2,_⟩:=sB k
 rw [bx,e1,e2];rfl
theorem Rp:nth (bx D b vc vu off cl) 14=some (.bool b):=by
 obtain ⟨s,vp,vd,ve,hb,vi,vx,kk,vn,vs,vq,vy,e1,e2,_⟩:=sB k
 rw [bx,e1,e2];rfl
theorem Fa:nth (bx D b vc vu off cl) 15=some vc:=by
 obtain ⟨s,vp,vd,ve,hb,vi,vx,kk,vn,vs,vq,vy,e1,e2,_⟩:=sB k
 rw [bx,e1,e2];rfl
theorem UT:nth (bx D b vc vu off cl) 16=some vu:=by
 obtain ⟨s,vp,vd,ve,hb,vi,vx,kk,vn,vs,vq,vy,e1,e2,_⟩:=sB k
 rw [bx,e1,e2];rfl
theorem US:nth (bx D b vc vu off cl) 17=some (.int .i64 off):=by
 obtain ⟨s,vp,vd,ve,hb,vi,vx,kk,vn,vs,vq,vy,e1,e2,_⟩:=sB k
 rw [bx,e1,e2];rfl
theorem UR:nth (bx D b vc vu off cl) 18=some (.int .i64 cl):=by
 obtain ⟨s,vp,vd,ve,hb,vi,vx,kk,vn,vs,vq,vy,e1,e2,_⟩:=sB k
 rw [bx,e1,e2];rfl
theorem Xb:∃vp,nth (bx D b vc vu off cl) 1=some vp∧RVs ((A1 D.pd).map Part.exp) vp:=by
 obtain ⟨s,vp,vd,ve,hb,vi,vx,kk,vn,vs,vq,vy,e1,e2,r1,r2,_⟩:=sB k
 exact ⟨vp,by rw [bx,e1,e2];rfl,r1⟩
theorem Gm:∃vd,nth (bx D b vc vu off cl) 2=some vd∧RVs ((aV D.pd).map Part.decl) vd:=by
 obtain ⟨s,vp,vd,ve,hb,vi,vx,kk,vn,vs,vq,vy,e1,e2,r1,r2,_⟩:=sB k
 exact ⟨vd,by rw [bx,e1,e2];rfl,r2⟩
theorem nbx9:nth (bx D b vc vu off cl) 9=some (.int .i64 (iO D.ow)):=by
 obtain ⟨s,vp,vd,ve,hb,vi,vx,kk,vn,vs,vq,vy,e1,e2,_,_,r3,_⟩:=sB k
 subst r3
 rw [bx,e1,e2];rfl
theorem UU:∃vn,nth (bx D b vc vu off cl) 10=some vn∧iK vn ((iJ D.ow).map AV.str):=by
 obtain ⟨s,vp,vd,ve,hb,vi,vx,kk,vn,vs,vq,vy,e1,e2,_,_,_,r4⟩:=sB k
 exact ⟨vn,by rw [bx,e1,e2];rfl,r4⟩
end
def upF (Γ:Tb):Nat→Int→Int
 |0,a=>a
 |k+1,a=>if a<0 then a else upF Γ k (Γ.D a.toNat).ar
theorem Cv (Γ:Tb) (k:Nat) {a:Int} (h:a<0):upF Γ k a=a:=by cases k with|zero=>rfl|succ k=>simp only [upF,h,if_true]
theorem Cu {Γ:Tb} (O:Γ.Ok):∀(k:Nat) {a:Int}, -1≤a∧a<(Γ.n:Int)→ -1≤upF Γ k a∧upF Γ k a≤a
 |0,a,h=>⟨h.1,Int.le_refl _⟩
 |k+1,a,h=>by
  simp only [upF]
  split
  ·exact ⟨h.1,Int.le_refl _⟩
  ·have:=O.ar a.toNat om
   have:=Cu O k (a:=(Γ.D a.toNat).ar) ⟨by omega,by omega⟩
   omega
theorem zW (Γ:Tb):∀(k j:Nat) (a:Int),upF Γ (k+j) a=upF Γ j (upF Γ k a)
 |0,j,a=>by rw [Nat.zero_add];rfl
 |k+1,j,a=>by
  rw [show k+1+j=(k+j)+1 by omega]
  simp only [upF]
  split
  ·rename_i h;rw [Cv Γ j h]
  ·exact zW Γ k j _
theorem Bu {Γ:Tb} (O:Γ.Ok):∀(k:Nat) {a:Int}, -1≤a∧a<(Γ.n:Int)→0≤upF Γ k a→upF Γ k a+k≤a
 |0,a,_,_=>by simp [upF]
 |k+1,a,h,hp=>by
  simp only [upF] at hp⊢
  split at hp
  ·omega
  ·rename_i hn
   rw [if_neg hn]
   have:=O.ar a.toNat om
   have:=Bu O k (a:=(Γ.D a.toNat).ar) ⟨by omega,by omega⟩ hp
   omega
theorem HP (H:Has fns orc) {Γ:Tb} (O:Γ.Ok) {S:Nat→DY} {h:aD} (T:TB Γ S h) {a:Int} (ha: -1≤a∧a<(Γ.n:Int)) {k:Nat} (hk:k<1000000000):
  Ev fns orc (.call 24 [.ptr Γ.tb 0,.int .i64 a,.int .i64 (k:Nat)] .plain h) (.call (.ret (.int .i64 (upF Γ k a))) .plain h):=by
 obtain ⟨tk,v2,tT⟩:=T.t_
 have key:∀j i a,i+j=k→ -1≤a∧a<(Γ.n:Int)→∃n ts,(∀m,n≤m→bZ (eval fns orc m) 24 none (.loop p24x10100) ⟨[(0,.ptr Γ.tb 0),(1,.int .i64 a),(7,.int .i64 (k:Nat)),(8,.int .i64 (i:Nat))],[],.plain,h⟩=
   .ok (.code (.exit 0) ⟨ts,[],.plain,h⟩))∧cX ts 1= .int .i64 (upF Γ j a):=by
  intro j
  induction j with
  |zero=>
   intro i a hi ha
   have d:decide ((i:Int)<(k:Int))=false:=dF om
   refine ⟨0, ?ts0,fun m _=> ?bU0, ?tU0⟩
   case bU0=>
    exact SX (cj2 d @aI)
   case tU0=>rfl
  |succ j ih=>
   intro i a hi ha
   have d:decide ((i:Int)<(k:Int))=true:=dT om
   by_cases c:a<0
   ·have dc:decide (a<0)=true:=dT c
    refine ⟨0, ?ts1,fun m _=> ?bU1, ?tU1⟩
    case bU1=>
     exact SX (cj3 d dc @aI)
    case tU1=>rw [Cv Γ _ c];rfl
   ·have dc:decide (a<0)=false:=dF c
    obtain ⟨an,rfl⟩:∃an:Nat,a=(an:Int):=⟨a.toNat,by omega⟩
    have hlt:an<Γ.n:=om
    have ra:=O.ar an hlt
    obtain ⟨n,ts,e,t⟩:=ih (i+1) (Γ.D an).ar om ⟨by omega,by omega⟩
    obtain ⟨vc,vu,hb,_⟩:=T.d_ an hlt
    have n8:=FA (O.ok an hlt) (S an).busy vc vu (S an).off (S an).cl
    have hia:=Γ.at tk hlt
    refine ⟨n+1,ts,fun m hm=> ?bU2, ?tU2⟩
    case bU2=>
     obtain ⟨m,rfl⟩:∃q,m=q+1:=⟨m -1,by omega⟩
     have e' :=e m om
     rw [aI]
     simp -implicitDefEqProofs (disch:=(first|omega|(simp only [aD.aJ,aD.aL];try omega)|skip)) only [d,dc,tT,hia,hb,n8,fC,fE,dQ,cQ,dP,cP,fD,dO,gJ,eO,aM,dG,iD,opA,qP,kE,qQ,pH,rE,rZ,dC,gH,fN,qG,lU,iU,fV,mE,dK,eW,Nat.beq,lQ,lX,dX,vl,qX,eV,eT,dR,fI,fF,fG,bW,iA,gX,cS,fJ,fH,bX,gZ,cR,cU,cV,cT,fK,dJ,eQ,eR,bO,gU,gN,cH,eU,eS,bP,gS,cG,cJ,cK,cI,eP,dL,aY,dE,aZ,fA,bT,bQ,bV,bR,dM,fB,kE,eK,kH,aQ,aU,fL,gM,List.drop_zero,List.drop_succ_cons,rS,oEq,eqA,pO,ki,eL,dY,oneOf,gV,jC,mQ,called,List.append_eq,List.nil_append,List.cons_append,List.append_assoc,Nat.zero_add,Nat.add_zero,kL,lF,aO,aE,aD.aJ,aD.aL,List.length_cons,List.length_nil,Bool.and_true,Bool.true_and,List.all_cons,List.all_nil,bI,bY,bM,bD,eZ,Nat.reduceAdd,Nat.reduceEqDiff,Nat.reduceBEq,ite_true,ite_false,if_true,if_false,iM,kG,jI,iE,iL,dI,fW,decide_eq_true_eq,decide_true,decide_false,qS,intArith,Int.ofNat_zero,reduceCtorEq,Bool.not_true,Bool.not_false,Bool.false_eq_true,Int.reduceEq,Int.reduceAdd,Int.zero_add,Int.add_zero,lW,dN,cM,mX,mZ,nH,nJ,kQ,iI,qA,iH,iY,pZ,iR,jM,iT,oX,fR,dZ,eD,eE,fQ,kI,lV,pK,mJ,jR,iQ,List.reverse_cons,List.reverse_nil,oL,dH,dV,dB,dW,bN,iZ,jL,kW,eH,qJ,oMx,lB,jQ,vE,kX,jL,kW,kE,eK,evO,mR,jF,mU,lG,lI,oF,oE,fU,fS,dU,iP,uD,dH,dV,dB,dW,bN,vF,uA,bound,vl,eqA,iW,Int.reduceLE,Int.reduceLT,kF,jG,jB,aH,aK,dA,aS,kO,iS,jN,kN,mC,takeN,cW,jH,jO,jA,eM,iC,fO,jP,kS,iB,KF,KG]
     rw [tM (n:=k) om om]
     exact e'
    case tU2=>
     rw [t]
     simp only [upF,c,if_false]
     rfl
 obtain ⟨n,ts,e,t⟩:=key k 0 a om ha
 refine Ev.call H.f24 H.o24 ⟨n,fun m hm=> ?bU⟩
 case bU=>
  have e' :=e m hm
  simp only [Int.ofNat_zero] at e'
  exact SX (cj3 @a24.eq_1 e' t)
end Go.Ly
namespace Go.Ly
open Go Go.Am Go.Fs Go.Gn
variable {fns:Go.Am.F} {orc:Orc}
def S9 (c:List Nat) (n:Nat) (x:List AV):Prop:=∃q d:Nat,n+q+1=c.length∧c[q]? =some d∧x=[.int .i64 (q:Nat),.int .i64 (d:Nat)]
theorem N4 (H:Has fns orc) (v:AV) (h:aD) (hv:v.cells=[v]) (hk:v.known=true) (m:Nat) (hm:2≤m):eval fns orc m (.call 72 [v] .plain h)= .ok (.call (.ret (.fn 102 [] [.ptr h.next 0])) .plain (h.push (.cells [v]))):=
 fP (n:=0) H.f72 H.o72 (fun m _=>by
  exact SX (cj3 @a72.eq_1 hv hk)) m hm
theorem Kx {c:List Nat} {vc:AV} (hc:iK vc (ints c)) (hn:c.length<1000000000) {l b:Nat} {I:Nat→(Nat→Prop)→aD→Prop} {D:(Nat→Prop)→aD→Prop} (F:Fu fns orc l (S9 c) I D) {P:Nat→Prop} (hb:P b):
  ∀(k n:Nat) (h:aD),n+k=c.length→(∀j,P j→j<h.next)→cont h b=some [vc]→I n P h→
   ∃h' e s,Ev fns orc (.code 102 none (.loop p102x100) ⟨[(0,.yield l),(1,.ptr b 0),(3,.int .i64 ((k:Nat) -1:Int))],[],.plain,h⟩) (.code e s)∧
    (e= .exit 0∨e= .ret)∧s.heap=h' ∧s.defers=[]∧s.rc= .plain∧Kept P h h' ∧(I c.length P h' ∨D P h'):=by
 intro k
 induction k with
 |zero=>
  intro n h hi hP hbb hI
  have e:n=c.length:=om
  have hd:decide (0≤(((0:Nat):Int) -1))=false:=rfl
  refine ⟨h,.exit 0, ?s0,Ev.code ⟨0,fun m _=> ?b0⟩,.inl rfl, ?e1, ?e2, ?e3,.refl _ _,.inl (by rw [←e];exact hI)⟩
  case b0=>
   exact SX (cj2 hd @aI)
  case e1=>rfl
  case e2=>rfl
  case e3=>rfl
 |succ k ih=>
  intro n h hi hP hbb hI
  have hlt:k<c.length:=om
  have hd:decide (0≤(((k+1:Nat):Int) -1))=true:=dT om
  have ek:((k+1:Nat):Int) -1=(k:Nat):=om
  have hia:=pN hc (i:=k) (v:= .int .i64 (c[k]:Nat)) (by simp [ints,hlt]) rfl
  obtain ⟨hC,b',⟨n2,e2⟩,kC,hI1,hD1⟩:=F.rnd n [.int .i64 (k:Nat),.int .i64 (c[k]:Nat)] ⟨k,c[k],by omega,List.getElem?_eq_getElem hlt,rfl⟩ P h hP hI
  rw [ek] at hd⊢
  cases b' with
  |false=>
   refine ⟨hC,.ret, ?s1,Ev.code ⟨n2,fun m hm=> ?b1⟩,.inr rfl, ?e11, ?e12, ?e13,kC,.inr (hD1 rfl)⟩
   case b1=>
    have e2' :=e2 m om
    exact SX (cj5 hd hbb hia e2' @aI)
   case e11=>rfl
   case e12=>rfl
   case e13=>rfl
  |true=>
   obtain ⟨h',e,s,⟨n3,e3⟩,hx1,hx2,hx3,hx4,kr,hID⟩:=ih (n+1) hC om (fun j hj=>Nat.lt_of_lt_of_le (hP j hj) kC.next) ((aG (kC.get b hb)).trans hbb) (hI1 rfl)
   refine ⟨h',e,s,Ev.code ⟨max n2 n3,fun m hm=> ?b2⟩,hx1,hx2,hx3,hx4,kC.trans kr,hID⟩
   case b2=>
    have e2' :=e2 m om
    have e3' :=e3 m om
    have w:IntKind.wrap .i64 ((k:Int) -1)=(k:Int) -1:=mW om om
    exact SXe (cj6 hd hbb hia e2' w @aI) e3'
theorem Kv (H:Has fns orc) {c:List Nat} {vc:AV} (hc:iK vc (ints c)) (hn:c.length<1000000000) {b:Nat} {P:Nat→Prop} {h0:aD} (hb:P b) (h1:cont h0 b=some [vc]):Et fns orc 102 [.ptr b 0] (S9 c) c.length P h0:=by
 intro h l I D hk hP F hI
 have h1' :cont h b=some [vc]:=(aG (hk.get b hb)).trans h1
 have hlen:mK h .sl vc= .ok c.length:=by rw [bJ hc h];simp [ints]
 obtain ⟨h',e,s,⟨n,tS⟩,he,hh,hd,hrc,kr,hID⟩:=Kx hc hn F hb c.length 0 h om hP h1' hI
 obtain ⟨ts,ds,rc,hp⟩:=s
 cases hh
 cases hd
 cases hrc
 refine ⟨hp,Ev.call H.f102 H.o102 ⟨n,fun m hm=> ?_⟩,kr,hID⟩
 have e1:bZ (eval fns orc m) 102 none (.loop p102x100) _=_:=tS (m+1) om
 have w:IntKind.wrap .i64 ((c.length:Int) -1)=(c.length:Int) -1:=mW om om
 rcases he with rfl|rfl
 ·exact SX (cj5 @a102.eq_1 h1' hlen w e1)
 ·exact SX (cj5 @a102.eq_1 h1' hlen w e1)
def Ext (S S' :Nat→DY):Prop:=∀i,S' i=S i∨((S i).ch=none∧(S i).busy=false∧(S' i).ch≠none∧(S' i).busy=false)
theorem Ext.refl (S:Nat→DY):Ext S S:=fun _=> .inl rfl
theorem Ext.kR {S S' :Nat→DY} (e:Ext S S') {i:Nat} (h:(S i).ch≠none):S' i=S i:=by
 rcases e i with q|⟨q,_⟩
 ·exact q
 ·exact absurd q h
theorem Ext.trans {A B C:Nat→DY} (h:Ext A B) (k:Ext B C):Ext A C:=by
 intro i
 rcases h i with q|⟨q1,q2,q3,q4⟩
 ·rcases k i with w|⟨w1,w2,w3,w4⟩
  ·exact .inl (w.trans q)
  ·rw [q] at w1 w2
   exact .inr ⟨w1,w2,w3,w4⟩
 ·have w:=k.kR q3
  exact .inr ⟨q1,q2,by rw [w];exact q3,by rw [w];exact q4⟩
def opn (S:Nat→DY):Nat→Nat
 |0=>0
 |n+1=>opn S n+(if (S n).ch=none∧(S n).busy=false then 1 else 0)
theorem yU {S S' :Nat→DY} (e:Ext S S'):∀n,opn S' n≤opn S n
 |0=>Nat.le_refl _
 |n+1=>by
  have:=yU e n
  simp only [opn]
  rcases e n with q|⟨q1,q2,q3,q4⟩
  ·rw [q];omega
  ·rw [if_neg (fun w=>q3 w.1),if_pos ⟨q1,q2⟩];omega
def Kk (Γ:Tb) (s:List UInt8) (c:List Nat):Nat→Option (Nat×Nat×Nat)
 |0=>none
 |q+1=>match c[q]? with
  |some d=>match pL (aV (Γ.D d).pd) s with
   |some (i,k)=>some (q,i,k)
   |none=>Kk Γ s c q
  |none=>Kk Γ s c q
def Pe (Γ:Tb) (s:List UInt8) (c:List Nat):Option (Nat×Nat×Nat):=Kk Γ s c c.length
theorem HY {Γ:Tb} {s:List UInt8} {c:List Nat}:∀{n q i k:Nat},Kk Γ s c n=some (q,i,k)→q<n∧(∃d,c[q]? =some d∧pL (aV (Γ.D d).pd) s=some (i,k))∧∀(q' d:Nat),q<q' →q' <n→c[q']? =some d→pL (aV (Γ.D d).pd) s=none
 |0,q,i,k,h=>by cases h
 |n+1,q,i,k,h=>by
  simp only [Kk] at h
  have later:Kk Γ s c n=some (q,i,k)→(∀d,c[n]? =some d→pL (aV (Γ.D d).pd) s=none)→q<n+1∧(∃d,c[q]? =some d∧pL (aV (Γ.D d).pd) s=some (i,k))∧∀(q' d:Nat),q<q' →q' <n+1→c[q']? =some d→pL (aV (Γ.D d).pd) s=none:=by
   intro h hn
   obtain ⟨h1,h2,h3⟩:=HY h
   refine ⟨by omega,h2,fun q' d a b hd=> ?_⟩
   by_cases e:q' =n
   ·subst e;exact hn d hd
   ·exact h3 q' d a om hd
  cases hd:c[n]? with
  |none=>
   rw [hd] at h
   exact later h (fun d w=>by rw [hd] at w;cases w)
  |some d=>
   rw [hd] at h
   simp only at h
   cases hf:pL (aV (Γ.D d).pd) s with
   |none=>
    rw [hf] at h
    exact later h (fun e w=>by rw [hd] at w;cases w;exact hf)
   |some x=>
    obtain ⟨i',k'⟩:=x
    rw [hf] at h
    cases h
    exact ⟨by omega,⟨d,hd,hf⟩,fun q' d a b=>by omega⟩
def yP (Γ:Tb) (S:Nat→DY) (s:List UInt8) (a:Int) (l:Nat):Prop:=∀w:Nat,upF Γ l a=(w:Int)→∃c u,(S w).ch=some (c,u)∧Pe Γ s c=none
theorem yP.ext {Γ:Tb} {S S' :Nat→DY} {s:List UInt8} {a:Int} {l:Nat} (e:Ext S S') (k:yP Γ S s a l):yP Γ S' s a l:=by
 intro w hw
 obtain ⟨c,u,h1,h2⟩:=k w hw
 exact ⟨c,u,by rw [e.kR (by rw [h1];simp)];exact h1,h2⟩
def BX (Γ:Tb) (S:Nat→DY) (s:List UInt8) (a:Int) (lv q i k:Nat):Prop:=
 (∃w c u,upF Γ lv a=((w:Nat):Int)∧w<Γ.n∧(S w).ch=some (c,u)∧Pe Γ s c=some (q,i,k))∧∀l,l<lv→yP Γ S s a l
def NN:pD→Int| .mk k _ _ _ _ _ _ _=>k
def Gi:pD→List UInt8| .mk _ _ _ _ _ t _ _=>t
def Hx:List UInt8:=[111,98,106,101,99,116]
def Le (S S' :Nat→DY):Prop:=∀i,(S i).ch≠none→S' i=S i
theorem Ext.le {S S' :Nat→DY} (e:Ext S S'):Le S S' :=fun _ h=>e.kR h
theorem Le.ch {S S' :Nat→DY} (e:Le S S') {i:Nat} {x:List Nat×List Nat} (h:(S i).ch=some x):(S' i).ch=some x:=by rw [e i (by rw [h];simp)];exact h
def ThR (Γ:Tb) (o i v:Nat):Prop:=v<Γ.n∧∃j,findKey (.cells [.int,.int]) (key o i) Γ.es 0= .ok (some (j,AV.int .i64 (v:Nat)))
theorem ThR.uniq {Γ:Tb} {o i v v' :Nat} (h:ThR Γ o i v) (h' :ThR Γ o i v'):v=v' :=by
 obtain ⟨_,j,e⟩:=h
 obtain ⟨_,j',e'⟩:=h'
 rw [e] at e'
 injection e' with q
 injection q with q
 injection q with _ q
 injection q with _ q
 omega
abbrev Tg:=Option (Nat×Nat×Nat)
def AD (Γ:Tb) (S:Nat→DY) (a:Int) (e:pD) (t:Tg):Prop:=NN e=8∧
 ((t=none∧Gi e=Hx∧∀l,yP Γ S (Gi e) a l)∨∃lv q i k w c u o d v,BX Γ S (Gi e) a lv q i k∧upF Γ lv a=((w:Nat):Int)∧(S w).ch=some (c,u)∧c[q]? =some o∧o<Γ.n∧(aV (Γ.D o).pd)[i]? =some d∧iO d=1∧ThR Γ o i v∧t=some (v,lv,q))
def yB (Γ:Tb) (s:List UInt8):List Nat→Nat→List Nat→List Nat
 |[],_,acc=>acc
 |d::r,q,acc=>yB Γ s r (q+1) (match pL (aV (Γ.D d).pd) s with
  |none=>acc
  |some (i,_)=>match (aV (Γ.D d).pd)[i]? with
   |none=>acc
   |some x=>if iO x=2 then [q] else if (iO x=3∨iO x=4)∧acc≠[] then acc++[q] else acc)
def lT (Γ:Tb) (s:List UInt8) (c:List Nat):List Nat:=yB Γ s c 0 []
def rL (Γ:Tb) (S:Nat→DY) (c:List Nat) (q:Nat) (s:List UInt8) (t:Tg):Prop:=
 ∃o i k d,c[q]? =some o∧o<Γ.n∧pL (aV (Γ.D o).pd) s=some (i,k)∧(aV (Γ.D o).pd)[i]? =some d∧
  (((pY d).length=1∧∃v,ThR Γ o i v∧t=some (v,0,q))∨((pY d).length≠1∧∃e,(wC d)[0]? =some e∧AD Γ S (o:Int) e t))
def Hm (Γ:Tb) (S:Nat→DY) (a:Int) (lv pt lv' pt' :Nat):Prop:=
 ∃w c u k t w' c' u',upF Γ lv a=((w:Nat):Int)∧(S w).ch=some (c,u)∧c[pt]? =some k∧u[pt]? =some t∧lv' =lv+1+t∧upF Γ lv' a=((w' :Nat):Int)∧(S w').ch=some (c',u')∧wQ (fun x:Nat=>decide ((Γ.D k).ar=(x:Int))) c' =some pt'
def vQ (Γ:Tb) (S:Nat→DY) (a:Int):Nat→Nat→Nat→Nat→Nat→Prop
 |0,lv,pt,lv',pt' =>lv' =lv∧pt' =pt
 |n+1,lv,pt,lv',pt' =>∃l p,Hm Γ S a lv pt l p∧vQ Γ S a n l p lv' pt'
def DN (Γ:Tb) (S:Nat→DY) (i:Nat) (t:Tg):Prop:=
 (∃e,A1 (Γ.D i).pd=[e]∧(((Γ.D i).ar<0∧NN e=8∧Gi e=Hx∧t=none)∨(0≤(Γ.D i).ar∧AD Γ S (Γ.D i).ar e t)))∨
 ((A1 (Γ.D i).pd).length≠1∧¬(iO (Γ.D i).ow=3∨iO (Γ.D i).ow=4)∧t=none)∨
 ((A1 (Γ.D i).pd).length≠1∧(iO (Γ.D i).ow=3∨iO (Γ.D i).ow=4)∧∃s a c u q t0,iJ (Γ.D i).ow=[s]∧(Γ.D i).ar=((a:Nat):Int)∧(S a).ch=some (c,u)∧(lT Γ s c.dropLast).getLast? =some q∧rL Γ S c q s t0∧
  ((t0=none∧t=none)∨(∃v pt,t0=some (v,0,pt)∧t=t0)∨∃v lv pt lv' p,t0=some (v,lv,pt)∧0<lv∧vQ Γ S (Γ.D i).ar lv 0 q lv' p∧t=some (v,lv',pt)))
section
variable {Γ:Tb} {S S' :Nat→DY} (e:Le S S')
include e
theorem yP.le {s:List UInt8} {a:Int} {l:Nat} (k:yP Γ S s a l):yP Γ S' s a l:=fun w hw=>(k w hw).imp fun _ h=>h.imp fun _ h=>⟨e.ch h.1,h.2⟩
theorem BX.le {s:List UInt8} {a:Int} {lv q i k:Nat} (h:BX Γ S s a lv q i k):BX Γ S' s a lv q i k:=by
 obtain ⟨⟨w,c,u,h1,h2,h3,h4⟩,h5⟩:=h
 exact ⟨⟨w,c,u,h1,h2,e.ch h3,h4⟩,fun l hl=>(h5 l hl).le e⟩
theorem AD.le {a:Int} {x:pD} {t:Tg} (h:AD Γ S a x t):AD Γ S' a x t:=by
 obtain ⟨h0,⟨h1,h2,h3⟩|⟨lv,q,i,k,w,c,u,o,d,v,h1,h2,h3,h4⟩⟩:=h
 ·exact ⟨h0,.inl ⟨h1,h2,fun l=>(h3 l).le e⟩⟩
 ·exact ⟨h0,.inr ⟨lv,q,i,k,w,c,u,o,d,v,h1.le e,h2,e.ch h3,h4⟩⟩
theorem rL.le {c:List Nat} {q:Nat} {s:List UInt8} {t:Tg} (h:rL Γ S c q s t):rL Γ S' c q s t:=by
 obtain ⟨o,i,k,d,h1,h0,h2,h3,h4|⟨h4,x,h5,h6⟩⟩:=h
 ·exact ⟨o,i,k,d,h1,h0,h2,h3,.inl h4⟩
 ·exact ⟨o,i,k,d,h1,h0,h2,h3,.inr ⟨h4,x,h5,h6.le e⟩⟩
theorem Hm.le {a:Int} {lv pt lv' pt' :Nat} (h:Hm Γ S a lv pt lv' pt'):Hm Γ S' a lv pt lv' pt' :=by
 obtain ⟨w,c,u,k,t,w',c',u',h1,h2,h3,h4,h5,h6,h7,h8⟩:=h
 exact ⟨w,c,u,k,t,w',c',u',h1,e.ch h2,h3,h4,h5,h6,e.ch h7,h8⟩
theorem vQ.le {a:Int}:∀{n lv pt lv' pt' :Nat},vQ Γ S a n lv pt lv' pt' →vQ Γ S' a n lv pt lv' pt'
 |0,_,_,_,_,h=>h
 |_+1,_,_,_,_,⟨l,p,h1,h2⟩=>⟨l,p,h1.le e,h2.le⟩
theorem DN.le {i:Nat} {t:Tg} (h:DN Γ S i t):DN Γ S' i t:=by
 rcases h with ⟨x,h1,h2|⟨h2,h3⟩⟩|h|⟨h1,h2,s,a,c,u,q,t0,h3,h4,h5,h6,h7,h8⟩
 ·exact .inl ⟨x,h1,.inl h2⟩
 ·exact .inl ⟨x,h1,.inr ⟨h2,h3.le e⟩⟩
 ·exact .inr (.inl h)
 ·refine .inr (.inr ⟨h1,h2,s,a,c,u,q,t0,h3,h4,e.ch h5,h6,h7.le e, ?_⟩)
  rcases h8 with h8|h8|⟨v,lv,pt,lv',p,g1,g2,g3,g4⟩
  ·exact .inl h8
  ·exact .inr (.inl h8)
  ·exact .inr (.inr ⟨v,lv,pt,lv',p,g1,g2,g3.le e,g4⟩)
end
def Cn (k:Int):Bool:=decide (k=5∨k=6∨k=7∨k=8∨k=9)
def sG (l:List lH):Nat:=(l.map fun d=>if Cn (iO d) then (iJ d).length else 0).sum
def Pl (Γ:Tb) (S:Nat→DY) (a:Int) (lv:Nat) (pt:Nat) (t:Int):Prop:=
 ∃w c u,upF Γ lv a=((w:Nat):Int)∧w<Γ.n∧(S w).ch=some (c,u)∧∃k:Nat,c[pt]? =some k∧(k:Int)=t
structure WFi (Γ:Tb) (S:Nat→DY) (i:Nat) (c u:List Nat):Prop where
 len:u.length=c.length
 max:c.length≤40
 ub:∀x∈u,x<10000000
 cl:(S i).cl=(sG (aV (Γ.D i).pd):Nat)
 Vt:0≤(S i).off∧(S i).off+10000000≤10000000*(c.length:Int)
 shape:∃t,DN Γ S i t∧((t=none∧c=[i]∧u=[0]∧(S i).off=0)∨∃x lv pt cx ux u0,t=some (x,lv,pt)∧x<Γ.n∧(S x).ch=some (cx,ux)∧c=cx++[i]∧u=u0++[0]∧i∉cx∧(S i).off=(S x).off+(S x).cl∧u0.length=cx.length∧0≤(Γ.D i).ar∧
  (∀(q n:Nat),ux[q]? =some n→∃l p,u0[q]? =some l∧vQ Γ S (Γ.D i).ar n lv pt l p)∧
  ∀(q:Nat) k t,cx[q]? =some k→u0[q]? =some t→∃w c' u' r,upF Γ t (Γ.D i).ar=((w:Nat):Int)∧w<Γ.n∧(S w).ch=some (c',u')∧(Γ.D k).ar=((r:Nat):Int)∧r∈c')
def WF (Γ:Tb) (S:Nat→DY):Prop:=∀i,i<Γ.n→∀c u,(S i).ch=some (c,u)→WFi Γ S i c u
theorem Pl.ext {Γ:Tb} {S S' :Nat→DY} (e:Ext S S') {a:Int} {lv pt:Nat} {t:Int} (p:Pl Γ S a lv pt t):Pl Γ S' a lv pt t:=by
 obtain ⟨w,c,u,h1,h2,h3,h4⟩:=p
 exact ⟨w,c,u,h1,h2,by rw [e.kR (by rw [h3];simp)];exact h3,h4⟩
theorem WFi.le {Γ:Tb} {S S' :Nat→DY} (e:Le S S') {i:Nat} {c u:List Nat} (hi:(S i).ch≠none) (p:WFi Γ S i c u):WFi Γ S' i c u:=by
 obtain ⟨t,ha,hs⟩:=p.shape
 refine ⟨p.len,p.max,p.ub,by rw [e i hi];exact p.cl,by rw [e i hi];exact p.Vt,t,ha.le e, ?_⟩
 rw [e i hi]
 rcases hs with h|⟨x,lv,pt,cx,ux,u0,h0,h1,h2,h3,h4,h5,h6,h7,h8,h9,h10⟩
 ·exact .inl h
 ·refine .inr ⟨x,lv,pt,cx,ux,u0,h0,h1,e.ch h2,h3,h4,h5, ?_,h7,h8,fun q n w=> ?_,fun q k t a b=> ?_⟩
  ·rw [e x (by rw [h2];simp)];exact h6
  ·obtain ⟨l,p,g1,g2⟩:=h9 q n w
   exact ⟨l,p,g1,g2.le e⟩
  ·obtain ⟨w,c',u',r,g1,g2,g3,g4,g5⟩:=h10 q k t a b
   exact ⟨w,c',u',r,g1,g2,e.ch g3,g4,g5⟩
theorem WFi.ext {Γ:Tb} {S S' :Nat→DY} (e:Ext S S') {i:Nat} {c u:List Nat} (hi:(S i).ch≠none) (p:WFi Γ S i c u):WFi Γ S' i c u:=p.le e.le hi
theorem WF.part {Γ:Tb} {S:Nat→DY} (W:WF Γ S):∀(n i:Nat) (c u:List Nat),c.length≤n→i<Γ.n→(S i).ch=some (c,u)→∀(q k:Nat),c[q]? =some k→k<Γ.n∧∃u',(S k).ch=some (c.take (q+1),u'):=by
 intro n
 induction n with
 |zero=>
  intro i c u hn hi hc q k hq
  have:c.length=0:=om
  rw [List.length_eq_zero_iff.1 this] at hq
  simp at hq
 |succ n ih=>
  intro i c u hn hi hc q k hq
  obtain ⟨t,_,⟨_,rfl,rfl,_⟩|⟨x,lv,pt,cx,ux,u0,_,h1,h2,rfl,rfl,_⟩⟩:=(W i hi c u hc).shape
  ·cases q with
   |zero=>simp at hq;subst hq;exact ⟨hi,[0],hc⟩
   |succ q=>simp at hq
  ·by_cases cq:q<cx.length
   ·rw [List.getElem?_append_left cq] at hq
    obtain ⟨g1,u',g2⟩:=ih x cx ux (by simp at hn;omega) h1 h2 q k hq
    refine ⟨g1,u', ?_⟩
    rw [List.take_append_of_le_length om]
    exact g2
   ·have e:q=cx.length:=by
     have:=(List.getElem?_eq_some_iff.1 hq).1
     simp at this
     omega
    subst e
    simp at hq
    subst hq
    refine ⟨hi,u0++[0], ?_⟩
    rw [List.take_of_length_le (by simp)]
    exact hc
theorem WF.last {Γ:Tb} {S:Nat→DY} (W:WF Γ S) {i:Nat} (hi:i<Γ.n) {c u:List Nat} (hc:(S i).ch=some (c,u)):∃c0,c=c0++[i]∧i∉c0:=by
 obtain ⟨t,_,⟨_,rfl,_⟩|⟨x,lv,pt,cx,ux,u0,_,h1,h2,rfl,_,h4,_⟩⟩:=(W i hi c u hc).shape
 ·exact ⟨[],rfl,by simp⟩
 ·exact ⟨cx,rfl,h4⟩
theorem tO {α:Type} {l:List α} {x:α} (h:x∈l):∃q:Nat,l[q]? =some x:=by
 obtain ⟨q,hq,rfl⟩:=List.getElem_of_mem h
 exact ⟨q,List.getElem?_eq_getElem hq⟩
def Ez (fns:Go.Am.F) (orc:Orc) (Γ:Tb) (N:Nat):Prop:=∀S h (a:Nat),TB Γ S h→WF Γ S→opn S Γ.n≤N→a<Γ.n→
 Out fns orc (pE Γ) (.call 33 [.ptr Γ.tb 0,.int .i64 (a:Nat)] .plain h) h fun v h' =>v= .ptr (Γ.loc a) 0∧∃S',Ext S S' ∧TB Γ S' h' ∧WF Γ S' ∧(S' a).ch≠none
theorem Cm {c u:List Nat} {vc vu:AV} (h:ChV (some (c,u)) vc vu):∃tk,vc= .sl tk (ints c):=by
 obtain ⟨h1,h2,_⟩:=h
 generalize e:ints c=xs at h2
 cases h2 with
 |nil=>simp [ints] at e;exact absurd e h1
 |sl tk xs=>exact ⟨tk,rfl⟩
theorem vO (H:Has fns orc) {Γ:Tb} (O:Γ.Ok) {S:Nat→DY} {h:aD} (T:TB Γ S h) {a:Nat} (ha:a<Γ.n) (hc:(S a).ch≠none):Ev fns orc (.call 33 [.ptr Γ.tb 0,.int .i64 (a:Nat)] .plain h) (.call (.ret (.ptr (Γ.loc a) 0)) .plain h):=by
 obtain ⟨tk,v2,tT⟩:=T.t_
 obtain ⟨vc,vu,hb,hv⟩:=T.d_ a ha
 have n15:=Fa (O.ok a ha) (S a).busy vc vu (S a).off (S a).cl
 have hia:=Γ.at tk ha
 cases cc:(S a).ch with
 |none=>exact absurd cc hc
 |some x=>
  obtain ⟨c,u⟩:=x
  rw [cc] at hv
  obtain ⟨tk2,rfl⟩:=Cm hv
  refine Ev.call H.f33 H.o33 ⟨0,fun m _=> ?b⟩
  case b=>
   exact SX (cj5 @a33.eq_1 tT hia hb n15)
end Go.Ly
namespace Go.Ly
open Go Go.Am Go.Fs Go.Gn
variable {fns:Go.Am.F} {orc:Orc}
theorem Tb.CU (Γ:Tb) (tk:Tk):dS (.sl tk Γ.xs) (.sl tk Γ.xs)=true:=by
 have:∀l:List Nat,kJ (l.map fun i=>AV.ptr (Γ.loc i) 0) (l.map fun i=>AV.ptr (Γ.loc i) 0)=true:=by
  intro l
  induction l with
  |nil=>simp [kJ]
  |cons e l ih=>simp only [List.map_cons,eM,dV,Nat.beq_refl,Bool.and_self,Bool.true_and,ih]
 simp only [dS,Tb.xs,this,vB,Bool.and_self]
theorem uJ (tk:Tk) (c:List Nat):dS (.sl tk (ints c)) (.sl tk (ints c))=true:=by
 have:kJ (ints c) (ints c)=true:=by
  induction c with
  |nil=>simp [kJ,ints]
  |cons e l ih=>simp only [ints,List.map_cons,eM,dH,Bool.true_and];exact ih
 simp only [dS,this,vB,Bool.and_self]
def CP (lv:Nat):Option (Nat×Nat×Nat)→AV
 |some (q,i,k)=> .tup [.agg [.int .i64 (lv:Nat),.int .i64 (q:Nat),.int .i64 (i:Nat),.int .i64 (k:Nat)],.bool true]
 |none=> .tup [.agg [.int .i64 0,.int .i64 0,.int .i64 0,.int .i64 0],.bool false]
theorem qF {D:DS} (k:D.Ok):(aV D.pd).length<10000000∧∀d∈aV D.pd,(iJ d).length<10000000:=by
 have h:=k.nd
 cases hp:D.pd with|mk s pl dl el b il xl=>
 rw [hp,wO] at h
 have l:=BC (dl.map Part.decl)
 simp only [List.length_map] at l
 refine ⟨by simp only [aV];omega,fun d hd=> ?_⟩
 simp only [aV] at hd
 have h1:=uI (p:= .desc (.mk s pl dl el b il xl)) (q:= .decl d) (by simp only [Part.kids,List.mem_append,List.mem_map];exact .inl (.inl (.inl (.inr ⟨d,hd,rfl⟩))))
 have h2:=Cc (p:=d)
 rw [wO] at h1
 omega
theorem TB.lt {Γ:Tb} {S:Nat→DY} {h:aD} (T:TB Γ S h):Γ.tb<h.next∧Γ.mb<h.next∧∀i,pE Γ i→i<h.next:=by
 obtain ⟨tk,v2,w⟩:=T.t_
 obtain ⟨c,m⟩:=T.m_
 refine ⟨aT w,aD.mM m, ?_⟩
 rintro i ⟨k,hk,rfl⟩
 obtain ⟨vc,vu,q,_⟩:=T.d_ k hk
 exact aT q
theorem TB.vT {Γ:Tb} {S:Nat→DY} {a b:aD} (T:TB Γ S a) (h:∀i,i<a.next→(i=Γ.tb∨i=Γ.mb∨pE Γ i)→b.get i=a.get i):TB Γ S b:=by
 obtain ⟨l1,l2,l3⟩:=T.lt
 refine ⟨?_,T.m_.imp fun c w=>(h _ l2 (.inr (.inl rfl))).trans w,fun i hi=> ?_,fun i hi=>(aG (h _ (aT (T.e_ i hi)) (.inr (.inr ⟨i,hi,rfl⟩)))).trans (T.e_ i hi)⟩
 ·obtain ⟨tk,v2,w⟩:=T.t_
  exact ⟨tk,v2,(aG (h _ l1 (.inl rfl))).trans w⟩
 ·obtain ⟨vc,vu,w,k⟩:=T.d_ i hi
  exact ⟨vc,vu,(aG (h _ (aT w) (.inr (.inr ⟨i,hi,rfl⟩)))).trans w,k⟩
def xV:AC:=p62x10100
def sE:AC:=p62x10101
def MbC (b6 b7:Nat) (Γ:Tb) (s:List UInt8) (c:List Nat) (n:Nat) (_:Nat→Prop) (hh:aD):Prop:=
 cont hh b6=some [.int .i64 0,.int .i64 0,.int .i64 0,.int .i64 0]∧cont hh b7=some [.bool false]∧Pe Γ s c=Kk Γ s c (c.length -n)
def MbD (b6 b7:Nat) (Γ:Tb) (s:List UInt8) (c:List Nat) (_:Nat→Prop) (hh:aD):Prop:=
 ∃q i k:Nat,cont hh b6=some [.int .i64 0,.int .i64 (q:Nat),.int .i64 (i:Nat),.int .i64 (k:Nat)]∧cont hh b7=some [.bool true]∧Pe Γ s c=some (q,i,k)
theorem IU (H:Has fns orc) {Γ:Tb} (O:Γ.Ok) {S:Nat→DY} {h:aD} (T:TB Γ S h) {s:List UInt8} {c:List Nat} (hc:∀k∈c,k<Γ.n) {b3 b5 b6 b7 bL:Nat} (t3:cont h b3=some [.ptr Γ.tb 0]) (t5:cont h b5=some [.str s]) (l6:b6<h.next) (l7:b7<h.next) (ne:b6≠b7∧b3≠b6∧b3≠b7∧b5≠b6∧b5≠b7∧b3≠bL∧b5≠bL∧b6≠bL∧b7≠bL)
  (sep:∀i,(i=Γ.tb∨i=Γ.mb∨pE Γ i)→i≠b6∧i≠b7∧i≠bL) (lL:bL<h.next)
  {ts:eN} (hts:ts=[(3,.ptr b3 0),(5,.ptr b5 0),(6,.ptr b6 0),(7,.ptr b7 0),(18,.fn 102 [] [.ptr bL 0]),(19,.unk),(20,.unk)]):
  Ew fns orc h ⟨.ready,none,62,ts,[19,20],xV,sE,h.next⟩ (fun i=>i=bL) (fun i=>i=b6∨i=b7) (S9 c) (MbC b6 b7 Γ s c) (MbD b6 b7 Γ s c):=by
 rintro n x ⟨q,dd,hq,hd,rfl⟩ hh Fp o hF ⟨c6,c7,hm⟩
 have ho:=o.le
 have f3:cX ts 3= .ptr b3 0:=by rw [hts];rfl
 have f5:cX ts 5= .ptr b5 0:=by rw [hts];rfl
 have f6:cX ts 6= .ptr b6 0:=by rw [hts];rfl
 have f7:cX ts 7= .ptr b7 0:=by rw [hts];rfl
 have hdn:=hc dd (List.mem_of_getElem? hd)
 have gh:∀i,i<h.next→i≠bL→i≠b6→i≠b7→hh.get i=h.get i:=fun i h1 h2 h3 h4=>o.get i h1 h2 (fun w=>by rcases w with w|w;exact h3 w;exact h4 w)
 have Th:TB Γ S hh:=T.vT fun i hi w=>gh i hi (sep i w).2.2 (sep i w).1 (sep i w).2.1
 have r3:cont hh b3=some [.ptr Γ.tb 0]:=(aG (gh b3 (aT t3) ne.2.2.2.2.2.1 ne.2.1 ne.2.2.1)).trans t3
 have r5:cont hh b5=some [.str s]:=(aG (gh b5 (aT t5) ne.2.2.2.2.2.2.1 ne.2.2.2.1 ne.2.2.2.2.1)).trans t5
 have k3:=aT t3
 have k5:=aT t5
 have lo1:iX hh (h.next+1)= .ok ⟨.ready,none,62,ts,[19,20],xV,sE,h.next⟩:=by simp only [iX,o.loop]
 obtain ⟨hZ,hZe⟩:∃x,x=hh.set (h.next+1) (.loop ⟨.busy,none,62,ts,[19,20],xV,sE,h.next⟩):=⟨_,rfl⟩
 have nZ:hZ.next=hh.next:=by rw [hZe];simp
 have oZ:∀i,i≠h.next+1→hZ.get i=hh.get i:=fun i hi=>by rw [hZe];exact aE _ _ _ _ om hi
 have zL:hZ.get (h.next+1)=some (.loop ⟨.busy,none,62,ts,[19,20],xV,sE,h.next⟩):=by rw [hZe];exact aO _ _ _ om
 obtain ⟨hQ,hQe⟩:∃x,x=hZ.push (.cells [.int .i64 0,.int .i64 0,.int .i64 0,.int .i64 0]):=⟨_,rfl⟩
 have gQ:aR hZ hQ:=by rw [hQe];exact gw2
 have nQ:hQ.next=hh.next+1:=by rw [hQe];simp [nZ]
 have xQ:hQ.get hh.next=some (.cells [.int .i64 0,.int .i64 0,.int .i64 0,.int .i64 0]):=by rw [hQe];exact aQ _ _ _ om om
 have oQ:∀i,i<hh.next→i≠h.next+1→hQ.get i=hh.get i:=fun i h1 h2=>(gQ.get i om).trans (oZ i h2)
 have ltT:=T.lt
 have TQ:TB Γ S hQ:=Th.vT fun i hi w=>oQ i hi (by rcases w with rfl|rfl|w;have:=ltT.1;omega;have:=ltT.2.1;omega;have:=ltT.2.2 i w;omega)
 have q3:cont hQ b3=some [.ptr Γ.tb 0]:=(aG (oQ b3 om om)).trans r3
 have q5:cont hQ b5=some [.str s]:=(aG (oQ b5 om om)).trans r5
 obtain ⟨tk,v2,tQ⟩:=TQ.t_
 obtain ⟨vc,vu,hb,hv⟩:=TQ.d_ dd hdn
 obtain ⟨vd,n2,rvd⟩:=Gm (O.ok dd hdn) (S dd).busy vc vu (S dd).off (S dd).cl
 have hia:=Γ.at tk hdn
 have tH:cont hh Γ.tb=some [.sl tk Γ.xs,.map Γ.mb,v2]:=(aG (oQ _ (by have:=ltT.1;omega) (by have:=ltT.1;omega))).symm.trans tQ
 have bH:cont hh (Γ.loc dd)=some (bx (Γ.D dd) (S dd).busy vc vu (S dd).off (S dd).cl):=(aG (oQ _ (by have:=ltT.2.2 _ ⟨dd,hdn,rfl⟩;omega) (by have:=ltT.2.2 _ ⟨dd,hdn,rfl⟩;omega))).symm.trans hb
 obtain ⟨bn1,bn2⟩:=qF (O.ok dd hdn)
 obtain ⟨hR,gR,n1,e1⟩:=zK H rvd bn1 bn2 s hb n2
 have nR:=gR.next
 have xR:hR.get hh.next=some (.cells [.int .i64 0,.int .i64 0,.int .i64 0,.int .i64 0]):=(gR.get _ om).trans xQ
 have xRc:=AN xR
 have oR:∀i,i<hh.next→i≠h.next+1→hR.get i=hh.get i:=fun i h1 h2=>(gR.get i om).trans (oQ i h1 h2)
 have c6R:=(aG (oR b6 om om)).trans c6
 have c7R:=(aG (oR b7 om om)).trans c7
 have lR:hR.get (h.next+1)=some (.loop ⟨.busy,none,62,ts,[19,20],xV,sE,h.next⟩):=((gR.get _ om).trans (gQ.get _ om)).trans zL
 have z2:allEq (LG CG) [.int .i64 0,.int .i64 0,.int .i64 0,.int .i64 0] [.int .i64 0,.int .i64 0,.int .i64 0,.int .i64 0]=true:=rfl
 have ep:(c.length -n)=q+1:=om
 rw [ep] at hm
 simp only [Kk,hd] at hm
 cases cd:pL (aV (Γ.D dd).pd) s with
 |none=>
  rw [cd] at hm e1
  obtain ⟨hT,hTe⟩:∃x,x=hR.set hh.next (.cells [.int .i64 0,.int .i64 0,.int .i64 0,.int .i64 0]):=⟨_,rfl⟩
  have sT:kK hR 4 (.ptr hh.next 0) (.agg [.int .i64 0,.int .i64 0,.int .i64 0,.int .i64 0])= .ok hT:=by
   rw [hTe]
   simp only [jB,xRc,iS,AV.cells,List.length_cons,List.length_nil,List.all_cons,List.all_nil,bI,cW]
   rfl
  have nT:hT.next=hR.next:=by rw [hTe];simp
  have oT:∀i,i<hh.next→i≠h.next+1→hT.get i=hh.get i:=fun i h1 h2=>by rw [hTe,aE _ _ _ _ om om];exact oR i h1 h2
  have xT:hT.get hh.next=some (.cells [.int .i64 0,.int .i64 0,.int .i64 0,.int .i64 0]):=by rw [hTe];exact aO _ _ _ om
  have lo2:iX hT (h.next+1)= .ok ⟨.busy,none,62,ts,[19,20],xV,sE,h.next⟩:=by
   have:hT.get (h.next+1)=some (.loop ⟨.busy,none,62,ts,[19,20],xV,sE,h.next⟩):=by rw [hTe];exact (aE _ _ _ _ om om).trans lR
   simp only [iX,this]
  refine ⟨true,hT.set (h.next+1) (.loop ⟨.ready,none,62,ts,[19,20],xV,sE,h.next⟩),fun _=>False,Ev.round o.loop rfl ⟨n1,fun m hm=> ?b1⟩,by simp;omega,
   fun i h1 _ h2 h3' =>(aE _ _ _ _ om h3').trans (oT i h1 h3'),fun i w=>w.elim,fun _=>⟨⟨?x6, ?x7, ?xm⟩,aO _ _ _ om⟩,(by intro w;cases w)⟩
  case x6=>rw [aK om om];exact (aG (oT b6 om om)).trans c6
  case x7=>rw [aK om om];exact (aG (oT b7 om om)).trans c7
  case xm=>rw [hm];rw [show c.length -(n+1)=q by omega]
  case b1=>
   have e1' :=e1 m hm
   simp only [xV,sE] at lo1 hZe lo2
   simp only [AG] at e1'
   exact SS (dD @Tb.CU @tZ.eq_1 @iN.eq_1 @iN.eq_2 @xV.eq_1 @sE.eq_1 f3 f5 f6 f7 lo1 (Eq.symm hZe) (Eq.symm hQe) nZ q3 tQ (dD hia q5 r3 r5 tH bH e1' xQ xR z2 sT @iQ.eq_1 @iQ.eq_2 lo2 @aN.eq_1 @aN.eq_2 (cj5 @aN.eq_3 @aN.eq_4 @aN.eq_5 @oI.eq_1 @endRound.eq_1)))
 |some x=>
  obtain ⟨i,k⟩:=x
  rw [cd] at hm e1
  obtain ⟨hT,hTe⟩:∃x,x=((hR.set hh.next (.cells [.int .i64 0,.int .i64 0,.int .i64 (i:Nat),.int .i64 (k:Nat)])).set hh.next (.cells [.int .i64 0,.int .i64 (q:Nat),.int .i64 (i:Nat),.int .i64 (k:Nat)])):=⟨_,rfl⟩
  obtain ⟨hS,hSe⟩:∃x,x=hR.set hh.next (.cells [.int .i64 0,.int .i64 0,.int .i64 (i:Nat),.int .i64 (k:Nat)]):=⟨_,rfl⟩
  rw [←hSe] at hTe
  have nS:hS.next=hR.next:=by rw [hSe];simp
  have xS:cont hS hh.next=some [.int .i64 0,.int .i64 0,.int .i64 (i:Nat),.int .i64 (k:Nat)]:=by rw [hSe];exact aH om
  have sS:kK hR 4 (.ptr hh.next 0) (.agg [.int .i64 0,.int .i64 0,.int .i64 (i:Nat),.int .i64 (k:Nat)])= .ok hS:=by
   rw [hSe]
   simp only [jB,xRc,iS,AV.cells,List.length_cons,List.length_nil,List.all_cons,List.all_nil,bI,cW]
   rfl
  have sT:kK hS 1 (.ptr hh.next 1) (.int .i64 (q:Nat))= .ok hT:=by
   rw [hTe]
   simp only [jB,xS,iS,AV.cells,List.length_cons,List.length_nil,List.all_cons,List.all_nil,bI,cW]
   rfl
  have nT:hT.next=hR.next:=by rw [hTe];simp [nS]
  have oT:∀i,i<hh.next→i≠h.next+1→hT.get i=hh.get i:=fun i h1 h2=>by rw [hTe,aE _ _ _ _ om om,hSe,aE _ _ _ _ om om];exact oR i h1 h2
  have xT:cont hT hh.next=some [.int .i64 0,.int .i64 (q:Nat),.int .i64 (i:Nat),.int .i64 (k:Nat)]:=by rw [hTe];exact aH om
  have c6T:=(aG (oT b6 om om)).trans c6
  have c7T:=(aG (oT b7 om om)).trans c7
  obtain ⟨hU,hUe⟩:∃x,x=(hT.set b6 (.cells [.int .i64 0,.int .i64 (q:Nat),.int .i64 (i:Nat),.int .i64 (k:Nat)])).set b7 (.cells [.bool true]):=⟨_,rfl⟩
  obtain ⟨hV,hVe⟩:∃x,x=hT.set b6 (.cells [.int .i64 0,.int .i64 (q:Nat),.int .i64 (i:Nat),.int .i64 (k:Nat)]):=⟨_,rfl⟩
  rw [←hVe] at hUe
  have nV:hV.next=hR.next:=by rw [hVe];simp [nT]
  have sV:kK hT 4 (.ptr b6 0) (.agg [.int .i64 0,.int .i64 (q:Nat),.int .i64 (i:Nat),.int .i64 (k:Nat)])= .ok hV:=by
   rw [hVe]
   simp only [jB,c6T,iS,AV.cells,List.length_cons,List.length_nil,List.all_cons,List.all_nil,bI,cW]
   rfl
  have c7V:cont hV b7=some [.bool false]:=by rw [hVe,aK om (fun e=>ne.1 e.symm)];exact c7T
  have sU:kK hV 1 (.ptr b7 0) (.bool true)= .ok hU:=by
   rw [hUe]
   exact kM (iG c7V) rfl rfl
  have nU:hU.next=hR.next:=by rw [hUe];simp [nV]
  have oU:∀i,i<hh.next→i≠h.next+1→i≠b6→i≠b7→hU.get i=hh.get i:=fun i h1 h2 h3 h4=>by rw [hUe,aE _ _ _ _ om h4,hVe,aE _ _ _ _ om h3];exact oT i h1 h2
  have lo2:iX hU (h.next+1)= .ok ⟨.busy,none,62,ts,[19,20],xV,sE,h.next⟩:=by
   have:hU.get (h.next+1)=some (.loop ⟨.busy,none,62,ts,[19,20],xV,sE,h.next⟩):=by
    rw [hUe,aE _ _ _ _ om om,hVe,aE _ _ _ _ om om,hTe,aE _ _ _ _ om om,hSe,aE _ _ _ _ om om]
    exact lR
   simp only [iX,this]
  refine ⟨false,hU.set (h.next+1) (.loop ⟨.done,some .ret,62,ts,[19,20],xV,sE,h.next⟩),fun _=>False,Ev.round o.loop rfl ⟨n1,fun m hm=> ?b2⟩,by simp;omega,
   fun i h1 _ h2 h3' =>(aE _ _ _ _ om h3').trans (oU i h1 h3' (fun e=>h2 (.inl e)) (fun e=>h2 (.inr e))),fun i w=>w.elim,(by intro w;cases w),fun _=>⟨⟨q,i,k, ?y6, ?y7,hm⟩,aO _ _ _ om⟩⟩
  case y6=>
   rw [aK om om,hUe,aK om ne.1,hVe]
   exact aH om
  case y7=>
   rw [aK om om,hUe]
   exact aH om
  case b2=>
   have e1' :=e1 m hm
   simp only [xV,sE] at lo1 hZe lo2
   simp only [AG] at e1'
   have xSg:=iG xS
   exact SS (dD @Tb.CU @tZ.eq_1 @iN.eq_1 @iN.eq_2 @xV.eq_1 @sE.eq_1 f3 f5 f6 f7 lo1 (Eq.symm hZe) (Eq.symm hQe) nZ q3 tQ (dD hia q5 r3 r5 tH bH e1' xQ xR z2 sS sT xT sV sU @iQ.eq_1 (cj9 @iQ.eq_2 lo2 @aN.eq_1 @aN.eq_2 @aN.eq_3 @aN.eq_4 @aN.eq_5 @oI.eq_1 @endRound.eq_1)))
end Go.Ly
namespace Go.Ly
open Go Go.Am Go.Fs Go.Gn
variable {fns:Go.Am.F} {orc:Orc}
theorem Out.pan' {P:Nat→Prop} {t:Task} {h:aD} {Q:AV→aD→Prop} {e:Int} {h' :aD} (he:0<e) (ev:Ev fns orc t (.call (.panic (irr e)) .plain h')) (c:Chg P h h'):Out fns orc P t h Q:= .inr ⟨e,h',he,ev,c⟩
theorem pE.not {Γ:Tb} {S:Nat→DY} {h:aD} (T:TB Γ S h) {i:Nat} (hi:h.next≤i):¬pE Γ i:=fun q=>by have:=T.lt.2.2 i q;omega
def MemQ (Γ:Tb) (S:Nat→DY) (a:Nat) (s:List UInt8) (v:AV) (h' :aD):Prop:=
 ∃S' c u,Ext S S' ∧TB Γ S' h' ∧WF Γ S' ∧(S' a).ch=some (c,u)∧v=CP 0 (Pe Γ s c)
theorem Pd (H:Has fns orc) {Γ:Tb} (O:Γ.Ok) {N:Nat} (C:Ez fns orc Γ N) {S:Nat→DY} {h:aD} (T:TB Γ S h) (W:WF Γ S) (hN:opn S Γ.n≤N) {a:Nat} (ha:a<Γ.n) (s:List UInt8):
  Out fns orc (pE Γ) (.call 62 [.ptr Γ.tb 0,.int .i64 (a:Nat),.str s] .plain h) h (MemQ Γ S a s):=by
 obtain ⟨hA,hAe⟩:∃x,x=(((h.push (.cells [.ptr Γ.tb 0])).push (.cells [.str s])).push (.cells [.int .i64 0,.int .i64 0,.int .i64 0,.int .i64 0])).push (.cells [.bool false]):=⟨_,rfl⟩
 have gA:aR h hA:=by rw [hAe];exact gw2
 have nA:hA.next=h.next+4:=by rw [hAe];simp
 have a3:cont hA h.next=some [.ptr Γ.tb 0]:=by rw [hAe];exact ctp
 have a5:cont hA (h.next+1)=some [.str s]:=by rw [hAe];exact ctp
 have a6:cont hA (h.next+2)=some [.int .i64 0,.int .i64 0,.int .i64 0,.int .i64 0]:=by rw [hAe];exact ctp
 have a7:cont hA (h.next+3)=some [.bool false]:=by rw [hAe];exact ctp
 have TA:=T.grow gA
 have ltT:=T.lt
 rcases C S hA a TA W hN ha with ⟨v,h1,⟨n1,e1⟩,ch1,rfl,S',ext,T1,W1,hne⟩|⟨e,h1,he,⟨n1,e1⟩,ch1⟩
 case inr=>
  refine Out.pan e h1 he (Ev.call H.f62 H.o62 ⟨n1,fun m hm=> ?bp⟩) (jV (fM gA) ch1)
  case bp=>
   have e1' :=e1 m hm
   exact SX (cj4 @a62.eq_1 (Eq.symm hAe) a3 e1')
 have nn1:=ch1.next
 have nl:∀i,h.next≤i→¬pE Γ i:=fun i hi=>pE.not T hi
 have b3:cont h1 h.next=some [.ptr Γ.tb 0]:=(qB ch1 om (nl _ om)).trans a3
 have b5:cont h1 (h.next+1)=some [.str s]:=(qB ch1 om (nl _ om)).trans a5
 have b6:cont h1 (h.next+2)=some [.int .i64 0,.int .i64 0,.int .i64 0,.int .i64 0]:=(qB ch1 om (nl _ om)).trans a6
 have b7:cont h1 (h.next+3)=some [.bool false]:=(qB ch1 om (nl _ om)).trans a7
 obtain ⟨vc,vu,hb,hv⟩:=T1.d_ a ha
 have n15:=Fa (O.ok a ha) (S' a).busy vc vu (S' a).off (S' a).cl
 cases cc:(S' a).ch with
 |none=>exact absurd cc hne
 |some x=>
 obtain ⟨c,u⟩:=x
 rw [cc] at hv
 have wf:=W1 a ha c u cc
 have hcn:∀k∈c,k<Γ.n:=fun k hk=>by obtain ⟨q,hq⟩:=tO hk;exact (W1.part c.length a c u (Nat.le_refl _) ha cc q k hq).1
 have hcl:=wf.max
 obtain ⟨tk2,rfl⟩:=Cm hv
 obtain ⟨hL,hLe⟩:∃x,x=h1.push (.cells [.sl tk2 (ints c)]):=⟨_,rfl⟩
 have gL:aR h1 hL:=by rw [hLe];exact .push _ _
 have nL:hL.next=h1.next+1:=by rw [hLe];simp
 have cL:cont hL h1.next=some [.sl tk2 (ints c)]:=by rw [hLe];exact aS om om
 have TL:=T1.grow gL
 obtain ⟨ts,hts⟩:∃ts:eN,ts=[(3,.ptr h.next 0),(5,.ptr (h.next+1) 0),(6,.ptr (h.next+2) 0),(7,.ptr (h.next+3) 0),(18,.fn 102 [] [.ptr h1.next 0]),(19,.unk),(20,.unk)]:=⟨_,rfl⟩
 have YL:=Kv (fns:=fns) (orc:=orc) H (c:=c) (.sl tk2 (ints c)) om (b:=h1.next) (P:=fun i=>i=h1.next) (h0:=hL) rfl cL
 have RR:=IB (fns:=fns) (orc:=orc) (fn:=62) (f:= .t 18) (ps:=[19,20]) (asg:=xV) (body:=sE) (ts:=ts) (ds:=[]) (rc:= .plain) (h:=hL) (S:=fun i=>i=h.next+2∨i=h.next+3)
  (C:=MbC (h.next+2) (h.next+3) Γ s c) (D:=MbD (h.next+2) (h.next+3) Γ s c) (by rw [hts];rfl) YL (fun i q=>by omega) (fun i q=>by omega) ?L ?LD ?C0
  (IU H O TL (s:=s) (c:=c) hcn (b3:=h.next) (b5:=h.next+1) (b6:=h.next+2) (b7:=h.next+3) (bL:=h1.next) ((aF gL om).trans b3) ((aF gL om).trans b5) om om om
   (fun i w=> ?sep) om hts)
 case sep=>
  rcases w with rfl|rfl|w
  ·omega
  ·omega
  ·have:=ltT.2.2 i w;omega
 case L=>
  rintro n Fp x y hxy hk ⟨c1,c2,c3⟩
  exact ⟨(aG (hk _ (aT c1) (.inr ⟨by omega,by omega⟩))).trans c1,(aG (hk _ (aT c2) (.inr ⟨by omega,by omega⟩))).trans c2,c3⟩
 case LD=>
  rintro Fp x y hxy hk ⟨q,i,k,c1,c2,c3⟩
  exact ⟨q,i,k,(aG (hk _ (aT c1) (.inr ⟨by omega,by omega⟩))).trans c1,(aG (hk _ (aT c2) (.inr ⟨by omega,by omega⟩))).trans c2,c3⟩
 case C0=>
  have gl:=sR hL ⟨.ready,none,62,ts,[19,20],xV,sE,hL.next⟩
  exact ⟨(aF gl om).trans ((aF gL om).trans b6),(aF gl om).trans ((aF gL om).trans b7),rfl⟩
 obtain ⟨h5,x,⟨n5,e5⟩,le5,mk5,Ka,hE⟩:=RR
 have o5:∀i,i<h.next→h5.get i=h1.get i:=fun i hi=>by rw [Ka i om om,gL.get i om]
 have o5' :∀i,i<h1.next→i≠h.next+2→i≠h.next+3→h5.get i=h1.get i:=fun i hi h2 h3=>by rw [Ka i om om,gL.get i om]
 have T5:TB Γ S' h5:=T1.vT fun i hi w=>o5 i (by rcases w with rfl|rfl|w;omega;omega;have:=ltT.2.2 i w;omega)
 rcases hE with ⟨rfl,Fp,hF,c6,c7,hm⟩|⟨rfl,Fp,hF,q,i,k,c6,c7,hm⟩
 ·obtain ⟨h6,h6e⟩:∃x,x=(h5.set (h.next+2) (.cells [.int .i64 0,.int .i64 0,.int .i64 0,.int .i64 0])).set (h.next+3) (.cells [.bool false]):=⟨_,rfl⟩
  obtain ⟨h6a,KV⟩:∃x,x=h5.set (h.next+2) (.cells [.int .i64 0,.int .i64 0,.int .i64 0,.int .i64 0]):=⟨_,rfl⟩
  rw [←KV] at h6e
  have n6a:h6a.next=h5.next:=by rw [KV];simp
  have n6:h6.next=h5.next:=by rw [h6e];simp [n6a]
  have s6a:kK h5 4 (.ptr (h.next+2) 0) (.agg [.int .i64 0,.int .i64 0,.int .i64 0,.int .i64 0])= .ok h6a:=by
   rw [KV]
   simp only [jB,c6,iS,AV.cells,List.length_cons,List.length_nil,List.all_cons,List.all_nil,bI,cW]
   rfl
  have s6:kK h6a 1 (.ptr (h.next+3) 0) (.bool false)= .ok h6:=by
   rw [h6e]
   exact kM (iG (by rw [KV,aK om om];exact c7)) rfl rfl
  have mk6:h6.get hL.next=some (.deferred (some [])):=by rw [h6e,aE _ _ _ _ om om,KV,aE _ _ _ _ om om];exact mk5
  have x6:cont h6 (h.next+2)=some [.int .i64 0,.int .i64 0,.int .i64 0,.int .i64 0]:=by rw [h6e,aK om om,KV];exact aH om
  have x7:cont h6 (h.next+3)=some [.bool false]:=by rw [h6e];exact aH om
  refine Out.ret (.tup [.agg [.int .i64 0,.int .i64 0,.int .i64 0,.int .i64 0],.bool false]) (h6.set hL.next (.deferred none)) (Ev.AP H.f62 H.o62 ⟨n1+n5+2,fun m hm=> ?b⟩) ⟨by simp;omega,fun i hi hn=> ?g⟩ ⟨S',c,u,ext,T5.vT fun i hi w=> ?t,W1,cc, ?r⟩
  case g=>
   rw [aE _ _ _ _ om om,h6e,aE _ _ _ _ om om,KV,aE _ _ _ _ om om,o5 i hi,ch1.get i om hn,gA.get i hi]
  case t=>
   have:i<h.next:=by rcases w with rfl|rfl|w;omega;omega;exact ltT.2.2 i w
   rw [aE _ _ _ _ om om,h6e,aE _ _ _ _ om om,KV,aE _ _ _ _ om om]
  case r=>
   rw [hm,Nat.sub_self]
   rfl
  case b=>
   have e1' :=e1 m om
   have e2' :=N4 (fns:=fns) (orc:=orc) H (.sl tk2 (ints c)) h1 rfl rfl m om
   have e5' :=e5 m om
   rw [hts] at e5'
   simp only [xV,sE] at e5'
   exact SS (yL @a62.eq_1 (Eq.symm hAe) a3 e1' hb n15 e2' (Eq.symm hLe) e5' s6a s6 mk6 x6 x7)
 ·refine Out.ret (CP 0 (some (q,i,k))) (h5.set hL.next (.deferred none)) (Ev.AP H.f62 H.o62 ⟨n1+n5+2,fun m hm=> ?b2⟩) ⟨by simp;omega,fun i hi hn=> ?g2⟩ ⟨S',c,u,ext,T5.vT fun i hi w=> ?t2,W1,cc,by rw [hm]⟩
  case g2=>rw [aE _ _ _ _ om om,o5 i hi,ch1.get i om hn,gA.get i hi]
  case t2=>
   have:i<h.next:=by rcases w with rfl|rfl|w;omega;omega;exact ltT.2.2 i w
   rw [aE _ _ _ _ om om]
  case b2=>
   have e1' :=e1 m om
   have e2' :=N4 (fns:=fns) (orc:=orc) H (.sl tk2 (ints c)) h1 rfl rfl m om
   have e5' :=e5 m om
   rw [hts] at e5'
   simp only [xV,sE] at e5'
   exact SS (vU @a62.eq_1 (Eq.symm hAe) a3 e1' hb n15 e2' (Eq.symm hLe) e5' c6 c7 mk5 @CP.eq_1 @CP.eq_2 @Int.ofNat_zero)
end Go.Ly
namespace Go.Ly
open Go Go.Am Go.Fs Go.Gn
variable {fns:Go.Am.F} {orc:Orc}
def X6 (Γ:Tb) (S:Nat→DY) (a:Int) (s:List UInt8) (v:AV) (h' :aD):Prop:=
 ∃S',Ext S S' ∧TB Γ S' h' ∧WF Γ S' ∧((v=CP 0 none∧∀l,yP Γ S' s a l)∨∃lv q i k,v=CP lv (some (q,i,k))∧BX Γ S' s a lv q i k)
theorem La (H:Has fns orc) {Γ:Tb} (O:Γ.Ok) {N:Nat} (C:Ez fns orc Γ N) (s:List UInt8) {a:Int} (ha: -1≤a∧a<(Γ.n:Int)) {b6:Nat} (nb:¬pE Γ b6) (nt:b6≠Γ.tb) (nm:b6≠Γ.mb):
  ∀(k:Nat) (S:Nat→DY) (h:aD) (n:Nat) (a' :Int),a' +1≤k→upF Γ n a=a' →(a' :Int)+n≤a→TB Γ S h→WF Γ S→opn S Γ.n≤N→cont h b6=some [.int .i64 0,.int .i64 0,.int .i64 0,.int .i64 0]→(∀l,l<n→yP Γ S s a l)→
   (∃h' S' lv q i k,Ev fns orc (.code 38 none (.loop p38x10100) ⟨[(0,.ptr Γ.tb 0),(1,.int .i64 a'),(2,.str s),(6,.ptr b6 0),(8,.int .i64 (n:Nat))],[],.plain,h⟩) (.code .ret ⟨[(6,.ptr b6 0),(7,.bool true)],[],.plain,h'⟩)∧Chg (fun i=>pE Γ i∨i=b6) h h' ∧
    Ext S S' ∧TB Γ S' h' ∧WF Γ S' ∧cont h' b6=some [.int .i64 (lv:Nat),.int .i64 (q:Nat),.int .i64 (i:Nat),.int .i64 (k:Nat)]∧BX Γ S' s a lv q i k)∨
   (∃h' S' ts,Ev fns orc (.code 38 none (.loop p38x10100) ⟨[(0,.ptr Γ.tb 0),(1,.int .i64 a'),(2,.str s),(6,.ptr b6 0),(8,.int .i64 (n:Nat))],[],.plain,h⟩) (.code (.exit 0) ⟨ts,[],.plain,h'⟩)∧cX ts 6= .ptr b6 0∧Chg (fun i=>pE Γ i∨i=b6) h h' ∧
    Ext S S' ∧TB Γ S' h' ∧WF Γ S' ∧cont h' b6=some [.int .i64 0,.int .i64 0,.int .i64 0,.int .i64 0]∧∀l,yP Γ S' s a l)∨
   (∃h' e ts,0<e∧Ev fns orc (.code 38 none (.loop p38x10100) ⟨[(0,.ptr Γ.tb 0),(1,.int .i64 a'),(2,.str s),(6,.ptr b6 0),(8,.int .i64 (n:Nat))],[],.plain,h⟩) (.code (.panic (irr e)) ⟨ts,[],.plain,h'⟩)∧Chg (fun i=>pE Γ i∨i=b6) h h'):=by
 intro k
 induction k with
 |zero=>
  intro S h n a' hk hup hle T W hN hb GK
  have rg:=Cu O n ha
  rw [hup] at rg
  have d:decide (0≤a')=false:=dF om
  refine .inr (.inl ⟨h,S, ?ts,Ev.code ⟨0,fun m _=> ?b0⟩, ?t6,.refl _ _,.refl _,T,W,hb,fun l=> ?nn⟩)
  case b0=>
   exact SX (cj2 d @aI)
  case t6=>rfl
  case nn=>
   by_cases c:l<n
   ·exact GK l c
   ·intro w hw
    rw [show l=n+(l -n) by omega,zW,hup,Cv _ _ om] at hw
    omega
 |succ k ih=>
  intro S h n a' hk hup hle T W hN hb GK
  have rg:=Cu O n ha
  rw [hup] at rg
  by_cases c:0≤a'
  case neg=>
   have d:decide (0≤a')=false:=dF c
   refine .inr (.inl ⟨h,S, ?ts1,Ev.code ⟨0,fun m _=> ?b01⟩, ?t61,.refl _ _,.refl _,T,W,hb,fun l=> ?nn1⟩)
   case b01=>
    exact SX (cj2 d @aI)
   case t61=>rfl
   case nn1=>
    by_cases c:l<n
    ·exact GK l c
    ·intro w hw
     rw [show l=n+(l -n) by omega,zW,hup,Cv _ _ om] at hw
     omega
  have d:decide (0≤a')=true:=dT c
  obtain ⟨an,rfl⟩:∃an:Nat,a' =(an:Int):=⟨a'.toNat,by omega⟩
  have han:an<Γ.n:=om
  rcases Pd H O C T W hN han s with ⟨v,h1,⟨n1,e1⟩,ch1,S',cc,u,ext,T1,W1,hcc,rfl⟩|⟨e,h1,he,⟨n1,e1⟩,ch1⟩
  case inr=>
   refine .inr (.inr ⟨h1,e, ?tsp,he,Ev.code ⟨n1,fun m hm=> ?bp⟩,⟨ch1.next,fun i hi hn=>ch1.get i hi (fun w=>hn (.inl w))⟩⟩)
   case bp=>
    have e1' :=e1 m hm
    exact SX (cj3 d e1' @aI)
  have nn:=ch1.next
  have lb:=aT hb
  have b1:cont h1 b6=some [.int .i64 0,.int .i64 0,.int .i64 0,.int .i64 0]:=(qB ch1 lb nb).trans hb
  have z4:kK (h1.push (.cells [.int .i64 0,.int .i64 0,.int .i64 0,.int .i64 0])) 4=kK (h1.push (.cells [.int .i64 0,.int .i64 0,.int .i64 0,.int .i64 0])) 4:=rfl
  cases hm:Pe Γ s cc with
  |some x=>
   obtain ⟨q,i,k'⟩:=x
   rw [hm] at e1
   obtain ⟨hB,hBe⟩:∃x,x=(((h1.push (.cells [.int .i64 0,.int .i64 0,.int .i64 0,.int .i64 0])).set h1.next (.cells [.int .i64 0,.int .i64 (q:Nat),.int .i64 (i:Nat),.int .i64 (k' :Nat)])).set h1.next (.cells [.int .i64 (n:Nat),.int .i64 (q:Nat),.int .i64 (i:Nat),.int .i64 (k' :Nat)])):=⟨_,rfl⟩
   have gB:aR h1 hB:=by rw [hBe];exact gw2
   have nB:hB.next=h1.next+1:=by rw [hBe];simp
   have xB:cont hB h1.next=some [.int .i64 (n:Nat),.int .i64 (q:Nat),.int .i64 (i:Nat),.int .i64 (k' :Nat)]:=by rw [hBe];exact aH (by simp)
   have b2:=(aF gB (by omega:b6<h1.next)).trans b1
   obtain ⟨hC,hCe⟩:∃x,x=hB.set b6 (.cells [.int .i64 (n:Nat),.int .i64 (q:Nat),.int .i64 (i:Nat),.int .i64 (k' :Nat)]):=⟨_,rfl⟩
   refine .inl ⟨hC,S',n,q,i,k',Ev.code ⟨n1,fun m hm=> ?bs⟩,⟨by rw [hCe];simp;omega,fun j hj hn=> ?gs⟩,ext, ?Ts,W1,by rw [hCe];exact aH om,⟨an,cc,u,hup,han,hcc,hm⟩,fun l hl=>(GK l hl).ext ext⟩
   case gs=>rw [hCe,aE _ _ _ _ om (fun e=>hn (.inr e)),gB.get j om,ch1.get j hj (fun w=>hn (.inl w))]
   case Ts=>
    refine (T1.grow gB).vT fun j hj w=> ?_
    rw [hCe,aE _ _ _ _ om ?_]
    rintro rfl
    rcases w with w|w|w
    ·exact nt w
    ·exact nm w
    ·exact nb w
   case bs=>
    have e1' :=e1 m hm
    simp only [CP,Int.ofNat_zero] at e1'
    exact SX (cj7 d e1' (Eq.symm hBe) xB b2 (Eq.symm hCe) @aI)
  |none=>
   rw [hm] at e1
   obtain ⟨hB,hBe⟩:∃x,x=(h1.push (.cells [.int .i64 0,.int .i64 0,.int .i64 0,.int .i64 0])).set h1.next (.cells [.int .i64 0,.int .i64 0,.int .i64 0,.int .i64 0]):=⟨_,rfl⟩
   have gB:aR h1 hB:=by rw [hBe];exact gw2
   have nB:hB.next=h1.next+1:=by rw [hBe];simp
   have b2:=(aF gB (by omega:b6<h1.next)).trans b1
   have TB' :=T1.grow gB
   obtain ⟨tk,v2,tT⟩:=TB'.t_
   obtain ⟨vc,vu,hbb,_⟩:=TB'.d_ an han
   have n8:=FA (O.ok an han) (S' an).busy vc vu (S' an).off (S' an).cl
   have hia:=Γ.at tk han
   have ra:=O.ar an han
   have hup1:upF Γ (n+1) a=(Γ.D an).ar:=by
    rw [zW,hup]
    simp only [upF]
    rw [if_neg om]
    rfl
   have step:∀ans,Ev fns orc (.code 38 none (.loop p38x10100) ⟨[(0,.ptr Γ.tb 0),(1,.int .i64 (Γ.D an).ar),(2,.str s),(6,.ptr b6 0),(8,.int .i64 ((n+1:Nat):Int))],[],.plain,hB⟩) ans→
     Ev fns orc (.code 38 none (.loop p38x10100) ⟨[(0,.ptr Γ.tb 0),(1,.int .i64 (an:Nat)),(2,.str s),(6,.ptr b6 0),(8,.int .i64 (n:Nat))],[],.plain,h⟩) ans:=by
    rintro ans ⟨n2,e2⟩
    refine Ev.code ⟨n1+n2,fun m hm=> ?bt⟩
    case bt=>
     have e1' :=e1 m om
     have e2' :=e2 m om
     have w:IntKind.wrap .i64 ((n:Int)+1)=((n+1:Nat):Int):=by have:=O.lt;rw [mW om om];rfl
     simp only [CP] at e1'
     exact SXe (cj9 d e1' (Eq.symm hBe) tT hia hbb n8 w @aI) e2'
   have Xa :∀l,l<n+1→yP Γ S' s a l:=by
    intro l hl
    by_cases c:l<n
    ·exact (GK l c).ext ext
    ·obtain rfl:l=n:=om
     intro w hw
     rw [hup] at hw
     obtain rfl:an=w:=om
     exact ⟨cc,u,hcc,hm⟩
   have CB:Chg (fun i=>pE Γ i∨i=b6) h hB:=sA ⟨ch1.next,fun i hi hn=>ch1.get i hi (fun w=>hn (.inl w))⟩ gB
   rcases ih S' hB (n+1) (Γ.D an).ar om hup1 om TB' W1 (by have:=yU ext Γ.n;omega) b2 Xa with ⟨h',S2,lv,q,i,k2,ev,ch,ex,T2,W2,c6,fa⟩|⟨h',S2,ts,ev,t6,ch,ex,T2,W2,c6,nn⟩|⟨h',e,ts,he,ev,ch⟩
   ·exact .inl ⟨h',S2,lv,q,i,k2,step _ ev,jV CB ch,ext.trans ex,T2,W2,c6,fa⟩
   ·exact .inr (.inl ⟨h',S2,ts,step _ ev,t6,jV CB ch,ext.trans ex,T2,W2,c6,nn⟩)
   ·exact .inr (.inr ⟨h',e,ts,he,step _ ev,jV CB ch⟩)
theorem Us (H:Has fns orc) {Γ:Tb} (O:Γ.Ok) {N:Nat} (C:Ez fns orc Γ N) {S:Nat→DY} {h:aD} (T:TB Γ S h) (W:WF Γ S) (hN:opn S Γ.n≤N) {a:Int} (ha: -1≤a∧a<(Γ.n:Int)) (s:List UInt8):
  Out fns orc (pE Γ) (.call 38 [.ptr Γ.tb 0,.int .i64 a,.str s] .plain h) h (X6 Γ S a s):=by
 obtain ⟨hA,hAe⟩:∃x,x=h.push (.cells [.int .i64 0,.int .i64 0,.int .i64 0,.int .i64 0]):=⟨_,rfl⟩
 have gA:aR h hA:=by rw [hAe];exact gw2
 have nA:hA.next=h.next+1:=by rw [hAe];simp
 have a6:cont hA h.next=some [.int .i64 0,.int .i64 0,.int .i64 0,.int .i64 0]:=by rw [hAe];exact aS om om
 have ltT:=T.lt
 have mk:∀{h' :aD},Chg (fun i=>pE Γ i∨i=h.next) hA h' →Chg (pE Γ) h h' :=fun ch=>⟨by have:=ch.next;omega,fun i hi hn=>by rw [ch.get i om (fun w=>by rcases w with w|w;exact hn w;omega),gA.get i hi]⟩
 rcases La H O C s ha (b6:=h.next) (pE.not T (Nat.le_refl _)) om om (Γ.n+1) S hA 0 a om rfl om (T.grow gA) W hN a6 (fun l hl=>absurd hl (Nat.not_lt_zero _)) with ⟨h',S2,lv,q,i,k2,⟨n1,e1⟩,ch,ex,T2,W2,c6,fa⟩|⟨h',S2,ts,⟨n1,e1⟩,t6,ch,ex,T2,W2,c6,nn⟩|⟨h',e,ts,he,⟨n1,e1⟩,ch⟩
 ·refine Out.ret _ h' (Ev.call H.f38 H.o38 ⟨n1,fun m hm=> ?b1⟩) (mk ch) ⟨S2,ex,T2,W2,.inr ⟨lv,q,i,k2,rfl,fa⟩⟩
  case b1=>
   have e1' :bZ (eval fns orc m) 38 none (.loop p38x10100) _=_:=e1 (m+1) om
   simp only [Int.ofNat_zero] at e1'
   exact SX (cj6 @a38.eq_1 (Eq.symm hAe) e1' c6 @CP.eq_1 @CP.eq_2)
 ·obtain ⟨h6,h6e⟩:∃x,x=h'.set h.next (.cells [.int .i64 0,.int .i64 0,.int .i64 0,.int .i64 0]):=⟨_,rfl⟩
  have x6:cont h6 h.next=some [.int .i64 0,.int .i64 0,.int .i64 0,.int .i64 0]:=by rw [h6e];exact aH (aT c6)
  have nn6:=ch.next
  refine Out.ret _ h6 (Ev.call H.f38 H.o38 ⟨n1,fun m hm=> ?b2⟩) ⟨by rw [h6e];simp;omega,fun i hi hn=> ?g2⟩ ⟨S2,ex, ?T2,W2,.inl ⟨rfl,nn⟩⟩
  case g2=>rw [h6e,aE _ _ _ _ om om,(mk ch).get i hi hn]
  case T2=>
   refine T2.vT fun j hj w=> ?_
   have:j<h.next:=by rcases w with rfl|rfl|w;omega;omega;exact ltT.2.2 j w
   rw [h6e,aE _ _ _ _ om om]
  case b2=>
   have e1' :bZ (eval fns orc m) 38 none (.loop p38x10100) _=_:=e1 (m+1) om
   simp only [Int.ofNat_zero] at e1'
   exact SX (cj9 @a38.eq_1 (Eq.symm hAe) e1' t6 c6 (Eq.symm h6e) x6 @CP.eq_1 @CP.eq_2)
 ·refine Out.pan e h' he (Ev.call H.f38 H.o38 ⟨n1,fun m hm=> ?b3⟩) (mk ch)
  case b3=>
   have e1' :bZ (eval fns orc m) 38 none (.loop p38x10100) _=_:=e1 (m+1) om
   simp only [Int.ofNat_zero] at e1'
   exact SX (cj3 @a38.eq_1 (Eq.symm hAe) e1')
end Go.Ly
end
