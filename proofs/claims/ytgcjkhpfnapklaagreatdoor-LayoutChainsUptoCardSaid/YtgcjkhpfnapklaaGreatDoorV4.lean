/- Parts of a proof. -/
import Derived.Test.YtgcjkhpfnapklaaGreatDoorD
import Derived.Test.YtgcjkhpfnapklaaGreatDoorV3
set_option linter.all false
set_option maxHeartbeats 4000000
set_option maxRecDepth 4000
noncomputable section
namespace Go.Ly
open Go Go.Am Go.Fs Go.Gn
variable {fns:Go.Am.F} {orc:Orc}
def strs:Part→List (List UInt8)
 | .exp (.mk _ _ _ _ _ t _ _)=>[t]
 | .desc (.mk s _ _ _ _ _ _)=>[s]
 | .decl (.mk _ n _ _ _)=>n
 | .imp (.mk _ n _ _ _ _)=>[n]
 | .case _=>[]
inductive wQ:Part→Prop
 |mk {p:Part}:(∀s∈strs p,s.length<10000000)→(∀q∈p.kids,wQ q)→wQ p
theorem wQ.own {p:Part} (h:wQ p):∀s∈strs p,s.length<10000000:=by cases h;assumption
theorem wQ.kid {p q:Part} (h:wQ p) (hq:q∈p.kids):wQ q:=by cases h with|mk _ h2=>exact h2 q hq
def Lb:Part→Prop
 | .decl (.mk k n _ p d)=>M1 k n p.length d.length
 |_=>True
inductive Valid:Part→Prop
 |mk {p:Part}:Lb p→(∀q∈p.kids,Valid q)→Valid p
theorem Valid.own {p:Part} (h:Valid p):Lb p:=by cases h;assumption
theorem Valid.kid {p q:Part} (h:Valid p) (hq:q∈p.kids):Valid q:=by cases h with|mk _ h2=>exact h2 q hq
def vfn:Part→Nat
 | .exp _=>108
 | .desc _=>111
 | .decl _=>113
 | .imp _=>115
 | .case _=>117
theorem Od (H:Has fns orc) (N:vU fns orc) {p:Part} {c:List AV} (hv:RV p (.agg c)) (hn:p.nodes<10000000) (hs:∀s∈strs p,s.length<10000000) {x:Nat} {h:aD} (hx:cont h x=some (dC p c)):
  ∃h' b,dB h h' ∧Ev fns orc (.call (vfn p) [.ptr x 0] .plain h) (.call (.ret (.bool b)) .plain h')∧(b=true→Lb p):=by
 have hkl:=uS p
 have hlt:=dD hx
 cases hv with
 | @exp k op n man ex t a d va vd h1 h2=>
  have y1:=kR h1
  have y2:=kR h2
  obtain ⟨xs,s1,_,_⟩:=kZ h1
  obtain ⟨ys,s2,_,_⟩:=kZ h2
  obtain ⟨hA,v,gA,⟨n1,e1⟩,k',op',n',man',ex',t',va',vd',ok,xa,xd,rfl,s3,s4⟩:=NZ H N (k:=k) (op:=op) (n:=n) (man:=man) (ex:=ex) h1 h2 (hs t (by simp [strs])) h
  obtain ⟨hB,b,gB,n2,e2⟩:=Tx H (k:=k) (op:=op) (n:=n) (man:=man) (ex:=ex) (t:=t) (k' :=k') (op' :=op') (n' :=n') (man' :=man') (ex' :=ex') (t' :=t') (ok:=ok) s1 s2 s3 s4 hA
  have xA:=(aF gA hlt).trans hx
  refine ⟨hB,b,gA.trans gB,Ev.call (f:=108) H.f108 H.o108 ⟨n1+n2,fun m hm=> ?b1⟩,fun _=>trivial⟩
  case b1=>
   have e1' :=e1 m om
   have e2' :=e2 m om
   simp only [dC] at hx xA
   exact SX (tG @a108.eq_1 hx xA @jM.eq_1 @jO.eq_1 @oL.eq_1 @kO.eq_1 e1' e2' y1 y2)
 | @desc s p d e bd i x vp vd ve vi vx h1 h2 h3 h4 h5=>
  obtain ⟨hB,b,gB,n2,e2⟩:=Ka H N (bd:=bd) h1 h2 h3 h4 h5 (hs s (by simp [strs])) h
  refine ⟨hB,b,gB,Ev.call (f:=111) H.f111 H.o111 ⟨n2,fun m hm=> ?b2⟩,fun _=>trivial⟩
  case b2=>
   have e2' :=e2 m om
   simp only [dC] at hx
   exact SX (cj7 @a111.eq_1 hx @oO.eq_1 @jO.eq_1 @oL.eq_1 @kO.eq_1 e2')
 | @decl k n s p d vn vs vp vd h0 h1 h2 h3=>
  simp only [Part.kids,List.length_append,List.length_map] at hkl
  have hnl:n.length<10000000:=by
   have:=Part.qN (.decl (.mk k n s p d))
   simp only [Part.own] at this
   omega
  obtain ⟨hB,b,gB,⟨n2,e2⟩,hb⟩:=Kb H N (k:=k) h0 h1 h2 h3 hnl om om (fun s q=>hs s (by simpa [strs] using q)) h
  refine ⟨hB,b,gB,Ev.call (f:=113) H.f113 H.o113 ⟨n2,fun m hm=> ?b3⟩,hb⟩
  case b3=>
   have e2' :=e2 m om
   simp only [dC] at hx
   exact SX (cj7 @a113.eq_1 hx @oO.eq_1 @jM.eq_1 @oL.eq_1 @kO.eq_1 e2')
 | @imp k n e c b i ve vc vi h1 h2 h3=>
  obtain ⟨hB,r,gB,n2,e2⟩:=Mm H N (k:=k) (he:=b) h1 h2 h3 (hs n (by simp [strs])) h
  refine ⟨hB,r,gB,Ev.call (f:=115) H.f115 H.o115 ⟨n2,fun m hm=> ?b4⟩,fun _=>trivial⟩
  case b4=>
   have e2' :=e2 m om
   simp only [dC] at hx
   exact SX (cj7 @a115.eq_1 hx @oO.eq_1 @jM.eq_1 @jO.eq_1 @kO.eq_1 e2')
 | @case v i vv vi h1 h2=>
  obtain ⟨xs,s1,_,_⟩:=kZ h1
  have q:=fI s1
  refine ⟨h,decide (0<(xs.length:Int)),.refl _,Ev.call (f:=117) H.f117 H.o117 ⟨0,fun m hm=> ?b5⟩,fun _=>trivial⟩
  case b5=>
   simp only [dC] at hx
   exact SX (cj7 @a117.eq_1 hx @oO.eq_1 @jM.eq_1 @jO.eq_1 @oL.eq_1 q)
end Go.Ly
namespace Go.Ly
open Go Go.Am Go.Fs Go.Gn
variable {fns:Go.Am.F} {orc:Orc}
theorem PT {l:List Part} {ys:List AV} (h:RPL l ys) {n:Nat} {y:AV} (hy:ys[n]? =some y):∃q,l[n]? =some q∧RP q y:=by
 induction h generalizing n with
 |nil=>simp at hy
 |cons hp _ ih=>
  cases n with
  |zero=>simp at hy;subst hy;exact ⟨_,rfl,hp⟩
  |succ n=>obtain ⟨q,h1,h2⟩:=ih (by simpa using hy);exact ⟨q,by simpa using h1,h2⟩
def kindOf:Part→Int
 | .exp _=>1
 | .desc _=>2
 | .decl _=>3
 | .imp _=>4
 | .case _=>5
def yX:AC:=p77x1110100
def uD:AC:=p77x1110101
def TN (fns:Go.Am.F) (orc:Orc) (p:Part):Prop:=∀v,RP p v→wQ p→p.nodes<10000000→∀h:aD,∃h' b,dB h h' ∧Ev fns orc (.call 77 [v] .plain h) (.call (.ret (.bool b)) .plain h')∧(b=true→Valid p)
def Ji (x:Nat):List (AV×AV×Nat):=[(.int .i64 1,.fn 108 [] [.ptr x 0],0),(.int .i64 2,.fn 111 [] [.ptr x 0],1),(.int .i64 3,.fn 113 [] [.ptr x 0],2),(.int .i64 4,.fn 115 [] [.ptr x 0],3),(.int .i64 5,.fn 117 [] [.ptr x 0],4)]
theorem PG (H:Has fns orc) (N:vU fns orc):∀p,TN fns orc p:=by
 refine Part.ind fun p ih=> ?_
 intro v hv hsh hn h
 obtain ⟨c,hrv,rfl⟩:=hv
 obtain ⟨pc,hpc⟩:∃pc,pc=dC p c:=⟨_,rfl⟩
 have hv:RP p (.agg pc):=⟨c,hrv,by rw [hpc]⟩
 have pl:pc.length=29:=by rw [hpc];exact kQ hrv
 have p0:nth pc 0=some (.int .i64 (kindOf p)):=by rw [hpc];cases p<;>rfl
 have p29:takeN 29 pc=some pc:=by rw [←pl];exact eO pc
 rw [←hpc]
 obtain ⟨hP,hPe⟩:∃x,x=((h.push (.cells pc)).push (.cells [.bool false])).push (.map [] 0):=⟨_,rfl⟩
 have gP:dB h hP:=by rw [hPe];exact gw2
 have nP:hP.next=h.next+3:=by rw [hPe];simp
 have xP:cont hP h.next=some pc:=by rw [hPe];exact ctp
 have rP:cont hP (h.next+1)=some [.bool false]:=by rw [hPe];exact ctp
 have mP:hP.get (h.next+2)=some (.map [] 0):=by rw [hPe];simp (disch:=(first|omega|(simp only [aD.aI,aD.aK];try omega)|skip)) only [aL,aP,aD.aI]
 obtain ⟨hA,hAe⟩:∃x,x=((((hP.set (h.next+2) (.map ((Ji h.next).take 1) 1)).set (h.next+2) (.map ((Ji h.next).take 2) 2)).set (h.next+2) (.map ((Ji h.next).take 3) 3)).set (h.next+2) (.map ((Ji h.next).take 4) 4)).set (h.next+2) (.map (Ji h.next) 5):=⟨_,rfl⟩
 have gA:dB h hA:=by rw [hAe];exact gw3
 have nA:hA.next=h.next+3:=by rw [hAe];simp [nP]
 have xA:cont hA h.next=some pc:=by rw [hAe];simp (disch:=(first|omega|(simp only [aD.aI,aD.aK];try omega)|skip)) only [aO,aD.aK,xP]
 have rA:cont hA (h.next+1)=some [.bool false]:=by rw [hAe];simp (disch:=(first|omega|(simp only [aD.aI,aD.aK];try omega)|skip)) only [aO,aD.aK,rP]
 have mA:hA.get (h.next+2)=some (.map (Ji h.next) 5):=by rw [hAe];simp (disch:=(first|omega|(simp only [aD.aI,aD.aK];try omega)|skip)) only [aM,aD.aK]
 have lk:findKey (.simple .int) (.int .i64 (kindOf p)) (Ji h.next) 0= .ok (some ((kindOf p).toNat -1,.fn (vfn p) [] [.ptr h.next 0])):=by cases p<;>rfl
 obtain ⟨hB,b,gAB,⟨n1,e1⟩,hb⟩:=Od H N hrv hn hsh.own (x:=h.next) (h:=hA) (by rw [xA,hpc])
 have gB:=gA.trans gAB
 have nB:=gAB.next
 have xB:=(aF gAB (by omega:h.next<hA.next)).trans xA
 have rB:=(aF gAB (by omega:h.next+1<hA.next)).trans rA
 simp only [Ji,List.take] at hAe
 cases b with
 |false=>
  refine ⟨hB.set (h.next+1) (.cells [.bool false]),false, ?g1,Ev.Aw H.f77 H.o77 ⟨n1,fun m hm=> ?b1⟩,fun q=>by cases q⟩
  case b1=>
   have e1' :=e1 m om
   exact SX (wS @a77.eq_1 (Eq.symm hPe) mP @findKey.eq_1 @findKey.eq_2 @pK.eq_1 @pK.eq_2 @pK.eq_3 (Eq.symm hAe) xA p0 lk mA e1' rB)
  case g1=>exact gw3
 |true=>
  have own:=hb rfl
  obtain ⟨hK,b3,ys,⟨n2,e2⟩,gK,rpl,Y⟩:=Iw H hv (by have:=uS p;omega) hB
  have YL:=CU (Y (fun i=>hB.next≤i∧i<hK.next) (fun i h1 h2=>⟨h1,h2⟩))
  have nK:=gK.next
  have rK:=(aF gK (by omega:h.next+1<hB.next)).trans rB
  obtain ⟨ts,hts⟩:∃ts:iH,ts=[(2,.ptr (h.next+1) 0),(19,.fn 106 [] [.ptr b3 0]),(20,.unk)]:=⟨_,rfl⟩
  have t2:fX ts 2= .ptr (h.next+1) 0:=by rw [hts];rfl
  have R:=H6 (fns:=fns) (orc:=orc) (fn:=77) (f:= .t 19) (ps:=[20]) (asg:=yX) (body:=uD) (ts:=ts) (ds:=[]) (rc:= .plain) (h:=hK) (S:=fun i=>i=h.next+1)
   (C:=fun n _ hh=>cont hh (h.next+1)=some [.bool false]∧∀j,j<n→∀q,p.kids[j]? =some q→Valid q)
   (D:=fun _ hh=>cont hh (h.next+1)=some [.bool false])
   (by rw [hts];rfl) YL (fun i q=>q.2) (fun i q=>by omega) ?L ?LD ?C0 ?R
  case L=>
   intro n Fp a b h1 h2 q
   exact ⟨(aG (h2 _ (dD q.1) (.inr ⟨by omega,by omega⟩))).trans q.1,q.2⟩
  case LD=>
   intro Fp a b h1 h2 q
   exact (aG (h2 _ (dD q) (.inr ⟨by omega,by omega⟩))).trans q
  case C0=>
   exact ⟨(aF (sI hK _) om).trans rK,fun j hj=>by omega⟩
  case R=>
   rintro n x hx hh Fp o hF ⟨hrt,hvk⟩
   obtain ⟨y,hy,rfl⟩:=hx
   obtain ⟨q,hq,hrp⟩:=PT rpl hy
   have hqm:q∈p.kids:=List.mem_of_getElem? hq
   obtain ⟨c',rfl,Ep,Mf⟩:=rW hrp
   have hst:=pX hh (z:=z29) (sz:=29) rfl Ep Mf
   obtain ⟨hY,hYe⟩:∃x,x=(hh.push (.cells z29)).set hh.next (.cells c'):=⟨_,rfl⟩
   rw [←hYe,vB] at hst
   have gY:dB hh hY:=by rw [hYe];exact gw2
   have nY:hY.next=hh.next+1:=by rw [hYe];simp
   have ho:=o.le
   have lY:hY.get (hK.next+1)=some (.loop ⟨.ready,none,77,ts,[20],yX,uD,hK.next⟩):=(gY.get _ om).trans o.loop
   obtain ⟨hZ,hZe⟩:∃x,x=hY.set (hK.next+1) (.loop ⟨.busy,none,77,ts,[20],yX,uD,hK.next⟩):=⟨_,rfl⟩
   have nZ:hZ.next=hh.next+1:=by rw [hZe];simp [nY]
   have zH:∀i,i<hh.next→i≠hK.next+1→hZ.get i=hh.get i:=fun i h1 h2=>by rw [hZe,aE _ _ _ _ om h2];exact gY.get i h1
   have zL:hZ.get (hK.next+1)=some (.loop ⟨.busy,none,77,ts,[20],yX,uD,hK.next⟩):=by rw [hZe];exact aM _ _ _ om
   have f4:cont hZ hh.next=some c' :=by rw [hZe,aO om om,hYe];exact aH (by simp)
   have f4Y:cont hY hh.next=some c' :=by rw [hYe];exact aH (by simp)
   have p4:takeN 29 c' =some c' :=by rw [←Ep];exact eO c'
   obtain ⟨h3,r,g3,⟨n4,e4⟩,hr⟩:=ih q hqm (.agg c') hrp (hsh.kid hqm) (by have:=uH hqm;omega) hZ
   have n3:=g3.next
   have l3:h3.get (hK.next+1)=some (.loop ⟨.busy,none,77,ts,[20],yX,uD,hK.next⟩):=(g3.get _ om).trans zL
   have r3:cont h3 (h.next+1)=some [.bool false]:=(aF g3 om).trans ((aG (zH _ om om)).trans hrt)
   have s3:∀x,jF h3 1 (.ptr (h.next+1) 0) (.bool x)= .ok (h3.set (h.next+1) (.cells [.bool x])):=fun x=>lK (jD r3) rfl rfl
   have lo1:kI hY (hK.next+1)= .ok ⟨.ready,none,77,ts,[20],yX,uD,hK.next⟩:=by simp only [kI,lY]
   have Qv:∀i,i<hh.next→i≠hK.next+1→h3.get i=hh.get i:=fun i h1 h2=>(g3.get _ om).trans (zH _ h1 h2)
   cases r with
   |true=>
    have lo2:kI h3 (hK.next+1)= .ok ⟨.busy,none,77,ts,[20],yX,uD,hK.next⟩:=by simp only [kI,l3]
    refine ⟨true,h3.set (hK.next+1) (.loop ⟨.ready,none,77,ts,[20],yX,uD,hK.next⟩),fun _=>False,Ev.round o.loop rfl ⟨n4,fun m hm=> ?b2⟩,by simp;omega,fun i h1 _ h2 h3' =>(aE _ _ _ _ om h3').trans (Qv i h1 h3'),fun i q=>q.elim, ?t, ?f⟩
    case b2=>
     have e4' :=e4 m hm
     simp only [yX,uD] at lo1 hZe lo2
     exact SS (gU @uA.eq_1 @jJ.eq_1 @jJ.eq_2 @yX.eq_1 @uD.eq_1 t2 hst lo1 (Eq.symm hZe) f4 f4Y p4 e4' lo2 @cG.eq_1 @cG.eq_2 (cj5 @cG.eq_3 @cG.eq_4 @cG.eq_5 @pF.eq_1 @endRound.eq_1))
    case t=>
     refine fun _=>⟨⟨(aO om om).trans r3,fun j hj w hw=> ?_⟩,aM _ _ _ om⟩
     by_cases e:j=n
     ·subst e;rw [hq] at hw;cases hw;exact hr rfl
     ·exact hvk j om w hw
    case f=>intro q;cases q
   |false=>
    have lo2:kI (h3.set (h.next+1) (.cells [.bool false])) (hK.next+1)= .ok ⟨.busy,none,77,ts,[20],yX,uD,hK.next⟩:=by
     have:(h3.set (h.next+1) (.cells [.bool false])).get (hK.next+1)=_:=(aE _ _ _ _ om om).trans l3
     simp only [kI,this]
    refine ⟨false,(h3.set (h.next+1) (.cells [.bool false])).set (hK.next+1) (.loop ⟨.done,some .ret,77,ts,[20],yX,uD,hK.next⟩),fun _=>False,Ev.round o.loop rfl ⟨n4,fun m hm=> ?b3⟩,by simp;omega,
     fun i h1 _ h2 h3' =>(aE _ _ _ _ (by simp;omega) h3').trans ((aE _ _ _ _ om om).trans (Qv i h1 h3')),fun i q=>q.elim, ?f3,fun _=> ?t3⟩
    case f3=>intro q;cases q
    case b3=>
     have e4' :=e4 m hm
     simp only [yX,uD] at lo1 hZe lo2
     exact SS (gU @uA.eq_1 @jJ.eq_1 @jJ.eq_2 @yX.eq_1 @uD.eq_1 t2 hst lo1 (Eq.symm hZe) f4 f4Y p4 e4' s3 lo2 @cG.eq_1 (cj6 @cG.eq_2 @cG.eq_3 @cG.eq_4 @cG.eq_5 @pF.eq_1 @endRound.eq_1))
    case t3=>
     refine ⟨(aO (by simp;omega) om).trans (aH om),aM _ _ _ (by simp;omega)⟩
  obtain ⟨h5,e,⟨n3,e3⟩,le5,mk5,JF,hE⟩:=R
  have h5r:cont h5 (h.next+1)=some [.bool false]:=by
   rcases hE with ⟨_,_,_,q⟩|⟨_,_,_,q⟩;exact q.1;exact q
  have Ur:∀i,i<h.next→h5.get i=h.get i:=fun i h1=>(JF i om om).trans ((gK.get i om).trans (gB.get i h1))
  rcases hE with ⟨rfl,Fp,_,_,hvk⟩|⟨rfl,_⟩
  ·obtain ⟨h6,h6e⟩:∃x,x=h5.set (h.next+1) (.cells [.bool true]):=⟨_,rfl⟩
   have n6:h6.next=h5.next:=by rw [h6e];simp
   have mk6:h6.get hK.next=some (.deferred (some [])):=by rw [h6e];exact (aE _ _ _ _ om om).trans mk5
   have r6:cont h6 (h.next+1)=some [.bool true]:=by rw [h6e];exact aH om
   refine ⟨h6.set hK.next (.deferred none),true,⟨by simp;omega,fun i hi=> ?g4⟩,Ev.Aw H.f77 H.o77 ⟨max n1 (max n2 n3),fun m hm=> ?b4⟩,fun _=>⟨own,fun q hq=> ?v4⟩⟩
   case v4=>
    obtain ⟨j,hj,rfl⟩:=List.mem_iff_getElem.1 hq
    have hl:ys.length=p.kids.length:=wD rpl
    exact hvk j om _ (List.getElem?_eq_getElem hj)
   case b4=>
    have e1' :=e1 m om
    have e2' :=e2 m om
    have e3' :=e3 m om
    rw [hts] at e3'
    simp only [yX,uD] at e3'
    exact SX (gU @a77.eq_1 (Eq.symm hPe) mP @findKey.eq_1 @findKey.eq_2 @pK.eq_1 @pK.eq_2 @pK.eq_3 (Eq.symm hAe) xA p0 lk mA e1' xB p29 (cj6 e2' e3' h5r (Eq.symm h6e) mk6 r6))
   case g4=>rw [aE _ _ _ _ om om,h6e,aE _ _ _ _ om om,Ur i hi]
  ·refine ⟨h5.set hK.next (.deferred none),false,⟨by simp;omega,fun i hi=> ?g5⟩,Ev.Aw H.f77 H.o77 ⟨max n1 (max n2 n3),fun m hm=> ?b5⟩,fun q=>by cases q⟩
   case b5=>
    have e1' :=e1 m om
    have e2' :=e2 m om
    have e3' :=e3 m om
    rw [hts] at e3'
    simp only [yX,uD] at e3'
    exact SX (gU @a77.eq_1 (Eq.symm hPe) mP @findKey.eq_1 @findKey.eq_2 @pK.eq_1 @pK.eq_2 @pK.eq_3 (Eq.symm hAe) xA p0 lk mA e1' xB p29 (cj4 e2' e3' h5r mk5))
   case g5=>rw [aE _ _ _ _ om om,Ur i hi]
end Go.Ly
namespace Go.Ly
open Go Go.Am Go.Fs Go.Gn
variable {fns:Go.Am.F} {orc:Orc}
theorem MA (H:Has fns orc) (N:vU fns orc) {p:Part} {v:AV} (hv:RP p v) (hs:wQ p) (hn:p.nodes<10000000) (h:aD):
  ∃h' e,dB h h' ∧Ev fns orc (.call 61 [v] .plain h) (.call (.ret (.int .i64 e)) .plain h')∧0≤e∧e≤2∧(e=0→Valid p):=by
 obtain ⟨c,rfl,hcl,hck⟩:=rW hv
 have p29:takeN 29 c=some c:=by rw [←hcl];exact eO c
 obtain ⟨hA,hAe⟩:∃x,x=h.push (.cells c):=⟨_,rfl⟩
 have gA:dB h hA:=by rw [hAe];exact gw2
 have nA:hA.next=h.next+1:=by rw [hAe];simp
 have xA:cont hA h.next=some c:=by rw [hAe];exact cI om om
 obtain ⟨hB,b,gAB,n1,e1⟩:=NY H hv hn hA
 have gB:=gA.trans gAB
 have nB:=gAB.next
 have xB:=(aF gAB (by omega:h.next<hA.next)).trans xA
 cases b with
 |false=>
  refine ⟨hB,2,gB,Ev.call H.f61 H.o61 ⟨n1,fun m hm=> ?b1⟩,by omega,by omega,fun q=>by cases q⟩
  have e1' :=e1 m om
  exact SX (cj5 @a61.eq_1 (Eq.symm hAe) xA p29 e1')
 |true=>
  obtain ⟨hC,r,gBC,⟨n2,e2⟩,hr⟩:=PG H N p (.agg c) hv hs hn hB
  cases r with
  |false=>
   refine ⟨hC,1,gB.trans gBC,Ev.call H.f61 H.o61 ⟨n1+n2,fun m hm=> ?b2⟩,by omega,by omega,fun q=>by cases q⟩
   have e1' :=e1 m om
   have e2' :=e2 m om
   exact SX (cj7 @a61.eq_1 (Eq.symm hAe) xA xB p29 e1' e2')
  |true=>
   refine ⟨hC,0,gB.trans gBC,Ev.call H.f61 H.o61 ⟨n1+n2,fun m hm=> ?b3⟩,by omega,by omega,fun _=>hr rfl⟩
   have e1' :=e1 m om
   have e2' :=e2 m om
   exact SX (cj7 @a61.eq_1 (Eq.symm hAe) xA xB p29 e1' e2')
theorem Lg (H:Has fns orc) (N:vU fns orc) {d:pW} {c:List AV} (hv:RV (.desc d) (.agg c)) (hs:wQ (.desc d)) (hn:(Part.desc d).nodes<10000000) (h:aD):
  ∃h' e,dB h h' ∧Ev fns orc (.call 40 [.agg c] .plain h) (.call (.ret (.int .i64 e)) .plain h')∧0≤e∧e≤2∧(e=0→Valid (.desc d)):=by
 have hcl:=mC hv
 have p7:takeN 7 c=some c:=by rw [←hcl];exact eO c
 obtain ⟨hA,hAe⟩:∃x,x=h.push (.cells c):=⟨_,rfl⟩
 have gA:dB h hA:=by rw [hAe];exact gw2
 have xA:cont hA h.next=some c:=by rw [hAe];exact cI om om
 obtain ⟨hB,gB,n1,e1⟩:=AW H hv hA
 obtain ⟨hC,e,gC,⟨n2,e2⟩,r1,r2,r3⟩:=MA H N ⟨c,hv,rfl⟩ hs hn hB
 refine ⟨hC,e,gA.trans (gB.trans gC),Ev.call H.f40 H.o40 ⟨n1+n2,fun m hm=> ?b1⟩,r1,r2,r3⟩
 have e1' :=e1 m om
 have e2' :=e2 m om
 exact SX (cj6 @a40.eq_1 (Eq.symm hAe) xA p7 e1' e2')
end Go.Ly
end
