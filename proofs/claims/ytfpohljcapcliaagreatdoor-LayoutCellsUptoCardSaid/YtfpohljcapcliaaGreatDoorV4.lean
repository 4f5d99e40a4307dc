/- Parts of a proof. -/
import Derived.Test.YtfpohljcapcliaaGreatDoorD
import Derived.Test.YtfpohljcapcliaaGreatDoorV1
import Derived.Test.YtfpohljcapcliaaGreatDoorV2
import Derived.Test.YtfpohljcapcliaaGreatDoorV3
set_option linter.all false
set_option maxHeartbeats 4000000
set_option maxRecDepth 4000
noncomputable section
namespace Go.Ly
open Go Go.Am Go.Fs Go.Gn
variable {fns:Go.Am.F} {orc:Orc}
def strs:Part→List (List UInt8)
 | .exp (.mk _ _ _ _ _ t _ _)=>[t]
 | .desc (.mk s _ _ _ _ _ _)=>[s]
 | .decl (.mk _ n _ _ _)=>n
 | .imp (.mk _ n _ _ _ _)=>[n]
 | .case _=>[]
inductive wP:Part→Prop
 |mk {p:Part}:(∀s∈strs p,s.length<10000000)→(∀q∈p.kids,wP q)→wP p
theorem wP.own {p:Part} (h:wP p):∀s∈strs p,s.length<10000000:=by cases h;assumption
theorem wP.kid {p q:Part} (h:wP p) (hq:q∈p.kids):wP q:=by cases h with|mk _ h2=>exact h2 q hq
def Mk:Part→Prop
 | .decl (.mk k n _ p d)=>Og k n p.length d.length
 |_=>True
inductive Valid:Part→Prop
 |mk {p:Part}:Mk p→(∀q∈p.kids,Valid q)→Valid p
theorem Valid.own {p:Part} (h:Valid p):Mk p:=by cases h;assumption
theorem Valid.kid {p q:Part} (h:Valid p) (hq:q∈p.kids):Valid q:=by cases h with|mk _ h2=>exact h2 q hq
def vfn:Part→Nat
 | .exp _=>117
 | .desc _=>120
 | .decl _=>122
 | .imp _=>124
 | .case _=>126
theorem PL (H:Has fns orc) (N:vX fns orc) {p:Part} {c:List AV} (hv:RV p (.agg c)) (hn:p.nodes<10000000) (hs:∀s∈strs p,s.length<10000000) {x:Nat} {h:aD} (hx:cont h x=some (aX p c)):
  ∃h' b,aP h h' ∧Ev fns orc (.call (vfn p) [.ptr x 0] .plain h) (.call (.ret (.bool b)) .plain h')∧(b=true→Mk p):=by
 have hkl:=uR p
 have hlt:=aO hx
 cases hv with
 | @exp k op n man ex t a d va vd h1 h2=>
  have y1:=jS h1
  have y2:=jS h2
  obtain ⟨xs,s1,_,_⟩:=jZ h1
  obtain ⟨ys,s2,_,_⟩:=jZ h2
  obtain ⟨hA,v,gA,⟨n1,e1⟩,k',op',n',man',ex',t',va',vd',ok,xa,xd,rfl,s3,s4⟩:=Ps H N (k:=k) (op:=op) (n:=n) (man:=man) (ex:=ex) h1 h2 (hs t (by simp [strs])) h
  obtain ⟨hB,b,gB,n2,e2⟩:=Vq H (k:=k) (op:=op) (n:=n) (man:=man) (ex:=ex) (t:=t) (k' :=k') (op' :=op') (n' :=n') (man' :=man') (ex' :=ex') (t' :=t') (ok:=ok) s1 s2 s3 s4 hA
  have xA:=(aF gA hlt).trans hx
  refine ⟨hB,b,gA.trans gB,Ev.call (f:=117) H.f117 H.o117 ⟨n1+n2,fun m hm=> ?b1⟩,fun _=>trivial⟩
  case b1=>
   have e1' :=e1 m om
   have e2' :=e2 m om
   simp only [aX] at hx xA
   exact SX (sC @a117.eq_1 hx xA @kD.eq_1 @kF.eq_1 @pX.eq_1 @lG.eq_1 e1' e2' y1 y2)
 | @desc s p d e bd i x vp vd ve vi vx h1 h2 h3 h4 h5=>
  obtain ⟨hB,b,gB,n2,e2⟩:=LA H N (bd:=bd) h1 h2 h3 h4 h5 (hs s (by simp [strs])) h
  refine ⟨hB,b,gB,Ev.call (f:=120) H.f120 H.o120 ⟨n2,fun m hm=> ?b2⟩,fun _=>trivial⟩
  case b2=>
   have e2' :=e2 m om
   simp only [aX] at hx
   exact SX (cj7 @a120.eq_1 hx @pY.eq_1 @kF.eq_1 @pX.eq_1 @lG.eq_1 e2')
 | @decl k n s p d vn vs vp vd h0 h1 h2 h3=>
  simp only [Part.kids,List.length_append,List.length_map] at hkl
  have hnl:n.length<10000000:=by
   have:=Part.qH (.decl (.mk k n s p d))
   simp only [Part.own] at this
   omega
  obtain ⟨hB,b,gB,⟨n2,e2⟩,hb⟩:=LB H N (k:=k) h0 h1 h2 h3 hnl om om (fun s q=>hs s (by simpa [strs] using q)) h
  refine ⟨hB,b,gB,Ev.call (f:=122) H.f122 H.o122 ⟨n2,fun m hm=> ?b3⟩,hb⟩
  case b3=>
   have e2' :=e2 m om
   simp only [aX] at hx
   exact SX (cj7 @a122.eq_1 hx @pY.eq_1 @kD.eq_1 @pX.eq_1 @lG.eq_1 e2')
 | @imp k n e c b i ve vc vi h1 h2 h3=>
  obtain ⟨hB,r,gB,n2,e2⟩:=Ny H N (k:=k) (he:=b) h1 h2 h3 (hs n (by simp [strs])) h
  refine ⟨hB,r,gB,Ev.call (f:=124) H.f124 H.o124 ⟨n2,fun m hm=> ?b4⟩,fun _=>trivial⟩
  case b4=>
   have e2' :=e2 m om
   simp only [aX] at hx
   exact SX (cj7 @a124.eq_1 hx @pY.eq_1 @kD.eq_1 @kF.eq_1 @lG.eq_1 e2')
 | @case v i vv vi h1 h2=>
  obtain ⟨xs,s1,_,_⟩:=jZ h1
  have q:=bO s1
  refine ⟨h,decide (0<(xs.length:Int)),.refl _,Ev.call (f:=126) H.f126 H.o126 ⟨0,fun m hm=> ?b5⟩,fun _=>trivial⟩
  case b5=>
   simp only [aX] at hx
   exact SX (cj7 @a126.eq_1 hx @pY.eq_1 @kD.eq_1 @kF.eq_1 @pX.eq_1 q)
end Go.Ly
namespace Go.Ly
open Go Go.Am Go.Fs Go.Gn
variable {fns:Go.Am.F} {orc:Orc}
theorem Rt {l:List Part} {ys:List AV} (h:RPL l ys) {n:Nat} {y:AV} (hy:ys[n]? =some y):∃q,l[n]? =some q∧RP q y:=by
 induction h generalizing n with
 |nil=>simp at hy
 |cons hp _ ih=>
  cases n with
  |zero=>simp at hy;subst hy;exact ⟨_,rfl,hp⟩
  |succ n=>obtain ⟨q,h1,h2⟩:=ih (by simpa using hy);exact ⟨q,by simpa using h1,h2⟩
def kindOf:Part→Int
 | .exp _=>1
 | .desc _=>2
 | .decl _=>3
 | .imp _=>4
 | .case _=>5
def Ad:AC:=p87x1110100
def uM:AC:=p87x1110101
def VF (fns:Go.Am.F) (orc:Orc) (p:Part):Prop:=∀v,RP p v→wP p→p.nodes<10000000→∀h:aD,∃h' b,aP h h' ∧Ev fns orc (.call 87 [v] .plain h) (.call (.ret (.bool b)) .plain h')∧(b=true→Valid p)
def J8 (x:Nat):List (AV×AV×Nat):=[(.int .i64 1,.fn 117 [] [.ptr x 0],0),(.int .i64 2,.fn 120 [] [.ptr x 0],1),(.int .i64 3,.fn 122 [] [.ptr x 0],2),(.int .i64 4,.fn 124 [] [.ptr x 0],3),(.int .i64 5,.fn 126 [] [.ptr x 0],4)]
theorem Rg (H:Has fns orc) (N:vX fns orc):∀p,VF fns orc p:=by
 refine Part.ind fun p ih=> ?_
 intro v hv hsh hn h
 obtain ⟨c,hrv,rfl⟩:=hv
 obtain ⟨pc,hpc⟩:∃pc,pc=aX p c:=⟨_,rfl⟩
 have hv:RP p (.agg pc):=⟨c,hrv,by rw [hpc]⟩
 have pl:pc.length=29:=by rw [hpc];exact jD hrv
 have p0:nth pc 0=some (.int .i64 (kindOf p)):=by rw [hpc];cases p<;>rfl
 have p29:takeN 29 pc=some pc:=by rw [←pl];exact aW pc
 rw [←hpc]
 obtain ⟨hP,hPe⟩:∃x,x=((h.push (.cells pc)).push (.cells [.bool false])).push (.map [] 0):=⟨_,rfl⟩
 have gP:aP h hP:=by rw [hPe];exact gw2
 have nP:hP.next=h.next+3:=by rw [hPe];simp
 have xP:cont hP h.next=some pc:=by rw [hPe];exact ctp
 have rP:cont hP (h.next+1)=some [.bool false]:=by rw [hPe];exact ctp
 have mP:hP.get (h.next+2)=some (.map [] 0):=by rw [hPe];simp (disch:=(first|omega|(simp only [aD.aJ,aD.aL];try omega)|skip)) only [aT,aV,aD.aJ]
 obtain ⟨hA,hAe⟩:∃x,x=((((hP.set (h.next+2) (.map ((J8 h.next).take 1) 1)).set (h.next+2) (.map ((J8 h.next).take 2) 2)).set (h.next+2) (.map ((J8 h.next).take 3) 3)).set (h.next+2) (.map ((J8 h.next).take 4) 4)).set (h.next+2) (.map (J8 h.next) 5):=⟨_,rfl⟩
 have gA:aP h hA:=by rw [hAe];exact gw3
 have nA:hA.next=h.next+3:=by rw [hAe];simp [nP]
 have xA:cont hA h.next=some pc:=by rw [hAe];simp (disch:=(first|omega|(simp only [aD.aJ,aD.aL];try omega)|skip)) only [aK,aD.aL,xP]
 have rA:cont hA (h.next+1)=some [.bool false]:=by rw [hAe];simp (disch:=(first|omega|(simp only [aD.aJ,aD.aL];try omega)|skip)) only [aK,aD.aL,rP]
 have mA:hA.get (h.next+2)=some (.map (J8 h.next) 5):=by rw [hAe];simp (disch:=(first|omega|(simp only [aD.aJ,aD.aL];try omega)|skip)) only [aQ,aD.aL]
 have lk:findKey (.simple .int) (.int .i64 (kindOf p)) (J8 h.next) 0= .ok (some ((kindOf p).toNat -1,.fn (vfn p) [] [.ptr h.next 0])):=by cases p<;>rfl
 obtain ⟨hB,b,gAB,⟨n1,e1⟩,hb⟩:=PL H N hrv hn hsh.own (x:=h.next) (h:=hA) (by rw [xA,hpc])
 have gB:=gA.trans gAB
 have nB:=gAB.next
 have xB:=(aF gAB (by omega:h.next<hA.next)).trans xA
 have rB:=(aF gAB (by omega:h.next+1<hA.next)).trans rA
 simp only [J8,List.take] at hAe
 cases b with
 |false=>
  refine ⟨hB.set (h.next+1) (.cells [.bool false]),false, ?g1,Ev.A0 H.f87 H.o87 ⟨n1,fun m hm=> ?b1⟩,fun q=>by cases q⟩
  case b1=>
   have e1' :=e1 m om
   exact SX (xJ @a87.eq_1 (Eq.symm hPe) mP @findKey.eq_1 @findKey.eq_2 @pF.eq_1 @pF.eq_2 @pF.eq_3 (Eq.symm hAe) xA p0 lk mA e1' rB)
  case g1=>exact gw3
 |true=>
  have own:=hb rfl
  obtain ⟨hK,b3,ys,⟨n2,e2⟩,gK,rpl,Y⟩:=Js H hv (by have:=uR p;omega) hB
  have YL:=Dy (Y (fun i=>hB.next≤i∧i<hK.next) (fun i h1 h2=>⟨h1,h2⟩))
  have nK:=gK.next
  have rK:=(aF gK (by omega:h.next+1<hB.next)).trans rB
  obtain ⟨ts,hts⟩:∃ts:fN,ts=[(2,.ptr (h.next+1) 0),(19,.fn 115 [] [.ptr b3 0]),(20,.unk)]:=⟨_,rfl⟩
  have t2:cH ts 2= .ptr (h.next+1) 0:=by rw [hts];rfl
  have R:=I1 (fns:=fns) (orc:=orc) (fn:=87) (f:= .t 19) (ps:=[20]) (asg:=Ad) (body:=uM) (ts:=ts) (ds:=[]) (rc:= .plain) (h:=hK) (S:=fun i=>i=h.next+1)
   (C:=fun n _ hh=>cont hh (h.next+1)=some [.bool false]∧∀j,j<n→∀q,p.kids[j]? =some q→Valid q)
   (D:=fun _ hh=>cont hh (h.next+1)=some [.bool false])
   (by rw [hts];rfl) YL (fun i q=>q.2) (fun i q=>by omega) ?L ?LD ?C0 ?R
  case L=>
   intro n Fp a b h1 h2 q
   exact ⟨(aH (h2 _ (aO q.1) (.inr ⟨by omega,by omega⟩))).trans q.1,q.2⟩
  case LD=>
   intro Fp a b h1 h2 q
   exact (aH (h2 _ (aO q) (.inr ⟨by omega,by omega⟩))).trans q
  case C0=>
   exact ⟨(aF (tJ hK _) om).trans rK,fun j hj=>by omega⟩
  case R=>
   rintro n x hx hh Fp o hF ⟨hrt,hvk⟩
   obtain ⟨y,hy,rfl⟩:=hx
   obtain ⟨q,hq,hrp⟩:=Rt rpl hy
   have hqm:q∈p.kids:=List.mem_of_getElem? hq
   obtain ⟨c',rfl,E8,Nq⟩:=sK hrp
   have hst:=mW hh (z:=z29) (sz:=29) rfl E8 Nq
   obtain ⟨hY,hYe⟩:∃x,x=(hh.push (.cells z29)).set hh.next (.cells c'):=⟨_,rfl⟩
   rw [←hYe,vR] at hst
   have gY:aP hh hY:=by rw [hYe];exact gw2
   have nY:hY.next=hh.next+1:=by rw [hYe];simp
   have ho:=o.le
   have lY:hY.get (hK.next+1)=some (.loop ⟨.ready,none,87,ts,[20],Ad,uM,hK.next⟩):=(gY.get _ om).trans o.loop
   obtain ⟨hZ,hZe⟩:∃x,x=hY.set (hK.next+1) (.loop ⟨.busy,none,87,ts,[20],Ad,uM,hK.next⟩):=⟨_,rfl⟩
   have nZ:hZ.next=hh.next+1:=by rw [hZe];simp [nY]
   have zH:∀i,i<hh.next→i≠hK.next+1→hZ.get i=hh.get i:=fun i h1 h2=>by rw [hZe,aE _ _ _ _ om h2];exact gY.get i h1
   have zL:hZ.get (hK.next+1)=some (.loop ⟨.busy,none,87,ts,[20],Ad,uM,hK.next⟩):=by rw [hZe];exact aQ _ _ _ om
   have f4:cont hZ hh.next=some c' :=by rw [hZe,aK om om,hYe];exact aG (by simp)
   have f4Y:cont hY hh.next=some c' :=by rw [hYe];exact aG (by simp)
   have p4:takeN 29 c' =some c' :=by rw [←E8];exact aW c'
   obtain ⟨h3,r,g3,⟨n4,e4⟩,hr⟩:=ih q hqm (.agg c') hrp (hsh.kid hqm) (by have:=tW hqm;omega) hZ
   have n3:=g3.next
   have l3:h3.get (hK.next+1)=some (.loop ⟨.busy,none,87,ts,[20],Ad,uM,hK.next⟩):=(g3.get _ om).trans zL
   have r3:cont h3 (h.next+1)=some [.bool false]:=(aF g3 om).trans ((aH (zH _ om om)).trans hrt)
   have s3:∀x,kG h3 1 (.ptr (h.next+1) 0) (.bool x)= .ok (h3.set (h.next+1) (.cells [.bool x])):=fun x=>kS (gM r3) rfl rfl
   have lo1:jG hY (hK.next+1)= .ok ⟨.ready,none,87,ts,[20],Ad,uM,hK.next⟩:=by simp only [jG,lY]
   have R3:∀i,i<hh.next→i≠hK.next+1→h3.get i=hh.get i:=fun i h1 h2=>(g3.get _ om).trans (zH _ h1 h2)
   cases r with
   |true=>
    have lo2:jG h3 (hK.next+1)= .ok ⟨.busy,none,87,ts,[20],Ad,uM,hK.next⟩:=by simp only [jG,l3]
    refine ⟨true,h3.set (hK.next+1) (.loop ⟨.ready,none,87,ts,[20],Ad,uM,hK.next⟩),fun _=>False,Ev.round o.loop rfl ⟨n4,fun m hm=> ?b2⟩,by simp;omega,fun i h1 _ h2 h3' =>(aE _ _ _ _ om h3').trans (R3 i h1 h3'),fun i q=>q.elim, ?t, ?f⟩
    case b2=>
     have e4' :=e4 m hm
     simp only [Ad,uM] at lo1 hZe lo2
     exact SS (dI @uI.eq_1 @iT.eq_1 @iT.eq_2 @Ad.eq_1 @uM.eq_1 t2 hst lo1 (Eq.symm hZe) f4 f4Y p4 e4' lo2 @aN.eq_1 @aN.eq_2 (cj5 @aN.eq_3 @aN.eq_4 @aN.eq_5 @oV.eq_1 @endRound.eq_1))
    case t=>
     refine fun _=>⟨⟨(aK om om).trans r3,fun j hj w hw=> ?_⟩,aQ _ _ _ om⟩
     by_cases e:j=n
     ·subst e;rw [hq] at hw;cases hw;exact hr rfl
     ·exact hvk j om w hw
    case f=>intro q;cases q
   |false=>
    have lo2:jG (h3.set (h.next+1) (.cells [.bool false])) (hK.next+1)= .ok ⟨.busy,none,87,ts,[20],Ad,uM,hK.next⟩:=by
     have:(h3.set (h.next+1) (.cells [.bool false])).get (hK.next+1)=_:=(aE _ _ _ _ om om).trans l3
     simp only [jG,this]
    refine ⟨false,(h3.set (h.next+1) (.cells [.bool false])).set (hK.next+1) (.loop ⟨.done,some .ret,87,ts,[20],Ad,uM,hK.next⟩),fun _=>False,Ev.round o.loop rfl ⟨n4,fun m hm=> ?b3⟩,by simp;omega,
     fun i h1 _ h2 h3' =>(aE _ _ _ _ (by simp;omega) h3').trans ((aE _ _ _ _ om om).trans (R3 i h1 h3')),fun i q=>q.elim, ?f3,fun _=> ?t3⟩
    case f3=>intro q;cases q
    case b3=>
     have e4' :=e4 m hm
     simp only [Ad,uM] at lo1 hZe lo2
     exact SS (dI @uI.eq_1 @iT.eq_1 @iT.eq_2 @Ad.eq_1 @uM.eq_1 t2 hst lo1 (Eq.symm hZe) f4 f4Y p4 e4' s3 lo2 @aN.eq_1 (cj6 @aN.eq_2 @aN.eq_3 @aN.eq_4 @aN.eq_5 @oV.eq_1 @endRound.eq_1))
    case t3=>
     refine ⟨(aK (by simp;omega) om).trans (aG om),aQ _ _ _ (by simp;omega)⟩
  obtain ⟨h5,e,⟨n3,e3⟩,le5,mk5,KN,hE⟩:=R
  have h5r:cont h5 (h.next+1)=some [.bool false]:=by
   rcases hE with ⟨_,_,_,q⟩|⟨_,_,_,q⟩;exact q.1;exact q
  have Wd:∀i,i<h.next→h5.get i=h.get i:=fun i h1=>(KN i om om).trans ((gK.get i om).trans (gB.get i h1))
  rcases hE with ⟨rfl,Fp,_,_,hvk⟩|⟨rfl,_⟩
  ·obtain ⟨h6,h6e⟩:∃x,x=h5.set (h.next+1) (.cells [.bool true]):=⟨_,rfl⟩
   have n6:h6.next=h5.next:=by rw [h6e];simp
   have mk6:h6.get hK.next=some (.deferred (some [])):=by rw [h6e];exact (aE _ _ _ _ om om).trans mk5
   have r6:cont h6 (h.next+1)=some [.bool true]:=by rw [h6e];exact aG om
   refine ⟨h6.set hK.next (.deferred none),true,⟨by simp;omega,fun i hi=> ?g4⟩,Ev.A0 H.f87 H.o87 ⟨max n1 (max n2 n3),fun m hm=> ?b4⟩,fun _=>⟨own,fun q hq=> ?v4⟩⟩
   case v4=>
    obtain ⟨j,hj,rfl⟩:=List.mem_iff_getElem.1 hq
    have hl:ys.length=p.kids.length:=uH rpl
    exact hvk j om _ (List.getElem?_eq_getElem hj)
   case b4=>
    have e1' :=e1 m om
    have e2' :=e2 m om
    have e3' :=e3 m om
    rw [hts] at e3'
    simp only [Ad,uM] at e3'
    exact SX (dI @a87.eq_1 (Eq.symm hPe) mP @findKey.eq_1 @findKey.eq_2 @pF.eq_1 @pF.eq_2 @pF.eq_3 (Eq.symm hAe) xA p0 lk mA e1' xB p29 (cj6 e2' e3' h5r (Eq.symm h6e) mk6 r6))
   case g4=>rw [aE _ _ _ _ om om,h6e,aE _ _ _ _ om om,Wd i hi]
  ·refine ⟨h5.set hK.next (.deferred none),false,⟨by simp;omega,fun i hi=> ?g5⟩,Ev.A0 H.f87 H.o87 ⟨max n1 (max n2 n3),fun m hm=> ?b5⟩,fun q=>by cases q⟩
   case b5=>
    have e1' :=e1 m om
    have e2' :=e2 m om
    have e3' :=e3 m om
    rw [hts] at e3'
    simp only [Ad,uM] at e3'
    exact SX (dI @a87.eq_1 (Eq.symm hPe) mP @findKey.eq_1 @findKey.eq_2 @pF.eq_1 @pF.eq_2 @pF.eq_3 (Eq.symm hAe) xA p0 lk mA e1' xB p29 (cj4 e2' e3' h5r mk5))
   case g5=>rw [aE _ _ _ _ om om,Wd i hi]
end Go.Ly
namespace Go.Ly
open Go Go.Am Go.Fs Go.Gn
variable {fns:Go.Am.F} {orc:Orc}
theorem NO (H:Has fns orc) (N:vX fns orc) {p:Part} {v:AV} (hv:RP p v) (hs:wP p) (hn:p.nodes<10000000) (h:aD):
  ∃h' e,aP h h' ∧Ev fns orc (.call 74 [v] .plain h) (.call (.ret (.int .i64 e)) .plain h')∧0≤e∧e≤2∧(e=0→Valid p):=by
 obtain ⟨c,rfl,hcl,hck⟩:=sK hv
 have p29:takeN 29 c=some c:=by rw [←hcl];exact aW c
 obtain ⟨hA,hAe⟩:∃x,x=h.push (.cells c):=⟨_,rfl⟩
 have gA:aP h hA:=by rw [hAe];exact gw2
 have nA:hA.next=h.next+1:=by rw [hAe];simp
 have xA:cont hA h.next=some c:=by rw [hAe];exact aR om om
 obtain ⟨hB,b,gAB,n1,e1⟩:=Pr H hv hn hA
 have gB:=gA.trans gAB
 have nB:=gAB.next
 have xB:=(aF gAB (by omega:h.next<hA.next)).trans xA
 cases b with
 |false=>
  refine ⟨hB,2,gB,Ev.call H.f74 H.o74 ⟨n1,fun m hm=> ?b1⟩,by omega,by omega,fun q=>by cases q⟩
  have e1' :=e1 m om
  exact SX (cj5 @a74.eq_1 (Eq.symm hAe) xA p29 e1')
 |true=>
  obtain ⟨hC,r,gBC,⟨n2,e2⟩,hr⟩:=Rg H N p (.agg c) hv hs hn hB
  cases r with
  |false=>
   refine ⟨hC,1,gB.trans gBC,Ev.call H.f74 H.o74 ⟨n1+n2,fun m hm=> ?b2⟩,by omega,by omega,fun q=>by cases q⟩
   have e1' :=e1 m om
   have e2' :=e2 m om
   exact SX (cj7 @a74.eq_1 (Eq.symm hAe) xA xB p29 e1' e2')
  |true=>
   refine ⟨hC,0,gB.trans gBC,Ev.call H.f74 H.o74 ⟨n1+n2,fun m hm=> ?b3⟩,by omega,by omega,fun _=>hr rfl⟩
   have e1' :=e1 m om
   have e2' :=e2 m om
   exact SX (cj7 @a74.eq_1 (Eq.symm hAe) xA xB p29 e1' e2')
theorem Mo (H:Has fns orc) (N:vX fns orc) {d:pD} {c:List AV} (hv:RV (.desc d) (.agg c)) (hs:wP (.desc d)) (hn:(Part.desc d).nodes<10000000) (h:aD):
  ∃h' e,aP h h' ∧Ev fns orc (.call 53 [.agg c] .plain h) (.call (.ret (.int .i64 e)) .plain h')∧0≤e∧e≤2∧(e=0→Valid (.desc d)):=by
 have hcl:=kW hv
 have p7:takeN 7 c=some c:=by rw [←hcl];exact aW c
 obtain ⟨hA,hAe⟩:∃x,x=h.push (.cells c):=⟨_,rfl⟩
 have gA:aP h hA:=by rw [hAe];exact gw2
 have xA:cont hA h.next=some c:=by rw [hAe];exact aR om om
 obtain ⟨hB,gB,n1,e1⟩:=Bl H hv hA
 obtain ⟨hC,e,gC,⟨n2,e2⟩,r1,r2,r3⟩:=NO H N ⟨c,hv,rfl⟩ hs hn hB
 refine ⟨hC,e,gA.trans (gB.trans gC),Ev.call H.f53 H.o53 ⟨n1+n2,fun m hm=> ?b1⟩,r1,r2,r3⟩
 have e1' :=e1 m om
 have e2' :=e2 m om
 exact SX (cj6 @a53.eq_1 (Eq.symm hAe) xA p7 e1' e2')
end Go.Ly
end
