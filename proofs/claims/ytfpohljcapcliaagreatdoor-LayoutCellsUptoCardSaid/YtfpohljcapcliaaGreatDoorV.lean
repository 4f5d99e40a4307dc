/- Parts of a proof. -/
import Derived.Test.YtfpohljcapcliaaGreatDoorD
import Derived.Test.YtfpohljcapcliaaGreatDoorC
set_option linter.all false
set_option maxHeartbeats 4000000
noncomputable section
namespace Go.Ly
open Go Go.Am Go.Fs Go.Gn
variable {fns:Go.Am.F} {orc:Orc}
theorem Ws (H:Has fns orc) {p:Part} {v:AV} (hp:RP p v) (h:aD):∃h' n,aP h h' ∧Ev fns orc (.call 133 [v] .plain h) (.call (.ret (.int .i64 n)) .plain h'):=by
 obtain ⟨c,hv,rfl⟩:=hp
 cases hv with
 |exp h1 h2=>
  refine ⟨?hh1,1, ?g1,Ev.call H.f133 H.o133 ⟨0,fun m _=> ?b1⟩⟩
  case b1=>
   exact SA (cj2 @a133.eq_1 @KF.eq_1)
  case g1=>exact gw2
 |desc h1 h2 h3 h4 h5=>
  refine ⟨?hh2,1, ?g2,Ev.call H.f133 H.o133 ⟨0,fun m _=> ?b2⟩⟩
  case b2=>
   exact SA (cj2 @a133.eq_1 @KF.eq_1)
  case g2=>exact gw2
 |decl h0 h1 h2 h3=>
  refine ⟨?hh3, ?nn3, ?g3,Ev.call H.f133 H.o133 ⟨0,fun m _=> ?b3⟩⟩
  case b3=>
   have q:=bO h0
   exact SA (cj3 @a133.eq_1 q @KF.eq_1)
  case g3=>exact gw2
 |imp h1 h2 h3=>
  refine ⟨?hh4,1, ?g4,Ev.call H.f133 H.o133 ⟨0,fun m _=> ?b4⟩⟩
  case b4=>
   exact SA (cj2 @a133.eq_1 @KF.eq_1)
  case g4=>exact gw2
 |case h1 h2=>
  refine ⟨?hh5,1, ?g5,Ev.call H.f133 H.o133 ⟨0,fun m _=> ?b5⟩⟩
  case b5=>
   exact SA (cj2 @a133.eq_1 @KF.eq_1)
  case g5=>exact gw2
theorem uR (p:Part):p.kids.length≤p.nodes:=by
 rw [Part.qH]
 have key:∀l:List Part,l.length≤(l.map Part.nodes).sum:=by
  intro l
  induction l with
  |nil=>simp
  |cons q l ih=>
   have:1≤q.nodes:=by rw [Part.qH];cases q with
    |decl d=>cases d;simp [Part.own];omega
    |_=>simp only [Part.own];omega
   simp;omega
 have:=key p.kids
 omega
theorem tW {p q:Part} (h:q∈p.kids):q.nodes<p.nodes:=by
 rw [Part.qH p]
 have key:∀l:List Part,q∈l→q.nodes≤(l.map Part.nodes).sum:=by
  intro l
  induction l with
  |nil=>intro h;cases h
  |cons r l ih=>
   intro h
   rcases List.mem_cons.1 h with rfl|h
   ·simp
   ·have:=ih h;simp;omega
 have:=key p.kids h
 have:1≤p.own:=by cases p with
  |decl d=>cases d;simp [Part.own]
  |_=>exact Nat.le_refl 1
 omega
theorem UG {l:List Part} {ys:List AV} (h:RPL l ys) {n:Nat} {y:AV} (hy:ys[n]? =some y):∃q∈l,RP q y:=by
 induction h generalizing n with
 |nil=>simp at hy
 |cons hp _ ih=>
  cases n with
  |zero=>simp at hy;subst hy;exact ⟨_,by simp,hp⟩
  |succ n=>obtain ⟨q,h1,h2⟩:=ih (by simpa using hy);exact ⟨q,List.mem_cons_of_mem _ h1,h2⟩
theorem X4 {ys:List AV} {n:Nat} {x:List AV} (h:(ys.map fun x=>[x])[n]? =some x):∃y,ys[n]? =some y∧x=[y]:=by
 rw [List.getElem?_map] at h
 cases e:ys[n]? with
 |none=>rw [e] at h;cases h
 |some y=>rw [e] at h;cases h;exact ⟨y,rfl,rfl⟩
theorem sK {p:Part} {v:AV} (h:RP p v):∃c,v= .agg c∧c.length=29∧c.all AV.bX=true:=by
 obtain ⟨c,r,rfl⟩:=h
 exact ⟨_,rfl,jD r,lF r⟩
theorem kS {h:aD} {i:Nat} {u v:AV} (hg:h.get i=some (.cells [u])) (hc:v.cells=[v]) (hk:v.bX=true):kG h 1 (.ptr i 0) v= .ok (h.set i (.cells [v])):=by
 simp only [kG,hg,hc,List.length_cons,List.length_nil,List.all_cons,List.all_nil,hk,cI]
 rfl
theorem Oo {p:Part} {v:AV} (h:RP p v):dX v v=true:=by
 obtain ⟨c,r,rfl⟩:=h
 have hz:∀l:List AV,kQ l l=true→∀m:List AV,kQ m m=true→kQ (l++m) (l++m)=true:=by
  intro l
  induction l with
  |nil=>intro _ m hm;exact hm
  |cons a l ih=>
   intro hl m hm
   simp only [List.cons_append,kQ,Bool.and_eq_true] at hl⊢
   exact ⟨hl.1,ih hl.2 m hm⟩
 have hc:kQ c c=true:=by have:=AR r;simpa [dX] using this
 have e1:kQ pY pY=true:=by simp [pY,kQ,dX,AG,iQ,jV]
 have e2:kQ kD kD=true:=by simp [kD,kQ,dX,iK,jV]
 have e3:kQ kF kF=true:=by simp [kF,kQ,dX,AG,iQ]
 have e4:kQ pX pX=true:=by simp [pX,kQ,dX,AG,iQ,jV,iK]
 have e5:kQ lG lG=true:=by simp [lG,kQ,dX]
 have e0:∀n:Int,dX (.int .i64 n) (.int .i64 n)=true:=dD _
 cases p<;>simp only [aX,dX,kQ,e0,Bool.true_and]
 ·exact hz _ (hz _ (hz _ (hz _ hc _ e2) _ e3) _ e4) _ e5
 ·exact hz _ (hz _ (hz _ (hz _ e1 _ hc) _ e3) _ e4) _ e5
 ·exact hz _ (hz _ (hz _ (hz _ e1 _ e2) _ hc) _ e4) _ e5
 ·exact hz _ (hz _ (hz _ (hz _ e1 _ e2) _ e3) _ hc) _ e5
 ·exact hz _ (hz _ (hz _ (hz _ e1 _ e2) _ e3) _ e4) _ hc
theorem vR:z29=[.int .i64 0,.int .i64 0,.int .i64 0,.int .i64 0,.int .i64 0,.int .i64 0,.str [],.aC,.aC,.str [],.aC,.aC,.aC,.bool false,.aC,.aC,.int .i64 0,.aC,.aC,.aC,.aC,.int .i64 0,.str [],.aC,.aC,.bool false,.aC,.aC,.aC]:=rfl
def vW:AC:=p132x11110100
def rQ:AC:=p132x11110101
theorem fn_cnt (sz dp ct:Nat):(AV.fn 132 [] [.ptr sz 0,.ptr dp 0,.ptr ct 0]).cells=[AV.fn 132 [] [.ptr sz 0,.ptr dp 0,.ptr ct 0]]:=rfl
def Zf (fns:Go.Am.F) (orc:Orc) (p:Part):Prop:=∀v,RP p v→p.nodes<10000000→∀(h:aD) (d:Int) (sz dp ct:Nat) (a b:Int),sz≠dp→sz<h.next→dp<h.next→ct<h.next→ct≠sz→ct≠dp→
 h.get sz=some (.cells [.int .i64 a])→h.get dp=some (.cells [.int .i64 b])→h.get ct=some (.cells [.fn 132 [] [.ptr sz 0,.ptr dp 0,.ptr ct 0]])→
 ∃h' r a' b',Ev fns orc (.call 132 [v,.int .i64 d,.ptr sz 0,.ptr dp 0,.ptr ct 0] .plain h) (.call (.ret (.bool r)) .plain h')∧Chg (fun i=>i=sz∨i=dp) h h' ∧
  h'.get sz=some (.cells [.int .i64 a'])∧h'.get dp=some (.cells [.int .i64 b'])
theorem Xr (H:Has fns orc):∀p,Zf fns orc p:=by
 refine Part.ind fun p ih=> ?_
 intro v hv hn h d sz dp ct a b hsd hsl hdl hcl hcs hcd hs hd hc
 obtain ⟨c,rfl,Wb,hck⟩:=sK hv
 obtain ⟨hB,hBe⟩:∃x,x=((h.push (.cells c)).push (.cells [.int .i64 d])).push (.cells [.bool false]):=⟨_,rfl⟩
 have gB:aP h hB:=by rw [hBe];exact gw2
 have nB:hB.next=h.next+3:=by rw [hBe];simp
 have b0:hB.get h.next=some (.cells c):=by rw [hBe];simp (disch:=(first|omega|(simp only [aD.aJ,aD.aL];try omega)|skip)) only [aT,aV,aD.aJ]
 have b1:hB.get (h.next+1)=some (.cells [.int .i64 d]):=by rw [hBe];simp (disch:=(first|omega|(simp only [aD.aJ,aD.aL];try omega)|skip)) only [aT,aV,aD.aJ]
 have b2:hB.get (h.next+2)=some (.cells [.bool false]):=by rw [hBe];simp (disch:=(first|omega|(simp only [aD.aJ,aD.aL];try omega)|skip)) only [aT,aV,aD.aJ]
 obtain ⟨hO,on,gO,n1,e1⟩:=Ws H hv hB
 have gBO:aP h hO:=gB.trans gO
 have l1:mE hB none (.ptr sz 0)= .ok (.int .i64 a):=pM ((gB.get sz hsl).trans hs)
 have l1' :mE hO none (.ptr sz 0)= .ok (.int .i64 a):=pM ((gBO.get sz hsl).trans hs)
 have l2:mE hB (some 29) (.ptr h.next 0)= .ok (.agg c):=AB b0 Wb
 have st1:∀x,kG hO 1 (.ptr sz 0) (.int .i64 x)= .ok (hO.set sz (.cells [.int .i64 x])):=fun x=>kS ((gBO.get sz hsl).trans hs) rfl rfl
 obtain ⟨a1,ha1⟩:∃x,x=IntKind.wrap .i64 (a+on):=⟨_,rfl⟩
 obtain ⟨hS,hSe⟩:∃x,x=hO.set sz (.cells [.int .i64 a1]):=⟨_,rfl⟩
 have nO:h.next+3≤hO.next:=by have:=gO.next;omega
 have nS:hS.next=hO.next:=by rw [hSe];simp
 have sS:hS.get sz=some (.cells [.int .i64 a1]):=by rw [hSe];exact aQ _ _ _ om
 have sO:∀i,i≠sz→hS.get i=hO.get i:=fun i hi=>by rw [hSe];exact aE _ _ _ _ om hi
 have l3:mE hS none (.ptr dp 0)= .ok (.int .i64 b):=pM ((sO dp (fun e=>hsd e.symm)).trans ((gBO.get dp hdl).trans hd))
 have l4:mE hS none (.ptr (h.next+1) 0)= .ok (.int .i64 d):=pM ((sO _ om).trans ((gO.get _ om).trans b1))
 obtain ⟨b1',hb1⟩:∃x,x=if d>b then d else b:=⟨_,rfl⟩
 have hmx:EZ true (.int .i64 b) [.int .i64 d]= .ok (.int .i64 b1'):=by rw [hb1];rfl
 have st2:∀x,kG hS 1 (.ptr dp 0) (.int .i64 x)= .ok (hS.set dp (.cells [.int .i64 x])):=fun x=>kS ((sO dp (fun e=>hsd e.symm)).trans ((gBO.get dp hdl).trans hd)) rfl rfl
 obtain ⟨hM,hMe⟩:∃x,x=hS.set dp (.cells [.int .i64 b1']):=⟨_,rfl⟩
 have nM:hM.next=hO.next:=by rw [hMe];simp [nS]
 have mO:∀i,i≠dp→hM.get i=hS.get i:=fun i hi=>by rw [hMe];exact aE _ _ _ _ om hi
 have mS:hM.get sz=some (.cells [.int .i64 a1]):=(mO sz hsd).trans sS
 have mD:hM.get dp=some (.cells [.int .i64 b1']):=by rw [hMe];exact aQ _ _ _ om
 have Sp:∀i,i≠dp→i≠sz→i<hB.next→hM.get i=hB.get i:=fun i h1 h2 h3=>(mO i h1).trans ((sO i h2).trans (gO.get i h3))
 have l5:mE hM none (.ptr sz 0)= .ok (.int .i64 a1):=pM mS
 have m0:hM.get h.next=some (.cells c):=(Sp _ om om om).trans b0
 have m1:hM.get (h.next+1)=some (.cells [.int .i64 d]):=(Sp _ om om om).trans b1
 have m2:hM.get (h.next+2)=some (.cells [.bool false]):=(Sp _ om om om).trans b2
 have l6:mE hM none (.ptr (h.next+1) 0)= .ok (.int .i64 d):=pM m1
 have l7:mE hM (some 29) (.ptr h.next 0)= .ok (.agg c):=AB m0 Wb
 have st3:∀x,kG hM 1 (.ptr (h.next+2) 0) (.bool x)= .ok (hM.set (h.next+2) (.cells [.bool x])):=fun x=>kS m2 rfl rfl
 have YY:∀i,i<h.next→¬(i=sz∨i=dp)→hM.get i=h.get i:=fun i hi hn=>(Sp i (fun e=>hn (.inr e)) (fun e=>hn (.inl e)) om).trans (gB.get i hi)
 have eqa:dX (.agg c) (.agg c)=true:=Oo hv
 by_cases hbig:2000<a1∨60<d
 ·have l8:mE (hM.set (h.next+2) (.cells [.bool false])) none (.ptr (h.next+2) 0)= .ok (.bool false):=pM (aQ _ _ _ om)
  refine ⟨?hh1,false,a1,b1',Ev.A0 H.f132 H.o132 ⟨n1,fun m hm=> ?b1⟩, ?g1, ?s1, ?d1⟩
  case b1=>
   have e1' :=e1 m om
   by_cases c1:2000<a1
   ·have d1:decide (2000<a1)=true:=by simp [c1]
    exact SF (dI @a132.eq_1 (Eq.symm hBe) l1 l1' l2 e1' st1 (Eq.symm ha1) (Eq.symm hSe) l3 l4 hmx st2 (Eq.symm hMe) l5 l6 (cj4 st3 d1 eqa l8))
   ·have c2:60<d:=om
    have d1:decide (2000<a1)=false:=by simp [c1]
    have d2:decide (60<d)=true:=by simp [c2]
    exact SF (dI @a132.eq_1 (Eq.symm hBe) l1 l1' l2 e1' st1 (Eq.symm ha1) (Eq.symm hSe) l3 l4 hmx st2 (Eq.symm hMe) l5 l6 (cj5 st3 d1 d2 eqa l8))
  case g1=>exact ⟨by simp;omega,fun i hi hn=>(aE _ _ _ _ om om).trans (YY i hi hn)⟩
  case s1=>exact (aE _ _ _ _ om om).trans mS
  case d1=>exact (aE _ _ _ _ om om).trans mD
 ·have d1:decide (2000<a1)=false:=by simp;omega
  have d2:decide (60<d)=false:=by simp;omega
  obtain ⟨hK,b3,ys,⟨n2,e2⟩,gK,rpl,Y⟩:=Js H hv (by have:=uR p;omega) hM
  have YL:=Dy (Y (fun i=>hM.next≤i∧i<hK.next) (fun i h1 h2=>⟨h1,h2⟩))
  have Ql:∀i,i<hM.next→hK.get i=hM.get i:=gK.get
  have nK:=gK.next
  obtain ⟨ts,hts⟩:∃ts:fN,ts=[(4,.ptr ct 0),(6,.ptr (h.next+1) 0),(7,.ptr (h.next+2) 0),(23,.fn 115 [] [.ptr b3 0]),(24,.unk)]:=⟨_,rfl⟩
  have t4:cH ts 4= .ptr ct 0:=by rw [hts];rfl
  have t6:cH ts 6= .ptr (h.next+1) 0:=by rw [hts];rfl
  have t7:cH ts 7= .ptr (h.next+2) 0:=by rw [hts];rfl
  have R:=I1 (fns:=fns) (orc:=orc) (fn:=132) (f:= .t 23) (ps:=[24]) (asg:=vW) (body:=rQ) (ts:=ts) (ds:=[]) (rc:= .plain) (h:=hK) (S:=fun i=>i=sz∨i=dp∨i=h.next+2)
   (C:=fun _ _ hh=>(∃a b,hh.get sz=some (.cells [.int .i64 a])∧hh.get dp=some (.cells [.int .i64 b]))∧hh.get (h.next+2)=some (.cells [.bool false]))
   (D:=fun _ hh=>(∃a b,hh.get sz=some (.cells [.int .i64 a])∧hh.get dp=some (.cells [.int .i64 b]))∧hh.get (h.next+2)=some (.cells [.bool false]))
   (by rw [hts];rfl) YL (fun i q=>q.2) (fun i q=>by omega) ?L ?LD ?C0 ?R
  case L=>
   intro n Fp a b h1 h2 q
   obtain ⟨⟨x,y,q1,q2⟩,q3⟩:=q
   exact ⟨⟨x,y,(h2 _ (aD.mN q1) (.inr ⟨by omega,by omega⟩)).trans q1,(h2 _ (aD.mN q2) (.inr ⟨by omega,by omega⟩)).trans q2⟩,(h2 _ (aD.mN q3) (.inr ⟨by omega,by omega⟩)).trans q3⟩
  case LD=>
   intro Fp a b h1 h2 q
   obtain ⟨⟨x,y,q1,q2⟩,q3⟩:=q
   exact ⟨⟨x,y,(h2 _ (aD.mN q1) (.inr ⟨by omega,by omega⟩)).trans q1,(h2 _ (aD.mN q2) (.inr ⟨by omega,by omega⟩)).trans q2⟩,(h2 _ (aD.mN q3) (.inr ⟨by omega,by omega⟩)).trans q3⟩
  case C0=>
   have gl:=tJ hK ⟨.ready,none,132,ts,[24],vW,rQ,hK.next⟩
   exact ⟨⟨a1,b1',(gl.get _ om).trans ((Ql _ om).trans mS),(gl.get _ om).trans ((Ql _ om).trans mD)⟩,(gl.get _ om).trans ((Ql _ om).trans m2)⟩
  case R=>
   rintro n x hx hh Fp o hF ⟨⟨a2,b2',hsz,hdp⟩,hrt⟩
   obtain ⟨y,hy,rfl⟩:=hx
   obtain ⟨q,hq,hrp⟩:=UG rpl hy
   obtain ⟨c',rfl,E8,Nq⟩:=sK hrp
   have hst:=mW hh (z:=z29) (sz:=29) rfl E8 Nq
   obtain ⟨hA,hAe⟩:∃x,x=(hh.push (.cells z29)).set hh.next (.cells c'):=⟨_,rfl⟩
   rw [←hAe,vR] at hst
   have gA:aP hh hA:=by rw [hAe];exact gw2
   have nA:hA.next=hh.next+1:=by rw [hAe];simp
   have ho:=o.le
   have hAl:hA.get (hK.next+1)=some (.loop ⟨.ready,none,132,ts,[24],vW,rQ,hK.next⟩):=(gA.get _ om).trans o.loop
   have hA8:hA.get hh.next=some (.cells c'):=by rw [hAe];exact aQ _ _ _ (by simp)
   obtain ⟨hZ,hZe⟩:∃x,x=hA.set (hK.next+1) (.loop ⟨.busy,none,132,ts,[24],vW,rQ,hK.next⟩):=⟨_,rfl⟩
   have nZ:hZ.next=hh.next+1:=by rw [hZe];simp [nA]
   have zA:∀i,i≠hK.next+1→hZ.get i=hA.get i:=fun i hi=>by rw [hZe];exact aE _ _ _ _ om hi
   have zH:∀i,i<hh.next→i≠hK.next+1→hZ.get i=hh.get i:=fun i h1 h2=>(zA i h2).trans (gA.get i h1)
   have zL:hZ.get (hK.next+1)=some (.loop ⟨.busy,none,132,ts,[24],vW,rQ,hK.next⟩):=by rw [hZe];exact aQ _ _ _ om
   have zc:hZ.get ct=some (.cells [.fn 132 [] [.ptr sz 0,.ptr dp 0,.ptr ct 0]]):=
    (zH _ om om).trans ((o.get _ om om om).trans ((Ql _ om).trans ((Sp _ hcd hcs om).trans ((gB.get _ hcl).trans hc))))
   have f4:mE hZ none (.ptr ct 0)= .ok (.fn 132 [] [.ptr sz 0,.ptr dp 0,.ptr ct 0]):=pM zc
   have f8:mE hZ (some 29) (.ptr hh.next 0)= .ok (.agg c'):=AB ((zA _ om).trans hA8) E8
   have f6:mE hZ none (.ptr (h.next+1) 0)= .ok (.int .i64 d):=pM ((zH _ om om).trans ((o.get _ om om om).trans ((Ql _ om).trans m1)))
   obtain ⟨h3,r,a3,b3',⟨n4,e4⟩,ch,z1,z2⟩:=ih q hq (.agg c') hrp (by have:=tW hq;omega) hZ (IntKind.wrap .i64 (d+1)) sz dp ct a2 b2' hsd om om om hcs hcd
    ((zH _ om om).trans hsz) ((zH _ om om).trans hdp) zc
   have n3:=ch.next
   have h3l:h3.get (hK.next+1)=some (.loop ⟨.busy,none,132,ts,[24],vW,rQ,hK.next⟩):=(ch.get _ om om).trans zL
   have h3r:h3.get (h.next+2)=some (.cells [.bool false]):=(ch.get _ om om).trans ((zH _ om om).trans hrt)
   have lo1:jG hA (hK.next+1)= .ok ⟨.ready,none,132,ts,[24],vW,rQ,hK.next⟩:=by simp only [jG,hAl]
   have s7:∀x,kG h3 1 (.ptr (h.next+2) 0) (.bool x)= .ok (h3.set (h.next+2) (.cells [.bool x])):=fun x=>kS h3r rfl rfl
   have R3:∀i,i<hh.next→¬(i=sz∨i=dp∨i=h.next+2)→i≠hK.next+1→h3.get i=hh.get i:=fun i h1 h2 h3=>(ch.get _ om om).trans (zH _ h1 h3)
   cases r with
   |true=>
    have lo2:jG h3 (hK.next+1)= .ok ⟨.busy,none,132,ts,[24],vW,rQ,hK.next⟩:=by simp only [jG,h3l]
    refine ⟨true,h3.set (hK.next+1) (.loop ⟨.ready,none,132,ts,[24],vW,rQ,hK.next⟩),fun _=>False,Ev.round o.loop rfl ⟨n4,fun m hm=> ?b2⟩,by simp;omega,fun i h1 _ h2 h3' =>(aE _ _ _ _ om h3').trans (R3 i h1 h2 h3'),fun i q=>q.elim,fun _=> ?t,fun q=>by cases q⟩
    case b2=>
     have e4' :=e4 m hm
     simp only [vW,rQ] at lo1 hZe lo2
     exact SF (dI @uI.eq_1 @iT.eq_1 @iT.eq_2 @vW.eq_1 @rQ.eq_1 t4 t6 t7 hst lo1 (Eq.symm hZe) f4 f6 f8 e4' lo2 (cj7 @aN.eq_1 @aN.eq_2 @aN.eq_3 @aN.eq_4 @aN.eq_5 @oV.eq_1 @endRound.eq_1))
    case t=>exact ⟨⟨⟨a3,b3',(aE _ _ _ _ om om).trans z1,(aE _ _ _ _ om om).trans z2⟩,(aE _ _ _ _ om om).trans h3r⟩,aQ _ _ _ om⟩
   |false=>
    have lo2:jG (h3.set (h.next+2) (.cells [.bool false])) (hK.next+1)= .ok ⟨.busy,none,132,ts,[24],vW,rQ,hK.next⟩:=by
     have:(h3.set (h.next+2) (.cells [.bool false])).get (hK.next+1)=_:=(aE _ _ _ _ om om).trans h3l
     simp only [jG,this]
    refine ⟨false,(h3.set (h.next+2) (.cells [.bool false])).set (hK.next+1) (.loop ⟨.done,some .ret,132,ts,[24],vW,rQ,hK.next⟩),fun _=>False,Ev.round o.loop rfl ⟨n4,fun m hm=> ?b3⟩,by simp;omega,
     fun i h1 _ h2 h3' =>(aE _ _ _ _ (by simp;omega) h3').trans ((aE _ _ _ _ om om).trans (R3 i h1 h2 h3')),fun i q=>q.elim, ?f3,fun _=> ?t3⟩
    case f3=>intro q;cases q
    case b3=>
     have e4' :=e4 m hm
     simp only [vW,rQ] at lo1 hZe lo2
     exact SF (dI @uI.eq_1 @iT.eq_1 @iT.eq_2 @vW.eq_1 @rQ.eq_1 t4 t6 t7 hst lo1 (Eq.symm hZe) f4 f6 f8 e4' s7 (cj8 lo2 @aN.eq_1 @aN.eq_2 @aN.eq_3 @aN.eq_4 @aN.eq_5 @oV.eq_1 @endRound.eq_1))
    case t3=>
     refine ⟨⟨⟨a3,b3', ?_, ?_⟩, ?_⟩,aQ _ _ _ (by simp;omega)⟩
     ·exact (aE _ _ _ _ (by simp;omega) om).trans ((aE _ _ _ _ om om).trans z1)
     ·exact (aE _ _ _ _ (by simp;omega) om).trans ((aE _ _ _ _ om om).trans z2)
     ·exact (aE _ _ _ _ (by simp;omega) om).trans (aQ _ _ _ om)
  obtain ⟨h5,e,⟨n3,e3⟩,le5,mk5,KN,hE⟩:=R
  have h5r:h5.get (h.next+2)=some (.cells [.bool false]):=by
   rcases hE with ⟨_,_,_,q⟩|⟨_,_,_,q⟩<;>exact q.2
  obtain ⟨a5,b5,h5s,h5d⟩:∃a b,h5.get sz=some (.cells [.int .i64 a])∧h5.get dp=some (.cells [.int .i64 b]):=by
   rcases hE with ⟨_,_,_,q⟩|⟨_,_,_,q⟩<;>exact q.1
  have s5:∀x,kG h5 1 (.ptr (h.next+2) 0) (.bool x)= .ok (h5.set (h.next+2) (.cells [.bool x])):=fun x=>kS h5r rfl rfl
  have YZ:∀i,i<h.next→¬(i=sz∨i=dp)→h5.get i=h.get i:=fun i h1 h2=>(KN i om om).trans ((Ql i om).trans (YY i h1 h2))
  rcases hE with ⟨rfl,_⟩|⟨rfl,_⟩
  ·obtain ⟨h6,h6e⟩:∃x,x=h5.set (h.next+2) (.cells [.bool true]):=⟨_,rfl⟩
   have mk6:h6.get hK.next=some (.deferred (some [])):=by rw [h6e];exact (aE _ _ _ _ om om).trans mk5
   have r6:mE (h6.set hK.next (.deferred none)) none (.ptr (h.next+2) 0)= .ok (.bool true):=pM ((aE _ _ _ _ (by rw [h6e];simp;omega) om).trans (by rw [h6e];exact aQ _ _ _ om))
   refine ⟨h6.set hK.next (.deferred none),true,a5,b5,Ev.A0 H.f132 H.o132 ⟨max n1 (max n2 n3),fun m hm=> ?b4⟩, ?g4, ?s4, ?d4⟩
   case b4=>
    have e1' :=e1 m om
    have e2' :=e2 m om
    have e3' :=e3 m om
    rw [hts] at e3'
    simp only [vW,rQ] at e3'
    exact SF (dI @a132.eq_1 (Eq.symm hBe) l1 l1' l2 e1' st1 (Eq.symm ha1) (Eq.symm hSe) l3 l4 hmx st2 (Eq.symm hMe) l5 l6 (sC st3 d1 d2 eqa l7 e2' e3' s5 (Eq.symm h6e) mk6 r6))
   case g4=>
    refine ⟨by rw [h6e];simp;omega,fun i hi hn=> ?_⟩
    rw [aE _ _ _ _ (by rw [h6e];simp;omega) om,h6e,aE _ _ _ _ om om,YZ i hi hn]
   case s4=>rw [aE _ _ _ _ (by rw [h6e];simp;omega) om,h6e,aE _ _ _ _ om om,h5s]
   case d4=>rw [aE _ _ _ _ (by rw [h6e];simp;omega) om,h6e,aE _ _ _ _ om om,h5d]
  ·have r6:mE (h5.set hK.next (.deferred none)) none (.ptr (h.next+2) 0)= .ok (.bool false):=pM ((aE _ _ _ _ om om).trans h5r)
   refine ⟨h5.set hK.next (.deferred none),false,a5,b5,Ev.A0 H.f132 H.o132 ⟨max n1 (max n2 n3),fun m hm=> ?b5⟩, ?g5, ?s5, ?d5⟩
   case b5=>
    have e1' :=e1 m om
    have e2' :=e2 m om
    have e3' :=e3 m om
    rw [hts] at e3'
    simp only [vW,rQ] at e3'
    exact SF (dI @a132.eq_1 (Eq.symm hBe) l1 l1' l2 e1' st1 (Eq.symm ha1) (Eq.symm hSe) l3 l4 hmx st2 (Eq.symm hMe) l5 l6 (cj9 st3 d1 d2 eqa l7 e2' e3' mk5 r6))
   case g5=>
    refine ⟨by simp;omega,fun i hi hn=> ?_⟩
    rw [aE _ _ _ _ om om,YZ i hi hn]
   case s5=>rw [aE _ _ _ _ om om,h5s]
   case d5=>rw [aE _ _ _ _ om om,h5d]
end Go.Ly
namespace Go.Ly
open Go Go.Am Go.Fs Go.Gn
variable {fns:Go.Am.F} {orc:Orc}
theorem La (H:Has fns orc) {p:Part} {v:AV} (hv:RP p v) (hn:p.nodes<10000000) (h:aD):
  ∃h' a b r,aP h h' ∧Ev fns orc (.call 116 [v] .plain h) (.call (.ret (.tup [.int .i64 a,.int .i64 b,.bool r])) .plain h'):=by
 obtain ⟨c,rfl,hcl,hck⟩:=sK hv
 obtain ⟨hP,hPe⟩:∃x,x=(((h.push (.cells c)).push (.cells [.int .i64 0])).push (.cells [.int .i64 0])).push (.cells [.rM]):=⟨_,rfl⟩
 obtain ⟨hA,hAe⟩:∃x,x=hP.set (h.next+3) (.cells [.fn 132 [] [.ptr (h.next+1) 0,.ptr (h.next+2) 0,.ptr (h.next+3) 0]]):=⟨_,rfl⟩
 have s0:kG hP 1 (.ptr (h.next+3) 0) (.fn 132 [] [.ptr (h.next+1) 0,.ptr (h.next+2) 0,.ptr (h.next+3) 0])= .ok hA:=by
  rw [hAe]
  exact kS (u:= .rM) (by rw [hPe];exact aT _ _ _ (by simp) (by simp)) rfl rfl
 have gA:aP h hA:=by rw [hAe,hPe];exact gw2
 have nA:hA.next=h.next+4:=by rw [hAe,hPe];simp
 have q0:hA.get h.next=some (.cells c):=by rw [hAe,hPe];simp (disch:=(first|omega|(simp only [aD.aJ,aD.aL];try omega)|skip)) only [aQ,aE,aT,aV,aD.aJ,aD.aL]
 have q1:hA.get (h.next+1)=some (.cells [.int .i64 0]):=by rw [hAe,hPe];simp (disch:=(first|omega|(simp only [aD.aJ,aD.aL];try omega)|skip)) only [aQ,aE,aT,aV,aD.aJ,aD.aL]
 have q2:hA.get (h.next+2)=some (.cells [.int .i64 0]):=by rw [hAe,hPe];simp (disch:=(first|omega|(simp only [aD.aJ,aD.aL];try omega)|skip)) only [aQ,aE,aT,aV,aD.aJ,aD.aL]
 have q3:hA.get (h.next+3)=some (.cells [.fn 132 [] [.ptr (h.next+1) 0,.ptr (h.next+2) 0,.ptr (h.next+3) 0]]):=by rw [hAe,hPe];simp (disch:=(first|omega|(simp only [aD.aJ,aD.aL];try omega)|skip)) only [aQ,aE,aT,aV,aD.aJ,aD.aL]
 obtain ⟨hB,r,a,b,⟨n1,e1⟩,ch,z1,z2⟩:=Xr H p (.agg c) hv hn hA 1 (h.next+1) (h.next+2) (h.next+3) 0 0 om om om om om om q1 q2 q3
 have l0:=AB (sz:=29) q0 hcl
 have l3:=pM q3
 have l1:=pM z1
 have l2:=pM z2
 obtain ⟨hC,hCe⟩:∃x,x=hB.set (h.next+1) (.cells [.int .i64 a]):=⟨_,rfl⟩
 obtain ⟨hD,hDe⟩:∃x,x=hC.set (h.next+2) (.cells [.int .i64 b]):=⟨_,rfl⟩
 have nB:=ch.next
 have nC:hC.next=hB.next:=by rw [hCe];simp
 have nD:hD.next=hB.next:=by rw [hDe];simp [nC]
 have s1:kG hB 1 (.ptr (h.next+1) 0) (.int .i64 a)= .ok (hB.set (h.next+1) (.cells [.int .i64 a])):=kS z1 rfl rfl
 have y1:hC.get (h.next+1)=some (.cells [.int .i64 a]):=by rw [hCe];exact aQ _ _ _ om
 have y2:hC.get (h.next+2)=some (.cells [.int .i64 b]):=by rw [hCe];exact (aE _ _ _ _ om om).trans z2
 have s2:kG hC 1 (.ptr (h.next+2) 0) (.int .i64 b)= .ok (hC.set (h.next+2) (.cells [.int .i64 b])):=kS y2 rfl rfl
 have x1:=pM (show hD.get (h.next+1)=some (.cells [.int .i64 a]) by rw [hDe];exact (aE _ _ _ _ om om).trans y1)
 have x2:=pM (show hD.get (h.next+2)=some (.cells [.int .i64 b]) by rw [hDe];exact aQ _ _ _ om)
 have w1:=pM y1
 have w2:=pM y2
 refine ⟨hD,a,b,r,⟨by have:=gA.next;omega,fun i hi=> ?g⟩,Ev.call H.f116 H.o116 ⟨n1,fun m hm=> ?b⟩⟩
 case g=>rw [hDe,aE _ _ _ _ om om,hCe,aE _ _ _ _ om om,ch.get i om om,gA.get i hi]
 case b=>
  have e1' :=e1 m hm
  exact SF (Bd @a116.eq_1 (Eq.symm hPe) s0 l0 l3 e1' l1 l2 w1 w2 s1 (Eq.symm hCe) s2 (Eq.symm hDe) x1 x2)
theorem Pr (H:Has fns orc) {p:Part} {v:AV} (hv:RP p v) (hn:p.nodes<10000000) (h:aD):
  ∃h' r,aP h h' ∧Ev fns orc (.call 86 [v] .plain h) (.call (.ret (.bool r)) .plain h'):=by
 obtain ⟨c,rfl,hcl,hck⟩:=sK hv
 obtain ⟨hA,hAe⟩:∃x,x=h.push (.cells c):=⟨_,rfl⟩
 have l0:mE hA (some 29) (.ptr h.next 0)= .ok (.agg c):=AB (by rw [hAe];exact aT _ _ _ om om) hcl
 obtain ⟨hB,a,b,r,gB,n1,e1⟩:=La H hv hn hA
 refine ⟨hB,r,aP.trans (by rw [hAe];exact .push _ _) gB,Ev.call H.f86 H.o86 ⟨n1,fun m hm=> ?b⟩⟩
 have e1' :=e1 m hm
 exact SF (cj4 @a86.eq_1 (Eq.symm hAe) l0 e1')
end Go.Ly
namespace Go.Ly
open Go Go.Am Go.Fs Go.Gn
variable {fns:Go.Am.F} {orc:Orc}
theorem Nj (H:Has fns orc):∀p:Part,∀e,p= .exp e→∀(c:List AV) (pl:Bool) (h:aD),RV (.exp e) (.agg c)→
  ∃h' b,aP h h' ∧Ev fns orc (.call 140 [.agg c,.bool pl] .plain h) (.call (.ret (.bool b)) .plain h'):=by
 refine Part.ind fun p ih=> ?_
 intro e he c pl h hv
 cases hv with
 | @exp k op n man ex t a d va vd h1 h2=>
  subst he
  obtain ⟨xs,hx,hxl,hel⟩:=jZ h1
  rw [List.length_map] at hxl
  have q:=bO hx
  by_cases k8:k=8
  ·refine ⟨?hh1,true, ?g1,Ev.call H.f140 H.o140 ⟨0,fun m _=> ?b1⟩⟩
   case b1=>
    subst k8
    exact SF (cj3 @a140.eq_1 @uA @bN.eq_def)
   case g1=>exact gw2
  have d8:=dF k8
  by_cases k10:k=10
  ·refine ⟨?hh2,true, ?g2,Ev.call H.f140 H.o140 ⟨0,fun m _=> ?b2⟩⟩
   case b2=>
    subst k10
    exact SF (cj4 @a140.eq_1 @uA @bN.eq_def d8)
   case g2=>exact gw2
  have d10:=dF k10
  have first:∀(hl:0<a.length) (pl:Bool) (h:aD),∃c',mE h (some 8) (.ep c' 0)= .ok (.agg c')∧pT 8 va (.int .i64 0)= .ok (.ep c' 0)∧∃h' b,aP h h' ∧Ev fns orc (.call 140 [.agg c',.bool pl] .plain h) (.call (.ret (.bool b)) .plain h'):=by
   intro hl pl h
   obtain ⟨c',e1,e2⟩:=hel 0 (by simpa using hl)
   have e3:(a.map Part.exp)[0]'(by simpa using hl)= .exp (a[0]'hl):=by simp
   rw [e3] at e2
   have e4:=pW e2
   refine ⟨c',Jp h e4,kT (i:=0) hx e1 e4,ih (.exp (a[0]'hl)) ?_ _ rfl c' pl h e2⟩
   simp only [Part.kids]
   exact List.mem_append_left _ (List.mem_map_of_mem (List.getElem_mem hl))
  by_cases k9:k=9
  ·subst k9
   by_cases l1:a.length=1
   ·have d:decide ((xs.length:Int)=1)=true:=dT om
    obtain ⟨c',f1,f2,h',b,gr,n1,e1⟩:=first om pl (h.push (.cells [.int .i64 9,.int .i64 op,.int .i64 n,.int .i64 man,.int .i64 ex,.str t,va,vd]))
    refine ⟨h',b,(aP.push _ _).trans gr,Ev.call H.f140 H.o140 ⟨n1,fun m hm=> ?b3⟩⟩
    have e1' :=e1 m hm
    exact SF (cj8 @a140.eq_1 @uA @bN.eq_def q d f1 f2 e1')
   ·have d:decide ((xs.length:Int)=1)=false:=dF om
    refine ⟨?hh4,false, ?g4,Ev.call H.f140 H.o140 ⟨0,fun m _=> ?b4⟩⟩
    case b4=>
     exact SF (cj5 @a140.eq_1 @uA @bN.eq_def q d)
    case g4=>exact gw2
  have d9:=dF k9
  by_cases k11:k=11
  ·subst k11
   cases pl with
   |true=>
    refine ⟨?hh5,false, ?g5,Ev.call H.f140 H.o140 ⟨0,fun m _=> ?b5⟩⟩
    case b5=>
     exact SF (cj3 @a140.eq_1 @uA @bN.eq_def)
    case g5=>exact gw2
   |false=>
    by_cases l1:0<a.length
    ·have d:decide (0<(xs.length:Int))=true:=dT om
     obtain ⟨c',f1,f2,h',b,gr,n1,e1⟩:=first om false (h.push (.cells [.int .i64 11,.int .i64 op,.int .i64 n,.int .i64 man,.int .i64 ex,.str t,va,vd]))
     refine ⟨h',b,(aP.push _ _).trans gr,Ev.call H.f140 H.o140 ⟨n1,fun m hm=> ?b6⟩⟩
     have e1' :=e1 m hm
     exact SF (cj8 @a140.eq_1 @uA @bN.eq_def q d f1 f2 e1')
    ·have d:decide (0<(xs.length:Int))=false:=dF om
     refine ⟨?hh7,false, ?g7,Ev.call H.f140 H.o140 ⟨0,fun m _=> ?b7⟩⟩
     case b7=>
      exact SF (cj5 @a140.eq_1 @uA @bN.eq_def q d)
     case g7=>exact gw2
  have d11:=dF k11
  refine ⟨?hh8,false, ?g8,Ev.call H.f140 H.o140 ⟨0,fun m _=> ?b8⟩⟩
  case b8=>
   exact SF (cj7 @a140.eq_1 @uA @bN.eq_def d8 d9 d10 d11)
  case g8=>exact gw2
theorem xN (H:Has fns orc) {e:pO} {c:List AV} (hv:RV (.exp e) (.agg c)) (pl:Bool) (h:aD):
  ∃h' b,aP h h' ∧Ev fns orc (.call 140 [.agg c,.bool pl] .plain h) (.call (.ret (.bool b)) .plain h'):=Nj H _ e rfl c pl h hv
end Go.Ly
namespace Go.Ly
open Go Go.Am Go.Fs Go.Gn
variable {fns:Go.Am.F} {orc:Orc}
def L8 (b:UInt8):AV:= .int .u8 (b.toNat:Int)
theorem FE {s:List UInt8} {i:Nat} (hi:i<s.length):pT 1 (.sl .dead (s.map fun b=> .int .u8 (b.toNat:Int))) (.int .i64 (i:Int))= .ok (.ep [L8 s[i]] 0):=
 oX (.sl _ _) (by simp [hi];rfl) rfl
theorem yY (h:aD) (s:List UInt8):GF h (.str s)= .ok (.val (.sl .dead (s.map fun b=> .int .u8 (b.toNat:Int))) h):=rfl
theorem GL (h:aD) (s:List UInt8):nJ h .sl (.sl .dead (s.map fun b=> .int .u8 (b.toNat:Int)))= .ok s.length:=by simp [nJ]
theorem ER {i n:Nat} (h:i<n) (hn:n<9223372036854775808):IntKind.wrap .i64 ((i:Int)+1)=((i+1:Nat):Int):=by rw [pE om om];rfl
def AX:AC:=p136x110100
def Al:AC:=p138x10100
theorem NF {fn:FuncId} {s:List UInt8} (hs:s.length<10000000) (rc:RC) (h:aD):∀(k i:Nat),i+k=s.length→
  ∃e s',Ev fns orc (.code fn none (.loop AX) ⟨[(23,.sl .dead (s.map fun b=> .int .u8 (b.toNat:Int))),(24,.int .i64 (s.length:Nat)),(25,.int .i64 (i:Int))],[],rc,h⟩) (.code e s')∧s'.heap=h∧s'.defers=[]∧s'.rc=rc∧(e= .exit 0∨(e= .ret∧cH s'.tmps 2= .bool false)):=by
 intro k
 induction k with
 |zero=>
  intro i hi
  have d:decide ((i:Int)<((s.length:Nat):Int))=false:=dF om
  refine ⟨.exit 0, ?ss,Ev.code ⟨0,fun m _=> ?b⟩, ?r⟩
  case b=>
   exact SF (cj3 @AX.eq_1 d @aI)
  case r=>exact ⟨rfl,rfl,rfl,.inl rfl⟩
 |succ k ih=>
  intro i hi
  have hlt:i<s.length:=om
  have d:decide ((i:Int)<((s.length:Nat):Int))=true:=dT om
  have f1:=FE hlt
  by_cases c1:((s[i].toNat:Nat):Int)<48∨(57:Int)<((s[i].toNat:Nat):Int)
  ·refine ⟨.ret, ?ss2,Ev.code ⟨0,fun m _=> ?b2⟩, ?r2⟩
   case b2=>
    by_cases c2:((s[i].toNat:Nat):Int)<48
    ·have d2:=dT c2
     exact SF (cj6 @AX.eq_1 d f1 @L8.eq_1 d2 @aI)
    ·have d2:=dF c2
     have d3:decide ((57:Int)<((s[i].toNat:Nat):Int))=true:=dT om
     exact SF (cj7 @AX.eq_1 d f1 @L8.eq_1 d2 d3 @aI)
   case r2=>exact ⟨rfl,rfl,rfl,.inr ⟨rfl,rfl⟩⟩
  ·have d2:decide (((s[i].toNat:Nat):Int)<48)=false:=dF om
   have d3:decide ((57:Int)<((s[i].toNat:Nat):Int))=false:=dF om
   obtain ⟨e,s',⟨n,hr⟩,q⟩:=ih (i+1) om
   refine ⟨e,s',Ev.code ⟨n,fun m hm=> ?b3⟩,q⟩
   have hr' :=hr m hm
   simp only [AX] at hr'
   exact SFe (cj8 @AX.eq_1 d f1 @L8.eq_1 d2 d3 @aI (ER hlt om)) hr'
theorem QR (H:Has fns orc) (s:List UInt8) (h:aD):∃b,Ev fns orc (.call 136 [.str s] .plain h) (.call (.ret (.bool b)) .plain h):=by
 by_cases c0:s=[]
 ·subst c0
  refine ⟨false,Ev.call H.f136 H.o136 ⟨0,fun m _=> ?b1⟩⟩
  exact SF (cj4 @a136.eq_1 @jI.eq_1 @jI.eq_2 @jI.eq_3)
 have e0:jI s []=false:=by cases s with|nil=>exact absurd rfl c0|cons a s=>rfl
 by_cases c1:200<s.length
 ·have d1:decide ((200:Int)<(s.length:Int))=true:=dT om
  refine ⟨false,Ev.call H.f136 H.o136 ⟨0,fun m _=> ?b2⟩⟩
  exact SF (cj3 @a136.eq_1 e0 d1)
 have d1:decide ((200:Int)<(s.length:Int))=false:=dF om
 obtain ⟨a,r,hs⟩:∃a r,s=a::r:=by cases s with|nil=>exact absurd rfl c0|cons a s=>exact ⟨a,s,rfl⟩
 have f0:yE h (.str s) (.int .i64 0)= .ok (.val (.int .u8 (a.toNat:Int)) h):=by rw [hs];rfl
 by_cases c2:((a.toNat:Nat):Int)=48∧1<s.length
 ·have d2:=dT c2.1
  have d3:decide ((1:Int)<(s.length:Int))=true:=dT (by have:=c2.2;omega)
  refine ⟨false,Ev.call H.f136 H.o136 ⟨0,fun m _=> ?b3⟩⟩
  exact SF (cj6 @a136.eq_1 e0 d1 f0 d2 d3)
 obtain ⟨e,s',⟨n,hr⟩,q1,q2,q3,q4⟩:=NF (fns:=fns) (orc:=orc) (fn:=136) (s:=s) om .plain h s.length 0 om
 obtain ⟨ts,ds,rc,hp⟩:=s'
 cases q1;cases q2;cases q3
 have key:∀b,(e= .exit 0→b=true)→(e= .ret→b=false)→Ev fns orc (.call 136 [.str s] .plain hp) (.call (.ret (.bool b)) .plain hp):=by
  intro b hb1 hb2
  refine Ev.call H.f136 H.o136 ⟨n,fun m hm=> ?b4⟩
  have hr' :cG (eval fns orc m) 136 none (.loop AX) ⟨[(23,.sl .dead (s.map fun b=> .int .u8 (b.toNat:Int))),(24,.int .i64 (s.length:Nat)),(25,.int .i64 0)],[],.plain,hp⟩= .ok (.code e ⟨ts,[],.plain,hp⟩):=hr (m+1) om
  simp only [AX] at hr'
  have q:=fun h=>GL h s
  rcases q4 with rfl|⟨rfl,q5⟩
  ·cases hb1 rfl
   by_cases c3:((a.toNat:Nat):Int)=48
   ·have d2:=dT c3
    have d3:decide ((1:Int)<(s.length:Int))=false:=dF om
    exact SF (cj9 @a136.eq_1 e0 d1 f0 d2 d3 @yY q hr')
   ·have d2:=dF c3
    exact SF (cj8 @a136.eq_1 e0 d1 f0 d2 @yY q hr')
  ·cases hb2 rfl
   dsimp only at q5
   by_cases c3:((a.toNat:Nat):Int)=48
   ·have d2:=dT c3
    have d3:decide ((1:Int)<(s.length:Int))=false:=dF om
    exact SF (tR @a136.eq_1 e0 d1 f0 d2 d3 @yY q hr' q5)
   ·have d2:=dF c3
    exact SF (cj9 @a136.eq_1 e0 d1 f0 d2 @yY q hr' q5)
 rcases q4 with rfl|⟨rfl,_⟩
 ·exact ⟨true,key true (fun _=>rfl) (fun q=>by cases q)⟩
 ·exact ⟨false,key false (fun q=>by cases q) (fun _=>rfl)⟩
theorem MN {fn:FuncId} {s:List UInt8} (hs:s.length<10000000) (rc:RC) (h:aD):∀(k i:Nat),i+k=s.length→
  ∃e s',Ev fns orc (.code fn none (.loop Al) ⟨[(0,.str s),(6,.sl .dead (s.map fun b=> .int .u8 (b.toNat:Int))),(7,.int .i64 (s.length:Nat)),(8,.int .i64 (i:Int))],[],rc,h⟩) (.code e s')∧s'.heap=h∧s'.defers=[]∧s'.rc=rc∧((e= .exit 0∧cH s'.tmps 0= .str s)∨(e= .ret∧cH s'.tmps 2= .bool false)):=by
 intro k
 induction k with
 |zero=>
  intro i hi
  have d:decide ((i:Int)<((s.length:Nat):Int))=false:=dF om
  refine ⟨.exit 0, ?ss,Ev.code ⟨0,fun m _=> ?b⟩, ?r⟩
  case b=>
   exact SF (cj3 @Al.eq_1 d @aI)
  case r=>exact ⟨rfl,rfl,rfl,.inl ⟨rfl,rfl⟩⟩
 |succ k ih=>
  intro i hi
  have hlt:i<s.length:=om
  have d:decide ((i:Int)<((s.length:Nat):Int))=true:=dT om
  have f1:=FE hlt
  obtain ⟨x,hx⟩:∃x:Int,x=((s[i].toNat:Nat):Int):=⟨_,rfl⟩
  simp only [L8,←hx] at f1
  by_cases c1:x<32∨126<x∨x=34
  ·refine ⟨.ret, ?ss2,Ev.code ⟨0,fun m _=> ?b2⟩, ?r2⟩
   case b2=>
    by_cases c2:x<32
    ·have d2:=dT c2
     exact SF (cj5 @Al.eq_1 d f1 d2 @aI)
    ·have d2:=dF c2
     by_cases c3:126<x
     ·have d3:=dT c3
      exact SF (cj6 @Al.eq_1 d f1 d2 d3 @aI)
     ·have d3:=dF c3
      have d4:decide (x=34)=true:=dT om
      exact SF (cj7 @Al.eq_1 d f1 d2 d3 d4 @aI)
   case r2=>exact ⟨rfl,rfl,rfl,.inr ⟨rfl,rfl⟩⟩
  ·have d2:decide (x<32)=false:=dF om
   have d3:decide (126<x)=false:=dF om
   have d4:decide (x=34)=false:=dF om
   obtain ⟨e,s',⟨n,hr⟩,q⟩:=ih (i+1) om
   refine ⟨e,s',Ev.code ⟨n,fun m hm=> ?b3⟩,q⟩
   have hr' :=hr m hm
   simp only [Al] at hr'
   exact SFe (cj8 @Al.eq_1 d f1 d2 d3 d4 @aI (ER hlt om)) hr'
theorem MO (H:Has fns orc) (s:List UInt8) (hs:s.length<10000000) (h:aD):∃b,Ev fns orc (.call 138 [.str s] .plain h) (.call (.ret (.bool b)) .plain h):=by
 obtain ⟨e,s',⟨n,hr⟩,q1,q2,q3,q4⟩:=MN (fns:=fns) (orc:=orc) (fn:=138) (s:=s) hs .plain h s.length 0 om
 obtain ⟨ts,ds,rc,hp⟩:=s'
 cases q1;cases q2;cases q3
 have key:∀b,(e= .exit 0→b=decide ((s.length:Int)≤80))→(e= .ret→b=false)→Ev fns orc (.call 138 [.str s] .plain hp) (.call (.ret (.bool b)) .plain hp):=by
  intro b hb1 hb2
  refine Ev.call H.f138 H.o138 ⟨n,fun m hm=> ?b4⟩
  have hr' :cG (eval fns orc m) 138 none (.loop Al) ⟨[(0,.str s),(6,.sl .dead (s.map fun b=> .int .u8 (b.toNat:Int))),(7,.int .i64 (s.length:Nat)),(8,.int .i64 0)],[],.plain,hp⟩= .ok (.code e ⟨ts,[],.plain,hp⟩):=hr (m+1) om
  simp only [Al] at hr'
  have q:=fun h=>GL h s
  rcases q4 with ⟨rfl,q5⟩|⟨rfl,q5⟩
  ·cases hb1 rfl
   dsimp only at q5
   exact SF (cj5 @a138.eq_1 @yY q hr' q5)
  ·cases hb2 rfl
   dsimp only at q5
   exact SF (cj5 @a138.eq_1 @yY q hr' q5)
 rcases q4 with ⟨rfl,_⟩|⟨rfl,_⟩
 ·exact ⟨_,key _ (fun _=>rfl) (fun q=>by cases q)⟩
 ·exact ⟨false,key false (fun q=>by cases q) (fun _=>rfl)⟩
theorem VX (H:Has fns orc) (n:Int) (h:aD) (m:Nat) (hm:2≤m):∃k,eval fns orc m (.call 143 [.int .i64 n] .plain h)= .ok (.call (.ret (.int .i64 k)) .plain h):=by
 by_cases c:n<0
 ·have d:=dT c
  refine ⟨IntKind.wrap .i64 (0 -n),fW (n:=0) H.f143 H.o143 (fun m _=> ?b1) m hm⟩
  exact SF (cj3 @a143.eq_1 d @oUn.eq_def)
 ·have d:=dF c
  refine ⟨n,fW (n:=0) H.f143 H.o143 (fun m _=> ?b2) m hm⟩
  exact SF (cj2 @a143.eq_1 d)
end Go.Ly
namespace Go.Ly
open Go Go.Am Go.Fs Go.Gn
variable {fns:Go.Am.F} {orc:Orc}
theorem I9 (H:Has fns orc) (n:Int):∃k,∀(h:aD) (m:Nat),2≤m→eval fns orc m (.call 143 [.int .i64 n] .plain h)= .ok (.call (.ret (.int .i64 k)) .plain h):=by
 by_cases c:n<0
 ·have d:=dT c
  refine ⟨IntKind.wrap .i64 (0 -n),fun h m hm=>fW (n:=0) H.f143 H.o143 (fun m _=> ?b1) m hm⟩
  exact SF (cj3 @a143.eq_1 d @oUn.eq_def)
 ·have d:=dF c
  refine ⟨n,fun h m hm=>fW (n:=0) H.f143 H.o143 (fun m _=> ?b2) m hm⟩
  exact SF (cj2 @a143.eq_1 d)
theorem I8 (H:Has fns orc) (man ex:Int) (h:aD):∃h' b,aP h h' ∧Ev fns orc (.call 137 [.agg [.int .i64 man,.int .i64 ex]] .plain h) (.call (.ret (.bool b)) .plain h'):=by
 obtain ⟨k,hk⟩:=I9 H man
 by_cases c0:man=0
 ·have d0:=dT c0
  refine ⟨?hh1,decide (ex=0), ?g1,Ev.call H.f137 H.o137 ⟨2,fun m hm=> ?b1⟩⟩
  case b1=>
   exact SF (cj4 @a137.eq_1 @uA @bN.eq_def d0)
  case g1=>exact gw2
 have d0:=dF c0
 by_cases c1:100000000000≤k
 case neg=>
  have dc1:=dF c1
  refine ⟨?hh2,false, ?g2,Ev.call H.f137 H.o137 ⟨2,fun m hm=> ?b2⟩⟩
  case b2=>
   have e1:=fun h=>hk h m hm
   exact SF (cj6 @a137.eq_1 @uA @bN.eq_def d0 e1 dc1)
  case g2=>exact gw2
 have dc1:=dT c1
 by_cases c2:k<1000000000000
 case neg=>
  have dc2:=dF c2
  refine ⟨?hh3,false, ?g3,Ev.call H.f137 H.o137 ⟨2,fun m hm=> ?b3⟩⟩
  case b3=>
   have e1:=fun h=>hk h m hm
   exact SF (cj7 @a137.eq_1 @uA @bN.eq_def d0 e1 dc1 dc2)
  case g3=>exact gw2
 have dc2:=dT c2
 by_cases c3: -111≤ex
 case neg=>
  have dc3:=dF c3
  refine ⟨?hh4,false, ?g4,Ev.call H.f137 H.o137 ⟨2,fun m hm=> ?b4⟩⟩
  case b4=>
   have e1:=fun h=>hk h m hm
   exact SF (cj8 @a137.eq_1 @uA @bN.eq_def d0 e1 dc1 dc2 dc3)
  case g4=>exact gw2
 have dc3:=dT c3
 by_cases c4:ex≤88
 case neg=>
  have dc4:=dF c4
  refine ⟨?hh5,false, ?g5,Ev.call H.f137 H.o137 ⟨2,fun m hm=> ?b5⟩⟩
  case b5=>
   have e1:=fun h=>hk h m hm
   exact SF (cj9 @a137.eq_1 @uA @bN.eq_def d0 e1 dc1 dc2 dc3 dc4)
  case g5=>exact gw2
 have dc4:=dT c4
 refine ⟨?hh6,true, ?g6,Ev.call H.f137 H.o137 ⟨2,fun m hm=> ?b6⟩⟩
 case b6=>
  have e1:=fun h=>hk h m hm
  exact SF (cj9 @a137.eq_1 @uA @bN.eq_def d0 e1 dc1 dc2 dc3 dc4)
 case g6=>exact gw2
theorem Vq (H:Has fns orc) {k op n man ex k' op' n' man' ex' :Int} {t t' :List UInt8} {va vd va' vd' :AV} {xa xd xa' xd' :List AV} {ok:Bool} (h1:iP va xa) (h2:iP vd xd) (h1' :iP va' xa') (h2' :iP vd' xd') (h:aD):
  ∃h' b,aP h h' ∧Ev fns orc (.call 119 [.agg [.int .i64 k',.int .i64 op',.int .i64 n',.int .i64 man',.int .i64 ex',.str t',va',vd',.bool ok],.agg [.int .i64 k,.int .i64 op,.int .i64 n,.int .i64 man,.int .i64 ex,.str t,va,vd]] .plain h) (.call (.ret (.bool b)) .plain h'):=by
 have q1:=bO h1
 have q2:=bO h2
 have q3:=bO h1'
 have q4:=bO h2'
 obtain ⟨hA,hAe⟩:∃x,x=(h.push (.cells [.int .i64 k',.int .i64 op',.int .i64 n',.int .i64 man',.int .i64 ex',.str t',va',vd',.bool ok])).push (.cells [.int .i64 k,.int .i64 op,.int .i64 n,.int .i64 man,.int .i64 ex,.str t,va,vd]):=⟨_,rfl⟩
 have gA:aP h hA:=by rw [hAe];exact gw2
 have f1:=OK (show hA.get h.next=some (.cells [.int .i64 k',.int .i64 op',.int .i64 n',.int .i64 man',.int .i64 ex',.str t',va',vd',.bool ok]) by rw [hAe];simp (disch:=(first|omega|(simp only [aD.aJ,aD.aL];try omega)|skip)) only [aT,aV,aD.aJ])
 have f2:=OK (show hA.get (h.next+1)=some (.cells [.int .i64 k,.int .i64 op,.int .i64 n,.int .i64 man,.int .i64 ex,.str t,va,vd]) by rw [hAe];simp (disch:=(first|omega|(simp only [aD.aJ,aD.aL];try omega)|skip)) only [aT,aV,aD.aJ])
 cases ok
 case false=>
  refine ⟨hA,false,gA,Ev.call H.f119 H.o119 ⟨2,fun m hm=> ?b7⟩⟩
  case b7=>
   exact SF (cj5 @a119.eq_1 (Eq.symm hAe) f1 f2 @bN.eq_def)
 by_cases c1:op=op'
 case neg=>
  have dc1:=dF c1
  refine ⟨hA,false,gA,Ev.call H.f119 H.o119 ⟨2,fun m hm=> ?b8⟩⟩
  case b8=>
   exact SF (dI @a119.eq_1 (Eq.symm hAe) f1 f2 @bN.eq_def @takeN.eq_1 @takeN.eq_2 @takeN.eq_3 @List.drop_zero.{0} @List.drop_succ_cons.{0} @Ai.eq_def @lW.eq_1 @lW.eq_2 @lW.eq_3 q1 q2 (cj3 q3 q4 dc1))
 have dc1:=dT c1
 by_cases c2:n=n'
 case neg=>
  have dc2:=dF c2
  refine ⟨hA,false,gA,Ev.call H.f119 H.o119 ⟨2,fun m hm=> ?b9⟩⟩
  case b9=>
   exact SF (dI @a119.eq_1 (Eq.symm hAe) f1 f2 @bN.eq_def @takeN.eq_1 @takeN.eq_2 @takeN.eq_3 @List.drop_zero.{0} @List.drop_succ_cons.{0} @Ai.eq_def @lW.eq_1 @lW.eq_2 @lW.eq_3 q1 q2 (cj4 q3 q4 dc1 dc2))
 have dc2:=dT c2
 by_cases c3:man=man'
 case neg=>
  have dc3:=dF c3
  refine ⟨hA,false,gA,Ev.call H.f119 H.o119 ⟨2,fun m hm=> ?b10⟩⟩
  case b10=>
   exact SF (dI @a119.eq_1 (Eq.symm hAe) f1 f2 @bN.eq_def @takeN.eq_1 @takeN.eq_2 @takeN.eq_3 @List.drop_zero.{0} @List.drop_succ_cons.{0} @Ai.eq_def @lW.eq_1 @lW.eq_2 @lW.eq_3 q1 q2 (cj5 q3 q4 dc1 dc2 dc3))
 have dc3:=dT c3
 by_cases c3b:ex=ex'
 case neg=>
  have QS:=dF c3b
  refine ⟨hA,false,gA,Ev.call H.f119 H.o119 ⟨2,fun m hm=> ?b11⟩⟩
  case b11=>
   exact SF (dI @a119.eq_1 (Eq.symm hAe) f1 f2 @bN.eq_def @takeN.eq_1 @takeN.eq_2 @takeN.eq_3 @List.drop_zero.{0} @List.drop_succ_cons.{0} @Ai.eq_def @lW.eq_1 @lW.eq_2 @lW.eq_3 q1 q2 (cj6 q3 q4 dc1 dc2 dc3 QS))
 have QS:=dT c3b
 by_cases c4:t=t'
 case neg=>
  have dc4:jI t t' =false:=by rw [jV];simpa using c4
  refine ⟨hA,false,gA,Ev.call H.f119 H.o119 ⟨2,fun m hm=> ?b12⟩⟩
  case b12=>
   exact SF (dI @a119.eq_1 (Eq.symm hAe) f1 f2 @bN.eq_def @takeN.eq_1 @takeN.eq_2 @takeN.eq_3 @List.drop_zero.{0} @List.drop_succ_cons.{0} @Ai.eq_def @lW.eq_1 @lW.eq_2 @lW.eq_3 q1 q2 (cj7 q3 q4 dc1 dc2 dc3 QS dc4))
 have dc4:jI t t' =true:=by rw [jV];simpa using c4
 by_cases c5:(xa.length:Int)=(xa'.length:Int)
 case neg=>
  have dc5:=dF c5
  refine ⟨hA,false,gA,Ev.call H.f119 H.o119 ⟨2,fun m hm=> ?b13⟩⟩
  case b13=>
   exact SF (dI @a119.eq_1 (Eq.symm hAe) f1 f2 @bN.eq_def @takeN.eq_1 @takeN.eq_2 @takeN.eq_3 @List.drop_zero.{0} @List.drop_succ_cons.{0} @Ai.eq_def @lW.eq_1 @lW.eq_2 @lW.eq_3 q1 q2 (cj8 q3 q4 dc1 dc2 dc3 QS dc4 dc5))
 have dc5:=dT c5
 by_cases c6:(xd.length:Int)=(xd'.length:Int)
 case neg=>
  have dc6:=dF c6
  refine ⟨hA,false,gA,Ev.call H.f119 H.o119 ⟨2,fun m hm=> ?b14⟩⟩
  case b14=>
   exact SF (dI @a119.eq_1 (Eq.symm hAe) f1 f2 @bN.eq_def @takeN.eq_1 @takeN.eq_2 @takeN.eq_3 @List.drop_zero.{0} @List.drop_succ_cons.{0} @Ai.eq_def @lW.eq_1 @lW.eq_2 @lW.eq_3 q1 q2 (cj9 q3 q4 dc1 dc2 dc3 QS dc4 dc5 dc6))
 have dc6:=dT c6
 refine ⟨hA,true,gA,Ev.call H.f119 H.o119 ⟨2,fun m hm=> ?b15⟩⟩
 case b15=>
  exact SF (dI @a119.eq_1 (Eq.symm hAe) f1 f2 @bN.eq_def @takeN.eq_1 @takeN.eq_2 @takeN.eq_3 @List.drop_zero.{0} @List.drop_succ_cons.{0} @Ai.eq_def @lW.eq_1 @lW.eq_2 @lW.eq_3 q1 q2 (cj9 q3 q4 dc1 dc2 dc3 QS dc4 dc5 dc6))
def vX (fns:Go.Am.F) (orc:Orc):Prop:=∀(s:List UInt8),s.length<10000000→∀h:aD,∃h' b,aP h h' ∧Ev fns orc (.call 139 [.str s] .plain h) (.call (.ret (.bool b)) .plain h')∧(b=true→s≠[])
theorem Bp (H:Has fns orc) {a:List pO} {va:AV} (hv:RVs (a.map Part.exp) va) (hl:0<a.length) (pl:Bool) (h:aD):
  ∃c',bN (some 8) c' 0= .ok (.agg c')∧pT 8 va (.int .i64 0)= .ok (.ep c' 0)∧∃h' b,aP h h' ∧Ev fns orc (.call 140 [.agg c',.bool pl] .plain h) (.call (.ret (.bool b)) .plain h'):=by
 obtain ⟨xs,hs,hxl,hel⟩:=jZ hv
 obtain ⟨c',e1,e2⟩:=hel 0 (by simpa using hl)
 have e3:(a.map Part.exp)[0]'(by simpa using hl)= .exp (a[0]'hl):=by simp
 rw [e3] at e2
 have e4:=pW e2
 exact ⟨c',wJ e4,kT (i:=0) hs e1 e4,xN H e2 pl h⟩
end Go.Ly
end
