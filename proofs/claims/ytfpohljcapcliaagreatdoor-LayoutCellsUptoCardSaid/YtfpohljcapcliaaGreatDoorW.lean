/- Parts of a proof. -/
import Derived.Test.YtfpohljcapcliaaGreatDoorD
import Derived.Test.YtfpohljcapcliaaGreatDoorE
import Derived.Test.YtfpohljcapcliaaGreatDoorV1
import Derived.Test.YtfpohljcapcliaaGreatDoorV4
set_option linter.all false
set_option maxHeartbeats 16000000
set_option maxRecDepth 4000
noncomputable section
namespace Go.Ly
open Go Go.Am Go.Fs Go.Gn
variable {fns:Go.Am.F} {orc:Orc}
theorem OH (H:Has fns orc) (X:HD orc) {ws ss:List (List UInt8)} (W:wU orc ws ss):vX fns orc:=by
 intro s hs h
 obtain ⟨h',lv,xs,e,a,gr,⟨n,ev⟩,isl,tks,SU⟩:=WI H X W hs h
 have q:=bO isl
 by_cases c1:e=0
 case neg=>
  have d1:=dF c1
  refine ⟨h',false,gr,Ev.call H.f139 H.o139 ⟨n,fun m hm=> ?b1⟩,fun w=>by cases w⟩
  have ev' :=ev m hm
  exact SX (cj3 @a139.eq_1 ev' d1)
 have d1:=dT c1
 by_cases c2:(xs.length:Int)=1
 case neg=>
  have d2:=dF c2
  refine ⟨h',false,gr,Ev.call H.f139 H.o139 ⟨n,fun m hm=> ?b2⟩,fun w=>by cases w⟩
  have ev' :=ev m hm
  exact SX (cj5 @a139.eq_1 ev' d1 q d2)
 have d2:=dT c2
 have hne:s≠[]:=fun w=>by rw [SU w] at c2;simp at c2
 obtain ⟨k,t,b,a0,en,hx⟩:=tks (xs[0]'om) (List.getElem_mem _)
 have f1:pT 5 lv (.int .i64 0)= .ok (.ep [.int .i64 k,.str t,.int .i64 b,.int .i64 a0,.int .i64 en] 0):=kT (i:=0) isl (by rw [List.getElem?_eq_getElem om,hx]) rfl
 by_cases c3:k=2
 case neg=>
  have d3:=dF c3
  refine ⟨h',false,gr,Ev.call H.f139 H.o139 ⟨n,fun m hm=> ?b3⟩,fun w=>by cases w⟩
  have ev' :=ev m hm
  exact SX (cj7 @a139.eq_1 ev' d1 q d2 f1 d3)
 have d3:=dT c3
 refine ⟨h',jI t s,gr,Ev.call H.f139 H.o139 ⟨n,fun m hm=> ?b4⟩,fun _=>hne⟩
 have ev' :=ev m hm
 exact SX (cj7 @a139.eq_1 ev' d1 q d2 f1 d3)
end Go.Ly
namespace Go.Ly
open Go Go.Am Go.Fs Go.Gn
variable {fns:Go.Am.F} {orc:Orc}
def Ml (xs:List AV):Prop:=∀x∈xs,∃n:Int,x= .int .i64 n
theorem Qp {xs:List AV} (h:Ml xs) (n:Int):Ml (xs++[.int .i64 n]):=fun x hx=>by
 rcases List.mem_append.1 hx with q|q
 ·exact h x q
 ·exact ⟨n,List.mem_singleton.1 q⟩
theorem Is {xs:List AV} (h:Ml xs):Ab 1 xs:=fun x hx=>by obtain ⟨n,rfl⟩:=h x hx;rfl
theorem Vb {xs:List AV} (h:Ml xs):kQ xs xs=true:=by
 induction xs with
 |nil=>exact iX
 |cons x xs ih=>
  obtain ⟨n,rfl⟩:=h x (by simp)
  rw [eM,dD,ih (fun y hy=>h y (List.mem_cons_of_mem _ hy))]
  rfl
theorem WS {v:AV} {xs:List AV} (h:iP v xs) (hx:Ml xs):dX v v=true:=by
 cases h with
 |nil=>exact bM
 |sl tk xs=>simp [dX,vN,Vb hx]
theorem B1 {n:Nat} {xs:List AV} (h:Ab n xs):qK n xs=true:=by
 induction xs with
 |nil=>rfl
 |cons x xs ih=>
  have:Nat.beq x.cells.length n=true:=by rw [h x (by simp)];simp
  simp only [qK,this]
  exact ih fun y hy=>h y (List.mem_cons_of_mem _ hy)
theorem TK (H:Has fns orc) {v:AV} {xs:List AV} (hv:iP v xs) (hx:Ml xs) (hl:xs.length<10000000) (h:aD):
  ∃h' v',aP h h' ∧(∀m,2≤m→eval fns orc m (.call 21 [v] .plain h)= .ok (.call (.ret v') .plain h'))∧iP v' xs:=by
 cases hv with
 |nil=>
  refine ⟨h,.aC,.refl _,fun m hm=>fW (n:=0) H.f21 H.o21 (fun m _=> ?b1) m hm,.nil⟩
  exact SX @a21.eq_1
 |sl tk xs=>
  cases xs with
  |nil=>
   refine ⟨h,.sl .full [],.refl _,fun m hm=>fW (n:=0) H.f21 H.o21 (fun m _=> ?b2) m hm,.sl _ _⟩
   exact SX (tR @a21.eq_1 @mT.eq_1 @oO.eq_1 @oO.eq_2 @oO.eq_3 @oO.eq_4 @uE.eq_1 @uE.eq_2 @uE.eq_3 @uE.eq_4)
  |cons x xs=>
   have e1:qK 1 (x::xs)=true:=B1 (Is hx)
   have e2:(Nat.ble 1 1 && qK 1 (x::xs))=true:=by rw [e1];rfl
   have e3:(Nat.ble ((([]:List AV).length+(x::xs).length)*1) lX && mR 1 [])=true:=by
    simp only [mR,Bool.and_true]
    rw [Nat.ble_eq]
    simp [lX] at hl⊢
    omega
   have ap:mT h 1 (.sl .full []) (.sl tk (x::xs))= .ok (.sl (.opn h.next (([]:List AV).length+(x::xs).length)) ([]++(x::xs)),h.push (.tok (([]:List AV).length+(x::xs).length))):=by
    simp only [mT,oO,aM,e2,wD,yN,e3]
   refine ⟨h.push (.tok (([]:List AV).length+(x::xs).length)),.sl (.opn h.next (([]:List AV).length+(x::xs).length)) ([]++(x::xs)),.push _ _,fun m hm=>fW (n:=0) H.f21 H.o21 (fun m _=> ?b3) m hm,.sl _ _⟩
   exact SX (cj2 @a21.eq_1 ap)
theorem Vx (H:Has fns orc) {v:AV} {xs:List AV} (hv:iP v xs) (hx:Ml xs) (hl:xs.length<10000000):
  ∃v',(∀(h:aD) m,2≤m→eval fns orc m (.call 85 [v] .plain h)= .ok (.call (.ret v') .plain h))∧
   ∀(h:aD) (z:Int),mT h 1 v' (.sl .full [.int .i64 z])= .ok (.sl (.opn h.next (xs.length+1)) (xs++[.int .i64 z]),h.push (.tok (xs.length+1))):=by
 have e2:∀z:Int,(Nat.ble 1 1 && qK 1 [AV.int .i64 z])=true:=fun z=>rfl
 have hs:=Lu (Is hx)
 have e3:∀z:Int,(Nat.ble ((xs.length+[AV.int .i64 z].length)*1) lX && mR 1 xs)=true:=by
  intro z
  rw [hs,Bool.and_true,Nat.ble_eq]
  simp [lX]
  omega
 cases hv with
 |nil=>
  refine ⟨.aC,fun h m hm=>fW (n:=0) H.f85 H.o85 (fun m _=> ?b1) m hm,fun h z=> ?a1⟩
  case b1=>
   have q:tN false 1 .aC none (some (.int .i64 0)) (some (.int .i64 0))= .ok .aC:=rfl
   exact SX (cj2 @a85.eq_1 q)
  case a1=>
   simp only [mT,oO,aM,e2,wD,yN,e3]
   rfl
 |sl tk xs=>
  have e:ile (xs.length:Int) (xs.length:Int)=true:=by rw [jE];simp
  have q:tN false 1 (.sl tk xs) none (some (.int .i64 (xs.length:Int))) (some (.int .i64 (xs.length:Int)))= .ok (.sl .full xs):=by
   simp only [tN,PD,hs,Go.Am.bound,tP,yH,e,Bool.true_and,uP,aM,Ea,Nat.beq_refl,List.take_length,List.drop_zero,if_true]
  refine ⟨.sl .full xs,fun h m hm=>fW (n:=0) H.f85 H.o85 (fun m _=> ?b2) m hm,fun h z=> ?a2⟩
  case b2=>exact SX (cj2 @a85.eq_1 q)
  case a2=>
   simp only [mT,oO,aM,e2,wD,yN,e3]
   rfl
end Go.Ly
namespace Go.Ly
open Go Go.Am Go.Fs Go.Gn
variable {fns:Go.Am.F} {orc:Orc}
def Cz (p:Part):Nat:=1+(p.kids.attach.map fun ⟨q,_⟩=>Cz q).sum
termination_by p.wt
decreasing_by exact Part.FX (by assumption)
theorem JJ (p:Part):Cz p=1+(p.kids.map Cz).sum:=by rw [Cz,List.attach_map_val (f:=Cz)]
theorem Vv:∀p:Part,Cz p≤p.nodes:=by
 refine Part.ind fun p ih=> ?_
 rw [JJ,Part.qH]
 have key:∀l:List Part,(∀q∈l,Cz q≤q.nodes)→(l.map Cz).sum≤(l.map Part.nodes).sum:=by
  intro l
  induction l with
  |nil=>intro _;exact Nat.le_refl _
  |cons q l ihl=>intro h;simp;have:=h q (by simp);have:=ihl (fun r hr=>h r (List.mem_cons_of_mem _ hr));omega
 have:=key p.kids ih
 have:1≤p.own:=by cases p with
  |decl d=>cases d;simp [Part.own]
  |_=>exact Nat.le_refl 1
 omega
def EU (p:Part) (n:Nat):Nat:=((p.kids.take n).map Cz).sum
theorem Ii {p q:Part} {n:Nat} (h:p.kids[n]? =some q):EU p (n+1)=EU p n+Cz q:=by
 unfold EU
 rw [List.take_add_one,h]
 simp only [Option.toList,List.map_append,List.map_cons,List.map_nil,List.sum_append,List.sum_cons,List.sum_nil,Nat.add_zero]
theorem Kz (p:Part):1+EU p p.kids.length=Cz p:=by rw [JJ];simp [EU]
theorem UN {p q:Part} {n:Nat} (h:p.kids[n]? =some q):1+EU p n+Cz q≤Cz p:=by
 have h1:=Ii h
 have h2:=Kz p
 have:EU p (n+1)≤EU p p.kids.length:=by
  unfold EU
  have e:p.kids.take p.kids.length=p.kids.take (n+1)++(p.kids.drop (n+1)):=by rw [List.take_length,List.take_append_drop]
  rw [e,List.map_append,List.sum_append]
  omega
 omega
def XH (k:Nat) (x:List AV):Prop:=k<10000000∧∃path v q,x=[path,v]∧RP q v∧Mk q
def xK:AC:=p83x1110100
def rU:AC:=p83x1110101
def XI (fns:Go.Am.F) (orc:Orc) (p:Part):Prop:=∀v path xs,RP p v→Valid p→iP path xs→Ml xs→xs.length+p.nodes<10000000→∀(l yb wb k:Nat) I D,FO fns orc l XH I D→∀(P:Nat→Prop) (h:aD),(∀i,P i→i<h.next)→P yb→P wb→
 cont h yb=some [.yield l]→cont h wb=some [.fn 83 [] [.ptr yb 0,.ptr wb 0]]→k+Cz p≤10000000→I k P h→
 ∃h' r,Ev fns orc (.call 83 [path,v,.ptr yb 0,.ptr wb 0] .plain h) (.call (.ret (.bool r)) .plain h')∧Kept P h h' ∧(r=true→I (k+Cz p) P h')∧(r=false→D P h')
theorem E5 {v:AV} {xs:List AV} (h:iP v xs):v.cells=[v]∧v.known=true∧v.bX=true:=by cases h<;>exact ⟨rfl,rfl,rfl⟩
def WJ (P W:Nat→Prop) (h:aD) (c:Nat) (own:aD→Prop) (X:(Nat→Prop)→aD→Prop) (m:Nat) (Q:Nat→Prop) (hh:aD):Prop:=
 (∀i,Q i→c<i)∧m≤hh.next∧X (fun i=>Q i∨W i) hh∧(∀i,P i→hh.get i=h.get i)∧own hh
theorem WJ.keeps {P W:Nat→Prop} {h:aD} {c:Nat} {own:aD→Prop} {X:(Nat→Prop)→aD→Prop} {m:Nat} (KX:yP X) (hP:∀i,P i→i≤c) (hc:c<m) (ho:∀a b:aD,m≤a.next→(∀i,i≤c→b.get i=a.get i)→own a→own b):yP (WJ P W h c own X m) where
 chg Q a b:=by
  rintro ⟨q1,q2,q3,q4,q5⟩ ch
  have low:∀i,i≤c→b.get i=a.get i:=fun i hi=>ch.get i om (fun w=>by have:=q1 i w;omega)
  refine ⟨?_,Nat.le_trans q2 ch.next, ?_,fun i hi=>(low i (hP i hi)).trans (q4 i hi),ho a b q2 low q5⟩
  ·rintro i (w|w)
   ·exact q1 i w
   ·omega
  ·refine KX.less _ _ _ (KX.chg _ _ _ q3 ⟨ch.next,fun i hi hn=>ch.get i hi (fun w=>hn (.inl w))⟩) ?_
   rintro i ((w|w)|w)
   ·exact .inl (.inl w)
   ·exact .inr w
   ·exact .inl (.inr w)
 less Q R a:=by
  rintro ⟨q1,q2,q3,q4,q5⟩ hq
  exact ⟨fun i w=>q1 i (hq i w),q2,KX.less _ _ _ q3 (fun i w=>w.imp (hq i) id),q4,q5⟩
theorem WJ.set {P W:Nat→Prop} {h:aD} {c:Nat} {own:aD→Prop} {X:(Nat→Prop)→aD→Prop} {m:Nat} (KX:yP X) (hP:∀i,P i→i≤c) {Q:Nat→Prop} {hh:aD} (w:WJ P W h c own X m Q hh) {i:Nat} (hi:i<hh.next) (hW:W i) (o:AO) (hn:∀j,P j→j≠i) (Vf:own hh→own (hh.set i o)):
  WJ P W h c own X m Q (hh.set i o):=by
 obtain ⟨q1,q2,q3,q4,q5⟩:=w
 refine ⟨q1,by simpa using q2, ?_,fun j hj=>(aE _ _ _ _ hi (hn j hj)).trans (q4 j hj),Vf q5⟩
 refine KX.less _ _ _ (KX.chg _ _ _ q3 ⟨by simp,fun j hj hn=>aE _ _ _ _ hi (fun e=>hn (.inr (by rw [e];exact hW)))⟩) (fun j w=> .inl w)
end Go.Ly
namespace Go.Ly
open Go Go.Am Go.Fs Go.Gn
variable {fns:Go.Am.F} {orc:Orc}
theorem Ur (H:Has fns orc):∀p,XI fns orc p:=by
 refine Part.ind fun p ih=> ?_
 intro v path xs hv A9 OT hxs hlen l yb wb k I D F P h hP Pyb Pwb cy cw hk hI
 obtain ⟨pc,rfl,pl,pk⟩:=sK hv
 have p29:takeN 29 pc=some pc:=by rw [←pl];exact aW pc
 obtain ⟨ic1,ic2,ic3⟩:=E5 OT
 have pe:=WS OT hxs
 have pce:dX (.agg pc) (.agg pc)=true:=Oo hv
 have hyb:=hP yb Pyb
 have hwb:=hP wb Pwb
 obtain ⟨hA,hAe⟩:∃x,x=((h.push (.cells [path])).push (.cells pc)).push (.cells [.bool false]):=⟨_,rfl⟩
 have gA:aP h hA:=by rw [hAe];exact gw2
 have nA:hA.next=h.next+3:=by rw [hAe];simp
 have a0:cont hA h.next=some [path]:=by rw [hAe];exact ctp
 have a1:cont hA (h.next+1)=some pc:=by rw [hAe];exact ctp
 have a2:cont hA (h.next+2)=some [.bool false]:=by rw [hAe];exact ctp
 have ay:=(aF gA hyb).trans cy
 have aw:=(aF gA hwb).trans cw
 obtain ⟨hB,pv,gAB,e1,hpv⟩:=TK H OT hxs om hA
 have gB:=gA.trans gAB
 have nB:=gAB.next
 have b0:=(aF gAB (by omega:h.next<hA.next)).trans a0
 have b1:=(aF gAB (by omega:h.next+1<hA.next)).trans a1
 have b2:=(aF gAB (by omega:h.next+2<hA.next)).trans a2
 have by_:=(aF gB hyb).trans cy
 have bw:=(aF gB hwb).trans cw
 have own:Mk p:=A9.own
 obtain ⟨hC,r,⟨n2,e2⟩,kC,rT,rD⟩:=F.rnd k [pv,.agg pc] ⟨by have:=JJ p;omega,pv,.agg pc,p,rfl,hv,own⟩ (FW P h hB) hB (fun i q=>by
  rcases q with q|q
  ·have:=hP i q;omega
  ·exact q.2) ((F.ki k).chg _ _ _ hI (fV gB))
 have nC:=kC.next
 have kCP:∀i,P i→hC.get i=h.get i:=fun i q=>(kC.get i (.inl q)).trans (gB.get i (hP i q))
 have c0:cont hC h.next=some [path]:=(aH (kC.get _ (.inr ⟨by omega,by omega⟩))).trans b0
 have c1:cont hC (h.next+1)=some pc:=(aH (kC.get _ (.inr ⟨by omega,by omega⟩))).trans b1
 have c2:cont hC (h.next+2)=some [.bool false]:=(aH (kC.get _ (.inr ⟨by omega,by omega⟩))).trans b2
 cases r with
 |false=>
  refine ⟨hC.set (h.next+2) (.cells [.bool false]),false,Ev.A0 H.f83 H.o83 ⟨n2+2,fun m hm=> ?b1⟩,⟨by simp;omega,fun i q=>(aE _ _ _ _ om (by have:=hP i q;omega)).trans (kCP i q)⟩,fun q=>(by cases q),fun _=> ?d1⟩
  case b1=>
   have e1' :=e1 m om
   have e2' :=e2 m om
   exact SX (Bd @a83.eq_1 ic1 ic2 ic3 pe pce (Eq.symm hAe) ay by_ a0 a1 b1 e1' p29 e2' c2)
  case d1=>
   refine F.kd.less _ _ _ (F.kd.chg _ _ _ (rD rfl) ⟨by simp,fun j hj hn=>aE _ _ _ _ om (fun e=>hn (.inr ⟨by omega,by omega⟩))⟩) (fun i q=> .inl (.inl q))
 |true=>
 obtain ⟨hD,hDe⟩:∃x,x=(hC.push (.cells [.int .i64 0])).set hC.next (.cells [.int .i64 0]):=⟨_,rfl⟩
 have gD:aP hC hD:=by rw [hDe];exact gw2
 have nD:hD.next=hC.next+1:=by rw [hDe];simp
 have d0:=(aF gD (by omega:h.next<hC.next)).trans c0
 have d1:=(aF gD (by omega:h.next+1<hC.next)).trans c1
 have d2:=(aF gD (by omega:h.next+2<hC.next)).trans c2
 have di:cont hD hC.next=some [.int .i64 0]:=by rw [hDe];exact aG (by simp)
 have ID:I (k+1) (fun i=>P i∨(h.next≤i∧i<hB.next)∨(hC.next≤i∧i<hD.next)) hD:=(F.ki _).less _ _ _ ((F.ki _).chg _ _ _ (rT rfl) (fV gD)) (fun i q=>by
  rcases q with q|q|q
  ·exact .inl (.inl q)
  ·exact .inl (.inr q)
  ·exact .inr q)
 obtain ⟨hK,b3,ys,⟨n3,e3⟩,gK,rpl,Y⟩:=Js H hv (by have:=uR p;omega) hD
 have nK:=gK.next
 have k0:=(aF gK (by omega:h.next<hD.next)).trans d0
 have k2:=(aF gK (by omega:h.next+2<hD.next)).trans d2
 have kib:=(aF gK (by omega:hC.next<hD.next)).trans di
 have kP:∀i,P i→hK.get i=h.get i:=fun i q=>(gK.get i (by have:=hP i q;omega)).trans ((gD.get i (by have:=hP i q;omega)).trans (kCP i q))
 obtain ⟨Pk,hPk⟩:∃Pk:Nat→Prop,Pk=fun i=>hD.next≤i∧i<hK.next:=⟨_,rfl⟩
 have pPk:∀i,Pk i↔(hD.next≤i∧i<hK.next):=fun i=>by rw [hPk]
 have YL:=Dy (Y Pk (fun i h1 h2=>(pPk i).2 ⟨h1,h2⟩))
 have hyl:ys.length=p.kids.length:=uH rpl
 obtain ⟨W,hW⟩:∃W:Nat→Prop,W=fun i=>P i∨(h.next≤i∧i<hB.next)∨(hC.next≤i∧i<hK.next+2):=⟨_,rfl⟩
 have wW:∀i,W i↔(P i∨(h.next≤i∧i<hB.next)∨(hC.next≤i∧i<hK.next+2)):=fun i=>by rw [hW]
 obtain ⟨ts,hts⟩:∃ts:fN,ts=[(3,.ptr wb 0),(4,.ptr h.next 0),(6,.ptr (h.next+2) 0),(7,.ptr hC.next 0),(16,.fn 115 [] [.ptr b3 0]),(17,.unk)]:=⟨_,rfl⟩
 have t3:cH ts 3= .ptr wb 0:=by rw [hts];rfl
 have t4:cH ts 4= .ptr h.next 0:=by rw [hts];rfl
 have t6:cH ts 6= .ptr (h.next+2) 0:=by rw [hts];rfl
 have t7:cH ts 7= .ptr hC.next 0:=by rw [hts];rfl
 obtain ⟨PM,It⟩:∃f:aD→Prop,f=fun hh=>cont hh h.next=some [path]∧cont hh (h.next+2)=some [.bool false]∧∃z,cont hh hC.next=some [.int .i64 z]:=⟨_,rfl⟩
 obtain ⟨RJ,OU⟩:∃f:aD→Prop,f=fun hh=>cont hh (h.next+2)=some [.bool false]:=⟨_,rfl⟩
 have ho1:∀a b:aD,hK.next+2≤a.next→(∀i,i≤hC.next→b.get i=a.get i)→PM a→PM b:=by
  intro a b _ hl q
  rw [It] at q⊢
  obtain ⟨q1,q2,z,q3⟩:=q
  exact ⟨(aH (hl _ om)).trans q1,(aH (hl _ om)).trans q2,z,(aH (hl _ om)).trans q3⟩
 have ho2:∀a b:aD,hK.next+2≤a.next→(∀i,i≤hC.next→b.get i=a.get i)→RJ a→RJ b:=by
  intro a b _ hl q
  rw [OU] at q⊢
  exact (aH (hl _ om)).trans q
 have hPc:∀i,P i→i≤hC.next:=fun i q=>by have:=hP i q;omega
 have X6:∀(hh:aD) (o:AO),hK.next+1<hh.next→PM hh→PM (hh.set (hK.next+1) o):=by
  intro hh o hl q
  rw [It] at q⊢
  obtain ⟨q1,q2,z,q3⟩:=q
  exact ⟨(aK om om).trans q1,(aK om om).trans q2,z,(aK om om).trans q3⟩
 have X5:∀(hh:aD) (o:AO),hK.next+1<hh.next→RJ hh→RJ (hh.set (hK.next+1) o):=by
  intro hh o hl q
  rw [OU] at q⊢
  exact (aK om om).trans q
 have gl:∀r,aP hK (qA hK r):=fun r=>tJ hK r
 have RR:=UI (fns:=fns) (orc:=orc) (fn:=83) (f:= .t 16) (ps:=[17]) (asg:=xK) (body:=rU) (ts:=ts) (ds:=[]) (rc:= .plain) (h:=hK)
  (J:=fun n=>WJ P W h hC.next PM (I (k+1+EU p n)) (hK.next+2)) (DJ:=WJ P W h hC.next RJ D (hK.next+2))
  (by rw [hts];rfl) YL (fun i q=>((pPk i).1 q).2) (fun n=>WJ.keeps (F.ki _) hPc om ho1) (WJ.keeps F.kd hPc om ho2)
  (fun n Q hh o q hl=>WJ.set (F.ki _) hPc q hl ((wW _).2 (.inr (.inr ⟨by omega,by omega⟩))) o (fun j hj=>by have:=hP j hj;omega) (fun q=>X6 hh o hl q))
  (fun Q hh o q hl=>WJ.set F.kd hPc q hl ((wW _).2 (.inr (.inr ⟨by omega,by omega⟩))) o (fun j hj=>by have:=hP j hj;omega) (fun q=>X5 hh o hl q)) ?h0 ?hR
 case h0=>
  refine ⟨fun i q=>by have:=(pPk i).1 q;omega,by rw [vO];exact Nat.le_refl _, ?_,fun i q=>((gl _).get i (by have:=hP i q;omega)).trans (kP i q), ?_⟩
  ·refine (F.ki _).less _ _ _ ((F.ki _).chg _ _ _ ID (fV (gK.trans (gl _)))) ?_
   intro i q
   rcases q with q|q
   ·have:=(pPk i).1 q;exact .inr ⟨by omega,by rw [vO];omega⟩
   ·rcases (wW i).1 q with q|q|q
    ·exact .inl (.inl q)
    ·exact .inl (.inr (.inl q))
    ·by_cases hi:i<hD.next
     ·exact .inl (.inr (.inr ⟨q.1,hi⟩))
     ·exact .inr ⟨by omega,by rw [vO];omega⟩
  ·rw [It]
   exact ⟨(aF (gl _) om).trans k0,(aF (gl _) om).trans k2,0,(aF (gl _) om).trans kib⟩
 case hR=>
  rintro n x ⟨y,hy,rfl⟩ P' hh hP' ⟨le,mk,lp,np1,np2,q1,q2,q3,q4,q5⟩
  rw [It] at q5
  obtain ⟨o1,o2,z,o3⟩:=q5
  obtain ⟨q,hq,hrp⟩:=Rt rpl hy
  have hqm:q∈p.kids:=List.mem_of_getElem? hq
  obtain ⟨c',rfl,E8,Nq⟩:=sK hrp
  have hst:=mW hh (z:=z29) (sz:=29) rfl E8 Nq
  obtain ⟨hY,hYe⟩:∃x,x=(hh.push (.cells z29)).set hh.next (.cells c'):=⟨_,rfl⟩
  rw [←hYe,vR] at hst
  have gY:aP hh hY:=by rw [hYe];exact gw2
  have nY:hY.next=hh.next+1:=by rw [hYe];simp
  have lY:hY.get (hK.next+1)=some (.loop ⟨.ready,none,83,ts,[17],xK,rU,hK.next⟩):=(gY.get _ om).trans lp
  obtain ⟨hZ,hZe⟩:∃x,x=hY.set (hK.next+1) (.loop ⟨.busy,none,83,ts,[17],xK,rU,hK.next⟩):=⟨_,rfl⟩
  have nZ:hZ.next=hh.next+1:=by rw [hZe];simp [nY]
  have zH:∀i,i<hh.next→i≠hK.next+1→hZ.get i=hh.get i:=fun i h1 h2=>by rw [hZe,aE _ _ _ _ om h2];exact gY.get i h1
  have zL:hZ.get (hK.next+1)=some (.loop ⟨.busy,none,83,ts,[17],xK,rU,hK.next⟩):=by rw [hZe];exact aQ _ _ _ om
  have fY:cont hY hh.next=some c' :=by rw [hYe];exact aG (by simp)
  have fZ:cont hZ hh.next=some c' :=by rw [hZe,aK om om];exact fY
  have p4:takeN 29 c' =some c' :=by rw [←E8];exact aW c'
  have c4:dX (.agg c') (.agg c')=true:=Oo hrp
  obtain ⟨cv,ecl,ap⟩:=Vx H OT hxs om
  obtain ⟨hT,hTe⟩:∃x,x=hZ.push (.tok (xs.length+1)):=⟨_,rfl⟩
  have apZ:=ap hZ z
  rw [←hTe] at apZ
  have gT:aP hZ hT:=by rw [hTe];exact .push _ _
  have nT:hT.next=hh.next+2:=by rw [hTe];simp [nZ]
  have zc:∀i,i<hh.next→i≠hK.next+1→cont hZ i=cont hh i:=fun i h1 h2=>aH (zH i h1 h2)
  have tc:∀i,i<hh.next→i≠hK.next+1→cont hT i=cont hh i:=fun i h1 h2=>(aF gT om).trans (zc i h1 h2)
  have wZ:cont hZ wb=some [.fn 83 [] [.ptr yb 0,.ptr wb 0]]:=(zc wb om om).trans ((aH (q4 wb Pwb)).trans cw)
  have wT:cont hT wb=some [.fn 83 [] [.ptr yb 0,.ptr wb 0]]:=(tc wb om om).trans ((aH (q4 wb Pwb)).trans cw)
  have yT:cont hT yb=some [.yield l]:=(tc yb om om).trans ((aH (q4 yb Pyb)).trans cy)
  have oZ1:cont hZ h.next=some [path]:=(zc _ om om).trans o1
  have oZ3:cont hZ hC.next=some [.int .i64 z]:=(zc _ om om).trans o3
  have fT:cont hT hh.next=some c' :=(aF gT om).trans fZ
  have wY:cont hY wb=some [.fn 83 [] [.ptr yb 0,.ptr wb 0]]:=(aF gY om).trans ((aH (q4 wb Pwb)).trans cw)
  have oY1:cont hY h.next=some [path]:=(aF gY om).trans o1
  have oY3:cont hY hC.next=some [.int .i64 z]:=(aF gY om).trans o3
  obtain ⟨S,hS⟩:∃S:Nat→Prop,S=FW (fun i=>P' i∨W i) hh hT:=⟨_,rfl⟩
  have IT:I (k+1+EU p n) S hT:=by
   rw [hS]
   refine (F.ki _).chg _ _ _ q3 ⟨by omega,fun i hi hn=> ?_⟩
   have:i≠hK.next+1:=fun e=>hn (.inr ((wW i).2 (.inr (.inr ⟨by omega,by omega⟩))))
   exact (gT.get i om).trans (zH i hi this)
  have sW:∀i,W i→S i:=fun i w=>by rw [hS];exact .inl (.inr w)
  have sP' :∀i,P' i→S i:=fun i w=>by rw [hS];exact .inl (.inl w)
  have bS:∀i,S i→i<hT.next:=by
   intro i w
   rw [hS] at w
   rcases w with (w|w)|w
   ·have:=hP' i w;omega
   ·rcases (wW i).1 w with w|w|w
    ·have:=hP i w;omega
    ·omega
    ·omega
   ·exact w.2
  obtain ⟨h3,r,⟨n4,e4⟩,k3,rT3,rD3⟩:=ih q hqm (.agg c') (.sl (.opn hZ.next (xs.length+1)) (xs++[.int .i64 z])) (xs++[.int .i64 z]) hrp (A9.kid hqm) (.sl _ _) (Qp hxs z) (by have:=tW hqm;simp;omega) l yb wb (k+1+EU p n) I D F S hT bS (sW _ ((wW _).2 (.inl Pyb))) (sW _ ((wW _).2 (.inl Pwb))) yT wT (by have:=UN hq;omega) IT
  have n3' :=k3.next
  have l3:h3.get (hK.next+1)=some (.loop ⟨.busy,none,83,ts,[17],xK,rU,hK.next⟩):=(k3.get _ (sW _ ((wW _).2 (.inr (.inr ⟨by omega,by omega⟩))))).trans ((gT.get _ om).trans zL)
  have FD:∀i,W i→i<hh.next→i≠hK.next+1→h3.get i=hh.get i:=fun i w h1 h2=>(k3.get i (sW i w)).trans ((gT.get i om).trans (zH i h1 h2))
  have mk3:h3.get hK.next=some (.deferred (some [])):=(FD _ ((wW _).2 (.inr (.inr ⟨by omega,by omega⟩))) om om).trans mk
  have r3:cont h3 (h.next+2)=some [.bool false]:=(aH (FD _ ((wW _).2 (.inr (.inl ⟨by omega,by omega⟩))) om om)).trans o2
  have i3:cont h3 hC.next=some [.int .i64 z]:=(aH (FD _ ((wW _).2 (.inr (.inr ⟨by omega,by omega⟩))) om om)).trans o3
  have pa3:cont h3 h.next=some [path]:=(aH (FD _ ((wW _).2 (.inr (.inl ⟨by omega,by omega⟩))) om om)).trans o1
  have P3:∀i,P i→h3.get i=h.get i:=fun i w=>(FD i ((wW _).2 (.inl w)) (by have:=hP i w;omega) (by have:=hP i w;omega)).trans (q4 i w)
  have P'3:∀i,P' i→h3.get i=hh.get i:=fun i w=>(k3.get i (sP' i w)).trans ((gT.get i (by have:=hP' i w;omega)).trans (zH i (hP' i w) (fun e=>np2 (by rw [←e];exact w))))
  have lo1:jG hY (hK.next+1)= .ok ⟨.ready,none,83,ts,[17],xK,rU,hK.next⟩:=by simp only [jG,lY]
  cases r with
  |true=>
   obtain ⟨h4,h4e⟩:∃x,x=h3.set hC.next (.cells [.int .i64 (IntKind.wrap .i64 (z+1))]):=⟨_,rfl⟩
   have n4' :h4.next=h3.next:=by rw [h4e];simp
   have o4:∀i,i≠hC.next→h4.get i=h3.get i:=fun i hi=>by rw [h4e];exact aE _ _ _ _ om hi
   have l4:h4.get (hK.next+1)=some (.loop ⟨.busy,none,83,ts,[17],xK,rU,hK.next⟩):=(o4 _ om).trans l3
   have lo2:jG h4 (hK.next+1)= .ok ⟨.busy,none,83,ts,[17],xK,rU,hK.next⟩:=by simp only [jG,l4]
   refine ⟨h4.set (hK.next+1) (.loop ⟨.ready,none,83,ts,[17],xK,rU,hK.next⟩),true,Ev.round lp rfl ⟨n4+4,fun m hm=> ?b2⟩,⟨by simp;omega,fun i w=> ?kp⟩,fun _=>⟨by simp;omega, ?m2,aQ _ _ _ om,np1,np2,q1,by simp;omega, ?I2,fun i w=> ?P2, ?O2⟩,fun w=>by cases w⟩
   case b2=>
    have e4' :=e4 m om
    have Xo :=fun h=>ecl h m om
    simp only [xK,rU] at lo1 hZe lo2
    have s4:∀x,kG h3 1 (.ptr hC.next 0) (.int .i64 x)= .ok (h3.set hC.next (.cells [.int .i64 x])):=fun x=>kS (gM i3) rfl rfl
    exact SS (dI @uI.eq_1 @iT.eq_1 @iT.eq_2 @xK.eq_1 @rU.eq_1 t3 t4 t6 t7 hst lo1 (Eq.symm hZe) wZ wY oZ1 oY1 (dI oZ3 oY3 fZ fY Xo apZ (Eq.symm hTe) wT fT p4 c4 pe e4' i3 s4 (Eq.symm h4e) (cj8 lo2 @aN.eq_1 @aN.eq_2 @aN.eq_3 @aN.eq_4 @aN.eq_5 @oV.eq_1 @endRound.eq_1)))
   case kp=>
    rw [aE _ _ _ _ om (fun e=>np2 (by rw [←e];exact w)),o4 i (by have:=q1 i w;omega)]
    exact P'3 i w
   case m2=>exact (aE _ _ _ _ om om).trans ((o4 _ om).trans mk3)
   case I2=>
    have Ia:=rT3 rfl
    rw [Nat.add_assoc,←Ii hq] at Ia
    refine (F.ki _).less _ _ _ ((F.ki _).chg _ _ (h4.set (hK.next+1) (.loop ⟨.ready,none,83,ts,[17],xK,rU,hK.next⟩)) Ia ⟨by simp;omega,fun i hi hn=> ?_⟩) (fun i w=> .inl (w.elim (sP' i) (sW i)))
    have h1:i≠hK.next+1:=fun e=>hn (sW i ((wW i).2 (.inr (.inr ⟨by omega,by omega⟩))))
    have h2:i≠hC.next:=fun e=>hn (sW i ((wW i).2 (.inr (.inr ⟨by omega,by omega⟩))))
    exact (aE _ _ _ _ om h1).trans (o4 i h2)
   case P2=>exact (aE _ _ _ _ om (by have:=hP i w;omega)).trans ((o4 i (by have:=hP i w;omega)).trans (P3 i w))
   case O2=>
    rw [It]
    exact ⟨(aK om om).trans ((aH (o4 _ om)).trans pa3),(aK om om).trans ((aH (o4 _ om)).trans r3),_,(aK om om).trans (by rw [h4e];exact aG om)⟩
  |false=>
   obtain ⟨h4,h4e⟩:∃x,x=h3.set (h.next+2) (.cells [.bool false]):=⟨_,rfl⟩
   have n4' :h4.next=h3.next:=by rw [h4e];simp
   have o4:∀i,i≠h.next+2→h4.get i=h3.get i:=fun i hi=>by rw [h4e];exact aE _ _ _ _ om hi
   have l4:h4.get (hK.next+1)=some (.loop ⟨.busy,none,83,ts,[17],xK,rU,hK.next⟩):=(o4 _ om).trans l3
   have lo2:jG h4 (hK.next+1)= .ok ⟨.busy,none,83,ts,[17],xK,rU,hK.next⟩:=by simp only [jG,l4]
   refine ⟨h4.set (hK.next+1) (.loop ⟨.done,some .ret,83,ts,[17],xK,rU,hK.next⟩),false,Ev.round lp rfl ⟨n4+4,fun m hm=> ?b3⟩,⟨by simp;omega,fun i w=> ?kp3⟩,fun w=>(by cases w),fun _=>⟨by simp;omega, ?m3,aQ _ _ _ om,np1,np2,q1,by simp;omega, ?I3,fun i w=> ?P3, ?O3⟩⟩
   case b3=>
    have e4' :=e4 m om
    have Xo :=fun h=>ecl h m om
    simp only [xK,rU] at lo1 hZe lo2
    have s4:∀x,kG h3 1 (.ptr (h.next+2) 0) (.bool x)= .ok (h3.set (h.next+2) (.cells [.bool x])):=fun x=>kS (gM r3) rfl rfl
    exact SS (dI @uI.eq_1 @iT.eq_1 @iT.eq_2 @xK.eq_1 @rU.eq_1 t3 t4 t6 t7 hst lo1 (Eq.symm hZe) wZ wY oZ1 oY1 (dI oZ3 oY3 fZ fY Xo apZ (Eq.symm hTe) wT fT p4 c4 pe e4' s4 (Eq.symm h4e) lo2 (cj7 @aN.eq_1 @aN.eq_2 @aN.eq_3 @aN.eq_4 @aN.eq_5 @oV.eq_1 @endRound.eq_1)))
   case kp3=>
    rw [aE _ _ _ _ om (fun e=>np2 (by rw [←e];exact w)),o4 i (by have:=q1 i w;omega)]
    exact P'3 i w
   case m3=>exact (aE _ _ _ _ om om).trans ((o4 _ om).trans mk3)
   case I3=>
    refine F.kd.less _ _ _ (F.kd.chg _ _ (h4.set (hK.next+1) (.loop ⟨.done,some .ret,83,ts,[17],xK,rU,hK.next⟩)) (rD3 rfl) ⟨by simp;omega,fun i hi hn=> ?_⟩) (fun i w=> .inl (w.elim (sP' i) (sW i)))
    have h1:i≠hK.next+1:=fun e=>hn (sW i ((wW i).2 (.inr (.inr ⟨by omega,by omega⟩))))
    have h2:i≠h.next+2:=fun e=>hn (sW i ((wW i).2 (.inr (.inl ⟨by omega,by omega⟩))))
    exact (aE _ _ _ _ om h1).trans (o4 i h2)
   case P3=>exact (aE _ _ _ _ om (by have:=hP i w;omega)).trans ((o4 i (by have:=hP i w;omega)).trans (P3 i w))
   case O3=>
    rw [OU]
    exact (aK om om).trans (by rw [h4e];exact aG om)
 obtain ⟨h5,e,⟨n5,e5⟩,le5,mk5,hE⟩:=RR
 have Y4:∀i,P i→W i:=fun i w=>(wW i).2 (.inl w)
 rcases hE with ⟨rfl,q1,q2,q3,q4,q5⟩|⟨rfl,q1,q2,q3,q4,q5⟩
 ·rw [It] at q5
  obtain ⟨o1,o2,z,o3⟩:=q5
  obtain ⟨h6,h6e⟩:∃x,x=h5.set (h.next+2) (.cells [.bool true]):=⟨_,rfl⟩
  have n6:h6.next=h5.next:=by rw [h6e];simp
  have mk6:h6.get hK.next=some (.deferred (some [])):=by rw [h6e];exact (aE _ _ _ _ om om).trans mk5
  have r6:cont h6 (h.next+2)=some [.bool true]:=by rw [h6e];exact aG om
  refine ⟨h6.set hK.next (.deferred none),true,Ev.A0 H.f83 H.o83 ⟨n2+n3+n5+2,fun m hm=> ?b4⟩,⟨by simp;omega,fun i w=> ?k4⟩,fun _=> ?I4,fun w=>by cases w⟩
  case b4=>
   have e1' :=e1 m om
   have e2' :=e2 m om
   have e3' :=e3 m om
   have e5' :=e5 m om
   rw [hts] at e5'
   simp only [xK,rU] at e5'
   exact SX (dI @a83.eq_1 ic1 ic2 ic3 pe pce (Eq.symm hAe) ay by_ a0 a1 b1 e1' p29 e2' (Eq.symm hDe) (cj8 c1 d1 e3' e5' o2 (Eq.symm h6e) mk6 r6))
  case k4=>
   have hi:=hP i w
   rw [aE _ _ _ _ om om,h6e,aE _ _ _ _ om om]
   exact q4 i w
  case I4=>
   have e:k+1+EU p ys.length=k+Cz p:=by have:=Kz p;rw [hyl];omega
   have q3' :=q3
   simp only [e] at q3'
   refine (F.ki _).less _ _ _ ((F.ki _).chg _ _ (h6.set hK.next (.deferred none)) q3' ⟨by simp;omega,fun i hi hn=> ?_⟩) (fun i w=> .inl (.inr (Y4 i w)))
   have h1:i≠hK.next:=fun e=>hn (.inr ((wW i).2 (.inr (.inr ⟨by omega,by omega⟩))))
   have h2:i≠h.next+2:=fun e=>hn (.inr ((wW i).2 (.inr (.inl ⟨by omega,by omega⟩))))
   rw [aE _ _ _ _ om h1,h6e,aE _ _ _ _ om h2]
 ·rw [OU] at q5
  refine ⟨h5.set hK.next (.deferred none),false,Ev.A0 H.f83 H.o83 ⟨n2+n3+n5+2,fun m hm=> ?b5⟩,⟨by simp;omega,fun i w=> ?k5⟩,fun w=>(by cases w),fun _=> ?I5⟩
  case b5=>
   have e1' :=e1 m om
   have e2' :=e2 m om
   have e3' :=e3 m om
   have e5' :=e5 m om
   rw [hts] at e5'
   simp only [xK,rU] at e5'
   exact SX (dI @a83.eq_1 ic1 ic2 ic3 pe pce (Eq.symm hAe) ay by_ a0 a1 b1 e1' p29 e2' (Eq.symm hDe) (cj6 c1 d1 e3' e5' q5 mk5))
  case k5=>
   have hi:=hP i w
   rw [aE _ _ _ _ om om]
   exact q4 i w
  case I5=>
   refine F.kd.less _ _ _ (F.kd.chg _ _ (h5.set hK.next (.deferred none)) q3 ⟨by simp,fun i hi hn=> ?_⟩) (fun i w=> .inl (.inr (Y4 i w)))
   have h1:i≠hK.next:=fun e=>hn (.inr ((wW i).2 (.inr (.inr ⟨by omega,by omega⟩))))
   rw [aE _ _ _ _ om h1]
end Go.Ly
namespace Go.Ly
open Go Go.Am Go.Fs Go.Gn
variable {fns:Go.Am.F} {orc:Orc}
theorem Jd (H:Has fns orc) {p:Part} {pc:List AV} (hv:RP p (.agg pc)) (A9:Valid p) (hn:p.nodes<10000000) {pb:Nat} {P:Nat→Prop} {h0:aD} (hP:P pb) (hg:cont h0 pb=some pc):
  EK fns orc 82 [.ptr pb 0] XH (Cz p) P h0:=by
 intro h l I D hk hlt F hI
 have pl:pc.length=29:=by obtain ⟨c,e,q,_⟩:=sK hv;cases e;exact q
 have p29:takeN 29 pc=some pc:=by rw [←pl];exact aW pc
 have hpb:=hlt pb hP
 have cp:cont h pb=some pc:=(aH (hk.get pb hP)).trans hg
 obtain ⟨hA,hAe⟩:∃x,x=((h.push (.cells [.yield l])).push (.cells [.rM])).set (h.next+1) (.cells [.fn 83 [] [.ptr h.next 0,.ptr (h.next+1) 0]]):=⟨_,rfl⟩
 have gA:aP h hA:=by rw [hAe];exact gw2
 have nA:hA.next=h.next+2:=by rw [hAe];simp
 have a0:cont hA h.next=some [.yield l]:=by rw [hAe];simp (disch:=(first|omega|(simp only [aD.aJ,aD.aL];try omega)|skip)) only [aG,aK,aR,dB,aD.aJ,aD.aL]
 have a1:cont hA (h.next+1)=some [.fn 83 [] [.ptr h.next 0,.ptr (h.next+1) 0]]:=by rw [hAe];simp (disch:=(first|omega|(simp only [aD.aJ,aD.aL];try omega)|skip)) only [aG,aK,aR,dB,aD.aJ,aD.aL]
 have ap:=(aF gA hpb).trans cp
 obtain ⟨h',r,⟨n,e⟩,kk,rT,rD⟩:=Ur H p (.agg pc) .aC [] hv A9 .nil (fun x hx=>by cases hx) (by simpa using hn) l h.next (h.next+1) 0 I D F (FW P h hA) hA (fun i q=>by
  rcases q with q|q
  ·have:=hlt i q;omega
  ·exact q.2) (.inr ⟨by omega,by omega⟩) (.inr ⟨by omega,by omega⟩) a0 a1 (by have:=Vv p;omega) ((F.ki 0).chg _ _ _ hI (fV gA))
 refine ⟨h',Ev.call H.f82 H.o82 ⟨n,fun m hm=> ?b⟩,⟨by have:=kk.next;omega,fun i q=>(kk.get i (.inl q)).trans (gA.get i (hlt i q))⟩, ?r⟩
 case b=>
  have e' :=e m hm
  exact SX (cj6 @a82.eq_1 (Eq.symm hAe) a1 ap p29 e')
 case r=>
  cases r with
  |true=>have q:=rT rfl;rw [Nat.zero_add] at q;exact .inl ((F.ki _).less _ _ _ q (fun i q=> .inl q))
  |false=>exact .inr (F.kd.less _ _ _ (rD rfl) (fun i q=> .inl q))
def sI:AC:=p52x11110100
def mL:AC:=p52x11110101
def Uf (xs:List AV):Prop:=∀x∈xs,∃(k:Int) (s:List UInt8) (z:Int),x= .agg [.int .i64 k,.str s,.int .i64 z]
theorem Uf.wide {xs:List AV} (h:Uf xs):Ab 3 xs:=fun x hx=>by obtain ⟨k,s,z,rfl⟩:=h x hx;rfl
theorem Uf.eq {xs:List AV} (h:Uf xs):kQ xs xs=true:=by
 induction xs with
 |nil=>exact iX
 |cons x xs ih=>
  obtain ⟨k,s,z,rfl⟩:=h x (by simp)
  rw [eM,jJ,eM,eM,eM,iX,dD,dD,eD,ih (fun y hy=>h y (List.mem_cons_of_mem _ hy))]
  rfl
theorem XG {h:aD} {l:AV} {xs:List AV} (a:Acc h l xs) (e:kQ xs xs=true):dX l l=true:=by
 cases a with
 |nil=>exact bM
 |opn t xs ht hp=>simp [dX,vN,e]
def SlC (ob nb:Nat) (n:Nat) (Fp:Nat→Prop) (hh:aD):Prop:=(∃lv xs,cont hh ob=some [lv]∧Acc hh lv xs∧(∀t,jK lv=some t→Fp t)∧xs.length≤n∧Uf xs)∧∃z,cont hh nb=some [.int .i64 z]
theorem Kk {h:aD} {ob nb:Nat} {ts:fN} {P:Nat→Prop} (hob:ob<h.next∧¬P ob) (hnb:nb<h.next∧¬P nb) (hne:ob≠nb) (hP:∀i,P i→i<h.next) (t5:cH ts 5= .ptr ob 0) (t6:cH ts 6= .ptr nb 0):
  EN fns orc h ⟨.ready,none,52,ts,[17,18],sI,mL,h.next⟩ P (fun i=>i=ob∨i=nb) XH (SlC ob nb) (fun _ _=>False):=by
 rintro n x ⟨hn,path,v,q,rfl,hrp,Vf⟩ hh Fp o hF ⟨⟨lv,xs,c1,ac,tk,hl,wd⟩,z,c2⟩
 have ho:=o.le
 obtain ⟨c',rfl,E8,Nq⟩:=sK hrp
 have hst:=mW hh (z:=z29) (sz:=29) rfl E8 Nq
 obtain ⟨hY,hYe⟩:∃x,x=(hh.push (.cells z29)).set hh.next (.cells c'):=⟨_,rfl⟩
 rw [←hYe,vR] at hst
 have gY:aP hh hY:=by rw [hYe];exact gw2
 have nY:hY.next=hh.next+1:=by rw [hYe];simp
 have cY:cont hY hh.next=some c' :=by rw [hYe];exact aG (by simp)
 have lY:hY.get (h.next+1)=some (.loop ⟨.ready,none,52,ts,[17,18],sI,mL,h.next⟩):=(gY.get _ om).trans o.loop
 obtain ⟨hZ,hZe⟩:∃x,x=hY.set (h.next+1) (.loop ⟨.busy,none,52,ts,[17,18],sI,mL,h.next⟩):=⟨_,rfl⟩
 have nZ:hZ.next=hh.next+1:=by rw [hZe];simp [nY]
 have zY:∀i,i≠h.next+1→hZ.get i=hY.get i:=fun i hi=>by rw [hZe];exact aE _ _ _ _ om hi
 have zH:∀i,i<hh.next→i≠h.next+1→hZ.get i=hh.get i:=fun i h1 h2=>(zY i h2).trans (gY.get i h1)
 have zL:hZ.get (h.next+1)=some (.loop ⟨.busy,none,52,ts,[17,18],sI,mL,h.next⟩):=by rw [hZe];exact aQ _ _ _ om
 have cZ:cont hZ hh.next=some c' :=(aH (zY _ om)).trans cY
 have lo1:jG hY (h.next+1)= .ok ⟨.ready,none,52,ts,[17,18],sI,mL,h.next⟩:=by simp only [jG,lY]
 have obZ:cont hZ ob=some [lv]:=(aH (zH ob om om)).trans c1
 have obY:cont hY ob=some [lv]:=(aF gY om).trans c1
 have nbZ:cont hZ nb=some [.int .i64 z]:=(aH (zH nb om om)).trans c2
 have nbY:cont hY nb=some [.int .i64 z]:=(aF gY om).trans c2
 have acZ:Acc hZ lv xs:=C9 ac (fun t w=>zH t (hF t (tk t w)).2 (by have:=(hF t (tk t w)).1;omega))
 obtain ⟨Lg,Lf⟩:=By ac
 have lve:∀t,jK lv=some t→hh.next>t∧h.next+2≤t:=fun t w=>⟨(hF t (tk t w)).2,(hF t (tk t w)).1⟩
 obtain ⟨hN,hNe⟩:∃x,x=hZ.set nb (.cells [.int .i64 (IntKind.wrap .i64 (z+1))]):=⟨_,rfl⟩
 have nN:hN.next=hZ.next:=by rw [hNe];simp
 have oN:∀i,i≠nb→hN.get i=hZ.get i:=fun i hi=>by rw [hNe];exact aE _ _ _ _ om hi
 have lo2:jG hN (h.next+1)= .ok ⟨.busy,none,52,ts,[17,18],sI,mL,h.next⟩:=by simp only [jG,(oN _ om).trans zL]
 have Tp:Ev fns orc (.round (h.next+1) [path,.agg c'] hh) (.call (.ret (.bool true)) .plain (hN.set (h.next+1) (.loop ⟨.ready,none,52,ts,[17,18],sI,mL,h.next⟩)))→
   ∃b h' Fp',Ev fns orc (.round (h.next+1) [path,.agg c'] hh) (.call (.ret (.bool b)) .plain h')∧hh.next≤h'.next∧
    (∀i,i<hh.next→¬Fp i→¬(i=ob∨i=nb)→i≠h.next+1→h'.get i=hh.get i)∧(∀i,Fp' i→i<h'.next∧(Fp i∨hh.next≤i))∧
    (b=true→SlC ob nb (n+1) Fp' h' ∧h'.get (h.next+1)=some (.loop ⟨.ready,none,52,ts,[17,18],sI,mL,h.next⟩))∧(b=false→False∧h'.get (h.next+1)=some (.loop ⟨.done,some .ret,52,ts,[17,18],sI,mL,h.next⟩)):=by
  intro ev
  refine ⟨true,_,Fp,ev,by simp;omega,fun i h1 h2 h3 h4=> ?_,fun i w=>⟨by have:=(hF i w).2;simp;omega,.inl w⟩,fun _=>⟨⟨⟨lv,xs, ?_,C9 acZ fun t w=> ?_,tk,by omega,wd⟩,IntKind.wrap .i64 (z+1), ?_⟩,aQ _ _ _ om⟩,fun w=>by cases w⟩
  ·rw [aE _ _ _ _ om h4,oN i (fun e=>h3 (.inr e))];exact zH i h1 h4
  ·rw [aK om om,hNe,aK om hne];exact obZ
  ·have:=lve t w
   rw [aE _ _ _ _ om om,oN t om]
  ·rw [aK om om,hNe];exact aG om
 have XF:∀(kd:Int) (s:List UInt8),∃l2 h2,mT hZ 3 lv (.sl .full [.agg [.int .i64 kd,.str s,.int .i64 z]])= .ok (l2,h2)∧Acc h2 l2 (xs++[.agg [.int .i64 kd,.str s,.int .i64 z]])∧Aj (jK lv) hZ h2∧(∀t,jK l2=some t→jK lv=some t∨hZ.next≤t):=fun kd s=>
  sG acZ (n:=3) om wd.wide rfl om
 have Xm:∀(kd:Int) (s:List UInt8) l2 h2 hM,mT hZ 3 lv (.sl .full [.agg [.int .i64 kd,.str s,.int .i64 z]])= .ok (l2,h2)→Acc h2 l2 (xs++[.agg [.int .i64 kd,.str s,.int .i64 z]])→Aj (jK lv) hZ h2→(∀t,jK l2=some t→jK lv=some t∨hZ.next≤t)→
   hM=(h2.set ob (.cells [l2])).set nb (.cells [.int .i64 (IntKind.wrap .i64 (z+1))])→
   (jG hM (h.next+1)= .ok ⟨.busy,none,52,ts,[17,18],sI,mL,h.next⟩→cont h2 ob=some [lv]→cont (h2.set ob (.cells [l2])) nb=some [.int .i64 z]→nb<h2.next→ob<h2.next→l2.bX=true→l2.cells=[l2]→Ev fns orc (.round (h.next+1) [path,.agg c'] hh) (.call (.ret (.bool true)) .plain (hM.set (h.next+1) (.loop ⟨.ready,none,52,ts,[17,18],sI,mL,h.next⟩))))→
   ∃b h' Fp',Ev fns orc (.round (h.next+1) [path,.agg c'] hh) (.call (.ret (.bool b)) .plain h')∧hh.next≤h'.next∧
    (∀i,i<hh.next→¬Fp i→¬(i=ob∨i=nb)→i≠h.next+1→h'.get i=hh.get i)∧(∀i,Fp' i→i<h'.next∧(Fp i∨hh.next≤i))∧
    (b=true→SlC ob nb (n+1) Fp' h' ∧h'.get (h.next+1)=some (.loop ⟨.ready,none,52,ts,[17,18],sI,mL,h.next⟩))∧(b=false→False∧h'.get (h.next+1)=some (.loop ⟨.done,some .ret,52,ts,[17,18],sI,mL,h.next⟩)):=by
  intro kd s l2 h2 hM ap a2 g2 tk2 hMe ev
  have n2:=g2.next
  have nM:hM.next=h2.next:=by rw [hMe];simp
  have ntk:∀i,i<hh.next→¬Fp i→jK lv≠some i:=fun i _ hf e=>hf (tk i e)
  have nl:jK lv≠some (h.next+1):=fun e=>by have:=lve _ e;omega
  have nb' :jK lv≠some nb:=fun e=>by have:=lve _ e;omega
  have nob:jK lv≠some ob:=fun e=>by have:=lve _ e;omega
  have oM:∀i,i≠ob→i≠nb→hM.get i=h2.get i:=fun i h1 h2' =>by rw [hMe,aE _ _ _ _ (by simp;omega) h2',aE _ _ _ _ om h1]
  have lM:hM.get (h.next+1)=some (.loop ⟨.busy,none,52,ts,[17,18],sI,mL,h.next⟩):=(oM _ om om).trans ((g2.get _ om nl).trans zL)
  have ev' :=ev (by simp only [jG,lM]) ((aH (g2.get ob om nob)).trans obZ) (by rw [aK om (fun e=>hne e.symm)];exact (aH (g2.get nb om nb')).trans nbZ) om om (By a2).1 (By a2).2
  refine ⟨true,_,fun i=>jK l2=some i,ev',by simp;omega,fun i h1 hf h3 h4=> ?_,fun i w=>⟨?_, ?_⟩,fun _=>⟨⟨⟨l2,_, ?_,C9 a2 fun t w=> ?_,fun t w=>w,by simp;omega,fun x hx=> ?_⟩,IntKind.wrap .i64 (z+1), ?_⟩,aQ _ _ _ om⟩,fun w=>by cases w⟩
  ·rw [aE _ _ _ _ om h4,oM i (fun e=>h3 (.inl e)) (fun e=>h3 (.inr e)),g2.get i om (ntk i h1 hf)]
   exact zH i h1 h4
  ·have:=Gf a2 w;simp;omega
  ·rcases tk2 i w with w|w
   ·exact .inl (tk i w)
   ·exact .inr om
  ·rw [aK om om,hMe,aK (by simp;omega) hne];exact aG om
  ·have:t≠h.next+1∧t≠ob∧t≠nb:=by
    rcases tk2 t w with w|w
    ·have:=lve t w;omega
    ·omega
   rw [aE _ _ _ _ om this.1,oM t this.2.1 this.2.2]
  ·rcases List.mem_append.1 hx with w|w
   ·exact wd x w
   ·rw [List.mem_singleton.1 w];exact ⟨_,_,_,rfl⟩
  ·rw [aK om om,hMe];exact aG (by simp;omega)
 have Ld:=XG ac wd.eq
 have sN:∀x,kG hZ 1 (.ptr nb 0) (.int .i64 x)= .ok (hZ.set nb (.cells [.int .i64 x])):=fun x=>kS (gM nbZ) rfl rfl
 obtain ⟨c,hr,hce⟩:=hrp
 injection hce with hce
 subst hce
 cases hr with
 |exp h1 h2=>
  refine Tp (Ev.round o.loop rfl ⟨0,fun m hm=> ?n1⟩)
  simp only [aX] at cZ cY
  simp only [sI,mL] at lo1 hZe lo2
  exact SS (dI @uI.eq_1 @iT.eq_1 @iT.eq_2 @sI.eq_1 @mL.eq_1 t5 t6 hst lo1 (Eq.symm hZe) cZ cY obZ obY nbZ nbY (dI Lg Lf Ld @pY.eq_1 @kD.eq_1 @kF.eq_1 @pX.eq_1 @lG.eq_1 sN (Eq.symm hNe) lo2 @aN.eq_1 @aN.eq_2 @aN.eq_3 @aN.eq_4 @aN.eq_5 (cj2 @oV.eq_1 @endRound.eq_1)))
 |case h1 h2=>
  refine Tp (Ev.round o.loop rfl ⟨0,fun m hm=> ?n2⟩)
  simp only [aX] at cZ cY
  simp only [sI,mL] at lo1 hZe lo2
  exact SS (dI @uI.eq_1 @iT.eq_1 @iT.eq_2 @sI.eq_1 @mL.eq_1 t5 t6 hst lo1 (Eq.symm hZe) cZ cY obZ obY nbZ nbY (dI Lg Lf Ld @pY.eq_1 @kD.eq_1 @kF.eq_1 @pX.eq_1 @lG.eq_1 sN (Eq.symm hNe) lo2 @aN.eq_1 @aN.eq_2 @aN.eq_3 @aN.eq_4 @aN.eq_5 (cj2 @oV.eq_1 @endRound.eq_1)))
 | @desc s p d e bd i x vp vd ve vi vx h1 h2 h3 h4 h5=>
  cases hb:jI s [] with
  |true=>
   refine Tp (Ev.round o.loop rfl ⟨0,fun m hm=> ?n3⟩)
   simp only [aX] at cZ cY
   simp only [sI,mL] at lo1 hZe lo2
   exact SS (dI @uI.eq_1 @iT.eq_1 @iT.eq_2 @sI.eq_1 @mL.eq_1 t5 t6 hst lo1 (Eq.symm hZe) cZ cY obZ obY nbZ nbY (dI Lg Lf Ld @pY.eq_1 @kD.eq_1 @kF.eq_1 @pX.eq_1 @lG.eq_1 hb sN (Eq.symm hNe) lo2 @aN.eq_1 @aN.eq_2 @aN.eq_3 @aN.eq_4 (cj3 @aN.eq_5 @oV.eq_1 @endRound.eq_1)))
  |false=>
   obtain ⟨l2,h2,ap,a2,g2,tk2⟩:=XF 3 s
   obtain ⟨hM,hMe⟩:∃x,x=(h2.set ob (.cells [l2])).set nb (.cells [.int .i64 (IntKind.wrap .i64 (z+1))]):=⟨_,rfl⟩
   refine Xm 3 s l2 h2 hM ap a2 g2 tk2 hMe (fun lo2 cO cN lN lO l2a l2b=>Ev.round o.loop rfl ⟨0,fun m hm=> ?p4⟩)
   have sO:kG h2 1 (.ptr ob 0) l2= .ok (h2.set ob (.cells [l2])):=kS (gM cO) l2b l2a
   have sM:∀x,kG (h2.set ob (.cells [l2])) 1 (.ptr nb 0) (.int .i64 x)= .ok ((h2.set ob (.cells [l2])).set nb (.cells [.int .i64 x])):=fun x=>kS (gM cN) rfl rfl
   simp only [aX] at cZ cY
   simp only [sI,mL] at lo1 hZe lo2
   exact SS (dI @uI.eq_1 @iT.eq_1 @iT.eq_2 @sI.eq_1 @mL.eq_1 t5 t6 hst lo1 (Eq.symm hZe) cZ cY obZ obY nbZ nbY (dI Lg Lf Ld @pY.eq_1 @kD.eq_1 @kF.eq_1 @pX.eq_1 @lG.eq_1 hb ap sO cN sM (Eq.symm hMe) lo2 @aN.eq_1 (cj6 @aN.eq_2 @aN.eq_3 @aN.eq_4 @aN.eq_5 @oV.eq_1 @endRound.eq_1)))
 | @imp ik nm e c b i ve vc vi h1 h2 h3=>
  by_cases ck:ik=13
  ·have dk:=dT ck
   obtain ⟨l2,h2,ap,a2,g2,tk2⟩:=XF 2 nm
   obtain ⟨hM,hMe⟩:∃x,x=(h2.set ob (.cells [l2])).set nb (.cells [.int .i64 (IntKind.wrap .i64 (z+1))]):=⟨_,rfl⟩
   refine Xm 2 nm l2 h2 hM ap a2 g2 tk2 hMe (fun lo2 cO cN lN lO l2a l2b=>Ev.round o.loop rfl ⟨0,fun m hm=> ?p5⟩)
   have sO:kG h2 1 (.ptr ob 0) l2= .ok (h2.set ob (.cells [l2])):=kS (gM cO) l2b l2a
   have sM:∀x,kG (h2.set ob (.cells [l2])) 1 (.ptr nb 0) (.int .i64 x)= .ok ((h2.set ob (.cells [l2])).set nb (.cells [.int .i64 x])):=fun x=>kS (gM cN) rfl rfl
   simp only [aX] at cZ cY
   simp only [sI,mL] at lo1 hZe lo2
   exact SS (dI @uI.eq_1 @iT.eq_1 @iT.eq_2 @sI.eq_1 @mL.eq_1 t5 t6 hst lo1 (Eq.symm hZe) cZ cY obZ obY nbZ nbY (dI Lg Lf Ld @pY.eq_1 @kD.eq_1 @kF.eq_1 @pX.eq_1 @lG.eq_1 dk ap sO cN sM (Eq.symm hMe) lo2 @aN.eq_1 (cj6 @aN.eq_2 @aN.eq_3 @aN.eq_4 @aN.eq_5 @oV.eq_1 @endRound.eq_1)))
  ·have dk:=dF ck
   refine Tp (Ev.round o.loop rfl ⟨0,fun m hm=> ?n6⟩)
   simp only [aX] at cZ cY
   simp only [sI,mL] at lo1 hZe lo2
   exact SS (dI @uI.eq_1 @iT.eq_1 @iT.eq_2 @sI.eq_1 @mL.eq_1 t5 t6 hst lo1 (Eq.symm hZe) cZ cY obZ obY nbZ nbY (dI Lg Lf Ld @pY.eq_1 @kD.eq_1 @kF.eq_1 @pX.eq_1 @lG.eq_1 dk sN (Eq.symm hNe) lo2 @aN.eq_1 @aN.eq_2 @aN.eq_3 @aN.eq_4 (cj3 @aN.eq_5 @oV.eq_1 @endRound.eq_1)))
 | @decl dk0 nms s p d vn vs vp vd h0 h1 h2 h3=>
  by_cases ck:dk0=10
  ·have dk:=dT ck
   have Yo:nms≠[]:=Vf.some
   obtain ⟨n0,nr,rfl⟩:∃a r,nms=a::r:=by cases nms with|nil=>exact absurd rfl Yo|cons a r=>exact ⟨a,r,rfl⟩
   have f1:pT 1 vn (.int .i64 0)= .ok (.ep [.str n0] 0):=oX (i:=0) h0 rfl rfl
   have veq:=vC h0
   obtain ⟨l2,h2,ap,a2,g2,tk2⟩:=XF 1 n0
   obtain ⟨hM,hMe⟩:∃x,x=(h2.set ob (.cells [l2])).set nb (.cells [.int .i64 (IntKind.wrap .i64 (z+1))]):=⟨_,rfl⟩
   refine Xm 1 n0 l2 h2 hM ap a2 g2 tk2 hMe (fun lo2 cO cN lN lO l2a l2b=>Ev.round o.loop rfl ⟨0,fun m hm=> ?p7⟩)
   have sO:kG h2 1 (.ptr ob 0) l2= .ok (h2.set ob (.cells [l2])):=kS (gM cO) l2b l2a
   have sM:∀x,kG (h2.set ob (.cells [l2])) 1 (.ptr nb 0) (.int .i64 x)= .ok ((h2.set ob (.cells [l2])).set nb (.cells [.int .i64 x])):=fun x=>kS (gM cN) rfl rfl
   simp only [aX] at cZ cY
   simp only [sI,mL] at lo1 hZe lo2
   exact SS (dI @uI.eq_1 @iT.eq_1 @iT.eq_2 @sI.eq_1 @mL.eq_1 t5 t6 hst lo1 (Eq.symm hZe) cZ cY obZ obY nbZ nbY (dI Lg Lf Ld @pY.eq_1 @kD.eq_1 @kF.eq_1 @pX.eq_1 @lG.eq_1 dk f1 veq @fO ap sO cN sM (cj9 (Eq.symm hMe) lo2 @aN.eq_1 @aN.eq_2 @aN.eq_3 @aN.eq_4 @aN.eq_5 @oV.eq_1 @endRound.eq_1)))
  ·have dk:=dF ck
   refine Tp (Ev.round o.loop rfl ⟨0,fun m hm=> ?n8⟩)
   simp only [aX] at cZ cY
   simp only [sI,mL] at lo1 hZe lo2
   exact SS (dI @uI.eq_1 @iT.eq_1 @iT.eq_2 @sI.eq_1 @mL.eq_1 t5 t6 hst lo1 (Eq.symm hZe) cZ cY obZ obY nbZ nbY (dI Lg Lf Ld @pY.eq_1 @kD.eq_1 @kF.eq_1 @pX.eq_1 @lG.eq_1 dk sN (Eq.symm hNe) lo2 @aN.eq_1 @aN.eq_2 @aN.eq_3 @aN.eq_4 (cj3 @aN.eq_5 @oV.eq_1 @endRound.eq_1)))
end Go.Ly
namespace Go.Ly
open Go Go.Am Go.Fs Go.Gn
variable {fns:Go.Am.F} {orc:Orc}
theorem MQ (H:Has fns orc) {pc:List AV} (hl:pc.length=29) (h:aD) (m:Nat) (hm:2≤m):eval fns orc m (.call 73 [.agg pc] .plain h)= .ok (.call (.ret (.fn 82 [] [.ptr h.next 0])) .plain (h.push (.cells pc))):=
 fW (n:=0) H.f73 H.o73 (fun m _=>by
  exact SX @a73.eq_1) m hm
theorem Ro (H:Has fns orc) (N:vX fns orc) {d:pD} {c:List AV} (hv:RV (.desc d) (.agg c)) (hs:wP (.desc d)) (hn:(Part.desc d).nodes<10000000) (h:aD):
  ∃h' lv xs e,aP h h' ∧Ev fns orc (.call 52 [.agg c] .plain h) (.call (.ret (.tup [lv,.int .i64 e])) .plain h')∧iP lv xs∧0≤e∧e≤2∧(e=0→Valid (.desc d)):=by
 have hcl:=kW hv
 have p7:takeN 7 c=some c:=by rw [←hcl];exact aW c
 obtain ⟨hA,hAe⟩:∃x,x=h.push (.cells c):=⟨_,rfl⟩
 have gA:aP h hA:=by rw [hAe];exact gw2
 have nA:hA.next=h.next+1:=by rw [hAe];simp
 have xA:cont hA h.next=some c:=by rw [hAe];exact aR om om
 obtain ⟨hB,e,gAB,⟨n1,e1⟩,r1,r2,r3⟩:=Mo H N hv hs hn hA
 have gB:=gA.trans gAB
 have nB:=gAB.next
 have xB:=(aF gAB (by omega:h.next<hA.next)).trans xA
 by_cases ce:e=0
 case neg=>
  have de:=dF ce
  refine ⟨hB,.aC,[],e,gB,Ev.A0 H.f52 H.o52 ⟨n1,fun m hm=> ?b1⟩,.nil,r1,r2,fun q=>absurd q ce⟩
  have e1' :=e1 m hm
  exact SX (cj6 @a52.eq_1 (Eq.symm hAe) xA p7 e1' de)
 have de:=dT ce
 have A9:=r3 ce
 obtain ⟨hC,hCe⟩:∃x,x=((hB.push (.cells [.aC])).push (.cells [.int .i64 0])).set (hB.next+1) (.cells [.int .i64 0]):=⟨_,rfl⟩
 have gC:aP hB hC:=by rw [hCe];exact gw2
 have nC:hC.next=hB.next+2:=by rw [hCe];simp
 have o1:cont hC hB.next=some [.aC]:=by rw [hCe];simp (disch:=(first|omega|(simp only [aD.aJ,aD.aL];try omega)|skip)) only [aG,aK,aR,dB,aD.aJ,aD.aL]
 have o2:cont hC (hB.next+1)=some [.int .i64 0]:=by rw [hCe];simp (disch:=(first|omega|(simp only [aD.aJ,aD.aL];try omega)|skip)) only [aG,aK,aR,dB,aD.aJ,aD.aL]
 have xC:=(aF gC (by omega:h.next<hB.next)).trans xB
 obtain ⟨hD,gD,n2,e2⟩:=Bl H hv hC
 have nD:=gD.next
 have hrp:RP (.desc d) (.agg (aX (.desc d) c)):=⟨c,hv,rfl⟩
 obtain ⟨pc,hpc⟩:∃pc,pc=aX (.desc d) c:=⟨_,rfl⟩
 rw [←hpc] at e2 hrp
 have pl:pc.length=29:=by rw [hpc];exact jD hv
 obtain ⟨hL,hLe⟩:∃x,x=hD.push (.cells pc):=⟨_,rfl⟩
 have gL:aP hD hL:=by rw [hLe];exact .push _ _
 have nL:hL.next=hD.next+1:=by rw [hLe];simp
 have cL:cont hL hD.next=some pc:=by rw [hLe];exact aR om om
 have l1:=(aF gL (by omega:hB.next<hD.next)).trans ((aF gD (by omega:hB.next<hC.next)).trans o1)
 have l2:=(aF gL (by omega:hB.next+1<hD.next)).trans ((aF gD (by omega:hB.next+1<hC.next)).trans o2)
 obtain ⟨ts,hts⟩:∃ts:fN,ts=[(2,.aC),(3,.int .i64 0),(5,.ptr hB.next 0),(6,.ptr (hB.next+1) 0),(16,.fn 82 [] [.ptr hD.next 0]),(18,.unk)]:=⟨_,rfl⟩
 have YL:=Jd H hrp A9 hn (pb:=hD.next) (P:=fun i=>i=hD.next) (h0:=hL) rfl cL
 have RR:=I1 (fns:=fns) (orc:=orc) (fn:=52) (f:= .t 16) (ps:=[17,18]) (asg:=sI) (body:=mL) (ts:=ts) (ds:=[]) (rc:= .plain) (h:=hL) (S:=fun i=>i=hB.next∨i=hB.next+1)
  (C:=SlC hB.next (hB.next+1)) (D:=fun _ _=>False) (by rw [hts];rfl) YL (fun i q=>by omega) (fun i q=>by omega) ?L (fun Fp a b h1 h2 q=>q) ?C0 (Kk ⟨by omega,by omega⟩ ⟨by omega,by omega⟩ om (fun i q=>by omega) (by rw [hts];rfl) (by rw [hts];rfl))
 case L=>
  intro n Fp a b hab hk ⟨⟨lv,xs,c1,ac,tk,q⟩,z,c2⟩
  exact ⟨⟨lv,xs,(aH (hk _ (aO c1) (.inr ⟨by omega,by omega⟩))).trans c1,C9 ac (fun t w=>hk t (Gf ac w) (.inl (tk t w))),tk,q⟩,z,(aH (hk _ (aO c2) (.inr ⟨by omega,by omega⟩))).trans c2⟩
 case C0=>
  have gl:=tJ hL ⟨.ready,none,52,ts,[17,18],sI,mL,hL.next⟩
  exact ⟨⟨.aC,[],(aF gl om).trans l1,.nil,fun t q=>(by cases q),Nat.zero_le _,fun x hx=>(by cases hx)⟩,0,(aF gl om).trans l2⟩
 obtain ⟨h5,x,⟨n5,e5⟩,le5,mk5,KN,hE⟩:=RR
 rcases hE with ⟨rfl,Fp,hF,⟨lv,xs,c1,ac,tk,hl,sl⟩,z,c2⟩|⟨rfl,_,_,q⟩
 case inr=>exact q.elim
 refine ⟨h5.set hL.next (.deferred none),lv,xs,0,⟨by simp;omega,fun i hi=> ?g⟩,Ev.A0 H.f52 H.o52 ⟨n1+n2+n5+2,fun m hm=> ?b⟩, ?s,by omega,by omega,fun _=>A9⟩
 case g=>
  rw [aE _ _ _ _ om om,KN i om om,gL.get i om,gD.get i om,gC.get i om,gB.get i hi]
 case s=>cases ac;exact .nil;exact .sl _ _
 case b=>
  have e1' :=e1 m om
  have e2' :=e2 m om
  have e3' :=MQ H pl hD m om
  have e5' :=e5 m om
  rw [hts] at e5'
  simp only [sI,mL] at e5'
  exact SX (zZ @a52.eq_1 (Eq.symm hAe) xA p7 e1' de (Eq.symm hCe) xC e2' e3' (Eq.symm hLe) e5' c1 mk5)
theorem ML (H:Has fns orc) (N:vX fns orc) {d:pD} {c:List AV} (hv:RV (.desc d) (.agg c)) (hs:wP (.desc d)) (hn:(Part.desc d).nodes<10000000) (h:aD):
  ∃h' e,aP h h' ∧Ev fns orc (.call 34 [.agg c] .plain h) (.call (.ret (.int .i64 e)) .plain h')∧(e=0→Valid (.desc d)):=by
 have hcl:=kW hv
 have p7:takeN 7 c=some c:=by rw [←hcl];exact aW c
 obtain ⟨hA,hAe⟩:∃x,x=h.push (.cells c):=⟨_,rfl⟩
 have gA:aP h hA:=by rw [hAe];exact gw2
 have xA:cont hA h.next=some c:=by rw [hAe];exact aR om om
 obtain ⟨hB,lv,xs,e,gAB,⟨n1,e1⟩,isl,r1,r2,r3⟩:=Ro H N hv hs hn hA
 have q:=bO isl
 by_cases ce:e=0
 ·have de:=dT ce
  by_cases cl:0<(xs.length:Int)
  ·have dl:=dT cl
   refine ⟨hB, ?e1,gA.trans gAB,Ev.call H.f34 H.o34 ⟨n1,fun m hm=> ?b1⟩,fun _=>r3 ce⟩
   case b1=>
    have e1' :=e1 m hm
    exact SX (cj8 @a34.eq_1 (Eq.symm hAe) xA p7 e1' de q dl)
  ·have dl:=dF cl
   refine ⟨hB,e,gA.trans gAB,Ev.call H.f34 H.o34 ⟨n1,fun m hm=> ?b2⟩,fun _=>r3 ce⟩
   case b2=>
    have e1' :=e1 m hm
    exact SX (cj8 @a34.eq_1 (Eq.symm hAe) xA p7 e1' de q dl)
 ·have de:=dF ce
  refine ⟨hB,e,gA.trans gAB,Ev.call H.f34 H.o34 ⟨n1,fun m hm=> ?b3⟩,fun w=>absurd w ce⟩
  case b3=>
   have e1' :=e1 m hm
   exact SX (cj7 @a34.eq_1 (Eq.symm hAe) xA p7 e1' de q)
end Go.Ly
end
