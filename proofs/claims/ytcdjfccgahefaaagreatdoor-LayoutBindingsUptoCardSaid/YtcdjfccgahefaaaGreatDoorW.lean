/- Parts of a proof. -/
import Derived.Test.YtcdjfccgahefaaaGreatDoorD
import Derived.Test.YtcdjfccgahefaaaGreatDoorE
import Derived.Test.YtcdjfccgahefaaaGreatDoorV1
import Derived.Test.YtcdjfccgahefaaaGreatDoorV4
set_option linter.all false
set_option maxHeartbeats 16000000
set_option maxRecDepth 4000
noncomputable section
namespace Go.Ly
open Go Go.Am Go.Fs Go.Gn
variable {fns:Go.Am.F} {orc:Orc}
theorem NZ (H:Has fns orc) (X:Hj orc) {ws ss:List (List UInt8)} (W:wI orc ws ss):vP fns orc:=by
 intro s hs h
 obtain ⟨h',lv,xs,e,a,gr,⟨n,ev⟩,isl,tks,RQ⟩:=VB H X W hs h
 have q:=bJ isl
 by_cases c1:e=0
 case neg=>
  have d1:=dF c1
  refine ⟨h',false,gr,Ev.call H.f134 H.o134 ⟨n,fun m hm=> ?b1⟩,fun w=>by cases w⟩
  have ev' :=ev m hm
  exact SX (cj3 @a134.eq_1 ev' d1)
 have d1:=dT c1
 by_cases c2:(xs.length:Int)=1
 case neg=>
  have d2:=dF c2
  refine ⟨h',false,gr,Ev.call H.f134 H.o134 ⟨n,fun m hm=> ?b2⟩,fun w=>by cases w⟩
  have ev' :=ev m hm
  exact SX (cj5 @a134.eq_1 ev' d1 q d2)
 have d2:=dT c2
 have hne:s≠[]:=fun w=>by rw [RQ w] at c2;simp at c2
 obtain ⟨k,t,b,a0,en,hx⟩:=tks (xs[0]'om) (List.getElem_mem _)
 have f1:oG 5 lv (.int .i64 0)= .ok (.ep [.int .i64 k,.str t,.int .i64 b,.int .i64 a0,.int .i64 en] 0):=jZ (i:=0) isl (by rw [List.getElem?_eq_getElem om,hx]) rfl
 by_cases c3:k=2
 case neg=>
  have d3:=dF c3
  refine ⟨h',false,gr,Ev.call H.f134 H.o134 ⟨n,fun m hm=> ?b3⟩,fun w=>by cases w⟩
  have ev' :=ev m hm
  exact SX (cj7 @a134.eq_1 ev' d1 q d2 f1 d3)
 have d3:=dT c3
 refine ⟨h',jD t s,gr,Ev.call H.f134 H.o134 ⟨n,fun m hm=> ?b4⟩,fun _=>hne⟩
 have ev' :=ev m hm
 exact SX (cj7 @a134.eq_1 ev' d1 q d2 f1 d3)
end Go.Ly
namespace Go.Ly
open Go Go.Am Go.Fs Go.Gn
variable {fns:Go.Am.F} {orc:Orc}
def LM (xs:List AV):Prop:=∀x∈xs,∃n:Int,x= .int .i64 n
theorem Pw {xs:List AV} (h:LM xs) (n:Int):LM (xs++[.int .i64 n]):=fun x hx=>by
 rcases List.mem_append.1 hx with q|q
 ·exact h x q
 ·exact ⟨n,List.mem_singleton.1 q⟩
theorem H0 {xs:List AV} (h:LM xs):Bp 1 xs:=fun x hx=>by obtain ⟨n,rfl⟩:=h x hx;rfl
theorem Uc {xs:List AV} (h:LM xs):kJ xs xs=true:=by
 induction xs with
 |nil=>exact jA
 |cons x xs ih=>
  obtain ⟨n,rfl⟩:=h x (by simp)
  rw [eM,dH,ih (fun y hy=>h y (List.mem_cons_of_mem _ hy))]
  rfl
theorem VJ {v:AV} {xs:List AV} (h:iK v xs) (hx:LM xs):dS v v=true:=by
 cases h with
 |nil=>exact bN
 |sl tk xs=>simp [dS,vB,Uc hx]
theorem BQ {n:Nat} {xs:List AV} (h:Bp n xs):rQ n xs=true:=by
 induction xs with
 |nil=>rfl
 |cons x xs ih=>
  have:Nat.beq x.cells.length n=true:=by rw [h x (by simp)];simp
  simp only [rQ,this]
  exact ih fun y hy=>h y (List.mem_cons_of_mem _ hy)
theorem Su (H:Has fns orc) {v:AV} {xs:List AV} (hv:iK v xs) (hx:LM xs) (hl:xs.length<10000000) (h:aD):
  ∃h' v',aR h h' ∧(∀m,2≤m→eval fns orc m (.call 20 [v] .plain h)= .ok (.call (.ret v') .plain h'))∧iK v' xs:=by
 cases hv with
 |nil=>
  refine ⟨h,.aC,.refl _,fun m hm=>fP (n:=0) H.f20 H.o20 (fun m _=> ?b1) m hm,.nil⟩
  exact SX @a20.eq_1
 |sl tk xs=>
  cases xs with
  |nil=>
   refine ⟨h,.sl .full [],.refl _,fun m hm=>fP (n:=0) H.f20 H.o20 (fun m _=> ?b2) m hm,.sl _ _⟩
   exact SX (uK @a20.eq_1 @oP.eq_1 @oJ.eq_1 @oJ.eq_2 @oJ.eq_3 @oJ.eq_4 @tW.eq_1 @tW.eq_2 @tW.eq_3 @tW.eq_4)
  |cons x xs=>
   have e1:rQ 1 (x::xs)=true:=BQ (H0 hx)
   have e2:(Nat.ble 1 1 && rQ 1 (x::xs))=true:=by rw [e1];rfl
   have e3:(Nat.ble ((([]:List AV).length+(x::xs).length)*1) oO && oW 1 [])=true:=by
    simp only [oW,Bool.and_true]
    rw [Nat.ble_eq]
    simp [oO] at hl⊢
    omega
   have ap:oP h 1 (.sl .full []) (.sl tk (x::xs))= .ok (.sl (.opn h.next (([]:List AV).length+(x::xs).length)) ([]++(x::xs)),h.push (.tok (([]:List AV).length+(x::xs).length))):=by
    simp only [oP,oJ,aM,e2,yD,yM,e3]
   refine ⟨h.push (.tok (([]:List AV).length+(x::xs).length)),.sl (.opn h.next (([]:List AV).length+(x::xs).length)) ([]++(x::xs)),.push _ _,fun m hm=>fP (n:=0) H.f20 H.o20 (fun m _=> ?b3) m hm,.sl _ _⟩
   exact SX (cj2 @a20.eq_1 ap)
theorem Uz (H:Has fns orc) {v:AV} {xs:List AV} (hv:iK v xs) (hx:LM xs) (hl:xs.length<10000000):
  ∃v',(∀(h:aD) m,2≤m→eval fns orc m (.call 80 [v] .plain h)= .ok (.call (.ret v') .plain h))∧
   ∀(h:aD) (z:Int),oP h 1 v' (.sl .full [.int .i64 z])= .ok (.sl (.opn h.next (xs.length+1)) (xs++[.int .i64 z]),h.push (.tok (xs.length+1))):=by
 have e2:∀z:Int,(Nat.ble 1 1 && rQ 1 [AV.int .i64 z])=true:=fun z=>rfl
 have hs:=KT (H0 hx)
 have e3:∀z:Int,(Nat.ble ((xs.length+[AV.int .i64 z].length)*1) oO && oW 1 xs)=true:=by
  intro z
  rw [hs,Bool.and_true,Nat.ble_eq]
  simp [oO]
  omega
 cases hv with
 |nil=>
  refine ⟨.aC,fun h m hm=>fP (n:=0) H.f80 H.o80 (fun m _=> ?b1) m hm,fun h z=> ?a1⟩
  case b1=>
   have q:uH false 1 .aC none (some (.int .i64 0)) (some (.int .i64 0))= .ok .aC:=rfl
   exact SX (cj2 @a80.eq_1 q)
  case a1=>
   simp only [oP,oJ,aM,e2,yD,yM,e3]
   rfl
 |sl tk xs=>
  have e:ile (xs.length:Int) (xs.length:Int)=true:=by rw [jI];simp
  have q:uH false 1 (.sl tk xs) none (some (.int .i64 (xs.length:Int))) (some (.int .i64 (xs.length:Int)))= .ok (.sl .full xs):=by
   simp only [uH,QE,hs,Go.Am.bound,uA,AL,e,Bool.true_and,wS,aM,ED,Nat.beq_refl,List.take_length,List.drop_zero,if_true]
  refine ⟨.sl .full xs,fun h m hm=>fP (n:=0) H.f80 H.o80 (fun m _=> ?b2) m hm,fun h z=> ?a2⟩
  case b2=>exact SX (cj2 @a80.eq_1 q)
  case a2=>
   simp only [oP,oJ,aM,e2,yD,yM,e3]
   rfl
end Go.Ly
namespace Go.Ly
open Go Go.Am Go.Fs Go.Gn
variable {fns:Go.Am.F} {orc:Orc}
def Cl (p:Part):Nat:=1+(p.kids.attach.map fun ⟨q,_⟩=>Cl q).sum
termination_by p.wt
decreasing_by exact Part.FD (by assumption)
theorem Jo (p:Part):Cl p=1+(p.kids.map Cl).sum:=by rw [Cl,List.attach_map_val (f:=Cl)]
theorem Ux:∀p:Part,Cl p≤p.nodes:=by
 refine Part.ind fun p ih=> ?_
 rw [Jo,Part.qK]
 have key:∀l:List Part,(∀q∈l,Cl q≤q.nodes)→(l.map Cl).sum≤(l.map Part.nodes).sum:=by
  intro l
  induction l with
  |nil=>intro _;exact Nat.le_refl _
  |cons q l ihl=>intro h;simp;have:=h q (by simp);have:=ihl (fun r hr=>h r (List.mem_cons_of_mem _ hr));omega
 have:=key p.kids ih
 have:1≤p.own:=by cases p with
  |decl d=>cases d;simp [Part.own]
  |_=>exact Nat.le_refl 1
 omega
def EE (p:Part) (n:Nat):Nat:=((p.kids.take n).map Cl).sum
theorem HS {p q:Part} {n:Nat} (h:p.kids[n]? =some q):EE p (n+1)=EE p n+Cl q:=by
 unfold EE
 rw [List.take_add_one,h]
 simp only [Option.toList,List.map_append,List.map_cons,List.map_nil,List.sum_append,List.sum_cons,List.sum_nil,Nat.add_zero]
theorem J7 (p:Part):1+EE p p.kids.length=Cl p:=by rw [Jo];simp [EE]
theorem TC {p q:Part} {n:Nat} (h:p.kids[n]? =some q):1+EE p n+Cl q≤Cl p:=by
 have h1:=HS h
 have h2:=J7 p
 have:EE p (n+1)≤EE p p.kids.length:=by
  unfold EE
  have e:p.kids.take p.kids.length=p.kids.take (n+1)++(p.kids.drop (n+1)):=by rw [List.take_length,List.take_append_drop]
  rw [e,List.map_append,List.sum_append]
  omega
 omega
def Wx (k:Nat) (x:List AV):Prop:=k<10000000∧∃path v q,x=[path,v]∧RP q v∧LL q
def wR:AC:=p78x1110100
def rM:AC:=p78x1110101
def Wy (fns:Go.Am.F) (orc:Orc) (p:Part):Prop:=∀v path xs,RP p v→Valid p→iK path xs→LM xs→xs.length+p.nodes<10000000→∀(l yb wb k:Nat) I D,Fu fns orc l Wx I D→∀(P:Nat→Prop) (h:aD),(∀i,P i→i<h.next)→P yb→P wb→
 cont h yb=some [.yield l]→cont h wb=some [.fn 78 [] [.ptr yb 0,.ptr wb 0]]→k+Cl p≤10000000→I k P h→
 ∃h' r,Ev fns orc (.call 78 [path,v,.ptr yb 0,.ptr wb 0] .plain h) (.call (.ret (.bool r)) .plain h')∧Kept P h h' ∧(r=true→I (k+Cl p) P h')∧(r=false→D P h')
theorem EK {v:AV} {xs:List AV} (h:iK v xs):v.cells=[v]∧v.known=true∧v.cF=true:=by cases h<;>exact ⟨rfl,rfl,rfl⟩
def WJ (P W:Nat→Prop) (h:aD) (c:Nat) (own:aD→Prop) (X:(Nat→Prop)→aD→Prop) (m:Nat) (Q:Nat→Prop) (hh:aD):Prop:=
 (∀i,Q i→c<i)∧m≤hh.next∧X (fun i=>Q i∨W i) hh∧(∀i,P i→hh.get i=h.get i)∧own hh
theorem WJ.keeps {P W:Nat→Prop} {h:aD} {c:Nat} {own:aD→Prop} {X:(Nat→Prop)→aD→Prop} {m:Nat} (KX:yF X) (hP:∀i,P i→i≤c) (hc:c<m) (ho:∀a b:aD,m≤a.next→(∀i,i≤c→b.get i=a.get i)→own a→own b):yF (WJ P W h c own X m) where
 chg Q a b:=by
  rintro ⟨q1,q2,q3,q4,q5⟩ ch
  have low:∀i,i≤c→b.get i=a.get i:=fun i hi=>ch.get i om (fun w=>by have:=q1 i w;omega)
  refine ⟨?_,Nat.le_trans q2 ch.next, ?_,fun i hi=>(low i (hP i hi)).trans (q4 i hi),ho a b q2 low q5⟩
  ·rintro i (w|w)
   ·exact q1 i w
   ·omega
  ·refine KX.less _ _ _ (KX.chg _ _ _ q3 ⟨ch.next,fun i hi hn=>ch.get i hi (fun w=>hn (.inl w))⟩) ?_
   rintro i ((w|w)|w)
   ·exact .inl (.inl w)
   ·exact .inr w
   ·exact .inl (.inr w)
 less Q R a:=by
  rintro ⟨q1,q2,q3,q4,q5⟩ hq
  exact ⟨fun i w=>q1 i (hq i w),q2,KX.less _ _ _ q3 (fun i w=>w.imp (hq i) id),q4,q5⟩
theorem WJ.set {P W:Nat→Prop} {h:aD} {c:Nat} {own:aD→Prop} {X:(Nat→Prop)→aD→Prop} {m:Nat} (KX:yF X) (hP:∀i,P i→i≤c) {Q:Nat→Prop} {hh:aD} (w:WJ P W h c own X m Q hh) {i:Nat} (hi:i<hh.next) (hW:W i) (o:AO) (hn:∀j,P j→j≠i) (Uf:own hh→own (hh.set i o)):
  WJ P W h c own X m Q (hh.set i o):=by
 obtain ⟨q1,q2,q3,q4,q5⟩:=w
 refine ⟨q1,by simpa using q2, ?_,fun j hj=>(aE _ _ _ _ hi (hn j hj)).trans (q4 j hj),Uf q5⟩
 refine KX.less _ _ _ (KX.chg _ _ _ q3 ⟨by simp,fun j hj hn=>aE _ _ _ _ hi (fun e=>hn (.inr (by rw [e];exact hW)))⟩) (fun j w=> .inl w)
end Go.Ly
namespace Go.Ly
open Go Go.Am Go.Fs Go.Gn
variable {fns:Go.Am.F} {orc:Orc}
theorem Tf (H:Has fns orc):∀p,Wy fns orc p:=by
 refine Part.ind fun p ih=> ?_
 intro v path xs hv AF Oa hxs hlen l yb wb k I D F P h hP Pyb Pwb cy cw hk hI
 obtain ⟨pc,rfl,pl,pk⟩:=rX hv
 have p29:takeN 29 pc=some pc:=by rw [←pl];exact aX pc
 obtain ⟨ic1,ic2,ic3⟩:=EK Oa
 have pe:=VJ Oa hxs
 have pce:dS (.agg pc) (.agg pc)=true:=NI hv
 have hyb:=hP yb Pyb
 have hwb:=hP wb Pwb
 obtain ⟨hA,hAe⟩:∃x,x=((h.push (.cells [path])).push (.cells pc)).push (.cells [.bool false]):=⟨_,rfl⟩
 have gA:aR h hA:=by rw [hAe];exact gw2
 have nA:hA.next=h.next+3:=by rw [hAe];simp
 have a0:cont hA h.next=some [path]:=by rw [hAe];exact ctp
 have a1:cont hA (h.next+1)=some pc:=by rw [hAe];exact ctp
 have a2:cont hA (h.next+2)=some [.bool false]:=by rw [hAe];exact ctp
 have ay:=(aF gA hyb).trans cy
 have aw:=(aF gA hwb).trans cw
 obtain ⟨hB,pv,gAB,e1,hpv⟩:=Su H Oa hxs om hA
 have gB:=gA.trans gAB
 have nB:=gAB.next
 have b0:=(aF gAB (by omega:h.next<hA.next)).trans a0
 have b1:=(aF gAB (by omega:h.next+1<hA.next)).trans a1
 have b2:=(aF gAB (by omega:h.next+2<hA.next)).trans a2
 have by_:=(aF gB hyb).trans cy
 have bw:=(aF gB hwb).trans cw
 have own:LL p:=AF.own
 obtain ⟨hC,r,⟨n2,e2⟩,kC,rT,rD⟩:=F.rnd k [pv,.agg pc] ⟨by have:=Jo p;omega,pv,.agg pc,p,rfl,hv,own⟩ (FC P h hB) hB (fun i q=>by
  rcases q with q|q
  ·have:=hP i q;omega
  ·exact q.2) ((F.ki k).chg _ _ _ hI (fM gB))
 have nC:=kC.next
 have kCP:∀i,P i→hC.get i=h.get i:=fun i q=>(kC.get i (.inl q)).trans (gB.get i (hP i q))
 have c0:cont hC h.next=some [path]:=(aG (kC.get _ (.inr ⟨by omega,by omega⟩))).trans b0
 have c1:cont hC (h.next+1)=some pc:=(aG (kC.get _ (.inr ⟨by omega,by omega⟩))).trans b1
 have c2:cont hC (h.next+2)=some [.bool false]:=(aG (kC.get _ (.inr ⟨by omega,by omega⟩))).trans b2
 cases r with
 |false=>
  refine ⟨hC.set (h.next+2) (.cells [.bool false]),false,Ev.AP H.f78 H.o78 ⟨n2+2,fun m hm=> ?b1⟩,⟨by simp;omega,fun i q=>(aE _ _ _ _ om (by have:=hP i q;omega)).trans (kCP i q)⟩,fun q=>(by cases q),fun _=> ?d1⟩
  case b1=>
   have e1' :=e1 m om
   have e2' :=e2 m om
   exact SX (Bl @a78.eq_1 ic1 ic2 ic3 pe pce (Eq.symm hAe) ay by_ a0 a1 b1 e1' p29 e2' c2)
  case d1=>
   refine F.kd.less _ _ _ (F.kd.chg _ _ _ (rD rfl) ⟨by simp,fun j hj hn=>aE _ _ _ _ om (fun e=>hn (.inr ⟨by omega,by omega⟩))⟩) (fun i q=> .inl (.inl q))
 |true=>
 obtain ⟨hD,hDe⟩:∃x,x=(hC.push (.cells [.int .i64 0])).set hC.next (.cells [.int .i64 0]):=⟨_,rfl⟩
 have gD:aR hC hD:=by rw [hDe];exact gw2
 have nD:hD.next=hC.next+1:=by rw [hDe];simp
 have d0:=(aF gD (by omega:h.next<hC.next)).trans c0
 have d1:=(aF gD (by omega:h.next+1<hC.next)).trans c1
 have d2:=(aF gD (by omega:h.next+2<hC.next)).trans c2
 have di:cont hD hC.next=some [.int .i64 0]:=by rw [hDe];exact aH (by simp)
 have ID:I (k+1) (fun i=>P i∨(h.next≤i∧i<hB.next)∨(hC.next≤i∧i<hD.next)) hD:=(F.ki _).less _ _ _ ((F.ki _).chg _ _ _ (rT rfl) (fM gD)) (fun i q=>by
  rcases q with q|q|q
  ·exact .inl (.inl q)
  ·exact .inl (.inr q)
  ·exact .inr q)
 obtain ⟨hK,b3,ys,⟨n3,e3⟩,gK,rpl,Y⟩:=I6 H hv (by have:=uW p;omega) hD
 have nK:=gK.next
 have k0:=(aF gK (by omega:h.next<hD.next)).trans d0
 have k2:=(aF gK (by omega:h.next+2<hD.next)).trans d2
 have kib:=(aF gK (by omega:hC.next<hD.next)).trans di
 have kP:∀i,P i→hK.get i=h.get i:=fun i q=>(gK.get i (by have:=hP i q;omega)).trans ((gD.get i (by have:=hP i q;omega)).trans (kCP i q))
 obtain ⟨Pk,hPk⟩:∃Pk:Nat→Prop,Pk=fun i=>hD.next≤i∧i<hK.next:=⟨_,rfl⟩
 have pPk:∀i,Pk i↔(hD.next≤i∧i<hK.next):=fun i=>by rw [hPk]
 have YL:=Di (Y Pk (fun i h1 h2=>(pPk i).2 ⟨h1,h2⟩))
 have hyl:ys.length=p.kids.length:=wM rpl
 obtain ⟨W,hW⟩:∃W:Nat→Prop,W=fun i=>P i∨(h.next≤i∧i<hB.next)∨(hC.next≤i∧i<hK.next+2):=⟨_,rfl⟩
 have wW:∀i,W i↔(P i∨(h.next≤i∧i<hB.next)∨(hC.next≤i∧i<hK.next+2)):=fun i=>by rw [hW]
 obtain ⟨ts,hts⟩:∃ts:eN,ts=[(3,.ptr wb 0),(4,.ptr h.next 0),(6,.ptr (h.next+2) 0),(7,.ptr hC.next 0),(16,.fn 110 [] [.ptr b3 0]),(17,.unk)]:=⟨_,rfl⟩
 have t3:cX ts 3= .ptr wb 0:=by rw [hts];rfl
 have t4:cX ts 4= .ptr h.next 0:=by rw [hts];rfl
 have t6:cX ts 6= .ptr (h.next+2) 0:=by rw [hts];rfl
 have t7:cX ts 7= .ptr hC.next 0:=by rw [hts];rfl
 obtain ⟨QX,H3⟩:∃f:aD→Prop,f=fun hh=>cont hh h.next=some [path]∧cont hh (h.next+2)=some [.bool false]∧∃z,cont hh hC.next=some [.int .i64 z]:=⟨_,rfl⟩
 obtain ⟨QW,Ob⟩:∃f:aD→Prop,f=fun hh=>cont hh (h.next+2)=some [.bool false]:=⟨_,rfl⟩
 have ho1:∀a b:aD,hK.next+2≤a.next→(∀i,i≤hC.next→b.get i=a.get i)→QX a→QX b:=by
  intro a b _ hl q
  rw [H3] at q⊢
  obtain ⟨q1,q2,z,q3⟩:=q
  exact ⟨(aG (hl _ om)).trans q1,(aG (hl _ om)).trans q2,z,(aG (hl _ om)).trans q3⟩
 have ho2:∀a b:aD,hK.next+2≤a.next→(∀i,i≤hC.next→b.get i=a.get i)→QW a→QW b:=by
  intro a b _ hl q
  rw [Ob] at q⊢
  exact (aG (hl _ om)).trans q
 have hPc:∀i,P i→i≤hC.next:=fun i q=>by have:=hP i q;omega
 have WY:∀(hh:aD) (o:AO),hK.next+1<hh.next→QX hh→QX (hh.set (hK.next+1) o):=by
  intro hh o hl q
  rw [H3] at q⊢
  obtain ⟨q1,q2,z,q3⟩:=q
  exact ⟨(aK om om).trans q1,(aK om om).trans q2,z,(aK om om).trans q3⟩
 have WX:∀(hh:aD) (o:AO),hK.next+1<hh.next→QW hh→QW (hh.set (hK.next+1) o):=by
  intro hh o hl q
  rw [Ob] at q⊢
  exact (aK om om).trans q
 have gl:∀r,aR hK (pW hK r):=fun r=>sR hK r
 have RR:=Tv (fns:=fns) (orc:=orc) (fn:=78) (f:= .t 16) (ps:=[17]) (asg:=wR) (body:=rM) (ts:=ts) (ds:=[]) (rc:= .plain) (h:=hK)
  (J:=fun n=>WJ P W h hC.next QX (I (k+1+EE p n)) (hK.next+2)) (DJ:=WJ P W h hC.next QW D (hK.next+2))
  (by rw [hts];rfl) YL (fun i q=>((pPk i).1 q).2) (fun n=>WJ.keeps (F.ki _) hPc om ho1) (WJ.keeps F.kd hPc om ho2)
  (fun n Q hh o q hl=>WJ.set (F.ki _) hPc q hl ((wW _).2 (.inr (.inr ⟨by omega,by omega⟩))) o (fun j hj=>by have:=hP j hj;omega) (fun q=>WY hh o hl q))
  (fun Q hh o q hl=>WJ.set F.kd hPc q hl ((wW _).2 (.inr (.inr ⟨by omega,by omega⟩))) o (fun j hj=>by have:=hP j hj;omega) (fun q=>WX hh o hl q)) ?h0 ?hR
 case h0=>
  refine ⟨fun i q=>by have:=(pPk i).1 q;omega,by rw [vC];exact Nat.le_refl _, ?_,fun i q=>((gl _).get i (by have:=hP i q;omega)).trans (kP i q), ?_⟩
  ·refine (F.ki _).less _ _ _ ((F.ki _).chg _ _ _ ID (fM (gK.trans (gl _)))) ?_
   intro i q
   rcases q with q|q
   ·have:=(pPk i).1 q;exact .inr ⟨by omega,by rw [vC];omega⟩
   ·rcases (wW i).1 q with q|q|q
    ·exact .inl (.inl q)
    ·exact .inl (.inr (.inl q))
    ·by_cases hi:i<hD.next
     ·exact .inl (.inr (.inr ⟨q.1,hi⟩))
     ·exact .inr ⟨by omega,by rw [vC];omega⟩
  ·rw [H3]
   exact ⟨(aF (gl _) om).trans k0,(aF (gl _) om).trans k2,0,(aF (gl _) om).trans kib⟩
 case hR=>
  rintro n x ⟨y,hy,rfl⟩ P' hh hP' ⟨le,mk,lp,np1,np2,q1,q2,q3,q4,q5⟩
  rw [H3] at q5
  obtain ⟨o1,o2,z,o3⟩:=q5
  obtain ⟨q,hq,hrp⟩:=QI rpl hy
  have hqm:q∈p.kids:=List.mem_of_getElem? hq
  obtain ⟨c',rfl,EN,MI⟩:=rX hrp
  have hst:=pM hh (z:=z29) (sz:=29) rfl EN MI
  obtain ⟨hY,hYe⟩:∃x,x=(hh.push (.cells z29)).set hh.next (.cells c'):=⟨_,rfl⟩
  rw [←hYe,vH] at hst
  have gY:aR hh hY:=by rw [hYe];exact gw2
  have nY:hY.next=hh.next+1:=by rw [hYe];simp
  have lY:hY.get (hK.next+1)=some (.loop ⟨.ready,none,78,ts,[17],wR,rM,hK.next⟩):=(gY.get _ om).trans lp
  obtain ⟨hZ,hZe⟩:∃x,x=hY.set (hK.next+1) (.loop ⟨.busy,none,78,ts,[17],wR,rM,hK.next⟩):=⟨_,rfl⟩
  have nZ:hZ.next=hh.next+1:=by rw [hZe];simp [nY]
  have zH:∀i,i<hh.next→i≠hK.next+1→hZ.get i=hh.get i:=fun i h1 h2=>by rw [hZe,aE _ _ _ _ om h2];exact gY.get i h1
  have zL:hZ.get (hK.next+1)=some (.loop ⟨.busy,none,78,ts,[17],wR,rM,hK.next⟩):=by rw [hZe];exact aO _ _ _ om
  have fY:cont hY hh.next=some c' :=by rw [hYe];exact aH (by simp)
  have fZ:cont hZ hh.next=some c' :=by rw [hZe,aK om om];exact fY
  have p4:takeN 29 c' =some c' :=by rw [←EN];exact aX c'
  have c4:dS (.agg c') (.agg c')=true:=NI hrp
  obtain ⟨cv,ecl,ap⟩:=Uz H Oa hxs om
  obtain ⟨hT,hTe⟩:∃x,x=hZ.push (.tok (xs.length+1)):=⟨_,rfl⟩
  have apZ:=ap hZ z
  rw [←hTe] at apZ
  have gT:aR hZ hT:=by rw [hTe];exact .push _ _
  have nT:hT.next=hh.next+2:=by rw [hTe];simp [nZ]
  have zc:∀i,i<hh.next→i≠hK.next+1→cont hZ i=cont hh i:=fun i h1 h2=>aG (zH i h1 h2)
  have tc:∀i,i<hh.next→i≠hK.next+1→cont hT i=cont hh i:=fun i h1 h2=>(aF gT om).trans (zc i h1 h2)
  have wZ:cont hZ wb=some [.fn 78 [] [.ptr yb 0,.ptr wb 0]]:=(zc wb om om).trans ((aG (q4 wb Pwb)).trans cw)
  have wT:cont hT wb=some [.fn 78 [] [.ptr yb 0,.ptr wb 0]]:=(tc wb om om).trans ((aG (q4 wb Pwb)).trans cw)
  have yT:cont hT yb=some [.yield l]:=(tc yb om om).trans ((aG (q4 yb Pyb)).trans cy)
  have oZ1:cont hZ h.next=some [path]:=(zc _ om om).trans o1
  have oZ3:cont hZ hC.next=some [.int .i64 z]:=(zc _ om om).trans o3
  have fT:cont hT hh.next=some c' :=(aF gT om).trans fZ
  have wY:cont hY wb=some [.fn 78 [] [.ptr yb 0,.ptr wb 0]]:=(aF gY om).trans ((aG (q4 wb Pwb)).trans cw)
  have oY1:cont hY h.next=some [path]:=(aF gY om).trans o1
  have oY3:cont hY hC.next=some [.int .i64 z]:=(aF gY om).trans o3
  obtain ⟨S,hS⟩:∃S:Nat→Prop,S=FC (fun i=>P' i∨W i) hh hT:=⟨_,rfl⟩
  have IT:I (k+1+EE p n) S hT:=by
   rw [hS]
   refine (F.ki _).chg _ _ _ q3 ⟨by omega,fun i hi hn=> ?_⟩
   have:i≠hK.next+1:=fun e=>hn (.inr ((wW i).2 (.inr (.inr ⟨by omega,by omega⟩))))
   exact (gT.get i om).trans (zH i hi this)
  have sW:∀i,W i→S i:=fun i w=>by rw [hS];exact .inl (.inr w)
  have sP' :∀i,P' i→S i:=fun i w=>by rw [hS];exact .inl (.inl w)
  have bS:∀i,S i→i<hT.next:=by
   intro i w
   rw [hS] at w
   rcases w with (w|w)|w
   ·have:=hP' i w;omega
   ·rcases (wW i).1 w with w|w|w
    ·have:=hP i w;omega
    ·omega
    ·omega
   ·exact w.2
  obtain ⟨h3,r,⟨n4,e4⟩,k3,rT3,rD3⟩:=ih q hqm (.agg c') (.sl (.opn hZ.next (xs.length+1)) (xs++[.int .i64 z])) (xs++[.int .i64 z]) hrp (AF.kid hqm) (.sl _ _) (Pw hxs z) (by have:=uI hqm;simp;omega) l yb wb (k+1+EE p n) I D F S hT bS (sW _ ((wW _).2 (.inl Pyb))) (sW _ ((wW _).2 (.inl Pwb))) yT wT (by have:=TC hq;omega) IT
  have n3' :=k3.next
  have l3:h3.get (hK.next+1)=some (.loop ⟨.busy,none,78,ts,[17],wR,rM,hK.next⟩):=(k3.get _ (sW _ ((wW _).2 (.inr (.inr ⟨by omega,by omega⟩))))).trans ((gT.get _ om).trans zL)
  have Ff:∀i,W i→i<hh.next→i≠hK.next+1→h3.get i=hh.get i:=fun i w h1 h2=>(k3.get i (sW i w)).trans ((gT.get i om).trans (zH i h1 h2))
  have mk3:h3.get hK.next=some (.deferred (some [])):=(Ff _ ((wW _).2 (.inr (.inr ⟨by omega,by omega⟩))) om om).trans mk
  have r3:cont h3 (h.next+2)=some [.bool false]:=(aG (Ff _ ((wW _).2 (.inr (.inl ⟨by omega,by omega⟩))) om om)).trans o2
  have i3:cont h3 hC.next=some [.int .i64 z]:=(aG (Ff _ ((wW _).2 (.inr (.inr ⟨by omega,by omega⟩))) om om)).trans o3
  have pa3:cont h3 h.next=some [path]:=(aG (Ff _ ((wW _).2 (.inr (.inl ⟨by omega,by omega⟩))) om om)).trans o1
  have P3:∀i,P i→h3.get i=h.get i:=fun i w=>(Ff i ((wW _).2 (.inl w)) (by have:=hP i w;omega) (by have:=hP i w;omega)).trans (q4 i w)
  have P'3:∀i,P' i→h3.get i=hh.get i:=fun i w=>(k3.get i (sP' i w)).trans ((gT.get i (by have:=hP' i w;omega)).trans (zH i (hP' i w) (fun e=>np2 (by rw [←e];exact w))))
  have lo1:iX hY (hK.next+1)= .ok ⟨.ready,none,78,ts,[17],wR,rM,hK.next⟩:=by simp only [iX,lY]
  cases r with
  |true=>
   obtain ⟨h4,h4e⟩:∃x,x=h3.set hC.next (.cells [.int .i64 (IntKind.wrap .i64 (z+1))]):=⟨_,rfl⟩
   have n4' :h4.next=h3.next:=by rw [h4e];simp
   have o4:∀i,i≠hC.next→h4.get i=h3.get i:=fun i hi=>by rw [h4e];exact aE _ _ _ _ om hi
   have l4:h4.get (hK.next+1)=some (.loop ⟨.busy,none,78,ts,[17],wR,rM,hK.next⟩):=(o4 _ om).trans l3
   have lo2:iX h4 (hK.next+1)= .ok ⟨.busy,none,78,ts,[17],wR,rM,hK.next⟩:=by simp only [iX,l4]
   refine ⟨h4.set (hK.next+1) (.loop ⟨.ready,none,78,ts,[17],wR,rM,hK.next⟩),true,Ev.round lp rfl ⟨n4+4,fun m hm=> ?b2⟩,⟨by simp;omega,fun i w=> ?kp⟩,fun _=>⟨by simp;omega, ?m2,aO _ _ _ om,np1,np2,q1,by simp;omega, ?I2,fun i w=> ?P2, ?O2⟩,fun w=>by cases w⟩
   case b2=>
    have e4' :=e4 m om
    have We :=fun h=>ecl h m om
    simp only [wR,rM] at lo1 hZe lo2
    have s4:∀x,kK h3 1 (.ptr hC.next 0) (.int .i64 x)= .ok (h3.set hC.next (.cells [.int .i64 x])):=fun x=>kM (iG i3) rfl rfl
    exact SS (dD @tZ.eq_1 @iN.eq_1 @iN.eq_2 @wR.eq_1 @rM.eq_1 t3 t4 t6 t7 hst lo1 (Eq.symm hZe) wZ wY oZ1 oY1 (dD oZ3 oY3 fZ fY We apZ (Eq.symm hTe) wT fT p4 c4 pe e4' i3 s4 (Eq.symm h4e) (cj8 lo2 @aN.eq_1 @aN.eq_2 @aN.eq_3 @aN.eq_4 @aN.eq_5 @oI.eq_1 @endRound.eq_1)))
   case kp=>
    rw [aE _ _ _ _ om (fun e=>np2 (by rw [←e];exact w)),o4 i (by have:=q1 i w;omega)]
    exact P'3 i w
   case m2=>exact (aE _ _ _ _ om om).trans ((o4 _ om).trans mk3)
   case I2=>
    have Ia:=rT3 rfl
    rw [Nat.add_assoc,←HS hq] at Ia
    refine (F.ki _).less _ _ _ ((F.ki _).chg _ _ (h4.set (hK.next+1) (.loop ⟨.ready,none,78,ts,[17],wR,rM,hK.next⟩)) Ia ⟨by simp;omega,fun i hi hn=> ?_⟩) (fun i w=> .inl (w.elim (sP' i) (sW i)))
    have h1:i≠hK.next+1:=fun e=>hn (sW i ((wW i).2 (.inr (.inr ⟨by omega,by omega⟩))))
    have h2:i≠hC.next:=fun e=>hn (sW i ((wW i).2 (.inr (.inr ⟨by omega,by omega⟩))))
    exact (aE _ _ _ _ om h1).trans (o4 i h2)
   case P2=>exact (aE _ _ _ _ om (by have:=hP i w;omega)).trans ((o4 i (by have:=hP i w;omega)).trans (P3 i w))
   case O2=>
    rw [H3]
    exact ⟨(aK om om).trans ((aG (o4 _ om)).trans pa3),(aK om om).trans ((aG (o4 _ om)).trans r3),_,(aK om om).trans (by rw [h4e];exact aH om)⟩
  |false=>
   obtain ⟨h4,h4e⟩:∃x,x=h3.set (h.next+2) (.cells [.bool false]):=⟨_,rfl⟩
   have n4' :h4.next=h3.next:=by rw [h4e];simp
   have o4:∀i,i≠h.next+2→h4.get i=h3.get i:=fun i hi=>by rw [h4e];exact aE _ _ _ _ om hi
   have l4:h4.get (hK.next+1)=some (.loop ⟨.busy,none,78,ts,[17],wR,rM,hK.next⟩):=(o4 _ om).trans l3
   have lo2:iX h4 (hK.next+1)= .ok ⟨.busy,none,78,ts,[17],wR,rM,hK.next⟩:=by simp only [iX,l4]
   refine ⟨h4.set (hK.next+1) (.loop ⟨.done,some .ret,78,ts,[17],wR,rM,hK.next⟩),false,Ev.round lp rfl ⟨n4+4,fun m hm=> ?b3⟩,⟨by simp;omega,fun i w=> ?kp3⟩,fun w=>(by cases w),fun _=>⟨by simp;omega, ?m3,aO _ _ _ om,np1,np2,q1,by simp;omega, ?I3,fun i w=> ?P3, ?O3⟩⟩
   case b3=>
    have e4' :=e4 m om
    have We :=fun h=>ecl h m om
    simp only [wR,rM] at lo1 hZe lo2
    have s4:∀x,kK h3 1 (.ptr (h.next+2) 0) (.bool x)= .ok (h3.set (h.next+2) (.cells [.bool x])):=fun x=>kM (iG r3) rfl rfl
    exact SS (dD @tZ.eq_1 @iN.eq_1 @iN.eq_2 @wR.eq_1 @rM.eq_1 t3 t4 t6 t7 hst lo1 (Eq.symm hZe) wZ wY oZ1 oY1 (dD oZ3 oY3 fZ fY We apZ (Eq.symm hTe) wT fT p4 c4 pe e4' s4 (Eq.symm h4e) lo2 (cj7 @aN.eq_1 @aN.eq_2 @aN.eq_3 @aN.eq_4 @aN.eq_5 @oI.eq_1 @endRound.eq_1)))
   case kp3=>
    rw [aE _ _ _ _ om (fun e=>np2 (by rw [←e];exact w)),o4 i (by have:=q1 i w;omega)]
    exact P'3 i w
   case m3=>exact (aE _ _ _ _ om om).trans ((o4 _ om).trans mk3)
   case I3=>
    refine F.kd.less _ _ _ (F.kd.chg _ _ (h4.set (hK.next+1) (.loop ⟨.done,some .ret,78,ts,[17],wR,rM,hK.next⟩)) (rD3 rfl) ⟨by simp;omega,fun i hi hn=> ?_⟩) (fun i w=> .inl (w.elim (sP' i) (sW i)))
    have h1:i≠hK.next+1:=fun e=>hn (sW i ((wW i).2 (.inr (.inr ⟨by omega,by omega⟩))))
    have h2:i≠h.next+2:=fun e=>hn (sW i ((wW i).2 (.inr (.inl ⟨by omega,by omega⟩))))
    exact (aE _ _ _ _ om h1).trans (o4 i h2)
   case P3=>exact (aE _ _ _ _ om (by have:=hP i w;omega)).trans ((o4 i (by have:=hP i w;omega)).trans (P3 i w))
   case O3=>
    rw [Ob]
    exact (aK om om).trans (by rw [h4e];exact aH om)
 obtain ⟨h5,e,⟨n5,e5⟩,le5,mk5,hE⟩:=RR
 have XX:∀i,P i→W i:=fun i w=>(wW i).2 (.inl w)
 rcases hE with ⟨rfl,q1,q2,q3,q4,q5⟩|⟨rfl,q1,q2,q3,q4,q5⟩
 ·rw [H3] at q5
  obtain ⟨o1,o2,z,o3⟩:=q5
  obtain ⟨h6,h6e⟩:∃x,x=h5.set (h.next+2) (.cells [.bool true]):=⟨_,rfl⟩
  have n6:h6.next=h5.next:=by rw [h6e];simp
  have mk6:h6.get hK.next=some (.deferred (some [])):=by rw [h6e];exact (aE _ _ _ _ om om).trans mk5
  have r6:cont h6 (h.next+2)=some [.bool true]:=by rw [h6e];exact aH om
  refine ⟨h6.set hK.next (.deferred none),true,Ev.AP H.f78 H.o78 ⟨n2+n3+n5+2,fun m hm=> ?b4⟩,⟨by simp;omega,fun i w=> ?k4⟩,fun _=> ?I4,fun w=>by cases w⟩
  case b4=>
   have e1' :=e1 m om
   have e2' :=e2 m om
   have e3' :=e3 m om
   have e5' :=e5 m om
   rw [hts] at e5'
   simp only [wR,rM] at e5'
   exact SX (dD @a78.eq_1 ic1 ic2 ic3 pe pce (Eq.symm hAe) ay by_ a0 a1 b1 e1' p29 e2' (Eq.symm hDe) (cj8 c1 d1 e3' e5' o2 (Eq.symm h6e) mk6 r6))
  case k4=>
   have hi:=hP i w
   rw [aE _ _ _ _ om om,h6e,aE _ _ _ _ om om]
   exact q4 i w
  case I4=>
   have e:k+1+EE p ys.length=k+Cl p:=by have:=J7 p;rw [hyl];omega
   have q3' :=q3
   simp only [e] at q3'
   refine (F.ki _).less _ _ _ ((F.ki _).chg _ _ (h6.set hK.next (.deferred none)) q3' ⟨by simp;omega,fun i hi hn=> ?_⟩) (fun i w=> .inl (.inr (XX i w)))
   have h1:i≠hK.next:=fun e=>hn (.inr ((wW i).2 (.inr (.inr ⟨by omega,by omega⟩))))
   have h2:i≠h.next+2:=fun e=>hn (.inr ((wW i).2 (.inr (.inl ⟨by omega,by omega⟩))))
   rw [aE _ _ _ _ om h1,h6e,aE _ _ _ _ om h2]
 ·rw [Ob] at q5
  refine ⟨h5.set hK.next (.deferred none),false,Ev.AP H.f78 H.o78 ⟨n2+n3+n5+2,fun m hm=> ?b5⟩,⟨by simp;omega,fun i w=> ?k5⟩,fun w=>(by cases w),fun _=> ?I5⟩
  case b5=>
   have e1' :=e1 m om
   have e2' :=e2 m om
   have e3' :=e3 m om
   have e5' :=e5 m om
   rw [hts] at e5'
   simp only [wR,rM] at e5'
   exact SX (dD @a78.eq_1 ic1 ic2 ic3 pe pce (Eq.symm hAe) ay by_ a0 a1 b1 e1' p29 e2' (Eq.symm hDe) (cj6 c1 d1 e3' e5' q5 mk5))
  case k5=>
   have hi:=hP i w
   rw [aE _ _ _ _ om om]
   exact q4 i w
  case I5=>
   refine F.kd.less _ _ _ (F.kd.chg _ _ (h5.set hK.next (.deferred none)) q3 ⟨by simp,fun i hi hn=> ?_⟩) (fun i w=> .inl (.inr (XX i w)))
   have h1:i≠hK.next:=fun e=>hn (.inr ((wW i).2 (.inr (.inr ⟨by omega,by omega⟩))))
   rw [aE _ _ _ _ om h1]
end Go.Ly
namespace Go.Ly
open Go Go.Am Go.Fs Go.Gn
variable {fns:Go.Am.F} {orc:Orc}
theorem IJ (H:Has fns orc) {p:Part} {pc:List AV} (hv:RP p (.agg pc)) (AF:Valid p) (hn:p.nodes<10000000) {pb:Nat} {P:Nat→Prop} {h0:aD} (hP:P pb) (hg:cont h0 pb=some pc):
  Et fns orc 77 [.ptr pb 0] Wx (Cl p) P h0:=by
 intro h l I D hk hlt F hI
 have pl:pc.length=29:=by obtain ⟨c,e,q,_⟩:=rX hv;cases e;exact q
 have p29:takeN 29 pc=some pc:=by rw [←pl];exact aX pc
 have hpb:=hlt pb hP
 have cp:cont h pb=some pc:=(aG (hk.get pb hP)).trans hg
 obtain ⟨hA,hAe⟩:∃x,x=((h.push (.cells [.yield l])).push (.cells [.qZ])).set (h.next+1) (.cells [.fn 78 [] [.ptr h.next 0,.ptr (h.next+1) 0]]):=⟨_,rfl⟩
 have gA:aR h hA:=by rw [hAe];exact gw2
 have nA:hA.next=h.next+2:=by rw [hAe];simp
 have a0:cont hA h.next=some [.yield l]:=by rw [hAe];simp (disch:=(first|omega|(simp only [aD.aJ,aD.aL];try omega)|skip)) only [aH,aK,aS,dA,aD.aJ,aD.aL]
 have a1:cont hA (h.next+1)=some [.fn 78 [] [.ptr h.next 0,.ptr (h.next+1) 0]]:=by rw [hAe];simp (disch:=(first|omega|(simp only [aD.aJ,aD.aL];try omega)|skip)) only [aH,aK,aS,dA,aD.aJ,aD.aL]
 have ap:=(aF gA hpb).trans cp
 obtain ⟨h',r,⟨n,e⟩,kk,rT,rD⟩:=Tf H p (.agg pc) .aC [] hv AF .nil (fun x hx=>by cases hx) (by simpa using hn) l h.next (h.next+1) 0 I D F (FC P h hA) hA (fun i q=>by
  rcases q with q|q
  ·have:=hlt i q;omega
  ·exact q.2) (.inr ⟨by omega,by omega⟩) (.inr ⟨by omega,by omega⟩) a0 a1 (by have:=Ux p;omega) ((F.ki 0).chg _ _ _ hI (fM gA))
 refine ⟨h',Ev.call H.f77 H.o77 ⟨n,fun m hm=> ?b⟩,⟨by have:=kk.next;omega,fun i q=>(kk.get i (.inl q)).trans (gA.get i (hlt i q))⟩, ?r⟩
 case b=>
  have e' :=e m hm
  exact SX (cj6 @a77.eq_1 (Eq.symm hAe) a1 ap p29 e')
 case r=>
  cases r with
  |true=>have q:=rT rfl;rw [Nat.zero_add] at q;exact .inl ((F.ki _).less _ _ _ q (fun i q=> .inl q))
  |false=>exact .inr (F.kd.less _ _ _ (rD rfl) (fun i q=> .inl q))
def rW:AC:=p46x11110100
def lZ:AC:=p46x11110101
def SW (xs:List AV):Prop:=∀x∈xs,∃(k:Int) (s:List UInt8) (z:Int),x= .agg [.int .i64 k,.str s,.int .i64 z]
theorem SW.wide {xs:List AV} (h:SW xs):Bp 3 xs:=fun x hx=>by obtain ⟨k,s,z,rfl⟩:=h x hx;rfl
theorem SW.eq {xs:List AV} (h:SW xs):kJ xs xs=true:=by
 induction xs with
 |nil=>exact jA
 |cons x xs ih=>
  obtain ⟨k,s,z,rfl⟩:=h x (by simp)
  rw [eM,jH,eM,eM,eM,jA,dH,dH,dW,ih (fun y hy=>h y (List.mem_cons_of_mem _ hy))]
  rfl
theorem Wv {h:aD} {l:AV} {xs:List AV} (a:Acc h l xs) (e:kJ xs xs=true):dS l l=true:=by
 cases a with
 |nil=>exact bN
 |opn t xs ht hp=>simp [dS,vB,e]
def SlC (ob nb:Nat) (n:Nat) (Fp:Nat→Prop) (hh:aD):Prop:=(∃lv xs,cont hh ob=some [lv]∧Acc hh lv xs∧(∀t,jE lv=some t→Fp t)∧xs.length≤n∧SW xs)∧∃z,cont hh nb=some [.int .i64 z]
theorem JW {h:aD} {ob nb:Nat} {ts:eN} {P:Nat→Prop} (hob:ob<h.next∧¬P ob) (hnb:nb<h.next∧¬P nb) (hne:ob≠nb) (hP:∀i,P i→i<h.next) (t5:cX ts 5= .ptr ob 0) (t6:cX ts 6= .ptr nb 0):
  Ew fns orc h ⟨.ready,none,46,ts,[17,18],rW,lZ,h.next⟩ P (fun i=>i=ob∨i=nb) Wx (SlC ob nb) (fun _ _=>False):=by
 rintro n x ⟨hn,path,v,q,rfl,hrp,Uf⟩ hh Fp o hF ⟨⟨lv,xs,c1,ac,tk,hl,wd⟩,z,c2⟩
 have ho:=o.le
 obtain ⟨c',rfl,EN,MI⟩:=rX hrp
 have hst:=pM hh (z:=z29) (sz:=29) rfl EN MI
 obtain ⟨hY,hYe⟩:∃x,x=(hh.push (.cells z29)).set hh.next (.cells c'):=⟨_,rfl⟩
 rw [←hYe,vH] at hst
 have gY:aR hh hY:=by rw [hYe];exact gw2
 have nY:hY.next=hh.next+1:=by rw [hYe];simp
 have cY:cont hY hh.next=some c' :=by rw [hYe];exact aH (by simp)
 have lY:hY.get (h.next+1)=some (.loop ⟨.ready,none,46,ts,[17,18],rW,lZ,h.next⟩):=(gY.get _ om).trans o.loop
 obtain ⟨hZ,hZe⟩:∃x,x=hY.set (h.next+1) (.loop ⟨.busy,none,46,ts,[17,18],rW,lZ,h.next⟩):=⟨_,rfl⟩
 have nZ:hZ.next=hh.next+1:=by rw [hZe];simp [nY]
 have zY:∀i,i≠h.next+1→hZ.get i=hY.get i:=fun i hi=>by rw [hZe];exact aE _ _ _ _ om hi
 have zH:∀i,i<hh.next→i≠h.next+1→hZ.get i=hh.get i:=fun i h1 h2=>(zY i h2).trans (gY.get i h1)
 have zL:hZ.get (h.next+1)=some (.loop ⟨.busy,none,46,ts,[17,18],rW,lZ,h.next⟩):=by rw [hZe];exact aO _ _ _ om
 have cZ:cont hZ hh.next=some c' :=(aG (zY _ om)).trans cY
 have lo1:iX hY (h.next+1)= .ok ⟨.ready,none,46,ts,[17,18],rW,lZ,h.next⟩:=by simp only [iX,lY]
 have obZ:cont hZ ob=some [lv]:=(aG (zH ob om om)).trans c1
 have obY:cont hY ob=some [lv]:=(aF gY om).trans c1
 have nbZ:cont hZ nb=some [.int .i64 z]:=(aG (zH nb om om)).trans c2
 have nbY:cont hY nb=some [.int .i64 z]:=(aF gY om).trans c2
 have acZ:Acc hZ lv xs:=CN ac (fun t w=>zH t (hF t (tk t w)).2 (by have:=(hF t (tk t w)).1;omega))
 obtain ⟨Kq,Kp⟩:=Bo ac
 have lve:∀t,jE lv=some t→hh.next>t∧h.next+2≤t:=fun t w=>⟨(hF t (tk t w)).2,(hF t (tk t w)).1⟩
 obtain ⟨hN,hNe⟩:∃x,x=hZ.set nb (.cells [.int .i64 (IntKind.wrap .i64 (z+1))]):=⟨_,rfl⟩
 have nN:hN.next=hZ.next:=by rw [hNe];simp
 have oN:∀i,i≠nb→hN.get i=hZ.get i:=fun i hi=>by rw [hNe];exact aE _ _ _ _ om hi
 have lo2:iX hN (h.next+1)= .ok ⟨.busy,none,46,ts,[17,18],rW,lZ,h.next⟩:=by simp only [iX,(oN _ om).trans zL]
 have Sb:Ev fns orc (.round (h.next+1) [path,.agg c'] hh) (.call (.ret (.bool true)) .plain (hN.set (h.next+1) (.loop ⟨.ready,none,46,ts,[17,18],rW,lZ,h.next⟩)))→
   ∃b h' Fp',Ev fns orc (.round (h.next+1) [path,.agg c'] hh) (.call (.ret (.bool b)) .plain h')∧hh.next≤h'.next∧
    (∀i,i<hh.next→¬Fp i→¬(i=ob∨i=nb)→i≠h.next+1→h'.get i=hh.get i)∧(∀i,Fp' i→i<h'.next∧(Fp i∨hh.next≤i))∧
    (b=true→SlC ob nb (n+1) Fp' h' ∧h'.get (h.next+1)=some (.loop ⟨.ready,none,46,ts,[17,18],rW,lZ,h.next⟩))∧(b=false→False∧h'.get (h.next+1)=some (.loop ⟨.done,some .ret,46,ts,[17,18],rW,lZ,h.next⟩)):=by
  intro ev
  refine ⟨true,_,Fp,ev,by simp;omega,fun i h1 h2 h3 h4=> ?_,fun i w=>⟨by have:=(hF i w).2;simp;omega,.inl w⟩,fun _=>⟨⟨⟨lv,xs, ?_,CN acZ fun t w=> ?_,tk,by omega,wd⟩,IntKind.wrap .i64 (z+1), ?_⟩,aO _ _ _ om⟩,fun w=>by cases w⟩
  ·rw [aE _ _ _ _ om h4,oN i (fun e=>h3 (.inr e))];exact zH i h1 h4
  ·rw [aK om om,hNe,aK om hne];exact obZ
  ·have:=lve t w
   rw [aE _ _ _ _ om om,oN t om]
  ·rw [aK om om,hNe];exact aH om
 have Wu:∀(kd:Int) (s:List UInt8),∃l2 h2,oP hZ 3 lv (.sl .full [.agg [.int .i64 kd,.str s,.int .i64 z]])= .ok (l2,h2)∧Acc h2 l2 (xs++[.agg [.int .i64 kd,.str s,.int .i64 z]])∧AE (jE lv) hZ h2∧(∀t,jE l2=some t→jE lv=some t∨hZ.next≤t):=fun kd s=>
  tD acZ (n:=3) om wd.wide rfl om
 have Wc:∀(kd:Int) (s:List UInt8) l2 h2 hM,oP hZ 3 lv (.sl .full [.agg [.int .i64 kd,.str s,.int .i64 z]])= .ok (l2,h2)→Acc h2 l2 (xs++[.agg [.int .i64 kd,.str s,.int .i64 z]])→AE (jE lv) hZ h2→(∀t,jE l2=some t→jE lv=some t∨hZ.next≤t)→
   hM=(h2.set ob (.cells [l2])).set nb (.cells [.int .i64 (IntKind.wrap .i64 (z+1))])→
   (iX hM (h.next+1)= .ok ⟨.busy,none,46,ts,[17,18],rW,lZ,h.next⟩→cont h2 ob=some [lv]→cont (h2.set ob (.cells [l2])) nb=some [.int .i64 z]→nb<h2.next→ob<h2.next→l2.cF=true→l2.cells=[l2]→Ev fns orc (.round (h.next+1) [path,.agg c'] hh) (.call (.ret (.bool true)) .plain (hM.set (h.next+1) (.loop ⟨.ready,none,46,ts,[17,18],rW,lZ,h.next⟩))))→
   ∃b h' Fp',Ev fns orc (.round (h.next+1) [path,.agg c'] hh) (.call (.ret (.bool b)) .plain h')∧hh.next≤h'.next∧
    (∀i,i<hh.next→¬Fp i→¬(i=ob∨i=nb)→i≠h.next+1→h'.get i=hh.get i)∧(∀i,Fp' i→i<h'.next∧(Fp i∨hh.next≤i))∧
    (b=true→SlC ob nb (n+1) Fp' h' ∧h'.get (h.next+1)=some (.loop ⟨.ready,none,46,ts,[17,18],rW,lZ,h.next⟩))∧(b=false→False∧h'.get (h.next+1)=some (.loop ⟨.done,some .ret,46,ts,[17,18],rW,lZ,h.next⟩)):=by
  intro kd s l2 h2 hM ap a2 g2 tk2 hMe ev
  have n2:=g2.next
  have nM:hM.next=h2.next:=by rw [hMe];simp
  have ntk:∀i,i<hh.next→¬Fp i→jE lv≠some i:=fun i _ hf e=>hf (tk i e)
  have nl:jE lv≠some (h.next+1):=fun e=>by have:=lve _ e;omega
  have nb' :jE lv≠some nb:=fun e=>by have:=lve _ e;omega
  have nob:jE lv≠some ob:=fun e=>by have:=lve _ e;omega
  have oM:∀i,i≠ob→i≠nb→hM.get i=h2.get i:=fun i h1 h2' =>by rw [hMe,aE _ _ _ _ (by simp;omega) h2',aE _ _ _ _ om h1]
  have lM:hM.get (h.next+1)=some (.loop ⟨.busy,none,46,ts,[17,18],rW,lZ,h.next⟩):=(oM _ om om).trans ((g2.get _ om nl).trans zL)
  have ev' :=ev (by simp only [iX,lM]) ((aG (g2.get ob om nob)).trans obZ) (by rw [aK om (fun e=>hne e.symm)];exact (aG (g2.get nb om nb')).trans nbZ) om om (Bo a2).1 (Bo a2).2
  refine ⟨true,_,fun i=>jE l2=some i,ev',by simp;omega,fun i h1 hf h3 h4=> ?_,fun i w=>⟨?_, ?_⟩,fun _=>⟨⟨⟨l2,_, ?_,CN a2 fun t w=> ?_,fun t w=>w,by simp;omega,fun x hx=> ?_⟩,IntKind.wrap .i64 (z+1), ?_⟩,aO _ _ _ om⟩,fun w=>by cases w⟩
  ·rw [aE _ _ _ _ om h4,oM i (fun e=>h3 (.inl e)) (fun e=>h3 (.inr e)),g2.get i om (ntk i h1 hf)]
   exact zH i h1 h4
  ·have:=FQ a2 w;simp;omega
  ·rcases tk2 i w with w|w
   ·exact .inl (tk i w)
   ·exact .inr om
  ·rw [aK om om,hMe,aK (by simp;omega) hne];exact aH om
  ·have:t≠h.next+1∧t≠ob∧t≠nb:=by
    rcases tk2 t w with w|w
    ·have:=lve t w;omega
    ·omega
   rw [aE _ _ _ _ om this.1,oM t this.2.1 this.2.2]
  ·rcases List.mem_append.1 hx with w|w
   ·exact wd x w
   ·rw [List.mem_singleton.1 w];exact ⟨_,_,_,rfl⟩
  ·rw [aK om om,hMe];exact aH (by simp;omega)
 have Ko:=Wv ac wd.eq
 have sN:∀x,kK hZ 1 (.ptr nb 0) (.int .i64 x)= .ok (hZ.set nb (.cells [.int .i64 x])):=fun x=>kM (iG nbZ) rfl rfl
 obtain ⟨c,hr,hce⟩:=hrp
 injection hce with hce
 subst hce
 cases hr with
 |exp h1 h2=>
  refine Sb (Ev.round o.loop rfl ⟨0,fun m hm=> ?n1⟩)
  simp only [aW] at cZ cY
  simp only [rW,lZ] at lo1 hZe lo2
  exact SS (dD @tZ.eq_1 @iN.eq_1 @iN.eq_2 @rW.eq_1 @lZ.eq_1 t5 t6 hst lo1 (Eq.symm hZe) cZ cY obZ obY nbZ nbY (dD Kq Kp Ko @pU.eq_1 @jY.eq_1 @kD.eq_1 @pT.eq_1 @kY.eq_1 sN (Eq.symm hNe) lo2 @aN.eq_1 @aN.eq_2 @aN.eq_3 @aN.eq_4 @aN.eq_5 (cj2 @oI.eq_1 @endRound.eq_1)))
 |case h1 h2=>
  refine Sb (Ev.round o.loop rfl ⟨0,fun m hm=> ?n2⟩)
  simp only [aW] at cZ cY
  simp only [rW,lZ] at lo1 hZe lo2
  exact SS (dD @tZ.eq_1 @iN.eq_1 @iN.eq_2 @rW.eq_1 @lZ.eq_1 t5 t6 hst lo1 (Eq.symm hZe) cZ cY obZ obY nbZ nbY (dD Kq Kp Ko @pU.eq_1 @jY.eq_1 @kD.eq_1 @pT.eq_1 @kY.eq_1 sN (Eq.symm hNe) lo2 @aN.eq_1 @aN.eq_2 @aN.eq_3 @aN.eq_4 @aN.eq_5 (cj2 @oI.eq_1 @endRound.eq_1)))
 | @desc s p d e bd i x vp vd ve vi vx h1 h2 h3 h4 h5=>
  cases hb:jD s [] with
  |true=>
   refine Sb (Ev.round o.loop rfl ⟨0,fun m hm=> ?n3⟩)
   simp only [aW] at cZ cY
   simp only [rW,lZ] at lo1 hZe lo2
   exact SS (dD @tZ.eq_1 @iN.eq_1 @iN.eq_2 @rW.eq_1 @lZ.eq_1 t5 t6 hst lo1 (Eq.symm hZe) cZ cY obZ obY nbZ nbY (dD Kq Kp Ko @pU.eq_1 @jY.eq_1 @kD.eq_1 @pT.eq_1 @kY.eq_1 hb sN (Eq.symm hNe) lo2 @aN.eq_1 @aN.eq_2 @aN.eq_3 @aN.eq_4 (cj3 @aN.eq_5 @oI.eq_1 @endRound.eq_1)))
  |false=>
   obtain ⟨l2,h2,ap,a2,g2,tk2⟩:=Wu 3 s
   obtain ⟨hM,hMe⟩:∃x,x=(h2.set ob (.cells [l2])).set nb (.cells [.int .i64 (IntKind.wrap .i64 (z+1))]):=⟨_,rfl⟩
   refine Wc 3 s l2 h2 hM ap a2 g2 tk2 hMe (fun lo2 cO cN lN lO l2a l2b=>Ev.round o.loop rfl ⟨0,fun m hm=> ?p4⟩)
   have sO:kK h2 1 (.ptr ob 0) l2= .ok (h2.set ob (.cells [l2])):=kM (iG cO) l2b l2a
   have sM:∀x,kK (h2.set ob (.cells [l2])) 1 (.ptr nb 0) (.int .i64 x)= .ok ((h2.set ob (.cells [l2])).set nb (.cells [.int .i64 x])):=fun x=>kM (iG cN) rfl rfl
   simp only [aW] at cZ cY
   simp only [rW,lZ] at lo1 hZe lo2
   exact SS (dD @tZ.eq_1 @iN.eq_1 @iN.eq_2 @rW.eq_1 @lZ.eq_1 t5 t6 hst lo1 (Eq.symm hZe) cZ cY obZ obY nbZ nbY (dD Kq Kp Ko @pU.eq_1 @jY.eq_1 @kD.eq_1 @pT.eq_1 @kY.eq_1 hb ap sO cN sM (Eq.symm hMe) lo2 @aN.eq_1 (cj6 @aN.eq_2 @aN.eq_3 @aN.eq_4 @aN.eq_5 @oI.eq_1 @endRound.eq_1)))
 | @imp ik nm e c b i ve vc vi h1 h2 h3=>
  by_cases ck:ik=13
  ·have dk:=dT ck
   obtain ⟨l2,h2,ap,a2,g2,tk2⟩:=Wu 2 nm
   obtain ⟨hM,hMe⟩:∃x,x=(h2.set ob (.cells [l2])).set nb (.cells [.int .i64 (IntKind.wrap .i64 (z+1))]):=⟨_,rfl⟩
   refine Wc 2 nm l2 h2 hM ap a2 g2 tk2 hMe (fun lo2 cO cN lN lO l2a l2b=>Ev.round o.loop rfl ⟨0,fun m hm=> ?p5⟩)
   have sO:kK h2 1 (.ptr ob 0) l2= .ok (h2.set ob (.cells [l2])):=kM (iG cO) l2b l2a
   have sM:∀x,kK (h2.set ob (.cells [l2])) 1 (.ptr nb 0) (.int .i64 x)= .ok ((h2.set ob (.cells [l2])).set nb (.cells [.int .i64 x])):=fun x=>kM (iG cN) rfl rfl
   simp only [aW] at cZ cY
   simp only [rW,lZ] at lo1 hZe lo2
   exact SS (dD @tZ.eq_1 @iN.eq_1 @iN.eq_2 @rW.eq_1 @lZ.eq_1 t5 t6 hst lo1 (Eq.symm hZe) cZ cY obZ obY nbZ nbY (dD Kq Kp Ko @pU.eq_1 @jY.eq_1 @kD.eq_1 @pT.eq_1 @kY.eq_1 dk ap sO cN sM (Eq.symm hMe) lo2 @aN.eq_1 (cj6 @aN.eq_2 @aN.eq_3 @aN.eq_4 @aN.eq_5 @oI.eq_1 @endRound.eq_1)))
  ·have dk:=dF ck
   refine Sb (Ev.round o.loop rfl ⟨0,fun m hm=> ?n6⟩)
   simp only [aW] at cZ cY
   simp only [rW,lZ] at lo1 hZe lo2
   exact SS (dD @tZ.eq_1 @iN.eq_1 @iN.eq_2 @rW.eq_1 @lZ.eq_1 t5 t6 hst lo1 (Eq.symm hZe) cZ cY obZ obY nbZ nbY (dD Kq Kp Ko @pU.eq_1 @jY.eq_1 @kD.eq_1 @pT.eq_1 @kY.eq_1 dk sN (Eq.symm hNe) lo2 @aN.eq_1 @aN.eq_2 @aN.eq_3 @aN.eq_4 (cj3 @aN.eq_5 @oI.eq_1 @endRound.eq_1)))
 | @decl dk0 nms s p d vn vs vp vd h0 h1 h2 h3=>
  by_cases ck:dk0=10
  ·have dk:=dT ck
   have Xl:nms≠[]:=Uf.some
   obtain ⟨n0,nr,rfl⟩:∃a r,nms=a::r:=by cases nms with|nil=>exact absurd rfl Xl|cons a r=>exact ⟨a,r,rfl⟩
   have f1:oG 1 vn (.int .i64 0)= .ok (.ep [.str n0] 0):=pN (i:=0) h0 rfl rfl
   have veq:=uR h0
   obtain ⟨l2,h2,ap,a2,g2,tk2⟩:=Wu 1 n0
   obtain ⟨hM,hMe⟩:∃x,x=(h2.set ob (.cells [l2])).set nb (.cells [.int .i64 (IntKind.wrap .i64 (z+1))]):=⟨_,rfl⟩
   refine Wc 1 n0 l2 h2 hM ap a2 g2 tk2 hMe (fun lo2 cO cN lN lO l2a l2b=>Ev.round o.loop rfl ⟨0,fun m hm=> ?p7⟩)
   have sO:kK h2 1 (.ptr ob 0) l2= .ok (h2.set ob (.cells [l2])):=kM (iG cO) l2b l2a
   have sM:∀x,kK (h2.set ob (.cells [l2])) 1 (.ptr nb 0) (.int .i64 x)= .ok ((h2.set ob (.cells [l2])).set nb (.cells [.int .i64 x])):=fun x=>kM (iG cN) rfl rfl
   simp only [aW] at cZ cY
   simp only [rW,lZ] at lo1 hZe lo2
   exact SS (dD @tZ.eq_1 @iN.eq_1 @iN.eq_2 @rW.eq_1 @lZ.eq_1 t5 t6 hst lo1 (Eq.symm hZe) cZ cY obZ obY nbZ nbY (dD Kq Kp Ko @pU.eq_1 @jY.eq_1 @kD.eq_1 @pT.eq_1 @kY.eq_1 dk f1 veq @fL ap sO cN sM (cj9 (Eq.symm hMe) lo2 @aN.eq_1 @aN.eq_2 @aN.eq_3 @aN.eq_4 @aN.eq_5 @oI.eq_1 @endRound.eq_1)))
  ·have dk:=dF ck
   refine Sb (Ev.round o.loop rfl ⟨0,fun m hm=> ?n8⟩)
   simp only [aW] at cZ cY
   simp only [rW,lZ] at lo1 hZe lo2
   exact SS (dD @tZ.eq_1 @iN.eq_1 @iN.eq_2 @rW.eq_1 @lZ.eq_1 t5 t6 hst lo1 (Eq.symm hZe) cZ cY obZ obY nbZ nbY (dD Kq Kp Ko @pU.eq_1 @jY.eq_1 @kD.eq_1 @pT.eq_1 @kY.eq_1 dk sN (Eq.symm hNe) lo2 @aN.eq_1 @aN.eq_2 @aN.eq_3 @aN.eq_4 (cj3 @aN.eq_5 @oI.eq_1 @endRound.eq_1)))
end Go.Ly
namespace Go.Ly
open Go Go.Am Go.Fs Go.Gn
variable {fns:Go.Am.F} {orc:Orc}
theorem Mg (H:Has fns orc) {pc:List AV} (hl:pc.length=29) (h:aD) (m:Nat) (hm:2≤m):eval fns orc m (.call 66 [.agg pc] .plain h)= .ok (.call (.ret (.fn 77 [] [.ptr h.next 0])) .plain (h.push (.cells pc))):=
 fP (n:=0) H.f66 H.o66 (fun m _=>by
  exact SX @a66.eq_1) m hm
theorem QD (H:Has fns orc) (N:vP fns orc) {d:pG} {c:List AV} (hv:RV (.desc d) (.agg c)) (hs:wE (.desc d)) (hn:(Part.desc d).nodes<10000000) (h:aD):
  ∃h' lv xs e,aR h h' ∧Ev fns orc (.call 46 [.agg c] .plain h) (.call (.ret (.tup [lv,.int .i64 e])) .plain h')∧iK lv xs∧0≤e∧e≤2∧(e=0→Valid (.desc d)):=by
 have hcl:=kU hv
 have p7:takeN 7 c=some c:=by rw [←hcl];exact aX c
 obtain ⟨hA,hAe⟩:∃x,x=h.push (.cells c):=⟨_,rfl⟩
 have gA:aR h hA:=by rw [hAe];exact gw2
 have nA:hA.next=h.next+1:=by rw [hAe];simp
 have xA:cont hA h.next=some c:=by rw [hAe];exact aS om om
 obtain ⟨hB,e,gAB,⟨n1,e1⟩,r1,r2,r3⟩:=LO H N hv hs hn hA
 have gB:=gA.trans gAB
 have nB:=gAB.next
 have xB:=(aF gAB (by omega:h.next<hA.next)).trans xA
 by_cases ce:e=0
 case neg=>
  have de:=dF ce
  refine ⟨hB,.aC,[],e,gB,Ev.AP H.f46 H.o46 ⟨n1,fun m hm=> ?b1⟩,.nil,r1,r2,fun q=>absurd q ce⟩
  have e1' :=e1 m hm
  exact SX (cj6 @a46.eq_1 (Eq.symm hAe) xA p7 e1' de)
 have de:=dT ce
 have AF:=r3 ce
 obtain ⟨hC,hCe⟩:∃x,x=((hB.push (.cells [.aC])).push (.cells [.int .i64 0])).set (hB.next+1) (.cells [.int .i64 0]):=⟨_,rfl⟩
 have gC:aR hB hC:=by rw [hCe];exact gw2
 have nC:hC.next=hB.next+2:=by rw [hCe];simp
 have o1:cont hC hB.next=some [.aC]:=by rw [hCe];simp (disch:=(first|omega|(simp only [aD.aJ,aD.aL];try omega)|skip)) only [aH,aK,aS,dA,aD.aJ,aD.aL]
 have o2:cont hC (hB.next+1)=some [.int .i64 0]:=by rw [hCe];simp (disch:=(first|omega|(simp only [aD.aJ,aD.aL];try omega)|skip)) only [aH,aK,aS,dA,aD.aJ,aD.aL]
 have xC:=(aF gC (by omega:h.next<hB.next)).trans xB
 obtain ⟨hD,gD,n2,e2⟩:=A9 H hv hC
 have nD:=gD.next
 have hrp:RP (.desc d) (.agg (aW (.desc d) c)):=⟨c,hv,rfl⟩
 obtain ⟨pc,hpc⟩:∃pc,pc=aW (.desc d) c:=⟨_,rfl⟩
 rw [←hpc] at e2 hrp
 have pl:pc.length=29:=by rw [hpc];exact jJ hv
 obtain ⟨hL,hLe⟩:∃x,x=hD.push (.cells pc):=⟨_,rfl⟩
 have gL:aR hD hL:=by rw [hLe];exact .push _ _
 have nL:hL.next=hD.next+1:=by rw [hLe];simp
 have cL:cont hL hD.next=some pc:=by rw [hLe];exact aS om om
 have l1:=(aF gL (by omega:hB.next<hD.next)).trans ((aF gD (by omega:hB.next<hC.next)).trans o1)
 have l2:=(aF gL (by omega:hB.next+1<hD.next)).trans ((aF gD (by omega:hB.next+1<hC.next)).trans o2)
 obtain ⟨ts,hts⟩:∃ts:eN,ts=[(2,.aC),(3,.int .i64 0),(5,.ptr hB.next 0),(6,.ptr (hB.next+1) 0),(16,.fn 77 [] [.ptr hD.next 0]),(18,.unk)]:=⟨_,rfl⟩
 have YL:=IJ H hrp AF hn (pb:=hD.next) (P:=fun i=>i=hD.next) (h0:=hL) rfl cL
 have RR:=IB (fns:=fns) (orc:=orc) (fn:=46) (f:= .t 16) (ps:=[17,18]) (asg:=rW) (body:=lZ) (ts:=ts) (ds:=[]) (rc:= .plain) (h:=hL) (S:=fun i=>i=hB.next∨i=hB.next+1)
  (C:=SlC hB.next (hB.next+1)) (D:=fun _ _=>False) (by rw [hts];rfl) YL (fun i q=>by omega) (fun i q=>by omega) ?L (fun Fp a b h1 h2 q=>q) ?C0 (JW ⟨by omega,by omega⟩ ⟨by omega,by omega⟩ om (fun i q=>by omega) (by rw [hts];rfl) (by rw [hts];rfl))
 case L=>
  intro n Fp a b hab hk ⟨⟨lv,xs,c1,ac,tk,q⟩,z,c2⟩
  exact ⟨⟨lv,xs,(aG (hk _ (aT c1) (.inr ⟨by omega,by omega⟩))).trans c1,CN ac (fun t w=>hk t (FQ ac w) (.inl (tk t w))),tk,q⟩,z,(aG (hk _ (aT c2) (.inr ⟨by omega,by omega⟩))).trans c2⟩
 case C0=>
  have gl:=sR hL ⟨.ready,none,46,ts,[17,18],rW,lZ,hL.next⟩
  exact ⟨⟨.aC,[],(aF gl om).trans l1,.nil,fun t q=>(by cases q),Nat.zero_le _,fun x hx=>(by cases hx)⟩,0,(aF gl om).trans l2⟩
 obtain ⟨h5,x,⟨n5,e5⟩,le5,mk5,Ka,hE⟩:=RR
 rcases hE with ⟨rfl,Fp,hF,⟨lv,xs,c1,ac,tk,hl,sl⟩,z,c2⟩|⟨rfl,_,_,q⟩
 case inr=>exact q.elim
 refine ⟨h5.set hL.next (.deferred none),lv,xs,0,⟨by simp;omega,fun i hi=> ?g⟩,Ev.AP H.f46 H.o46 ⟨n1+n2+n5+2,fun m hm=> ?b⟩, ?s,by omega,by omega,fun _=>AF⟩
 case g=>
  rw [aE _ _ _ _ om om,Ka i om om,gL.get i om,gD.get i om,gC.get i om,gB.get i hi]
 case s=>cases ac;exact .nil;exact .sl _ _
 case b=>
  have e1' :=e1 m om
  have e2' :=e2 m om
  have e3' :=Mg H pl hD m om
  have e5' :=e5 m om
  rw [hts] at e5'
  simp only [rW,lZ] at e5'
  exact SX (yL @a46.eq_1 (Eq.symm hAe) xA p7 e1' de (Eq.symm hCe) xC e2' e3' (Eq.symm hLe) e5' c1 mk5)
theorem Mc (H:Has fns orc) (N:vP fns orc) {d:pG} {c:List AV} (hv:RV (.desc d) (.agg c)) (hs:wE (.desc d)) (hn:(Part.desc d).nodes<10000000) (h:aD):
  ∃h' e,aR h h' ∧Ev fns orc (.call 29 [.agg c] .plain h) (.call (.ret (.int .i64 e)) .plain h')∧(e=0→Valid (.desc d)):=by
 have hcl:=kU hv
 have p7:takeN 7 c=some c:=by rw [←hcl];exact aX c
 obtain ⟨hA,hAe⟩:∃x,x=h.push (.cells c):=⟨_,rfl⟩
 have gA:aR h hA:=by rw [hAe];exact gw2
 have xA:cont hA h.next=some c:=by rw [hAe];exact aS om om
 obtain ⟨hB,lv,xs,e,gAB,⟨n1,e1⟩,isl,r1,r2,r3⟩:=QD H N hv hs hn hA
 have q:=bJ isl
 by_cases ce:e=0
 ·have de:=dT ce
  by_cases cl:0<(xs.length:Int)
  ·have dl:=dT cl
   refine ⟨hB, ?e1,gA.trans gAB,Ev.call H.f29 H.o29 ⟨n1,fun m hm=> ?b1⟩,fun _=>r3 ce⟩
   case b1=>
    have e1' :=e1 m hm
    exact SX (cj8 @a29.eq_1 (Eq.symm hAe) xA p7 e1' de q dl)
  ·have dl:=dF cl
   refine ⟨hB,e,gA.trans gAB,Ev.call H.f29 H.o29 ⟨n1,fun m hm=> ?b2⟩,fun _=>r3 ce⟩
   case b2=>
    have e1' :=e1 m hm
    exact SX (cj8 @a29.eq_1 (Eq.symm hAe) xA p7 e1' de q dl)
 ·have de:=dF ce
  refine ⟨hB,e,gA.trans gAB,Ev.call H.f29 H.o29 ⟨n1,fun m hm=> ?b3⟩,fun w=>absurd w ce⟩
  case b3=>
   have e1' :=e1 m hm
   exact SX (cj7 @a29.eq_1 (Eq.symm hAe) xA p7 e1' de q)
end Go.Ly
end
