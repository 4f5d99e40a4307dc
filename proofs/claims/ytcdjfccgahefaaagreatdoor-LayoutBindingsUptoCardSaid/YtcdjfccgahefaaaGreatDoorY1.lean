/- Parts of a proof. -/
import Derived.Test.YtcdjfccgahefaaaGreatDoorD
import Derived.Test.YtcdjfccgahefaaaGreatDoorY
set_option linter.all false
set_option maxHeartbeats 16000000
noncomputable section
namespace Go.Ly
open Go Go.Am Go.Fs Go.Gn
variable {fns:Go.Am.F} {orc:Orc}
def BM:AC:=p33x1111111011
def Lv:AC:=p33x11111111
theorem uT {l:List AV} {v:AV} (h:iK v l):v.cells=[v]:=by cases h<;>rfl
theorem uV.vT {h h' :aD} {l:AV} {xs:List AV} (a:uV h l xs) (e:∀t,jE l=some t→h'.get t=h.get t):uV h' l xs:=by
 rcases a with a|rfl
 ·cases a with
  |nil=>exact .inl .nil
  |opn t xs h1 h2=>exact .inl (.opn t xs ((e t rfl).trans h1) h2)
 ·exact .inr rfl
theorem uV.tok {h:aD} {l:AV} {xs:List AV} (a:uV h l xs) {t:Nat} (ht:jE l=some t):∃n,h.get t=some (.tok n):=by
 rcases a with a|rfl
 ·cases a with
  |nil=>cases ht
  |opn t' xs h1 h2=>cases ht;exact ⟨_,h1⟩
 ·cases ht
theorem uV.ne {h:aD} {l:AV} {xs:List AV} (a:uV h l xs) {t i:Nat} (ht:jE l=some t) {c:List AV} (hc:cont h i=some c):t≠i:=by
 rintro rfl
 obtain ⟨_,h1⟩:=a.tok ht
 rw [iG hc] at h1
 cases h1
theorem uV.lt {h:aD} {l:AV} {xs:List AV} (a:uV h l xs) {t:Nat} (ht:jE l=some t):t<h.next:=aD.mM (a.tok ht).choose_spec
theorem Lu (H:Has fns orc) {Γ:Tb} (O:Γ.Ok) {S:Nat→DY} {h:aD} (T:TB Γ S h) {a:Nat} (ha:a<Γ.n) {ts:eN} {vch vup:AV} {c u:List Nat} {off:Int} (t1:cX ts 1= .int .i64 (a:Nat)) (t5:cX ts 5= .ptr (Γ.loc a) 0) (t6:cX ts 6=vch) (t7:cX ts 7=vup) (t8:cX ts 8= .int .i64 off)
  (ac:uV h vch (ints c)) (au:uV h vup (ints u)) (hne:∀t,jE vch=some t→jE vup≠some t) (hc:c.length<10000000) (hu:u.length<10000000):
  ∃h' cc,(∃n,∀m,n≤m→bZ (eval fns orc m) 33 none Lv ⟨ts,[],.plain,h⟩= .ok (.code .ret ⟨[(4,.ptr (Γ.loc a) 0)],[],.plain,h'⟩))∧
   TB Γ (upd S a ⟨false,some (c++[a],u++[0]),off,(sG (aV (Γ.D a).pd):Nat),cc⟩) h' ∧Chg (fun j=>pE Γ j∨jE vch=some j∨jE vup=some j) h h' :=by
 obtain ⟨vc,vu,bk,_⟩:=T.d_ a ha
 have k:=O.ok a ha
 obtain ⟨vd,k2,rvd⟩:=Gm k (S a).busy vc vu (S a).off (S a).cl
 obtain ⟨hA,gA,n1,e1⟩:=M0 H rvd (qF k).1 (Bi k) h
 have bA:=(aF gA (aT bk)).trans bk
 have lA:=aT bA
 have nA:=gA.next
 generalize (S a).busy=bs at bk k2 bA
 generalize (S a).off=of0 at bk k2 bA
 generalize (S a).cl=cl0 at bk k2 bA
 have o17:=ov17 k bs vc vu of0 cl0 off
 obtain ⟨hB,hBe⟩:∃x,x=hA.set (Γ.loc a) (.cells (bx (Γ.D a) bs vc vu off cl0)):=⟨_,rfl⟩
 have bB:cont hB (Γ.loc a)=some (bx (Γ.D a) bs vc vu off cl0):=by rw [hBe];exact aH lA
 have nB:hB.next=hA.next:=by rw [hBe];simp
 have o18:=ov18 k bs vc vu off cl0 (sG (aV (Γ.D a).pd):Nat)
 obtain ⟨cl,hcl⟩:∃cl:Int,cl=((sG (aV (Γ.D a).pd):Nat):Int):=⟨_,rfl⟩
 rw [←hcl] at o18 e1⊢
 obtain ⟨hC,hCe⟩:∃x,x=hB.set (Γ.loc a) (.cells (bx (Γ.D a) bs vc vu off cl)):=⟨_,rfl⟩
 have bC:cont hC (Γ.loc a)=some (bx (Γ.D a) bs vc vu off cl):=by rw [hCe];exact aH om
 have nC:hC.next=hA.next:=by rw [hCe];simp [nB]
 have oC:∀j,j<h.next→j≠Γ.loc a→hC.get j=h.get j:=fun j hj hn=>by rw [hCe,aE _ _ _ _ om hn,hBe,aE _ _ _ _ om hn,gA.get j hj]
 have acC:uV hC vch (ints c):=ac.vT fun t ht=>oC t (ac.lt ht) (ac.ne ht bk)
 have auC:uV hC vup (ints u):=au.vT fun t ht=>oC t (au.lt ht) (au.ne ht bk)
 obtain ⟨l1,hD,ap1,a1,g1,tk1⟩:=AQ acC (v:= .int .i64 (a:Nat)) (wX c) rfl (by rw [kV];omega)
 have nD:=g1.next
 have auD:uV hD vup (ints u):=auC.vT fun t ht=>g1.get t (by have:=au.lt ht;omega) (fun e=>hne t e ht)
 obtain ⟨l2,hE,ap2,a2,g2,tk2⟩:=AQ auD (v:= .int .i64 0) (wX u) rfl (by rw [kV];omega)
 have nE:=g2.next
 have s1:=(show uV hD l1 _ from .inl a1).GC
 have s2:=(show uV hE l2 _ from .inl a2).GC
 have c1:=uT s1
 have c2:=uT s2
 have y1:=qC s1
 have y2:=qC s2
 have bE:cont hE (Γ.loc a)=some (bx (Γ.D a) bs vc vu off cl):=by
  rw [aG (g2.get (Γ.loc a) om (fun e=>au.ne e bk rfl)),aG (g1.get (Γ.loc a) om (fun e=>ac.ne e bk rfl))]
  exact bC
 have o15:=ov15 k bs vc vu off cl l1
 obtain ⟨hF,hFe⟩:∃x,x=hE.set (Γ.loc a) (.cells (bx (Γ.D a) bs l1 vu off cl)):=⟨_,rfl⟩
 have bF:cont hF (Γ.loc a)=some (bx (Γ.D a) bs l1 vu off cl):=by rw [hFe];exact aH om
 have nF:hF.next=hE.next:=by rw [hFe];simp
 have o16:=ov16 k bs l1 vu off cl l2
 obtain ⟨hG,hGe⟩:∃x,x=hF.set (Γ.loc a) (.cells (bx (Γ.D a) bs l1 l2 off cl)):=⟨_,rfl⟩
 have bG:cont hG (Γ.loc a)=some (bx (Γ.D a) bs l1 l2 off cl):=by rw [hGe];exact aH om
 have nG:hG.next=hE.next:=by rw [hGe];simp [nF]
 have o14:=WZ k bs l1 l2 off cl false
 obtain ⟨hH,hHe⟩:∃x,x=hG.set (Γ.loc a) (.cells (bx (Γ.D a) false l1 l2 off cl)):=⟨_,rfl⟩
 have bH:cont hH (Γ.loc a)=some (bx (Γ.D a) false l1 l2 off cl):=by rw [hHe];exact aH om
 have oH:∀j,j<hE.next→j≠Γ.loc a→hH.get j=hE.get j:=fun j hj hn=>by rw [hHe,aE _ _ _ _ om hn,hGe,aE _ _ _ _ om hn,hFe,aE _ _ _ _ om hn]
 have all:∀j,j<h.next→j≠Γ.loc a→jE vch≠some j→jE vup≠some j→hH.get j=h.get j:=fun j hj h1 h2 h3=>by
  rw [oH j om h1,g2.get j om h3,g1.get j om h2,oC j hj h1]
 refine ⟨hH,bx (Γ.D a) false l1 l2 off cl,⟨n1,fun m hm=> ?b⟩,T.upd O ha _ bH rfl ⟨by simp, ?p1, ?p2⟩ (fun j hj hn w=>all j hj hn ?q1 ?q2) (T.ne O ha),⟨by rw [hHe];simp;omega,fun j hj hn=>all j hj (fun e=>hn (.inl ⟨a,ha,e⟩)) (fun e=>hn (.inr (.inl e))) (fun e=>hn (.inr (.inr e)))⟩⟩
 case p1=>rw [Cx];exact s1
 case p2=>rw [Cx];exact s2
 case q1=>
  intro e
  rcases w with w|w|⟨x,hx,w⟩
  ·obtain ⟨_,_,q⟩:=T.t_;rw [←w] at q;exact ac.ne e q rfl
  ·obtain ⟨_,q⟩:=T.m_
   rw [←w] at q
   obtain ⟨_,h1⟩:=ac.tok e
   rw [q] at h1
   cases h1
  ·obtain ⟨_,_,q,_⟩:=T.d_ x hx;rw [←w] at q;exact ac.ne e q rfl
 case q2=>
  intro e
  rcases w with w|w|⟨x,hx,w⟩
  ·obtain ⟨_,_,q⟩:=T.t_;rw [←w] at q;exact au.ne e q rfl
  ·obtain ⟨_,q⟩:=T.m_
   rw [←w] at q
   obtain ⟨_,h1⟩:=au.tok e
   rw [q] at h1
   cases h1
  ·obtain ⟨_,_,q,_⟩:=T.d_ x hx;rw [←w] at q;exact au.ne e q rfl
 case b=>
  have e1' :=e1 m om
  exact SX (dD @Lv.eq_1 t1 t5 t6 t7 t8 bk k2 e1' bA o17 (Eq.symm hBe) bB o18 (Eq.symm hCe) ap1 (yL ap2 bE c1 c2 y1 y2 o15 (Eq.symm hFe) bF o16 (Eq.symm hGe) bG o14 (Eq.symm hHe)))
end Go.Ly
namespace Go.Ly
open Go Go.Am Go.Fs Go.Gn
variable {fns:Go.Am.F} {orc:Orc}
def Hk (Γ:Tb) (S:Nat→DY) (a:Int) (lv pt r:Nat) (ux u0:List Nat):Prop:=u0.length=ux.length∧∀(q n:Nat),ux[q]? =some n→∃l p k',u0[q]? =some l∧vQ Γ S a n lv pt l p∧PlK Γ S a l p k' ∧upF Γ n (r:Int)=((k' :Nat):Int)
def FB (Γ:Tb) (a:Nat) (vch upv:AV) (off:Int) (b9:Nat) (vux:AV) (len i:Nat):eN:=
 [(0,.ptr Γ.tb 0),(1,.int .i64 (a:Nat)),(5,.ptr (Γ.loc a) 0),(6,vch),(7,upv),(8,.int .i64 off),(9,.ptr b9 0),(69,vux),(70,.int .i64 (len:Nat)),(71,.int .i64 (i:Nat))]
theorem Qf (H:Has fns orc) {Γ:Tb} (O:Γ.Ok) {N:Nat} (C:Ez fns orc Γ N) {a:Nat} (ha:a<Γ.n) (har:0≤(Γ.D a).ar) {vux:AV} {ux:List Nat} (hx:iK vux (ints ux)) (hl:ux.length≤40) (hub:∀n∈ux,n<10000000) {x:Int} {lv pt r b0 b9:Nat} {vch:AV} {off:Int}:
  ∀(k i:Nat) (S:Nat→DY) (h:aD) (upv:AV) (ul:List Nat),i+k=ux.length→TB Γ S h→WF Γ S→opn S Γ.n≤N→(Γ.tb<b0∧Γ.mb<b0∧∀j,pE Γ j→j<b0)→b0≤b9→cont h b9=some [.int .i64 x,.int .i64 (lv:Nat),.int .i64 (pt:Nat)]→PlK Γ S (Γ.D a).ar lv pt r→uV h upv (ints ul)→(∀t,jE upv=some t→b0≤t)→ul.length=i→Hk Γ S (Γ.D a).ar lv pt r (ux.take i) ul→
   (∃h' S' Qz u0,Ev fns orc (.code 33 none (.loop p33x11111110110111100) ⟨FB Γ a vch upv off b9 vux ux.length i,[],.plain,h⟩) (.code (.exit 0) ⟨FB Γ a vch Qz off b9 vux ux.length ux.length++[(72,.bool false)],[],.plain,h'⟩)∧
    Chg (fun j=>pE Γ j∨jE upv=some j) h h' ∧Ext S S' ∧TB Γ S' h' ∧WF Γ S' ∧uV h' Qz (ints u0)∧(∀t,jE Qz =some t→jE upv=some t∨h.next≤t)∧Hk Γ S' (Γ.D a).ar lv pt r ux u0)∨
   (∃h' e ts,0<e∧Ev fns orc (.code 33 none (.loop p33x11111110110111100) ⟨FB Γ a vch upv off b9 vux ux.length i,[],.plain,h⟩) (.code (.panic (irr e)) ⟨ts,[],.plain,h'⟩)∧Chg (fun j=>pE Γ j∨jE upv=some j) h h'):=by
 intro k
 induction k with
 |zero=>
  intro i S h upv ul hi T W hN hb0 h9 hb hp au ht hul hcl
  have e:i=ux.length:=om
  have d:decide ((i:Int)<((ux.length:Nat):Int))=false:=dF om
  rw [e,List.take_length] at hcl
  refine .inl ⟨h,S,upv,ul,Ev.code ⟨0,fun m _=> ?b0⟩,.refl _ _,.refl _,T,W,au,fun t w=> .inl w,hcl⟩
  case b0=>
   rw [e] at d⊢
   exact SX (cj3 @FB.eq_1 d @aI)
 |succ k ih=>
  intro i S h upv ul hi T W hN hb0 h9 hb hp au ht hul hcl
  have hO:=O.lt
  have hlt:i<ux.length:=om
  have d:decide ((i:Int)<((ux.length:Nat):Int))=true:=dT om
  have ar:=O.ar a ha
  obtain ⟨n,hn⟩:∃n,n=ux[i]:=⟨_,rfl⟩
  have hgi:ux[i]? =some n:=by rw [hn];exact List.getElem?_eq_getElem hlt
  have hia:=pX hx hgi
  have hnb:=hub n (List.mem_of_getElem? hgi)
  obtain ⟨vc,vu,bk,_⟩:=T.d_ a ha
  have k8:=FA (O.ok a ha) (S a).busy vc vu (S a).off (S a).cl
  rcases DE H O C T W hN (a:=(Γ.D a).ar) ⟨by omega,by omega⟩ (n:=n) om hp with ⟨_,h1,⟨m1,x1⟩,ch1,S1,l,p,k',rfl,ext,T1,W1,cl,pk,uk⟩|⟨e',h1,hpe,⟨m1,x1⟩,ch1⟩
  case inr=>
   refine .inr ⟨h1,e', ?tsp,hpe,Ev.code ⟨m1,fun m hm=> ?b1⟩,⟨ch1.next,fun i hi hn=>ch1.get i hi (fun w=>hn (.inl w))⟩⟩
   case b1=>
    have x1' :=x1 m hm
    exact SX (cj8 @FB.eq_1 d hia bk k8 hb x1' @aI)
  have nn1:=ch1.next
  have l9:=aT hb
  have hb1:cont h1 b9=some [.int .i64 x,.int .i64 (lv:Nat),.int .i64 (pt:Nat)]:=(qB ch1 l9 (fun w=>by have:=hb0.2.2 _ w;omega)).trans hb
  have au1:uV h1 upv (ints ul):=au.vT fun t w=>ch1.get t (au.lt w) (fun q=>by have:=hb0.2.2 _ q;have:=ht t w;omega)
  obtain ⟨l1,h2,ap,a1,g1,tk1⟩:=AQ au1 (v:= .int .i64 (l:Nat)) (wX ul) rfl (by rw [kV];omega)
  have nn2:=g1.next
  have T2:TB Γ S1 h2:=T1.vT fun j hj w=>g1.get j hj (fun q=>by
   have:=ht j q
   rcases w with w|w|w
   ·omega
   ·omega
   ·have:=hb0.2.2 j w;omega)
  have hb2:cont h2 b9=some [.int .i64 x,.int .i64 (lv:Nat),.int .i64 (pt:Nat)]:=(aG (g1.get b9 om (fun q=>au1.ne q hb1 rfl))).trans hb1
  have hcl2:Hk Γ S1 (Γ.D a).ar lv pt r (ux.take (i+1)) (ul++[l]):=by
   obtain ⟨q1,q2⟩:=hcl
   refine ⟨by simp at q1⊢;omega,fun q n' hq=> ?_⟩
   by_cases c:q<i
   ·rw [List.getElem?_take,if_pos om] at hq
    obtain ⟨l',p',k2,w1,w2,w3,w4⟩:=q2 q n' (by rw [List.getElem?_take,if_pos c];exact hq)
    exact ⟨l',p',k2,by rw [List.getElem?_append_left om];exact w1,w2.le ext.le,w3.le ext.le,w4⟩
   ·rw [List.getElem?_take] at hq
    split at hq
    ·obtain rfl:q=i:=om
     rw [hgi] at hq
     cases hq
     exact ⟨l,p,k',by rw [←hul];simp,cl,pk,uk⟩
    ·cases hq
  have w:IntKind.wrap .i64 ((i:Int)+1)=((i+1:Nat):Int):=by rw [mW om om];rfl
  have cc:Chg (fun j=>pE Γ j∨jE upv=some j) h h2:=⟨by omega,fun j hj hn=>by rw [g1.get j om (fun q=>hn (.inr q)),ch1.get j hj (fun q=>hn (.inl q))]⟩
  have step:∀ans,Ev fns orc (.code 33 none (.loop p33x11111110110111100) ⟨FB Γ a vch l1 off b9 vux ux.length (i+1),[],.plain,h2⟩) ans→
    Ev fns orc (.code 33 none (.loop p33x11111110110111100) ⟨FB Γ a vch upv off b9 vux ux.length i,[],.plain,h⟩) ans:=by
   rintro ans ⟨m2,x2⟩
   refine Ev.code ⟨m1+m2,fun m hm=> ?bt⟩
   case bt=>
    have x1' :=x1 m om
    have x2' :=x2 m om
    simp only [FB] at x2'
    exact SXe (uK @FB.eq_1 d hia bk k8 hb x1' ap w @aI) x2'
  have mk:∀{h' :aD},Chg (fun j=>pE Γ j∨jE l1=some j) h2 h' →Chg (fun j=>pE Γ j∨jE upv=some j) h h' :=fun ch=>⟨by have:=ch.next;omega,fun j hj hn=>by
   rw [ch.get j om (fun q=> ?_),cc.get j hj hn]
   rcases q with q|q
   ·exact hn (.inl q)
   ·rcases tk1 j q with q|q
    ·exact hn (.inr q)
    ·omega⟩
  rcases ih (i+1) S1 h2 l1 (ul++[l]) om T2 W1 (by have:=yU ext Γ.n;omega) hb0 h9 hb2 (hp.le ext.le) (by rw [Cx];exact .inl a1) (fun t q=>by rcases tk1 t q with q|q;exact ht t q;omega) (by simp;omega) hcl2 with ⟨h',S',Qz,u0,ev,ch,ex,T3,W3,a3,tk3,cl3⟩|⟨h',e,ts,he,ev,ch⟩
  ·exact .inl ⟨h',S',Qz,u0,step _ ev,mk ch,ext.trans ex,T3,W3,a3,fun t q=>by rcases tk3 t q with q|q;rcases tk1 t q with q|q;exact .inl q;exact .inr om;exact .inr om,cl3⟩
  ·exact .inr ⟨h',e,ts,he,step _ ev,mk ch⟩
end Go.Ly
namespace Go.Ly
open Go Go.Am Go.Fs Go.Gn
variable {fns:Go.Am.F} {orc:Orc}
theorem BL:a33.body= .seq p33x0 (.seq p33x10 (.seq p33x110 (.seq p33x1110 (.seq p33x11110 (.seq p33x111110 (.seq p33x1111110
 (.seq (.seq p33x111111100 (.seq p33x1111111010 BM)) Lv))))))):=rfl
theorem Lt:a33.results=[.tmp 4]:=rfl
theorem NQ {S:Nat→DY} {a:Nat} (hc:(S a).ch=none) (hb:(S a).busy=false) {d:DY} (hd:d.busy=true):∀n,opn (upd S a d) n+(if a<n then 1 else 0)=opn S n
 |0=>by simp [opn]
 |n+1=>by
  have:=NQ hc hb hd n
  simp only [opn]
  by_cases e:n=a
  ·subst e
   rw [yG,if_neg (show ¬(d.ch=none∧d.busy=false) by simp [hd]),if_pos (show n<n+1 by omega),if_pos (show (S n).ch=none∧(S n).busy=false from ⟨hc,hb⟩)]
   rw [if_neg om] at this
   omega
  ·rw [AR _ _ e]
   by_cases q:a<n
   ·rw [if_pos q] at this;rw [if_pos (show a<n+1 by omega)];omega
   ·rw [if_neg q] at this;rw [if_neg (show ¬a<n+1 by omega)];omega
theorem QA {S:Nat→DY} {a:Nat} (hc:(S a).ch=none) (d:DY):Le S (upd S a d):=fun i hi=>AR _ _ (by rintro rfl;exact hi hc)
theorem WF.busy {Γ:Tb} {S:Nat→DY} (W:WF Γ S) {a:Nat} (hc:(S a).ch=none) {d:DY} (hd:d.ch=none):WF Γ (upd S a d):=by
 intro i hi c u hcu
 by_cases e:i=a
 ·subst e;rw [yG,hd] at hcu;cases hcu
 ·rw [AR _ _ e] at hcu
  exact (W i hi c u hcu).le (QA hc d) (by rw [hcu];simp)
theorem Vb {Γ:Tb} {S:Nat→DY} (W:WF Γ S) {ar:Int} {x lv pt r:Nat} (hx:x<Γ.n) {cx ux u0:List Nat} (hcx:(S x).ch=some (cx,ux)) (har:(Γ.D x).ar=(r:Int)) (hp:PlK Γ S ar lv pt r) (hcl:Hk Γ S ar lv pt r ux u0):
  ∀(q:Nat) k t,cx[q]? =some k→u0[q]? =some t→∃w c' u' r,upF Γ t ar=((w:Nat):Int)∧w<Γ.n∧(S w).ch=some (c',u')∧(Γ.D k).ar=((r:Nat):Int)∧r∈c' :=by
 intro q k t hk ht
 have F:=W x hx cx ux hcx
 obtain ⟨hql,_⟩:=List.getElem?_eq_some_iff.1 hk
 obtain ⟨n,hn⟩:∃n,ux[q]? =some n:=⟨ux[q]'(by rw [F.len];exact hql),List.getElem?_eq_getElem (by rw [F.len];exact hql)⟩
 obtain ⟨l,p,k',h1,h2,⟨w,c,u,h3,h4,h5,h6⟩,h7⟩:=hcl.2 q n hn
 rw [ht] at h1
 cases h1
 have last:q+1=cx.length→k=x∧n=0:=by
  intro e
  obtain ⟨t0,_,⟨_,rfl,rfl,_⟩|⟨x',lv',pt',cx',ux',u0',_,_,_,rfl,rfl,_,_,g,_⟩⟩:=F.shape
  ·simp at e;subst e;simp at hk hn;exact ⟨hk.symm,hn.symm⟩
  ·simp at e
   subst e
   simp at hk
   rw [←g] at hn
   simp at hn
   exact ⟨hk.symm,hn.symm⟩
 by_cases e:q+1=cx.length
 ·obtain ⟨rfl,rfl⟩:=last e
  have:k' =r:=by simp only [upF] at h7;omega
  subst this
  exact ⟨w,c,u,k',h3,h4,h5,har,List.mem_of_getElem? h6⟩
 ·obtain ⟨t0,_,⟨_,rfl,rfl,_⟩|⟨x',lv',pt',cx',ux',u0',_,_,_,rfl,rfl,_,_,g,_,_,hups⟩⟩:=F.shape
  ·simp at e hql;omega
  ·simp at e hql
   rw [List.getElem?_append_left om] at hk hn
   obtain ⟨w2,c2,u2,r2,g1,g2,g3,g4,g5⟩:=hups q k n hk hn
   rw [har,h7] at g1
   have:k' =w2:=om
   subst this
   obtain ⟨_,u',g6⟩:=W.part c.length w c u (Nat.le_refl _) h4 h5 p k' h6
   rw [g3] at g6
   cases g6
   exact ⟨w,c,u,r2,h3,h4,h5,g4,List.mem_of_mem_take g5⟩
theorem WF.known {Γ:Tb} {S:Nat→DY} (W:WF Γ S) {a:Nat} (hc:(S a).ch=none) {c u:List Nat} {off:Int} {cc:List AV} {t:Tg} (hA:DN Γ S a t) (hu:u.length=c.length) (hm:c.length<40) (hub:∀x∈u,x<10000000) (ho:Γ.Ok) (ha:a<Γ.n)
  (hs:(t=none∧c=[]∧u=[]∧off=0)∨∃x lv pt ux r,t=some (x,lv,pt)∧x<Γ.n∧(S x).ch=some (c,ux)∧off=(S x).off+(S x).cl∧0≤(Γ.D a).ar∧(Γ.D x).ar=((r:Nat):Int)∧PlK Γ S (Γ.D a).ar lv pt r∧Hk Γ S (Γ.D a).ar lv pt r ux u):
  WF Γ (upd S a ⟨false,some (c++[a],u++[0]),off,(sG (aV (Γ.D a).pd):Nat),cc⟩):=by
 have L:=QA hc (⟨false,some (c++[a],u++[0]),off,(sG (aV (Γ.D a).pd):Nat),cc⟩:DY)
 intro i hi c' u' hcu
 by_cases e:i=a
 ·subst e
  rw [yG] at hcu
  cases hcu
  have hcl:=Bi (ho.ok i hi)
  refine ⟨by simp [hu],by simp;omega,fun y hy=> ?_,by rw [yG], ?_,t,hA.le L, ?_⟩
  ·rcases List.mem_append.1 hy with q|q
   ·exact hub y q
   ·simp at q;omega
  ·rw [yG]
   rcases hs with ⟨_,rfl,_,rfl⟩|⟨x,lv,pt,ux,r,_,hx,hcx,rfl,_⟩
   ·simp
   ·have F:=W x hx c ux hcx
    have:=Bi (ho.ok x hx)
    have h1:=F.Vt
    have h2:=F.cl
    simp only [List.length_append,List.length_cons,List.length_nil]
    omega
  ·rw [yG]
   rcases hs with ⟨rfl,rfl,rfl,rfl⟩|⟨x,lv,pt,ux,r,rfl,hx,hcx,rfl,har,hxr,hp,hcl⟩
   ·exact .inl ⟨rfl,rfl,rfl,rfl⟩
   ·have hxi:x≠i:=by rintro rfl;rw [hc] at hcx;cases hcx
    refine .inr ⟨x,lv,pt,c,ux,u,rfl,hx,L.ch hcx,rfl,rfl, ?_,by rw [AR _ _ hxi],hu,har,fun q n hq=> ?_,fun q k t hk ht=> ?_⟩
    ·intro Jc
     obtain ⟨q,hq⟩:=tO Jc
     obtain ⟨_,u',h⟩:=W.part c.length x c ux (Nat.le_refl _) hx hcx q i hq
     rw [hc] at h
     cases h
    ·obtain ⟨l,p,k',h1,h2,_⟩:=hcl.2 q n hq
     exact ⟨l,p,h1,h2.le L⟩
    ·obtain ⟨w,c',u',r',h1,h2,h3,h4⟩:=Vb W hx hcx hxr hp hcl q k t hk ht
     exact ⟨w,c',u',r',h1,h2,L.ch h3,h4⟩
 ·rw [AR _ _ e] at hcu
  exact (W i hi c' u' hcu).le L (by rw [hcu];simp)
theorem FE {S S1:Nat→DY} {a:Nat} {d d' :DY} (hc:(S a).ch=none) (hb:(S a).busy=false) (h1:d.ch=none) (h2:d.busy=true) (e:Ext (upd S a d) S1) (h3:d'.ch≠none) (h4:d'.busy=false):S1 a=d∧Ext S (upd S1 a d'):=by
 have ea:S1 a=d:=by
  rcases e a with q|⟨_,q,_⟩
  ·rw [q,yG]
  ·rw [yG,h2] at q;cases q
 refine ⟨ea,fun i=> ?_⟩
 by_cases c:i=a
 ·subst c
  rw [yG]
  exact .inr ⟨hc,hb,h3,h4⟩
 ·rw [AR _ _ c]
  rcases e i with q|q
  ·rw [AR _ _ c] at q;exact .inl q
  ·rw [AR _ _ c] at q;exact .inr q
end Go.Ly
namespace Go.Ly
open Go Go.Am Go.Fs Go.Gn
variable {fns:Go.Am.F} {orc:Orc}
theorem Ei (H:Has fns orc) {Γ:Tb} (O:Γ.Ok) {S:Nat→DY} {h:aD} (T:TB Γ S h) (W:WF Γ S) {a:Nat} (ha:a<Γ.n) (hs:¬((S a).ch=none∧(S a).busy=false)):
  Out fns orc (pE Γ) (.call 33 [.ptr Γ.tb 0,.int .i64 (a:Nat)] .plain h) h fun v h' =>v= .ptr (Γ.loc a) 0∧∃S',Ext S S' ∧TB Γ S' h' ∧WF Γ S' ∧(S' a).ch≠none:=by
 by_cases hc:(S a).ch=none
 case neg=>exact Out.ret _ h (vO H O T ha hc) (.refl _ _) ⟨rfl,S,.refl _,T,W,hc⟩
 have hb:(S a).busy=true:=by
  cases q:(S a).busy with
  |true=>rfl
  |false=>exact absurd ⟨hc,q⟩ hs
 obtain ⟨tk,v2,tT⟩:=T.t_
 obtain ⟨vc,vu,bk,hv⟩:=T.d_ a ha
 rw [hc] at hv
 obtain rfl:vc= .aC:=hv
 rw [hb] at bk
 have k:=O.ok a ha
 have n15:=Fa k true .aC vu (S a).off (S a).cl
 have n14:=Rp k true .aC vu (S a).off (S a).cl
 have hia:=Γ.at tk ha
 obtain ⟨m1,x1⟩:=uQ H 12 h
 refine Out.pan 12 h om (Ev.call H.f33 H.o33 ⟨m1,fun m hm=> ?b⟩) (.refl _ _)
 case b=>
  have x1' :=x1 m hm
  exact SX (cj7 @BL tT hia bk n15 n14 x1')
theorem Jr (H:Has fns orc) {Γ:Tb} (O:Γ.Ok) {N:Nat} (C:Ez fns orc Γ N) {S:Nat→DY} {h:aD} (T:TB Γ S h) (W:WF Γ S) (hN:opn S Γ.n≤N+1) {a:Nat} (ha:a<Γ.n) (hc:(S a).ch=none) (hb:(S a).busy=false):
  Out fns orc (pE Γ) (.call 33 [.ptr Γ.tb 0,.int .i64 (a:Nat)] .plain h) h fun v h' =>v= .ptr (Γ.loc a) 0∧∃S',Ext S S' ∧TB Γ S' h' ∧WF Γ S' ∧(S' a).ch≠none:=by
 have ltT:=T.lt
 obtain ⟨tk,v2,tT⟩:=T.t_
 obtain ⟨vc,vu,bk,hv⟩:=T.d_ a ha
 rw [hc] at hv
 obtain rfl:vc= .aC:=hv
 rw [hb] at bk
 have k:=O.ok a ha
 have n15:=Fa k false .aC vu (S a).off (S a).cl
 have n14:=Rp k false .aC vu (S a).off (S a).cl
 have o14:=WZ k false .aC vu (S a).off (S a).cl true
 have hia:=Γ.at tk ha
 obtain ⟨m1,x1⟩:=tN H 12 h
 obtain ⟨h1,h1e⟩:∃x,x=h.set (Γ.loc a) (.cells (bx (Γ.D a) true .aC vu (S a).off (S a).cl)):=⟨_,rfl⟩
 have la:=aT bk
 have n1:h1.next=h.next:=by rw [h1e];simp
 have b1:cont h1 (Γ.loc a)=some (bx (Γ.D a) true .aC vu (S a).off (S a).cl):=by rw [h1e];exact aH la
 obtain ⟨d,hd⟩:∃d:DY,d=⟨true,none,(S a).off,(S a).cl,bx (Γ.D a) true .aC vu (S a).off (S a).cl⟩:=⟨_,rfl⟩
 have T1:TB Γ (upd S a d) h1:=T.upd O ha d (by rw [hd];exact b1) (by rw [hd]) (by rw [hd];rfl) (fun j hj hn _=>by rw [h1e];exact aE _ _ _ _ la hn) (T.ne O ha)
 have C1:Chg (pE Γ) h h1:=by rw [h1e];exact qV (.refl _ _) la (.inl ⟨a,ha,rfl⟩) _
 have hN1:opn (upd S a d) Γ.n≤N:=by
  have:=NQ hc hb (d:=d) (by rw [hd]) Γ.n
  rw [if_pos ha] at this
  omega
 rcases SL H O C T1 (W.busy hc (by rw [hd])) hN1 ha with ⟨_,h2,⟨m2,x2⟩,ch2,S2,t,rfl,PT,T2,W2,ah,st,har⟩|⟨e',h2,hpe,⟨m2,x2⟩,ch2⟩
 case inr=>
  refine Out.pan e' h2 hpe (Ev.call H.f33 H.o33 ⟨m1+m2,fun m hm=> ?b1⟩) (jV C1 ch2)
  case b1=>
   have x1' :=x1 m om
   have x2' :=x2 m om
   exact SX (uK @BL tT hia bk n15 n14 x1' o14 (Eq.symm h1e) x2')
 obtain ⟨z1,z2,z3,hz⟩:=A5 t
 obtain ⟨h3,h3e⟩:∃x,x=(h2.push (.cells [.int .i64 0,.int .i64 0,.int .i64 0])).set h2.next (.cells [.int .i64 z1,.int .i64 z2,.int .i64 z3]):=⟨_,rfl⟩
 have g3:aR h2 h3:=by rw [h3e];exact gw2
 have n3:h3.next=h2.next+1:=by rw [h3e];simp
 have c9:cont h3 h2.next=some [.int .i64 z1,.int .i64 z2,.int .i64 z3]:=by rw [h3e];exact aH (by simp)
 have T3:=T2.grow g3
 have nn2:=ch2.next
 have C3:Chg (pE Γ) h h3:=sA (jV C1 ch2) g3
 have first:∀m,m1+m2≤m→bZ (eval fns orc m) 33 none a33.body ⟨eH 0 [.ptr Γ.tb 0,.int .i64 (a:Nat)],[],.plain,h⟩=
   (bZ (eval fns orc m) 33 none BM ⟨[(0,.ptr Γ.tb 0),(1,.int .i64 (a:Nat)),(5,.ptr (Γ.loc a) 0),(6,.aC),(7,.aC),(8,.int .i64 0),(9,.ptr h2.next 0),(40,.bool (decide (0≤z1)))],[],.plain,h3⟩).bind (lQ (bZ (eval fns orc m) 33 none Lv)):=by
  intro m hm
  have x1' :=x1 m om
  have x2' :=x2 m om
  rw [hz] at x2'
  exact SX (qD @BL tT hia bk n15 n14 x1' o14 (Eq.symm h1e) x2' (Eq.symm h3e) c9)
 have fin:∀{hX h' :aD} {ts:eN} {M:Nat},(∀m,M≤m→bZ (eval fns orc m) 33 none BM ⟨[(0,.ptr Γ.tb 0),(1,.int .i64 (a:Nat)),(5,.ptr (Γ.loc a) 0),(6,.aC),(7,.aC),(8,.int .i64 0),(9,.ptr h2.next 0),(40,.bool (decide (0≤z1)))],[],.plain,h3⟩= .ok (.code .normal ⟨ts,[],.plain,hX⟩))→
   (∃n,∀m,n≤m→bZ (eval fns orc m) 33 none Lv ⟨ts,[],.plain,hX⟩= .ok (.code .ret ⟨[(4,.ptr (Γ.loc a) 0)],[],.plain,h'⟩))→Ev fns orc (.call 33 [.ptr Γ.tb 0,.int .i64 (a:Nat)] .plain h) (.call (.ret (.ptr (Γ.loc a) 0)) .plain h'):=by
  rintro hX h' ts M e1 ⟨n,e2⟩
  refine Ev.call H.f33 H.o33 ⟨m1+m2+M+n,fun m hm=> ?b2⟩
  case b2=>
   rw [first m om,e1 m om]
   simp only [aM,lQ]
   rw [e2 m om]
   simp only [aM,eL,Lt,dY,oneOf,dC,Nat.beq]
 have pan:∀{h' :aD} {e:Int} {ts:eN} {M:Nat},0<e→(∀m,M≤m→bZ (eval fns orc m) 33 none BM ⟨[(0,.ptr Γ.tb 0),(1,.int .i64 (a:Nat)),(5,.ptr (Γ.loc a) 0),(6,.aC),(7,.aC),(8,.int .i64 0),(9,.ptr h2.next 0),(40,.bool (decide (0≤z1)))],[],.plain,h3⟩= .ok (.code (.panic (irr e)) ⟨ts,[],.plain,h'⟩))→Chg (pE Γ) h3 h' →
   Out fns orc (pE Γ) (.call 33 [.ptr Γ.tb 0,.int .i64 (a:Nat)] .plain h) h fun v h' =>v= .ptr (Γ.loc a) 0∧∃S',Ext S S' ∧TB Γ S' h' ∧WF Γ S' ∧(S' a).ch≠none:=by
  intro h' e ts M he e1 ch
  refine Out.pan e h' he (Ev.call H.f33 H.o33 ⟨m1+m2+M,fun m hm=> ?b3⟩) (jV C3 ch)
  case b3=>
   rw [first m om,e1 m om]
   simp only [aM,lQ,eL]
 cases t with
 |none=>
  cases hz
  have ea:=(FE hc hb (d' :=⟨false,some ([]++[a],[]++[0]),0,(sG (aV (Γ.D a).pd):Nat),[]⟩) (by rw [hd]) (by rw [hd]) PT (by simp) rfl).1
  have ca:(S2 a).ch=none:=by rw [ea,hd]
  obtain ⟨h',cc,e2,T',ch'⟩:=Lu H O T3 ha (ts:=[(0,.ptr Γ.tb 0),(1,.int .i64 (a:Nat)),(5,.ptr (Γ.loc a) 0),(6,.aC),(7,.aC),(8,.int .i64 0),(9,.ptr h2.next 0),(40,.bool false)]) (c:=[]) (u:=[]) (off:=0) rfl rfl rfl rfl rfl (.inl .nil) (.inl .nil) (fun t w=>by cases w) (by simp) (by simp)
  have ex:=(FE hc hb (d' :=⟨false,some ([]++[a],[]++[0]),0,(sG (aV (Γ.D a).pd):Nat),cc⟩) (by rw [hd]) (by rw [hd]) PT (by simp) rfl).2
  refine Out.ret _ h' (fin (M:=0) (fun m _=> ?b4) e2) (jV C3 ⟨ch'.next,fun j hj hn=>ch'.get j hj (by rintro (w|w|w);exact hn w;cases w;cases w)⟩) ⟨rfl,_,ex,T',W2.known ca ah rfl (by simp) (by simp) O ha (.inl ⟨rfl,rfl,rfl,rfl⟩),by rw [yG];simp⟩
  case b4=>
   have dz:decide (0≤(-1:Int))=false:=rfl
   exact SX (cj2 @BM.eq_1 dz)
 |some p=>
  obtain ⟨x,lv,pt⟩:=p
  cases hz
  obtain ⟨hxn,r,hxr,hpl⟩:=st x lv pt rfl
  have har:=har (by simp)
  have dz:decide (0≤((x:Nat):Int))=true:=dT om
  rcases C S2 h3 x T3 W2 (by have:=yU PT Γ.n;omega) hxn with ⟨_,h4,⟨m3,x3⟩,ch4,rfl,S3,ES,T4,W3,hch⟩|⟨e',h4,hpe,⟨m3,x3⟩,ch4⟩
  case inr=>
   refine pan (M:=m3) (ts:= ?ts5) hpe (fun m hm=> ?b5) ch4
   case b5=>
    have x3' :=x3 m hm
    exact SX (cj4 @BM.eq_1 dz c9 x3')
  obtain ⟨⟨cx,ux⟩,hcx⟩:=Option.ne_none_iff_exists'.1 hch
  obtain ⟨cc,tkx,vux,bx4,y15,y16,yu,y8,y14,y17,y18⟩:=rY O T4 hxn hcx
  have F:=W3 x hxn cx ux hcx
  have lx:∀hp,mK hp .sl (.sl tkx (ints cx))= .ok cx.length:=fun hp=>by rw [fW,kV]
  by_cases c40:cx.length<40
  case neg=>
   have d40:decide (((cx.length:Nat):Int)<40)=false:=dF om
   obtain ⟨m4,x4⟩:=uQ H 2 h4
   refine pan (M:=m3+m4) (ts:= ?ts6) (e:=2) om (fun m hm=> ?b6) ch4
   case b6=>
    have x3' :=x3 m om
    have x4' :=x4 m om
    exact SX (cj9 @BM.eq_1 dz c9 x3' bx4 y15 lx d40 x4')
  have d40:decide (((cx.length:Nat):Int)<40)=true:=dT om
  obtain ⟨m4,x4⟩:=tN H 2 h4
  obtain ⟨h5,vch,g5,x5,a5,tk5⟩:=EM H (v:= .sl tkx (ints cx)) (.sl _ _) om h4
  have nn4:=ch4.next
  have nn5:=g5.next
  have ec:=uJ tkx cx
  have bx5:=(aF g5 (aT bx4)).trans bx4
  have T5:=T4.grow g5
  have c95:cont h5 h2.next=some [.int .i64 ((x:Nat):Int),.int .i64 (lv:Nat),.int .i64 (pt:Nat)]:=(aF g5 om).trans ((qB ch4 om (fun w=>by have:=ltT.2.2 _ w;omega)).trans c9)
  have lu:∀hp,mK hp .sl vux= .ok ux.length:=fun hp=>by rw [bJ yu hp,kV]
  have hox:=F.Vt
  have hcl:=F.cl
  have hcf:=Bi (O.ok x hxn)
  have WK:IntKind.wrap .i64 ((S3 x).off+(S3 x).cl)=(S3 x).off+(S3 x).cl:=mW om om
  have hul:=F.len
  have b0:Γ.tb<h2.next∧Γ.mb<h2.next∧∀j,pE Γ j→j<h2.next:=⟨by omega,by omega,fun j w=>by have:=ltT.2.2 j w;omega⟩
  have L:=Qf H O C ha har yu om F.ub (x:=((x:Nat):Int)) (lv:=lv) (pt:=pt) (r:=r) (b0:=h2.next) (b9:=h2.next) (vch:=vch) (off:=(S3 x).off+(S3 x).cl) ux.length 0 S3 h5 .aC [] om T5 W3 (by have:=yU PT Γ.n;have:=yU ES Γ.n;omega) b0 (Nat.le_refl _) c95 (hpl.le ES.le) (.inl .nil) (fun t w=>by cases w) rfl ⟨by simp,fun q n w=>by simp at w⟩
  rcases L with ⟨h6,S6,upv,u0,⟨m6,x6⟩,ch6,PS,T6,W6,a6,tk6,cl6⟩|⟨h6,e',ts,hpe,⟨m6,x6⟩,ch6⟩
  case inr=>
   refine pan (h' :=h6) (M:=m3+m4+m6+2) (ts:= ?ts7) hpe (fun m hm=> ?b7) ⟨by have:=ch6.next;omega,fun j hj hn=>by rw [ch6.get j om (by rintro (w|w);exact hn w;cases w),g5.get j om,ch4.get j om hn]⟩
   case b7=>
    have x3' :=x3 m om
    have x4' :=x4 m om
    have x5' :=x5 m om
    have x6' :bZ (eval fns orc m) 33 none (.loop p33x11111110110111100) _=_:=x6 (m+1) om
    simp only [FB,Int.ofNat_zero] at x6'
    exact SX (dD @BM.eq_1 dz c9 x3' bx4 y15 lx d40 x4' x5' ec bx5 y17 y18 WK y16 (cj2 lu x6'))
  have ea:=(FE hc hb (d' :=⟨false,some (cx++[a],u0++[0]),(S3 x).off+(S3 x).cl,(sG (aV (Γ.D a).pd):Nat),[]⟩) (by rw [hd]) (by rw [hd]) (PT.trans (ES.trans PS)) (by simp) rfl).1
  have ca:(S6 a).ch=none:=by rw [ea,hd]
  have acx:uV h6 vch (ints cx):=a5.vT fun t w=>ch6.get t (a5.lt w) (by rintro (q|q);have:=b0.2.2 t q;have:=tk5 t w;omega;cases q)
  have tkn:∀t,jE upv=some t→h5.next≤t:=fun t w=>by rcases tk6 t w with q|q;cases q;exact q
  obtain ⟨h',cc2,e2,T',ch'⟩:=Lu H O T6 ha (ts:=FB Γ a vch upv ((S3 x).off+(S3 x).cl) h2.next vux ux.length ux.length++[(72,.bool false)]) (vch:=vch) (vup:=upv) (c:=cx) (u:=u0) (off:=(S3 x).off+(S3 x).cl) rfl rfl rfl rfl rfl acx a6 (fun t w w2=>by have:=a5.lt w;have:=tkn t w2;omega) om (by have:=cl6.1;omega)
  have ex:=(FE hc hb (d' :=⟨false,some (cx++[a],u0++[0]),(S3 x).off+(S3 x).cl,(sG (aV (Γ.D a).pd):Nat),cc2⟩) (by rw [hd]) (by rw [hd]) (PT.trans (ES.trans PS)) (by simp) rfl).2
  have nn6:=ch6.next
  have S6x:S6 x=S3 x:=PS.kR (by rw [hcx];simp)
  refine Out.ret _ h' (fin (M:=m3+m4+m6+2) (fun m hm=> ?b8) e2) (jV C3 ⟨by have:=ch'.next;omega,fun j hj hn=> ?g8⟩) ⟨rfl,_,ex,T',W6.known ca (ah.le (ES.trans PS).le) (by have:=cl6.1;omega) c40 ?ub O ha (.inr ⟨x,lv,pt,ux,r,rfl,hxn,PS.le.ch hcx,by rw [S6x],har,hxr,(hpl.le (ES.trans PS).le),cl6⟩),by rw [yG];simp⟩
  case g8=>
   rw [ch'.get j om (by rintro (w|w|w);exact hn w;have:=tk5 j w;omega;have:=tkn j w;omega),ch6.get j om (by rintro (w|w);exact hn w;cases w),g5.get j om,ch4.get j om hn]
  case ub=>
   intro y hy
   obtain ⟨q,hq⟩:=tO hy
   have hql:=(List.getElem?_eq_some_iff.1 hq).1
   have hqx:q<ux.length:=by have:=cl6.1;omega
   obtain ⟨l,p,k',h1,_,⟨w,_,_,h3,_⟩,_⟩:=cl6.2 q _ (List.getElem?_eq_getElem hqx)
   rw [hq] at h1
   cases h1
   have ar:=O.ar a ha
   have:=Bu O y (a:=(Γ.D a).ar) ⟨by omega,by omega⟩ om
   have:=O.lt
   omega
  case b8=>
   have x3' :=x3 m om
   have x4' :=x4 m om
   have x5' :=x5 m om
   have x6' :bZ (eval fns orc m) 33 none (.loop p33x11111110110111100) _=_:=x6 (m+1) om
   simp only [FB,Int.ofNat_zero] at x6' ⊢
   exact SX (dD @BM.eq_1 dz c9 x3' bx4 y15 lx d40 x4' x5' ec bx5 y17 y18 WK y16 (cj2 lu x6'))
theorem BK (H:Has fns orc) {Γ:Tb} (O:Γ.Ok):∀N,Ez fns orc Γ N:=by
 intro N
 induction N with
 |zero=>
  intro S h a T W hN ha
  refine Ei H O T W ha fun w=> ?_
  have:∀n,a<n→0<opn S n:=by
   intro n
   induction n with
   |zero=>intro h;omega
   |succ n ih=>
    intro h
    simp only [opn]
    by_cases e:a=n
    ·subst e;rw [if_pos w];omega
    ·have:=ih om;omega
  have:=this Γ.n ha
  omega
 |succ N ih=>
  intro S h a T W hN ha
  by_cases c:(S a).ch=none∧(S a).busy=false
  ·exact Jr H O ih T W hN ha c.1 c.2
  ·exact Ei H O T W ha c
end Go.Ly
namespace Go.Ly
open Go Go.Am Go.Fs Go.Gn
variable {fns:Go.Am.F} {orc:Orc}
def yA (k:Int):Bool:=decide (k=3∨k=4)
theorem LB (H:Has fns orc) {k:Int} {vn vs vp vy:AV} (h:aD):
  ∃h',aR h h' ∧∀m,2≤m→eval fns orc m (.call 57 [.agg [.int .i64 k,vn,vs,vp,vy]] .plain h)= .ok (.call (.ret (.bool (yA k))) .plain h'):=by
 refine ⟨h.push (.cells [.int .i64 k,vn,vs,vp,vy]),.push _ _,fP (n:=0) H.f57 H.o57 fun m _=> ?b⟩
 case b=>
  by_cases c3:k=3
  ·have d3:=dT c3
   have e:yA k=true:=dT (.inl c3)
   exact SX (cj3 @a57.eq_1 d3 e)
  ·have d3:=dF c3
   by_cases c4:k=4
   ·have d4:=dT c4
    have e:yA k=true:=dT (.inr c4)
    exact SX (cj4 @a57.eq_1 d3 d4 e)
   ·have d4:=dF c4
    have e:yA k=false:=dF om
    exact SX (cj4 @a57.eq_1 d3 d4 e)
def Cd (Γ:Tb) (s:List UInt8):List Nat→Int→Int
 |[],z=>z
 |d::r,z=>Cd Γ s r (match pL (aV (Γ.D d).pd) s with
  |none=>z
  |some (i,_)=>match (aV (Γ.D d).pd)[i]? with
   |none=>z
   |some x=>iO x)
def vK (Γ:Tb) (s:List UInt8) (c:List Nat):Int:=Cd Γ s c 0
def HJ (Γ:Tb) (x1 x4 x5 x6:AV) (s:List UInt8) (z:Int) (x31 x32 x33 x39 x40 x41 vb:AV) (len j:Nat):eN:=
 [(0,.ptr Γ.tb 0),(1,x1),(4,x4),(5,x5),(6,x6),(8,.str s),(11,.int .i64 z),(31,x31),(32,x32),(33,x33),(39,x39),(40,x40),(41,x41),(63,vb),(64,.int .i64 (len:Nat)),(65,.int .i64 (j:Nat))]
def BY:AC:=p34x110011001100110011110100
theorem RD (H:Has fns orc) {Γ:Tb} (O:Γ.Ok) {S:Nat→DY} {s:List UInt8} {vb:AV} {c:List Nat} (hx:iK vb (ints c)) (hc:∀d∈c,d<Γ.n) (hn:c.length<10000000) {x1 x4 x5 x6 x31 x32 x33 x39 x40 x41:AV}:
  ∀(k j:Nat) (z:Int) (h:aD),j+k=c.length→TB Γ S h→∃h',aR h h' ∧
   Ev fns orc (.code 34 none (.loop BY) ⟨HJ Γ x1 x4 x5 x6 s z x31 x32 x33 x39 x40 x41 vb c.length j,[],.plain,h⟩) (.code (.exit 4) ⟨HJ Γ x1 x4 x5 x6 s (Cd Γ s (c.drop j) z) x31 x32 x33 x39 x40 x41 vb c.length c.length++[(66,.bool false)],[],.plain,h'⟩):=by
 intro k
 induction k with
 |zero=>
  intro j z h hj T
  have d:decide ((j:Int)<((c.length:Nat):Int))=false:=dF om
  refine ⟨h,.refl _,Ev.code ⟨0,fun m _=> ?b0⟩⟩
  case b0=>
   rw [show j=c.length by omega] at d⊢
   rw [List.drop_length,Cd]
   exact SX (cj4 @HJ.eq_1 @BY.eq_1 d @aI)
 |succ k ih=>
  intro j z h hj T
  have hlt:j<c.length:=om
  have d:decide ((j:Int)<((c.length:Nat):Int))=true:=dT om
  have hdd:=hc _ (List.getElem_mem hlt)
  have hia:=pX hx (List.getElem?_eq_getElem hlt)
  rw [List.drop_eq_getElem_cons hlt,Cd]
  generalize c[j]=dd at hdd hia
  obtain ⟨tk,v2,tT⟩:=T.t_
  obtain ⟨vc',vu,hbb,hv⟩:=T.d_ dd hdd
  obtain ⟨vd,n2,rvd⟩:=Gm (O.ok dd hdd) (S dd).busy vc' vu (S dd).off (S dd).cl
  have hib:=Γ.at tk hdd
  obtain ⟨bn1,bn2⟩:=qF (O.ok dd hdd)
  obtain ⟨h1,g1,n1,e1⟩:=zK H rvd bn1 bn2 s hbb n2
  have w:IntKind.wrap .i64 ((j:Int)+1)=((j+1:Nat):Int):=tM hlt om
  cases cf:pL (aV (Γ.D dd).pd) s with
  |none=>
   rw [cf] at e1
   obtain ⟨h2,h2e⟩:∃x,x=(h1.push (.cells [.int .i64 0,.int .i64 0,.int .i64 0,.int .i64 0])).set h1.next (.cells [.int .i64 0,.int .i64 0,.int .i64 0,.int .i64 0]):=⟨_,rfl⟩
   have g2:aR h1 h2:=by rw [h2e];exact gw2
   have gg:=g1.trans g2
   obtain ⟨h',g,n3,e3⟩:=ih (j+1) z h2 om (T.grow gg)
   refine ⟨h',gg.trans g,Ev.code ⟨n1+n3,fun m hm=> ?b1⟩⟩
   case b1=>
    have e1' :=e1 m om
    have e3' :=e3 m om
    simp only [AG] at e1'
    simp only [HJ,BY] at e3'
    exact SXe (uK @HJ.eq_1 @BY.eq_1 d hia tT hib e1' (Eq.symm h2e) w @aI) e3'
  |some x=>
   obtain ⟨i',k'⟩:=x
   rw [cf] at e1
   obtain ⟨dc,hdc,hfx,_⟩:=Ay cf
   obtain ⟨vn,vs,vp,vy,hie,_⟩:=FN (O.ok dd hdd) (S dd).busy vc' vu (S dd).off (S dd).cl n2 hdc
   obtain ⟨h2,h2e⟩:∃x,x=(h1.push (.cells [.int .i64 0,.int .i64 0,.int .i64 0,.int .i64 0])).set h1.next (.cells [.int .i64 0,.int .i64 0,.int .i64 (i' :Nat),.int .i64 (k' :Nat)]):=⟨_,rfl⟩
   have g2:aR h1 h2:=by rw [h2e];exact gw2
   have gg:=g1.trans g2
   have x2:cont h2 h1.next=some [.int .i64 0,.int .i64 0,.int .i64 (i' :Nat),.int .i64 (k' :Nat)]:=by rw [h2e];exact aH (by simp)
   have t2:=(aF gg (aT tT)).trans tT
   have b2:=(aF gg (aT hbb)).trans hbb
   have xe:=Γ.CU tk
   have ve:=jK rvd
   obtain ⟨h',g,n3,e3⟩:=ih (j+1) (iO dc) h2 om (T.grow gg)
   refine ⟨h',gg.trans g,Ev.code ⟨n1+n3,fun m hm=> ?b2⟩⟩
   case b2=>
    have e1' :=e1 m om
    have e3' :=e3 m om
    simp only [AG] at e1'
    simp only [HJ,BY] at e3'
    simp only [hdc]
    exact SXe (dD @HJ.eq_1 @BY.eq_1 d hia tT hib e1' (Eq.symm h2e) x2 t2 b2 n2 hie xe ve w @aI) e3'
end Go.Ly
namespace Go.Ly
open Go Go.Am Go.Fs Go.Gn
variable {fns:Go.Am.F} {orc:Orc}
def NC (Γ:Tb) (c0:List Nat) (dl:List lH) (i:Nat) (x:lH) (q:Nat) (s:List UInt8):Prop:=pL dl s=some (i,q)∧(yA (iO x)=true→vK Γ s c0=2∨vK Γ s c0=3)∧(yA (iO x)=false→vK Γ s c0=0)
def yY:AC:=p34x110011001100
def nTs (Γ:Tb) (a:Nat) (vb:AV) (i b6:Nat) (x31 x32 x33 vn:AV) (len j:Nat):eN:=
 [(0,.ptr Γ.tb 0),(1,.ptr (Γ.loc a) 0),(4,vb),(5,.int .i64 (i:Nat)),(6,.ptr b6 0),(31,x31),(32,x32),(33,x33),(39,vn),(40,.int .i64 (len:Nat)),(41,.int .i64 (j:Nat))]
theorem Rq (H:Has fns orc) {Γ:Tb} (O:Γ.Ok) {S:Nat→DY} {a:Nat} (ha:a<Γ.n) {vb:AV} {c0:List Nat} (hx:iK vb (ints c0)) (hc:∀d∈c0,d<Γ.n) (hn:c0.length<10000000) {i:Nat} {x:lH} (hi:(aV (Γ.D a).pd)[i]? =some x) {vn vs vp vy:AV} (hvn:iK vn ((iJ x).map AV.str)) {b6:Nat} {x31 x32 x33:AV}:
  ∀(k j:Nat) (h:aD),j+k=(iJ x).length→TB Γ S h→cont h b6=some [.int .i64 (iO x),vn,vs,vp,vy]→
   (∃h',aR h h' ∧Ev fns orc (.code 34 none (.loop yY) ⟨nTs Γ a vb i b6 x31 x32 x33 vn (iJ x).length j,[],.plain,h⟩) (.code (.exit 2) ⟨nTs Γ a vb i b6 x31 x32 x33 vn (iJ x).length (iJ x).length++[(42,.bool false)],[],.plain,h'⟩)∧∀q s,j≤q→(iJ x)[q]? =some s→NC Γ c0 (aV (Γ.D a).pd) i x q s)∨
   (∃h' ts,aR h h' ∧Ev fns orc (.code 34 none (.loop yY) ⟨nTs Γ a vb i b6 x31 x32 x33 vn (iJ x).length j,[],.plain,h⟩) (.code (.panic (irr 11)) ⟨ts,[],.plain,h'⟩)):=by
 have hnn:=(qF (O.ok a ha)).2 x (List.mem_of_getElem? hi)
 have hidl:=(qF (O.ok a ha)).1
 have hil:=(List.getElem?_eq_some_iff.1 hi).1
 intro k
 induction k with
 |zero=>
  intro j h hj T hb
  have d:decide ((j:Int)<(((iJ x).length:Nat):Int))=false:=dF om
  refine .inl ⟨h,.refl _,Ev.code ⟨0,fun m _=> ?b0⟩,fun q s h1 h2=>by have:=(List.getElem?_eq_some_iff.1 h2).1;omega⟩
  case b0=>
   rw [show j=(iJ x).length by omega] at d⊢
   rw [aI]
   exact SX (cj3 @nTs.eq_1 @yY.eq_1 d)
 |succ k ih=>
  intro j h hj T hb
  have hlt:j<(iJ x).length:=om
  have d:decide ((j:Int)<(((iJ x).length:Nat):Int))=true:=dT om
  obtain ⟨s,hs⟩:∃s,(iJ x)[j]? =some s:=⟨_,List.getElem?_eq_getElem hlt⟩
  have hia:=pN hvn (i:=j) (v:= .str s) (by simp [hs]) rfl
  obtain ⟨vc',vu,hbb,hv⟩:=T.d_ a ha
  obtain ⟨vd,n2,rvd⟩:=Gm (O.ok a ha) (S a).busy vc' vu (S a).off (S a).cl
  obtain ⟨bn1,bn2⟩:=qF (O.ok a ha)
  obtain ⟨h1,g1,n1,e1⟩:=zK H rvd bn1 bn2 s hbb n2
  have w:IntKind.wrap .i64 ((j:Int)+1)=((j+1:Nat):Int):=tM hlt om
  obtain ⟨⟨i',k'⟩,cf⟩:∃y,pL (aV (Γ.D a).pd) s=some y:=by
   cases q:pL (aV (Γ.D a).pd) s with
   |some y=>exact ⟨y,rfl⟩
   |none=>exact absurd (List.mem_of_getElem? hs) (G1 q x (List.mem_of_getElem? hi))
  rw [cf] at e1
  obtain ⟨h2,h2e⟩:∃x,x=(h1.push (.cells [.int .i64 0,.int .i64 0,.int .i64 0,.int .i64 0])).set h1.next (.cells [.int .i64 0,.int .i64 0,.int .i64 (i' :Nat),.int .i64 (k' :Nat)]):=⟨_,rfl⟩
  have g2:aR h1 h2:=by rw [h2e];exact gw2
  have gg:=g1.trans g2
  have x2:cont h2 h1.next=some [.int .i64 0,.int .i64 0,.int .i64 (i' :Nat),.int .i64 (k' :Nat)]:=by rw [h2e];exact aH (by simp)
  by_cases ce:i' =i∧k' =j
  case neg=>
   obtain ⟨n3,e3⟩:=uQ H 11 h2
   by_cases c1:i' =i
   ·have d1:decide (((i' :Nat):Int)=(i:Int))=true:=dT om
    have d2:decide (((k' :Nat):Int)=(j:Int))=false:=dF (fun q=>ce ⟨c1,by omega⟩)
    refine .inr ⟨h2, ?ts1,gg,Ev.code ⟨n1+n3,fun m hm=> ?b1⟩⟩
    case b1=>
     have e1' :=e1 m om
     have e3' :=e3 m om
     simp only [AG] at e1'
     rw [aI]
     exact SX (uK @nTs.eq_1 @yY.eq_1 d hia e1' (Eq.symm h2e) x2 d1 d2 e3')
   ·have d1:decide (((i' :Nat):Int)=(i:Int))=false:=dF om
    refine .inr ⟨h2, ?ts11,gg,Ev.code ⟨n1+n3,fun m hm=> ?b11⟩⟩
    case b11=>
     have e1' :=e1 m om
     have e3' :=e3 m om
     simp only [AG] at e1'
     rw [aI]
     exact SX (cj9 @nTs.eq_1 @yY.eq_1 d hia e1' (Eq.symm h2e) x2 d1 e3')
  obtain ⟨rfl,rfl⟩:=ce
  have d1:decide (((i' :Nat):Int)=(i' :Int))=true:=dT rfl
  have d2:decide (((k' :Nat):Int)=(k' :Int))=true:=dT rfl
  obtain ⟨n3,e3⟩:=tN H 11 h2
  have lc:∀hp,mK hp .sl vb= .ok c0.length:=fun hp=>by rw [bJ hx hp,kV]
  obtain ⟨h4,g4,n4,e4⟩:=RD H O (S:=S) (s:=s) hx hc hn (x1:= .ptr (Γ.loc a) 0) (x4:=vb) (x5:= .int .i64 (i' :Nat)) (x6:= .ptr b6 0) (x31:=x31) (x32:=x32) (x33:=x33) (x39:=vn) (x40:= .int .i64 ((iJ x).length:Nat)) (x41:= .int .i64 (k' :Nat)) c0.length 0 0 h2 om (T.grow gg)
  rw [List.drop_zero,show Cd Γ s c0 0=vK Γ s c0 from rfl] at e4
  have b4:=(aF (gg.trans g4) (aT hb)).trans hb
  obtain ⟨h5,g5,e5⟩:=LB (k:=iO x) (vn:=vn) (vs:=vs) (vp:=vp) (vy:=vy) H h4
  have PH:=(gg.trans g4).trans g5
  have b5:=(aF PH (aT hb)).trans hb
  by_cases ck:(yA (iO x)=true→vK Γ s c0=2∨vK Γ s c0=3)∧(yA (iO x)=false→vK Γ s c0=0)
  case neg=>
   obtain ⟨n6,e6⟩:=uQ H 11 h5
   cases cb:yA (iO x) with
   |true=>
    rw [cb] at e5 ck
    have d6:decide (vK Γ s c0=2)=false:=dF (fun q=>ck ⟨fun _=> .inl q,fun q=>by cases q⟩)
    have d7:decide (vK Γ s c0=3)=false:=dF (fun q=>ck ⟨fun _=> .inr q,fun q=>by cases q⟩)
    refine .inr ⟨h5, ?ts2,PH,Ev.code ⟨n1+n3+n4+n6+2,fun m hm=> ?b2⟩⟩
    case b2=>
     have e1' :=e1 m om
     have e3' :=e3 m om
     have e4' :bZ (eval fns orc m) 34 none (.loop BY) _=_:=e4 (m+1) om
     have e5' :=e5 m om
     have e6' :=e6 m om
     simp only [AG] at e1'
     simp only [HJ,BY,Int.ofNat_zero] at e4'
     rw [aI]
     exact SX (dD @nTs.eq_1 @yY.eq_1 d hia e1' (Eq.symm h2e) x2 d1 d2 e3' lc e4' b4 e5' d6 d7 e6')
   |false=>
    rw [cb] at e5 ck
    have d6:decide (vK Γ s c0=0)=false:=dF (fun q=>ck ⟨fun q=>(by cases q),fun _=>q⟩)
    refine .inr ⟨h5, ?ts3,PH,Ev.code ⟨n1+n3+n4+n6+2,fun m hm=> ?b3⟩⟩
    case b3=>
     have e1' :=e1 m om
     have e3' :=e3 m om
     have e4' :bZ (eval fns orc m) 34 none (.loop BY) _=_:=e4 (m+1) om
     have e5' :=e5 m om
     have e6' :=e6 m om
     simp only [AG] at e1'
     simp only [HJ,BY,Int.ofNat_zero] at e4'
     rw [aI]
     exact SX (Bl @nTs.eq_1 @yY.eq_1 d hia e1' (Eq.symm h2e) x2 d1 d2 e3' lc e4' b4 e5' d6 e6')
  obtain ⟨n6,e6⟩:=tN H 11 h5
  have step:∀ans,Ev fns orc (.code 34 none (.loop yY) ⟨nTs Γ a vb i' b6 x31 x32 x33 vn (iJ x).length (k' +1),[],.plain,h5⟩) ans→
    Ev fns orc (.code 34 none (.loop yY) ⟨nTs Γ a vb i' b6 x31 x32 x33 vn (iJ x).length k',[],.plain,h⟩) ans:=by
   rintro ans ⟨n7,e7⟩
   refine Ev.code ⟨n1+n3+n4+n6+n7+2,fun m hm=> ?b4⟩
   case b4=>
    have e1' :=e1 m om
    have e3' :=e3 m om
    have e4' :bZ (eval fns orc m) 34 none (.loop BY) _=_:=e4 (m+1) om
    have e5' :=e5 m om
    have e6' :=e6 m om
    have e7' :=e7 m om
    simp only [AG] at e1'
    simp only [HJ,BY,Int.ofNat_zero] at e4'
    simp only [nTs,yY] at e7'
    rw [aI]
    cases cb:yA (iO x) with
    |true=>
     rw [cb] at e5' ck
     have d6:decide (vK Γ s c0=2)=true∨(decide (vK Γ s c0=2)=false∧decide (vK Γ s c0=3)=true):=by
      by_cases q:vK Γ s c0=2
      ·exact .inl (dT q)
      ·exact .inr ⟨dF q,dT ((ck.1 rfl).resolve_left q)⟩
     rcases d6 with d6|⟨d6,d7⟩
     ·exact SXe (dD @nTs.eq_1 @yY.eq_1 d hia e1' (Eq.symm h2e) x2 d1 d2 e3' lc e4' b4 e5' d6 e6' w) e7'
     ·exact SXe (dD @nTs.eq_1 @yY.eq_1 d hia e1' (Eq.symm h2e) x2 d1 d2 e3' lc e4' b4 e5' d6 d7 (cj2 e6' w)) e7'
    |false=>
     rw [cb] at e5' ck
     have d6:decide (vK Γ s c0=0)=true:=dT (ck.2 rfl)
     exact SXe (dD @nTs.eq_1 @yY.eq_1 d hia e1' (Eq.symm h2e) x2 d1 d2 e3' lc e4' b4 e5' d6 e6' w) e7'
  rcases ih (k' +1) h5 om (T.grow PH) b5 with ⟨h',g,ev,ok⟩|⟨h',ts,g,ev⟩
  ·refine .inl ⟨h',PH.trans g,step _ ev,fun q s' hq hs' => ?_⟩
   by_cases e:q=k'
   ·subst e
    rw [hs] at hs'
    cases hs'
    exact ⟨cf,ck⟩
   ·exact ok q s' om hs'
  ·exact .inr ⟨h',ts,PH.trans g,step _ ev⟩
def uM (Γ:Tb) (a:Nat) (c0:List Nat):Prop:=∀(i:Nat) x q s,(aV (Γ.D a).pd)[i]? =some x→(iJ x)[q]? =some s→NC Γ c0 (aV (Γ.D a).pd) i x q s
def B0:AC:=p34x1100
theorem Sn (H:Has fns orc) {Γ:Tb} (O:Γ.Ok) {S:Nat→DY} {a:Nat} (ha:a<Γ.n) {vb:AV} {c0:List Nat} (hx:iK vb (ints c0)) (hc:∀d∈c0,d<Γ.n) (hn:c0.length<10000000) {vd:AV} {xs:List AV} (hvd:iK vd xs) (hxl:xs.length=(aV (Γ.D a).pd).length) (hg:∀i (hi:i<(aV (Γ.D a).pd).length),∃c,xs[i]? =some (.agg c)∧RV (.decl (aV (Γ.D a).pd)[i]) (.agg c)):
  ∀(k i:Nat) (h:aD),i+k=(aV (Γ.D a).pd).length→TB Γ S h→
   (∃h' ts,aR h h' ∧Ev fns orc (.code 34 none (.loop B0) ⟨[(0,.ptr Γ.tb 0),(1,.ptr (Γ.loc a) 0),(4,vb),(31,vd),(32,.int .i64 ((aV (Γ.D a).pd).length:Nat)),(33,.int .i64 (i:Nat))],[],.plain,h⟩) (.code (.exit 0) ⟨ts,[],.plain,h'⟩)∧∀(i' :Nat) x q s,i≤i' →(aV (Γ.D a).pd)[i']? =some x→(iJ x)[q]? =some s→NC Γ c0 (aV (Γ.D a).pd) i' x q s)∨
   (∃h' ts,aR h h' ∧Ev fns orc (.code 34 none (.loop B0) ⟨[(0,.ptr Γ.tb 0),(1,.ptr (Γ.loc a) 0),(4,vb),(31,vd),(32,.int .i64 ((aV (Γ.D a).pd).length:Nat)),(33,.int .i64 (i:Nat))],[],.plain,h⟩) (.code (.panic (irr 11)) ⟨ts,[],.plain,h'⟩)):=by
 have hbd:=(qF (O.ok a ha)).1
 intro k
 induction k with
 |zero=>
  intro i h hi T
  have d:decide ((i:Int)<(((aV (Γ.D a).pd).length:Nat):Int))=false:=dF om
  refine .inl ⟨h, ?ts,.refl _,Ev.code ⟨0,fun m _=> ?b0⟩,fun i' x q s h1 h2=>by have:=(List.getElem?_eq_some_iff.1 h2).1;omega⟩
  case b0=>
   rw [aI]
   exact SX (cj2 @B0.eq_1 d)
 |succ k ih=>
  intro i h hi T
  have hlt:i<(aV (Γ.D a).pd).length:=om
  have d:decide ((i:Int)<(((aV (Γ.D a).pd).length:Nat):Int))=true:=dT om
  obtain ⟨c,hcc,rv⟩:=hg i hlt
  have hcl:=pJ rv
  have hck:=tX rv
  have hia:=jZ hvd hcc hcl
  have p5:takeN 5 c=some c:=by rw [←hcl];exact aX c
  have hst:=pM h (sz:=5) (z:=kD) rfl hcl hck
  obtain ⟨hA,hAe⟩:∃x,x=(h.push (.cells kD)).set h.next (.cells c):=⟨_,rfl⟩
  rw [←hAe] at hst
  simp only [kD] at hst
  have gA:aR h hA:=by rw [hAe];exact gw2
  have cA:cont hA h.next=some c:=by rw [hAe];exact aH (by simp)
  obtain ⟨x,hx0⟩:∃x,(aV (Γ.D a).pd)[i]? =some x:=⟨_,List.getElem?_eq_getElem hlt⟩
  have hxe:(aV (Γ.D a).pd)[i]=x:=by rw [List.getElem?_eq_getElem hlt] at hx0;exact Option.some.inj hx0
  rw [hxe] at rv
  obtain ⟨vn,vs,vp,vy,hcv,r0⟩:∃vn vs vp vy,c=[.int .i64 (iO x),vn,vs,vp,vy]∧iK vn ((iJ x).map AV.str):=by
   cases x with|mk k n s p y=>
   cases rv with|decl r0 r1 r2 r3=>
   exact ⟨_,_,_,_,rfl,r0⟩
  rw [hcv] at cA
  have ln:∀hp,mK hp .sl vn= .ok (iJ x).length:=fun hp=>by rw [bJ r0 hp,List.length_map]
  have w:IntKind.wrap .i64 ((i:Int)+1)=((i+1:Nat):Int):=tM hlt om
  rcases Rq H O ha hx hc hn hx0 r0 (b6:=h.next) (x31:=vd) (x32:= .int .i64 ((aV (Γ.D a).pd).length:Nat)) (x33:= .int .i64 (i:Nat)) (iJ x).length 0 hA om (T.grow gA) cA with ⟨h1,g1,⟨n1,e1⟩,ok⟩|⟨h1,ts,g1,⟨n1,e1⟩⟩
  ·have step:∀ans,Ev fns orc (.code 34 none (.loop B0) ⟨[(0,.ptr Γ.tb 0),(1,.ptr (Γ.loc a) 0),(4,vb),(31,vd),(32,.int .i64 ((aV (Γ.D a).pd).length:Nat)),(33,.int .i64 ((i+1:Nat):Int))],[],.plain,h1⟩) ans→
     Ev fns orc (.code 34 none (.loop B0) ⟨[(0,.ptr Γ.tb 0),(1,.ptr (Γ.loc a) 0),(4,vb),(31,vd),(32,.int .i64 ((aV (Γ.D a).pd).length:Nat)),(33,.int .i64 (i:Nat))],[],.plain,h⟩) ans:=by
    rintro ans ⟨n2,e2⟩
    refine Ev.code ⟨n1+n2,fun m hm=> ?b1⟩
    case b1=>
     have e1' :bZ (eval fns orc m) 34 none (.loop yY) _=_:=e1 (m+1) om
     have e2' :=e2 m om
     simp only [nTs,yY,Int.ofNat_zero] at e1'
     simp only [B0] at e2'
     rw [aI]
     exact SVe (uK @B0.eq_1 d hia @ldS p5 hst cA ln e1' w) e2'
   have gg:=gA.trans g1
   rcases ih (i+1) h1 om (T.grow gg) with ⟨h',ts,g,ev,ok2⟩|⟨h',ts,g,ev⟩
   ·refine .inl ⟨h',ts,gg.trans g,step _ ev,fun i' x' q s h1 h2 h3=> ?_⟩
    by_cases e:i' =i
    ·subst e
     rw [hx0] at h2
     cases h2
     exact ok q s (Nat.zero_le _) h3
    ·exact ok2 i' x' q s om h2 h3
   ·exact .inr ⟨h',ts,gg.trans g,step _ ev⟩
  ·refine .inr ⟨h1, ?ts2,gA.trans g1,Ev.code ⟨n1,fun m hm=> ?b2⟩⟩
   case b2=>
    have e1' :bZ (eval fns orc m) 34 none (.loop yY) _=_:=e1 (m+1) om
    simp only [nTs,yY,Int.ofNat_zero] at e1'
    rw [aI]
    exact SV (cj9 @B0.eq_1 d hia @ldS p5 hst cA ln e1')
theorem Ll (H:Has fns orc) {Γ:Tb} (O:Γ.Ok) {S:Nat→DY} {h:aD} (T:TB Γ S h) (W:WF Γ S) {a:Nat} (ha:a<Γ.n) {c u:List Nat} (hcu:(S a).ch=some (c,u)):
  (∃h',aR h h' ∧Ev fns orc (.call 34 [.ptr Γ.tb 0,.ptr (Γ.loc a) 0] .plain h) (.call (.ret iW) .plain h')∧uM Γ a c.dropLast)∨
  (∃h',aR h h' ∧Ev fns orc (.call 34 [.ptr Γ.tb 0,.ptr (Γ.loc a) 0] .plain h) (.call (.panic (irr 11)) .plain h')):=by
 have F:=W a ha c u hcu
 obtain ⟨c0,hc0,_⟩:=W.last ha hcu
 have hcl:0<c.length:=by rw [hc0];simp
 have hcn:∀d∈c.dropLast,d<Γ.n:=fun d hd=>by
  obtain ⟨q,hq⟩:=tO (List.dropLast_subset c hd)
  exact (W.part c.length a c u (Nat.le_refl _) ha hcu q d hq).1
 obtain ⟨vc,vu,bk,hv⟩:=T.d_ a ha
 rw [hcu] at hv
 obtain ⟨tkw,rfl⟩:=Cm hv
 have k:=O.ok a ha
 have n15:=Fa k (S a).busy (.sl tkw (ints c)) vu (S a).off (S a).cl
 obtain ⟨vd,n2,rvd⟩:=Gm k (S a).busy (.sl tkw (ints c)) vu (S a).off (S a).cl
 obtain ⟨tk',dl⟩:=EU hcl tkw
 have w1:IntKind.wrap .i64 ((c.length:Int) -1)=(c.length:Int) -1:=mW (by have:=F.max;omega) (by have:=F.max;omega)
 have lc:∀hp,mK hp .sl (.sl tkw (ints c))= .ok c.length:=fun hp=>by rw [fW,kV]
 have ec:=uJ tkw c
 have ld:∀hp,mK hp .sl vd= .ok (aV (Γ.D a).pd).length:=fun hp=>by have:=rvd.len hp;simpa using this
 obtain ⟨ys,hy,hyl,hyg⟩:=jX rvd
 simp only [List.length_map,List.getElem_map] at hyl hyg
 rcases Sn H O (S:=S) ha (vb:= .sl tk' (ints c.dropLast)) (.sl _ _) hcn (by have:=F.max;simp;omega) hy hyl hyg (aV (Γ.D a).pd).length 0 h om T with ⟨h',ts,g,⟨n,e⟩,ok⟩|⟨h',ts,g,⟨n,e⟩⟩
 ·refine .inl ⟨h',g,Ev.call H.f34 H.o34 ⟨n,fun m hm=> ?b1⟩,fun i x q s h1 h2=>ok i x q s (Nat.zero_le _) h1 h2⟩
  case b1=>
   have e1' :bZ (eval fns orc m) 34 none (.loop B0) _=_:=e (m+1) om
   simp only [B0,Int.ofNat_zero] at e1'
   exact SX (sH @a34.eq_1 bk n15 n2 lc w1 dl ec ld e1' @iW.eq_1)
 ·refine .inr ⟨h',g,Ev.call H.f34 H.o34 ⟨n,fun m hm=> ?b2⟩⟩
  case b2=>
   have e1' :bZ (eval fns orc m) 34 none (.loop B0) _=_:=e (m+1) om
   simp only [B0,Int.ofNat_zero] at e1'
   exact SX (uK @a34.eq_1 bk n15 n2 lc w1 dl ec ld e1')
end Go.Ly
namespace Go.Ly
open Go Go.Am Go.Fs Go.Gn
variable {fns:Go.Am.F} {orc:Orc}
def zP (S:Nat→DY):Prop:=∀i,(S i).ch≠none
theorem zP.ext {S S' :Nat→DY} (k:zP S) (e:Ext S S'):S' =S:=funext fun i=>e.kR (k i)
theorem GP {Γ:Tb} {S:Nat→DY} {h h' :aD} (T:TB Γ S h) (T' :TB Γ S h') (c:Chg (pE Γ) h h'):aR h h' :=by
 refine ⟨c.next,fun i hi=> ?_⟩
 by_cases q:pE Γ i
 ·obtain ⟨k,hk,rfl⟩:=q
  rw [iG (T.e_ k hk),iG (T'.e_ k hk)]
 ·exact c.get i hi q
def S7 (fns:Go.Am.F) (orc:Orc) (Γ:Tb) (t:Task) (h:aD) (Q:AV→Prop):Prop:=
 (∃v h',Ev fns orc t (.call (.ret v) .plain h')∧aR h h' ∧Q v)∨(∃e h',0<e∧Ev fns orc t (.call (.panic (irr e)) .plain h')∧Chg (pE Γ) h h')
theorem A2 {P:Nat→Prop} {a b c:aD} (g:aR a b) (k:Chg P b c):Chg P a c:=jV (fM g) k
section
variable (H:Has fns orc) {Γ:Tb} (O:Γ.Ok) {S:Nat→DY} (K:zP S) (W:WF Γ S) {h:aD} (T:TB Γ S h)
include H O K W T
theorem VA {a:Int} (ha: -1≤a∧a<(Γ.n:Int)) {e:pD} {ce:List AV} (hr:RV (.exp e) (.agg ce)):
  S7 fns orc Γ (.call 58 [.ptr Γ.tb 0,.int .i64 a,.agg ce] .plain h) h fun v=>∃t,v=tgA t∧AD Γ S a e t∧BS Γ S a t:=by
 rcases Gp H O (BK H O _) T W (Nat.le_refl _) ha hr with ⟨v,h',ev,ch,S',t,hv,ex,T',_,mr,st⟩|p
 ·obtain rfl:=K.ext ex
  exact .inl ⟨v,h',ev,GP T T' ch,t,hv,mr,st⟩
 ·exact .inr p
theorem Np {w0:Nat} (hw0:w0<Γ.n) {c u0:List Nat} (hcu:(S w0).ch=some (c,u0)) {vc:AV} (hx:iK vc (ints c)) {q o:Nat} (hq:c[q]? =some o)
  {s:List UInt8} {i k:Nat} (hdf:pL (aV (Γ.D o).pd) s=some (i,k)) {dd:lH} (hdd:(aV (Γ.D o).pd)[i]? =some dd) (hb:(pY dd).length=1∨(wC dd).length=1):
  S7 fns orc Γ (.call 60 [.ptr Γ.tb 0,vc,.int .i64 (q:Nat),.str s] .plain h) h fun v=>∃t,v=tgA t∧rL Γ S c q s t∧BS Γ S (o:Int) t:=by
 rcases LA H O (BK H O _) T W (Nat.le_refl _) hw0 hcu hx hq hdf hdd hb with ⟨v,h',ev,ch,S',t,hv,ex,T',_,mr,st⟩|p
 ·obtain rfl:=K.ext ex
  exact .inl ⟨v,h',ev,GP T T' ch,t,hv,mr,st⟩
 ·exact .inr p
theorem M8 {a:Int} (ha: -1≤a∧a<(Γ.n:Int)) {n lv pt k:Nat} (hn:n<1000000000) (hp:PlK Γ S a lv pt k):
  S7 fns orc Γ (.call 54 [.ptr Γ.tb 0,.int .i64 a,.agg [.int .i64 (lv:Nat),.int .i64 (pt:Nat)],.int .i64 (n:Nat)] .plain h) h fun v=>∃lv' pt' k',v= .agg [.int .i64 (lv' :Nat),.int .i64 (pt' :Nat)]∧vQ Γ S a n lv pt lv' pt' ∧PlK Γ S a lv' pt' k' ∧upF Γ n (k:Int)=((k' :Nat):Int):=by
 rcases DE H O (BK H O _) T W (Nat.le_refl _) ha hn hp with ⟨v,h',ev,ch,S',lv',pt',k',hv,ex,T',_,mr⟩|p
 ·obtain rfl:=K.ext ex
  exact .inl ⟨v,h',ev,GP T T' ch,lv',pt',k',hv,mr⟩
 ·exact .inr p
end
theorem Sg (H:Has fns orc) {va vb:AV} {a b:List Nat} (ha:iK va (ints a)) (hb:iK vb (ints b)) (hn:a.length<10000000) (h:aD):
  Ev fns orc (.call 40 [va,vb] .plain h) (.call (.ret (.bool (decide (a=b)))) .plain h):=by
 have la:∀hp,mK hp .sl va= .ok a.length:=fun hp=>by rw [bJ ha hp,kV]
 have lb:∀hp,mK hp .sl vb= .ok b.length:=fun hp=>by rw [bJ hb hp,kV]
 by_cases hl:a.length=b.length
 case neg=>
  have d:decide (((a.length:Nat):Int)=((b.length:Nat):Int))=false:=dF om
  have e:decide (a=b)=false:=dF (fun q=>hl (by rw [q]))
  refine Ev.call H.f40 H.o40 ⟨0,fun m _=> ?b⟩
  case b=>
   exact SX (cj5 @a40.eq_1 la lb d e)
 have key:∀k i,i+k=a.length→∃n ts,∀m,n≤m→(bZ (eval fns orc m) 40 none (.loop p40x110100) ⟨[(0,va),(1,vb),(12,.int .i64 (a.length:Nat)),(13,.int .i64 (i:Nat))],[],.plain,h⟩=
   match decide (a.drop i=b.drop i) with
   |true=> .ok (.code (.exit 0) ⟨ts,[],.plain,h⟩)
   |false=> .ok (.code .ret ⟨[(4,.bool false)],[],.plain,h⟩)):=by
  intro k
  induction k with
  |zero=>
   intro i hi
   refine ⟨0, ?ts0,fun m _=> ?z0⟩
   case z0=>
    have d:decide ((i:Int)<((a.length:Nat):Int))=false:=dF om
    have e:decide (a.drop i=b.drop i)=true:=dT (by rw [List.drop_eq_nil_of_le om,List.drop_eq_nil_of_le om])
    rw [e,aI]
    exact SX d
  |succ k ih=>
   intro i hi
   obtain ⟨n,ts,ih⟩:=ih (i+1) om
   refine ⟨n+1,ts,fun m hm=> ?_⟩
   obtain ⟨m,rfl⟩:∃j,m=j+1:=⟨m -1,by omega⟩
   have h1:i<a.length:=om
   have h2:i<b.length:=om
   have d:decide ((i:Int)<((a.length:Nat):Int))=true:=dT om
   have ia:=pX ha (List.getElem?_eq_getElem h1)
   have ib:=pX hb (List.getElem?_eq_getElem h2)
   have ih' :=ih m om
   rw [List.drop_eq_getElem_cons h1,List.drop_eq_getElem_cons h2,aI]
   by_cases c:a[i]=b[i]
   ·have e:decide (((a[i]:Nat):Int)=((b[i]:Nat):Int))=true:=dT (by rw [c])
    have e2:decide (a[i]::a.drop (i+1)=b[i]::b.drop (i+1))=decide (a.drop (i+1)=b.drop (i+1)):=by simp only [c,List.cons.injEq,true_and]
    rw [e2]
    exact SXe (cj5 d ia ib e (tM h1 om)) ih'
   ·have e:decide (((a[i]:Nat):Int)=((b[i]:Nat):Int))=false:=dF om
    have e2:decide (a[i]::a.drop (i+1)=b[i]::b.drop (i+1))=false:=dF (fun q=>c (List.cons.inj q).1)
    rw [e2]
    exact SX (cj4 d ia ib e)
 obtain ⟨n,ts,e⟩:=key a.length 0 om
 have d:decide (((a.length:Nat):Int)=((b.length:Nat):Int))=true:=dT om
 refine Ev.call H.f40 H.o40 ⟨n,fun m hm=> ?b2⟩
 case b2=>
  have e1:=e m hm
  simp only [List.drop_zero,Int.ofNat_zero] at e1
  cases c:decide (a=b) with
  |true=>
   rw [c] at e1
   exact SX (cj5 @a40.eq_1 la lb d e1)
  |false=>
   rw [c] at e1
   exact SX (cj5 @a40.eq_1 la lb d e1)
def Ae (a b:List Nat):Bool:=decide (b.length≤a.length∧a.take b.length=b)
theorem Nn (H:Has fns orc) {Γ:Tb} (O:Γ.Ok) {S:Nat→DY} (W:WF Γ S) {h:aD} (T:TB Γ S h) {a b:Nat} (ha:a<Γ.n) (hb:b<Γ.n) {ca ua cb ub:List Nat} (hca:(S a).ch=some (ca,ua)) (hcb:(S b).ch=some (cb,ub)):
  Ev fns orc (.call 23 [.ptr Γ.tb 0,.int .i64 (a:Nat),.int .i64 (b:Nat)] .plain h) (.call (.ret (.bool (Ae ca cb))) .plain h):=by
 obtain ⟨n1,e1⟩:=vO H O T ha (by rw [hca];simp)
 obtain ⟨n2,e2⟩:=vO H O T hb (by rw [hcb];simp)
 obtain ⟨x1,t1,v1,c1,p1,_⟩:=rY O T ha hca
 obtain ⟨x2,t2,v2,c2,p2,_⟩:=rY O T hb hcb
 have l1:∀hp,mK hp .sl (.sl t1 (ints ca))= .ok ca.length:=fun hp=>by rw [fW,kV]
 have l2:∀hp,mK hp .sl (.sl t2 (ints cb))= .ok cb.length:=fun hp=>by rw [fW,kV]
 have q1:=uJ t1 ca
 have q2:=uJ t2 cb
 have m1:=(W a ha ca ua hca).max
 by_cases c:cb.length≤ca.length
 ·have d:decide (((cb.length:Nat):Int)≤((ca.length:Nat):Int))=true:=dT om
  obtain ⟨tk',sl⟩:=F7 (tk:=t1) (wX ca) (n:=cb.length) (by rw [kV];omega)
  obtain ⟨n3,e3⟩:=Sg H (va:= .sl tk' ((ints ca).take cb.length)) (vb:= .sl t2 (ints cb)) (a:=ca.take cb.length) (b:=cb) (by rw [show ints (ca.take cb.length)=(ints ca).take cb.length by simp [ints,List.map_take]];exact .sl _ _) (.sl _ _) (by simp;omega) h
  have e:Ae ca cb=decide (ca.take cb.length=cb):=by unfold Ae;simp [c]
  rw [e]
  refine Ev.call H.f23 H.o23 ⟨n1+n2+n3,fun m hm=> ?b⟩
  case b=>
   have e1' :=e1 m om
   have e2' :=e2 m om
   have e3' :=e3 m om
   exact SX (yL @a23.eq_1 e1' e2' c1 c2 p1 p2 q1 q2 l1 l2 d sl e3')
 ·have d:decide (((cb.length:Nat):Int)≤((ca.length:Nat):Int))=false:=dF om
  have e:Ae ca cb=false:=dF (fun q=>c q.1)
  rw [e]
  refine Ev.call H.f23 H.o23 ⟨n1+n2,fun m hm=> ?b2⟩
  case b2=>
   have e1' :=e1 m om
   have e2' :=e2 m om
   exact SX (qD @a23.eq_1 e1' e2' c1 c2 p1 p2 q1 q2 l1 l2 d)
end Go.Ly
namespace Go.Ly
open Go Go.Am Go.Fs Go.Gn
variable {fns:Go.Am.F} {orc:Orc}
def cfY:AC:=p35x1110011001111001100
def cf5:AC:=p35x11100110011110011001111
def cf6:AC:=p35x111001100111100110011111
def cf7:AC:=p35x1110011001111001100111111
def cf8:AC:=p35x11100110011110011001111111
def Qg:AC:=p35x1110011001111001100111111111
theorem Sx:cfY= .seq p35x11100110011110011000 (.seq p35x111001100111100110010 (.seq p35x1110011001111001100110 (.seq p35x11100110011110011001110 cf5))):=rfl
theorem Nh:cf5= .seq p35x111001100111100110011110 cf6:=rfl
theorem Sy:cf6= .seq p35x1110011001111001100111110 cf7:=rfl
theorem Ng:cf7= .seq p35x11100110011110011001111110 cf8:=rfl
theorem Nf:cf8= .seq p35x111001100111100110011111110 (.seq p35x1110011001111001100111111110 Qg):=rfl
def CR (fns:Go.Am.F) (orc:Orc) (c:AC) (ts:eN) (h:aD) (x:Am.Exit) (ts' :eN) (h' :aD):Prop:=∃n,∀m,n≤m→bZ (eval fns orc m) 35 none c ⟨ts,[],.plain,h⟩= .ok (.code x ⟨ts',[],.plain,h'⟩)
theorem qY {α:Type} (n:Nat):nth ([]:List α) n=none:=rfl
structure K10 (Γ:Tb) (a e:Nat) (x33 x34 x35 x74 x75 x76:AV) (ts:eN):Prop where
 k0:cX ts 0= .ptr Γ.tb 0
 k1:cX ts 1= .int .i64 (a:Nat)
 k4:cX ts 4= .ptr (Γ.loc a) 0
 k5:cX ts 5= .int .i64 (e:Nat)
 k33:cX ts 33=x33
 k34:cX ts 34=x34
 k35:cX ts 35=x35
 k74:cX ts 74=x74
 k75:cX ts 75=x75
 k76:cX ts 76=x76
def Piece (fns:Go.Am.F) (orc:Orc) (Γ:Tb) (a e:Nat) (x33 x34 x35 x74 x75 x76:AV) (c:AC) (ts:eN) (h:aD) (Q:Prop):Prop:=
 (∃x ts' h',CR fns orc c ts h x ts' h' ∧aR h h' ∧(x= .normal∨x= .exit 3)∧K10 Γ a e x33 x34 x35 x74 x75 x76 ts' ∧Q)∨(∃er ts' h',0<er∧CR fns orc c ts h (.panic (irr er)) ts' h' ∧Chg (pE Γ) h h')
theorem Piece.step {Γ:Tb} {a e:Nat} {x33 x34 x35 x74 x75 x76:AV} {c c' :AC} {ts ts' :eN} {h h' :aD} {Q Q' :Prop} (p:Piece fns orc Γ a e x33 x34 x35 x74 x75 x76 c' ts' h' Q') (g:aR h h') (q:Q' →Q)
  (e1:∃n,∀m,n≤m→bZ (eval fns orc m) 35 none c ⟨ts,[],.plain,h⟩=bZ (eval fns orc m) 35 none c' ⟨ts',[],.plain,h'⟩):Piece fns orc Γ a e x33 x34 x35 x74 x75 x76 c ts h Q:=by
 obtain ⟨n1,e1⟩:=e1
 rcases p with ⟨x,t2,h2,⟨n2,e2⟩,g2,hx,k,hq⟩|⟨er,t2,h2,he,⟨n2,e2⟩,ch⟩
 ·exact .inl ⟨x,t2,h2,⟨n1+n2,fun m hm=>(e1 m om).trans (e2 m om)⟩,g.trans g2,hx,k,q hq⟩
 ·exact .inr ⟨er,t2,h2,he,⟨n1+n2,fun m hm=>(e1 m om).trans (e2 m om)⟩,A2 g ch⟩
def Oz (Γ:Tb) (S:Nat→DY) (a e q:Nat) (vo lo vn ln pn:Nat):Prop:=∃sl sp n l p l2 p2 co uo cn un,(S vo).ch=some (co,uo)∧(S vn).ch=some (cn,un)∧Ae cn co=true∧un[co.length -1]? =some n∧
 ((ln=0∧sl=0∧sp=e)∨(0<ln∧sp=pn∧∃p',vQ Γ S a ln 0 e sl p'))∧vQ Γ S a n sl sp l p∧vQ Γ S a lo 0 q l2 p2∧l=l2
theorem Oo (H:Has fns orc) {Γ:Tb} (O:Γ.Ok) {S:Nat→DY} (K:zP S) (W:WF Γ S) {h:aD} (T:TB Γ S h) {a e:Nat} (ha:a<Γ.n) {x33 x34 x35 x74 x75 x76:AV} {ts:eN} (k:K10 Γ a e x33 x34 x35 x74 x75 x76 ts) {q b12 b13 b14 vo lo po vn ln pn sl sp ks o:Nat} (t11:cX ts 11= .int .i64 (q:Nat)) (t12:cX ts 12= .ptr b12 0) (t13:cX ts 13= .ptr b13 0) (t14:cX ts 14= .ptr b14 0)
  (c12:cont h b12=some [.int .i64 (vo:Nat),.int .i64 (lo:Nat),.int .i64 (po:Nat)]) (c13:cont h b13=some [.int .i64 (vn:Nat),.int .i64 (ln:Nat),.int .i64 (pn:Nat)]) (c14:cont h b14=some [.int .i64 (sl:Nat),.int .i64 (sp:Nat)]) (hvo:vo<Γ.n) (hvn:vn<Γ.n) (hlo:lo<1000000000)
  {co uo cn un:List Nat} (hco:(S vo).ch=some (co,uo)) (hcn:(S vn).ch=some (cn,un)) (hb:Ae cn co=true) (hp:PlK Γ S a sl sp ks) (hq:PlK Γ S a 0 q o):
  Piece fns orc Γ a e x33 x34 x35 x74 x75 x76 Qg ts h (∃n l p l2 p2,un[co.length -1]? =some n∧vQ Γ S a n sl sp l p∧vQ Γ S a lo 0 q l2 p2∧l=l2):=by
 obtain ⟨k0,k1,k4,k5,k33,k34,k35,k74,k75,k76⟩:=k
 have hO:=O.lt
 have hbb:co.length≤cn.length∧cn.take co.length=co:=by unfold Ae at hb;exact of_decide_eq_true hb
 have Fo:=W vo hvo co uo hco
 have Fn:=W vn hvn cn un hcn
 obtain ⟨co0,hco0,_⟩:=W.last hvo hco
 have lco:0<co.length:=by rw [hco0];simp
 obtain ⟨n,hn⟩:∃n,un[co.length -1]? =some n:=⟨un[co.length -1]'(by rw [Fn.len];omega),List.getElem?_eq_getElem _⟩
 have hnb:=Fn.ub n (List.mem_of_getElem? hn)
 obtain ⟨tk,v2,tT⟩:=T.t_
 have in_:=Γ.at tk hvn
 have io:=Γ.at tk hvo
 obtain ⟨xn,tn,vun,bn,n15,n16,nu,_⟩:=rY O T hvn hcn
 obtain ⟨xo,to,vuo,bo,o15,o16,ou,_⟩:=rY O T hvo hco
 have iu:=pX nu hn
 have lo' :∀hp,mK hp .sl (.sl to (ints co))= .ok co.length:=fun hp=>by rw [fW,kV]
 have w1:IntKind.wrap .i64 ((co.length:Int) -1)=((co.length -1:Nat):Int):=by have:=Fo.max;rw [mW om om];omega
 have xe:=Γ.CU tk
 have q1:=uS nu
 have q2:=uJ to co
 have ar: -1≤(a:Int)∧(a:Int)<(Γ.n:Int):=⟨by omega,by omega⟩
 rcases M8 H O K W T ar (n:=n) om hp with ⟨_,h1,⟨m1,x1⟩,g1,l,p,k',rfl,cl1,_⟩|⟨er,h1,he,⟨m1,x1⟩,ch1⟩
 case inr=>
  refine .inr ⟨er, ?ts1,h1,he,⟨m1,fun m hm=> ?b1⟩,ch1⟩
  case b1=>
   have x1' :=x1 m hm
   exact SX (dD @Qg.eq_1 k0 k1 k4 k5 k33 k34 k35 k74 k75 k76 t11 t12 t13 t14 tT (dD c12 c13 c14 in_ io bn bo n16 o15 iu lo' w1 xe q1 q2 x1' @qY))
 have T1:=T.grow g1
 have d12:=(aF g1 (aT c12)).trans c12
 rcases M8 H O K W T1 ar (n:=lo) hlo hq with ⟨_,h2,⟨m2,x2⟩,g2,l2,p2,k2,rfl,cl2,_⟩|⟨er,h2,he,⟨m2,x2⟩,ch2⟩
 case inr=>
  refine .inr ⟨er, ?ts2,h2,he,⟨m1+m2,fun m hm=> ?b2⟩,A2 g1 ch2⟩
  case b2=>
   have x1' :=x1 m om
   have x2' :=x2 m om
   simp only [Int.ofNat_zero] at x2'
   exact SX (dD @Qg.eq_1 k0 k1 k4 k5 k33 k34 k35 k74 k75 k76 t11 t12 t13 t14 tT (dD c12 c13 c14 in_ io bn bo n16 o15 iu lo' w1 xe q1 q2 x1' (cj3 d12 x2' @qY)))
 by_cases cl:l=l2
 ·have d:decide (((l:Nat):Int)=(l2:Int))=true:=dT om
  obtain ⟨m3,x3⟩:=tN H 11 h2
  refine .inl ⟨.normal, ?ts3,h2,⟨m1+m2+m3,fun m hm=> ?b3⟩,g1.trans g2,.inl rfl, ?kk,⟨n,l,p,l2,p2,hn,cl1,cl2,cl⟩⟩
  case b3=>
   have x1' :=x1 m om
   have x2' :=x2 m om
   have x3' :=x3 m om
   simp only [Int.ofNat_zero] at x2'
   exact SX (dD @Qg.eq_1 k0 k1 k4 k5 k33 k34 k35 k74 k75 k76 t11 t12 t13 t14 tT (dD c12 c13 c14 in_ io bn bo n16 o15 iu lo' w1 xe q1 q2 x1' (cj4 d12 x2' d x3')))
  case kk=>exact ⟨rfl,rfl,rfl,rfl,rfl,rfl,rfl,rfl,rfl,rfl⟩
 ·have d:decide (((l:Nat):Int)=(l2:Int))=false:=dF om
  obtain ⟨m3,x3⟩:=uQ H 11 h2
  refine .inr ⟨11, ?ts4,h2,by omega,⟨m1+m2+m3,fun m hm=> ?b4⟩,fM (g1.trans g2)⟩
  case b4=>
   have x1' :=x1 m om
   have x2' :=x2 m om
   have x3' :=x3 m om
   simp only [Int.ofNat_zero] at x2'
   exact SX (dD @Qg.eq_1 k0 k1 k4 k5 k33 k34 k35 k74 k75 k76 t11 t12 t13 t14 tT (dD c12 c13 c14 in_ io bn bo n16 o15 iu lo' w1 xe q1 q2 x1' (cj4 d12 x2' d x3')))
end Go.Ly
end
