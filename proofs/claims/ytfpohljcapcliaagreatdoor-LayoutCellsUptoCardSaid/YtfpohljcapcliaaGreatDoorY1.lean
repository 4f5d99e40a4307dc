/- Parts of a proof. -/
import Derived.Test.YtfpohljcapcliaaGreatDoorD
import Derived.Test.YtfpohljcapcliaaGreatDoorY
set_option linter.all false
set_option maxHeartbeats 16000000
noncomputable section
namespace Go.Ly
open Go Go.Am Go.Fs Go.Gn
variable {fns:Go.Am.F} {orc:Orc}
def BX:AC:=p38x1111111011
def L3:AC:=p38x11111111
theorem uJ {l:List AV} {v:AV} (h:iP v l):v.cells=[v]:=by cases h<;>rfl
theorem uU.wH {h h' :aD} {l:AV} {xs:List AV} (a:uU h l xs) (e:∀t,jK l=some t→h'.get t=h.get t):uU h' l xs:=by
 rcases a with a|rfl
 ·cases a with
  |nil=>exact .inl .nil
  |opn t xs h1 h2=>exact .inl (.opn t xs ((e t rfl).trans h1) h2)
 ·exact .inr rfl
theorem uU.tok {h:aD} {l:AV} {xs:List AV} (a:uU h l xs) {t:Nat} (ht:jK l=some t):∃n,h.get t=some (.tok n):=by
 rcases a with a|rfl
 ·cases a with
  |nil=>cases ht
  |opn t' xs h1 h2=>cases ht;exact ⟨_,h1⟩
 ·cases ht
theorem uU.ne {h:aD} {l:AV} {xs:List AV} (a:uU h l xs) {t i:Nat} (ht:jK l=some t) {c:List AV} (hc:cont h i=some c):t≠i:=by
 rintro rfl
 obtain ⟨_,h1⟩:=a.tok ht
 rw [gM hc] at h1
 cases h1
theorem uU.lt {h:aD} {l:AV} {xs:List AV} (a:uU h l xs) {t:Nat} (ht:jK l=some t):t<h.next:=aD.mN (a.tok ht).choose_spec
theorem L0 (H:Has fns orc) {Γ:Tb} (O:Γ.Ok) {S:Nat→DY} {h:aD} (T:TB Γ S h) {a:Nat} (ha:a<Γ.n) {ts:fN} {vch vup:AV} {c u:List Nat} {off:Int} (t1:cH ts 1= .int .i64 (a:Nat)) (t5:cH ts 5= .ptr (Γ.loc a) 0) (t6:cH ts 6=vch) (t7:cH ts 7=vup) (t8:cH ts 8= .int .i64 off)
  (ac:uU h vch (ints c)) (au:uU h vup (ints u)) (hne:∀t,jK vch=some t→jK vup≠some t) (hc:c.length<10000000) (hu:u.length<10000000):
  ∃h' cc,(∃n,∀m,n≤m→cG (eval fns orc m) 38 none L3 ⟨ts,[],.plain,h⟩= .ok (.code .ret ⟨[(4,.ptr (Γ.loc a) 0)],[],.plain,h'⟩))∧
   TB Γ (upd S a ⟨false,some (c++[a],u++[0]),off,(lB (aU (Γ.D a).pd):Nat),cc⟩) h' ∧Chg (fun j=>pJ Γ j∨jK vch=some j∨jK vup=some j) h h' :=by
 obtain ⟨vc,vu,bk,_⟩:=T.d_ a ha
 have k:=O.ok a ha
 obtain ⟨vd,k2,rvd⟩:=FU k (S a).busy vc vu (S a).off (S a).cl
 obtain ⟨hA,gA,n1,e1⟩:=Hj H rvd (qB k).1 (yZ k) h
 have bA:=(aF gA (aO bk)).trans bk
 have lA:=aO bA
 have nA:=gA.next
 generalize (S a).busy=bs at bk k2 bA
 generalize (S a).off=of0 at bk k2 bA
 generalize (S a).cl=cl0 at bk k2 bA
 have o17:=ov17 k bs vc vu of0 cl0 off
 obtain ⟨hB,hBe⟩:∃x,x=hA.set (Γ.loc a) (.cells (bx (Γ.D a) bs vc vu off cl0)):=⟨_,rfl⟩
 have bB:cont hB (Γ.loc a)=some (bx (Γ.D a) bs vc vu off cl0):=by rw [hBe];exact aG lA
 have nB:hB.next=hA.next:=by rw [hBe];simp
 have o18:=ov18 k bs vc vu off cl0 (lB (aU (Γ.D a).pd):Nat)
 obtain ⟨cl,hcl⟩:∃cl:Int,cl=((lB (aU (Γ.D a).pd):Nat):Int):=⟨_,rfl⟩
 rw [←hcl] at o18 e1⊢
 obtain ⟨hC,hCe⟩:∃x,x=hB.set (Γ.loc a) (.cells (bx (Γ.D a) bs vc vu off cl)):=⟨_,rfl⟩
 have bC:cont hC (Γ.loc a)=some (bx (Γ.D a) bs vc vu off cl):=by rw [hCe];exact aG om
 have nC:hC.next=hA.next:=by rw [hCe];simp [nB]
 have oC:∀j,j<h.next→j≠Γ.loc a→hC.get j=h.get j:=fun j hj hn=>by rw [hCe,aE _ _ _ _ om hn,hBe,aE _ _ _ _ om hn,gA.get j hj]
 have acC:uU hC vch (ints c):=ac.wH fun t ht=>oC t (ac.lt ht) (ac.ne ht bk)
 have auC:uU hC vup (ints u):=au.wH fun t ht=>oC t (au.lt ht) (au.ne ht bk)
 obtain ⟨l1,hD,ap1,a1,g1,tk1⟩:=A2 acC (v:= .int .i64 (a:Nat)) (yV c) rfl (by rw [mQ];omega)
 have nD:=g1.next
 have auD:uU hD vup (ints u):=auC.wH fun t ht=>g1.get t (by have:=au.lt ht;omega) (fun e=>hne t e ht)
 obtain ⟨l2,hE,ap2,a2,g2,tk2⟩:=A2 auD (v:= .int .i64 0) (yV u) rfl (by rw [mQ];omega)
 have nE:=g2.next
 have s1:=(show uU hD l1 _ from .inl a1).E6
 have s2:=(show uU hE l2 _ from .inl a2).E6
 have c1:=uJ s1
 have c2:=uJ s2
 have y1:=qL s1
 have y2:=qL s2
 have bE:cont hE (Γ.loc a)=some (bx (Γ.D a) bs vc vu off cl):=by
  rw [aH (g2.get (Γ.loc a) om (fun e=>au.ne e bk rfl)),aH (g1.get (Γ.loc a) om (fun e=>ac.ne e bk rfl))]
  exact bC
 have o15:=ov15 k bs vc vu off cl l1
 obtain ⟨hF,hFe⟩:∃x,x=hE.set (Γ.loc a) (.cells (bx (Γ.D a) bs l1 vu off cl)):=⟨_,rfl⟩
 have bF:cont hF (Γ.loc a)=some (bx (Γ.D a) bs l1 vu off cl):=by rw [hFe];exact aG om
 have nF:hF.next=hE.next:=by rw [hFe];simp
 have o16:=ov16 k bs l1 vu off cl l2
 obtain ⟨hG,hGe⟩:∃x,x=hF.set (Γ.loc a) (.cells (bx (Γ.D a) bs l1 l2 off cl)):=⟨_,rfl⟩
 have bG:cont hG (Γ.loc a)=some (bx (Γ.D a) bs l1 l2 off cl):=by rw [hGe];exact aG om
 have nG:hG.next=hE.next:=by rw [hGe];simp [nF]
 have o14:=X8 k bs l1 l2 off cl false
 obtain ⟨hH,hHe⟩:∃x,x=hG.set (Γ.loc a) (.cells (bx (Γ.D a) false l1 l2 off cl)):=⟨_,rfl⟩
 have bH:cont hH (Γ.loc a)=some (bx (Γ.D a) false l1 l2 off cl):=by rw [hHe];exact aG om
 have oH:∀j,j<hE.next→j≠Γ.loc a→hH.get j=hE.get j:=fun j hj hn=>by rw [hHe,aE _ _ _ _ om hn,hGe,aE _ _ _ _ om hn,hFe,aE _ _ _ _ om hn]
 have all:∀j,j<h.next→j≠Γ.loc a→jK vch≠some j→jK vup≠some j→hH.get j=h.get j:=fun j hj h1 h2 h3=>by
  rw [oH j om h1,g2.get j om h3,g1.get j om h2,oC j hj h1]
 refine ⟨hH,bx (Γ.D a) false l1 l2 off cl,⟨n1,fun m hm=> ?b⟩,T.upd O ha _ bH rfl ⟨by simp, ?p1, ?p2⟩ (fun j hj hn w=>all j hj hn ?q1 ?q2) (T.ne O ha),⟨by rw [hHe];simp;omega,fun j hj hn=>all j hj (fun e=>hn (.inl ⟨a,ha,e⟩)) (fun e=>hn (.inr (.inl e))) (fun e=>hn (.inr (.inr e)))⟩⟩
 case p1=>rw [CO];exact s1
 case p2=>rw [CO];exact s2
 case q1=>
  intro e
  rcases w with w|w|⟨x,hx,w⟩
  ·obtain ⟨_,_,q⟩:=T.t_;rw [←w] at q;exact ac.ne e q rfl
  ·obtain ⟨_,q⟩:=T.m_
   rw [←w] at q
   obtain ⟨_,h1⟩:=ac.tok e
   rw [q] at h1
   cases h1
  ·obtain ⟨_,_,q,_⟩:=T.d_ x hx;rw [←w] at q;exact ac.ne e q rfl
 case q2=>
  intro e
  rcases w with w|w|⟨x,hx,w⟩
  ·obtain ⟨_,_,q⟩:=T.t_;rw [←w] at q;exact au.ne e q rfl
  ·obtain ⟨_,q⟩:=T.m_
   rw [←w] at q
   obtain ⟨_,h1⟩:=au.tok e
   rw [q] at h1
   cases h1
  ·obtain ⟨_,_,q,_⟩:=T.d_ x hx;rw [←w] at q;exact au.ne e q rfl
 case b=>
  have e1' :=e1 m om
  exact SX (dI @L3.eq_1 t1 t5 t6 t7 t8 bk k2 e1' bA o17 (Eq.symm hBe) bB o18 (Eq.symm hCe) ap1 (zZ ap2 bE c1 c2 y1 y2 o15 (Eq.symm hFe) bF o16 (Eq.symm hGe) bG o14 (Eq.symm hHe)))
end Go.Ly
namespace Go.Ly
open Go Go.Am Go.Fs Go.Gn
variable {fns:Go.Am.F} {orc:Orc}
def HE (Γ:Tb) (S:Nat→DY) (a:Int) (lv pt r:Nat) (ux u0:List Nat):Prop:=u0.length=ux.length∧∀(q n:Nat),ux[q]? =some n→∃l p k',u0[q]? =some l∧vY Γ S a n lv pt l p∧PlK Γ S a l p k' ∧upF Γ n (r:Int)=((k' :Nat):Int)
def FV (Γ:Tb) (a:Nat) (vch upv:AV) (off:Int) (b9:Nat) (vux:AV) (len i:Nat):fN:=
 [(0,.ptr Γ.tb 0),(1,.int .i64 (a:Nat)),(5,.ptr (Γ.loc a) 0),(6,vch),(7,upv),(8,.int .i64 off),(9,.ptr b9 0),(69,vux),(70,.int .i64 (len:Nat)),(71,.int .i64 (i:Nat))]
theorem QX (H:Has fns orc) {Γ:Tb} (O:Γ.Ok) {N:Nat} (C:HF fns orc Γ N) {a:Nat} (ha:a<Γ.n) (har:0≤(Γ.D a).ar) {vux:AV} {ux:List Nat} (hx:iP vux (ints ux)) (hl:ux.length≤40) (hub:∀n∈ux,n<10000000) {x:Int} {lv pt r b0 b9:Nat} {vch:AV} {off:Int}:
  ∀(k i:Nat) (S:Nat→DY) (h:aD) (upv:AV) (ul:List Nat),i+k=ux.length→TB Γ S h→WF Γ S→opn S Γ.n≤N→(Γ.tb<b0∧Γ.mb<b0∧∀j,pJ Γ j→j<b0)→b0≤b9→cont h b9=some [.int .i64 x,.int .i64 (lv:Nat),.int .i64 (pt:Nat)]→PlK Γ S (Γ.D a).ar lv pt r→uU h upv (ints ul)→(∀t,jK upv=some t→b0≤t)→ul.length=i→HE Γ S (Γ.D a).ar lv pt r (ux.take i) ul→
   (∃h' S' Ri u0,Ev fns orc (.code 38 none (.loop p38x11111110110111100) ⟨FV Γ a vch upv off b9 vux ux.length i,[],.plain,h⟩) (.code (.exit 0) ⟨FV Γ a vch Ri off b9 vux ux.length ux.length++[(72,.bool false)],[],.plain,h'⟩)∧
    Chg (fun j=>pJ Γ j∨jK upv=some j) h h' ∧Ext S S' ∧TB Γ S' h' ∧WF Γ S' ∧uU h' Ri (ints u0)∧(∀t,jK Ri =some t→jK upv=some t∨h.next≤t)∧HE Γ S' (Γ.D a).ar lv pt r ux u0)∨
   (∃h' e ts,0<e∧Ev fns orc (.code 38 none (.loop p38x11111110110111100) ⟨FV Γ a vch upv off b9 vux ux.length i,[],.plain,h⟩) (.code (.panic (irr e)) ⟨ts,[],.plain,h'⟩)∧Chg (fun j=>pJ Γ j∨jK upv=some j) h h'):=by
 intro k
 induction k with
 |zero=>
  intro i S h upv ul hi T W hN hb0 h9 hb hp au ht hul hcl
  have e:i=ux.length:=om
  have d:decide ((i:Int)<((ux.length:Nat):Int))=false:=dF om
  rw [e,List.take_length] at hcl
  refine .inl ⟨h,S,upv,ul,Ev.code ⟨0,fun m _=> ?b0⟩,.refl _ _,.refl _,T,W,au,fun t w=> .inl w,hcl⟩
  case b0=>
   rw [e] at d⊢
   exact SX (cj3 @FV.eq_1 d @aI)
 |succ k ih=>
  intro i S h upv ul hi T W hN hb0 h9 hb hp au ht hul hcl
  have hO:=O.lt
  have hlt:i<ux.length:=om
  have d:decide ((i:Int)<((ux.length:Nat):Int))=true:=dT om
  have ar:=O.ar a ha
  obtain ⟨n,hn⟩:∃n,n=ux[i]:=⟨_,rfl⟩
  have hgi:ux[i]? =some n:=by rw [hn];exact List.getElem?_eq_getElem hlt
  have hia:=rN hx hgi
  have hnb:=hub n (List.mem_of_getElem? hgi)
  obtain ⟨vc,vu,bk,_⟩:=T.d_ a ha
  have k8:=HU (O.ok a ha) (S a).busy vc vu (S a).off (S a).cl
  rcases DV H O C T W hN (a:=(Γ.D a).ar) ⟨by omega,by omega⟩ (n:=n) om hp with ⟨_,h1,⟨m1,x1⟩,ch1,S1,l,p,k',rfl,ext,T1,W1,cl,pk,uk⟩|⟨e',h1,hpe,⟨m1,x1⟩,ch1⟩
  case inr=>
   refine .inr ⟨h1,e', ?tsp,hpe,Ev.code ⟨m1,fun m hm=> ?b1⟩,⟨ch1.next,fun i hi hn=>ch1.get i hi (fun w=>hn (.inl w))⟩⟩
   case b1=>
    have x1' :=x1 m hm
    exact SX (cj8 @FV.eq_1 d hia bk k8 hb x1' @aI)
  have nn1:=ch1.next
  have l9:=aO hb
  have hb1:cont h1 b9=some [.int .i64 x,.int .i64 (lv:Nat),.int .i64 (pt:Nat)]:=(qJ ch1 l9 (fun w=>by have:=hb0.2.2 _ w;omega)).trans hb
  have au1:uU h1 upv (ints ul):=au.wH fun t w=>ch1.get t (au.lt w) (fun q=>by have:=hb0.2.2 _ q;have:=ht t w;omega)
  obtain ⟨l1,h2,ap,a1,g1,tk1⟩:=A2 au1 (v:= .int .i64 (l:Nat)) (yV ul) rfl (by rw [mQ];omega)
  have nn2:=g1.next
  have T2:TB Γ S1 h2:=T1.wH fun j hj w=>g1.get j hj (fun q=>by
   have:=ht j q
   rcases w with w|w|w
   ·omega
   ·omega
   ·have:=hb0.2.2 j w;omega)
  have hb2:cont h2 b9=some [.int .i64 x,.int .i64 (lv:Nat),.int .i64 (pt:Nat)]:=(aH (g1.get b9 om (fun q=>au1.ne q hb1 rfl))).trans hb1
  have YI:HE Γ S1 (Γ.D a).ar lv pt r (ux.take (i+1)) (ul++[l]):=by
   obtain ⟨q1,q2⟩:=hcl
   refine ⟨by simp at q1⊢;omega,fun q n' hq=> ?_⟩
   by_cases c:q<i
   ·rw [List.getElem?_take,if_pos om] at hq
    obtain ⟨l',p',k2,w1,w2,w3,w4⟩:=q2 q n' (by rw [List.getElem?_take,if_pos c];exact hq)
    exact ⟨l',p',k2,by rw [List.getElem?_append_left om];exact w1,w2.le ext.le,w3.le ext.le,w4⟩
   ·rw [List.getElem?_take] at hq
    split at hq
    ·obtain rfl:q=i:=om
     rw [hgi] at hq
     cases hq
     exact ⟨l,p,k',by rw [←hul];simp,cl,pk,uk⟩
    ·cases hq
  have w:IntKind.wrap .i64 ((i:Int)+1)=((i+1:Nat):Int):=by rw [pE om om];rfl
  have cc:Chg (fun j=>pJ Γ j∨jK upv=some j) h h2:=⟨by omega,fun j hj hn=>by rw [g1.get j om (fun q=>hn (.inr q)),ch1.get j hj (fun q=>hn (.inl q))]⟩
  have step:∀ans,Ev fns orc (.code 38 none (.loop p38x11111110110111100) ⟨FV Γ a vch l1 off b9 vux ux.length (i+1),[],.plain,h2⟩) ans→
    Ev fns orc (.code 38 none (.loop p38x11111110110111100) ⟨FV Γ a vch upv off b9 vux ux.length i,[],.plain,h⟩) ans:=by
   rintro ans ⟨m2,x2⟩
   refine Ev.code ⟨m1+m2,fun m hm=> ?bt⟩
   case bt=>
    have x1' :=x1 m om
    have x2' :=x2 m om
    simp only [FV] at x2'
    exact SXe (tR @FV.eq_1 d hia bk k8 hb x1' ap w @aI) x2'
  have mk:∀{h' :aD},Chg (fun j=>pJ Γ j∨jK l1=some j) h2 h' →Chg (fun j=>pJ Γ j∨jK upv=some j) h h' :=fun ch=>⟨by have:=ch.next;omega,fun j hj hn=>by
   rw [ch.get j om (fun q=> ?_),cc.get j hj hn]
   rcases q with q|q
   ·exact hn (.inl q)
   ·rcases tk1 j q with q|q
    ·exact hn (.inr q)
    ·omega⟩
  rcases ih (i+1) S1 h2 l1 (ul++[l]) om T2 W1 (by have:=zG ext Γ.n;omega) hb0 h9 hb2 (hp.le ext.le) (by rw [CO];exact .inl a1) (fun t q=>by rcases tk1 t q with q|q;exact ht t q;omega) (by simp;omega) YI with ⟨h',S',Ri,u0,ev,ch,ex,T3,W3,a3,tk3,cl3⟩|⟨h',e,ts,he,ev,ch⟩
  ·exact .inl ⟨h',S',Ri,u0,step _ ev,mk ch,ext.trans ex,T3,W3,a3,fun t q=>by rcases tk3 t q with q|q;rcases tk1 t q with q|q;exact .inl q;exact .inr om;exact .inr om,cl3⟩
  ·exact .inr ⟨h',e,ts,he,step _ ev,mk ch⟩
end Go.Ly
namespace Go.Ly
open Go Go.Am Go.Fs Go.Gn
variable {fns:Go.Am.F} {orc:Orc}
theorem BW:a38.body= .seq p38x0 (.seq p38x10 (.seq p38x110 (.seq p38x1110 (.seq p38x11110 (.seq p38x111110 (.seq p38x1111110
 (.seq (.seq p38x111111100 (.seq p38x1111111010 BX)) L3))))))):=rfl
theorem LZ:a38.results=[.tmp 4]:=rfl
theorem Oy {S:Nat→DY} {a:Nat} (hc:(S a).ch=none) (hb:(S a).busy=false) {d:DY} (hd:d.busy=true):∀n,opn (upd S a d) n+(if a<n then 1 else 0)=opn S n
 |0=>by simp [opn]
 |n+1=>by
  have:=Oy hc hb hd n
  simp only [opn]
  by_cases e:n=a
  ·subst e
   rw [yQ,if_neg (show ¬(d.ch=none∧d.busy=false) by simp [hd]),if_pos (show n<n+1 by omega),if_pos (show (S n).ch=none∧(S n).busy=false from ⟨hc,hb⟩)]
   rw [if_neg om] at this
   omega
  ·rw [A3 _ _ e]
   by_cases q:a<n
   ·rw [if_pos q] at this;rw [if_pos (show a<n+1 by omega)];omega
   ·rw [if_neg q] at this;rw [if_neg (show ¬a<n+1 by omega)];omega
theorem Rj {S:Nat→DY} {a:Nat} (hc:(S a).ch=none) (d:DY):Le S (upd S a d):=fun i hi=>A3 _ _ (by rintro rfl;exact hi hc)
theorem WF.busy {Γ:Tb} {S:Nat→DY} (W:WF Γ S) {a:Nat} (hc:(S a).ch=none) {d:DY} (hd:d.ch=none):WF Γ (upd S a d):=by
 intro i hi c u hcu
 by_cases e:i=a
 ·subst e;rw [yQ,hd] at hcu;cases hcu
 ·rw [A3 _ _ e] at hcu
  exact (W i hi c u hcu).le (Rj hc d) (by rw [hcu];simp)
theorem Wk {Γ:Tb} {S:Nat→DY} (W:WF Γ S) {ar:Int} {x lv pt r:Nat} (hx:x<Γ.n) {cx ux u0:List Nat} (hcx:(S x).ch=some (cx,ux)) (har:(Γ.D x).ar=(r:Int)) (hp:PlK Γ S ar lv pt r) (hcl:HE Γ S ar lv pt r ux u0):
  ∀(q:Nat) k t,cx[q]? =some k→u0[q]? =some t→∃w c' u' r,upF Γ t ar=((w:Nat):Int)∧w<Γ.n∧(S w).ch=some (c',u')∧(Γ.D k).ar=((r:Nat):Int)∧r∈c' :=by
 intro q k t hk ht
 have F:=W x hx cx ux hcx
 obtain ⟨hql,_⟩:=List.getElem?_eq_some_iff.1 hk
 obtain ⟨n,hn⟩:∃n,ux[q]? =some n:=⟨ux[q]'(by rw [F.len];exact hql),List.getElem?_eq_getElem (by rw [F.len];exact hql)⟩
 obtain ⟨l,p,k',h1,h2,⟨w,c,u,h3,h4,h5,h6⟩,h7⟩:=hcl.2 q n hn
 rw [ht] at h1
 cases h1
 have last:q+1=cx.length→k=x∧n=0:=by
  intro e
  obtain ⟨t0,_,⟨_,rfl,rfl,_⟩|⟨x',lv',pt',cx',ux',u0',_,_,_,rfl,rfl,_,_,g,_⟩⟩:=F.shape
  ·simp at e;subst e;simp at hk hn;exact ⟨hk.symm,hn.symm⟩
  ·simp at e
   subst e
   simp at hk
   rw [←g] at hn
   simp at hn
   exact ⟨hk.symm,hn.symm⟩
 by_cases e:q+1=cx.length
 ·obtain ⟨rfl,rfl⟩:=last e
  have:k' =r:=by simp only [upF] at h7;omega
  subst this
  exact ⟨w,c,u,k',h3,h4,h5,har,List.mem_of_getElem? h6⟩
 ·obtain ⟨t0,_,⟨_,rfl,rfl,_⟩|⟨x',lv',pt',cx',ux',u0',_,_,_,rfl,rfl,_,_,g,_,_,hups⟩⟩:=F.shape
  ·simp at e hql;omega
  ·simp at e hql
   rw [List.getElem?_append_left om] at hk hn
   obtain ⟨w2,c2,u2,r2,g1,g2,g3,g4,g5⟩:=hups q k n hk hn
   rw [har,h7] at g1
   have:k' =w2:=om
   subst this
   obtain ⟨_,u',g6⟩:=W.part c.length w c u (Nat.le_refl _) h4 h5 p k' h6
   rw [g3] at g6
   cases g6
   exact ⟨w,c,u,r2,h3,h4,h5,g4,List.mem_of_mem_take g5⟩
theorem WF.known {Γ:Tb} {S:Nat→DY} (W:WF Γ S) {a:Nat} (hc:(S a).ch=none) {c u:List Nat} {off:Int} {cc:List AV} {t:Tg} (hA:D2 Γ S a t) (hu:u.length=c.length) (hm:c.length<40) (hub:∀x∈u,x<10000000) (ho:Γ.Ok) (ha:a<Γ.n)
  (hs:(t=none∧c=[]∧u=[]∧off=0)∨∃x lv pt ux r,t=some (x,lv,pt)∧x<Γ.n∧(S x).ch=some (c,ux)∧off=(S x).off+(S x).cl∧0≤(Γ.D a).ar∧(Γ.D x).ar=((r:Nat):Int)∧PlK Γ S (Γ.D a).ar lv pt r∧HE Γ S (Γ.D a).ar lv pt r ux u):
  WF Γ (upd S a ⟨false,some (c++[a],u++[0]),off,(lB (aU (Γ.D a).pd):Nat),cc⟩):=by
 have L:=Rj hc (⟨false,some (c++[a],u++[0]),off,(lB (aU (Γ.D a).pd):Nat),cc⟩:DY)
 intro i hi c' u' hcu
 by_cases e:i=a
 ·subst e
  rw [yQ] at hcu
  cases hcu
  have hcl:=yZ (ho.ok i hi)
  refine ⟨by simp [hu],by simp;omega,fun y hy=> ?_,by rw [yQ], ?_,t,hA.le L, ?_⟩
  ·rcases List.mem_append.1 hy with q|q
   ·exact hub y q
   ·simp at q;omega
  ·rw [yQ]
   rcases hs with ⟨_,rfl,_,rfl⟩|⟨x,lv,pt,ux,r,_,hx,hcx,rfl,_⟩
   ·simp
   ·have F:=W x hx c ux hcx
    have:=yZ (ho.ok x hx)
    have h1:=F.R4
    have h2:=F.cl
    simp only [List.length_append,List.length_cons,List.length_nil]
    omega
  ·rw [yQ]
   rcases hs with ⟨rfl,rfl,rfl,rfl⟩|⟨x,lv,pt,ux,r,rfl,hx,hcx,rfl,har,hxr,hp,hcl⟩
   ·exact .inl ⟨rfl,rfl,rfl,rfl⟩
   ·have hxi:x≠i:=by rintro rfl;rw [hc] at hcx;cases hcx
    refine .inr ⟨x,lv,pt,c,ux,u,rfl,hx,L.ch hcx,rfl,rfl, ?_,by rw [A3 _ _ hxi],hu,har,fun q n hq=> ?_,fun q k t hk ht=> ?_⟩
    ·intro Jx
     obtain ⟨q,hq⟩:=tX Jx
     obtain ⟨_,u',h⟩:=W.part c.length x c ux (Nat.le_refl _) hx hcx q i hq
     rw [hc] at h
     cases h
    ·obtain ⟨l,p,k',h1,h2,_⟩:=hcl.2 q n hq
     exact ⟨l,p,h1,h2.le L⟩
    ·obtain ⟨w,c',u',r',h1,h2,h3,h4⟩:=Wk W hx hcx hxr hp hcl q k t hk ht
     exact ⟨w,c',u',r',h1,h2,L.ch h3,h4⟩
 ·rw [A3 _ _ e] at hcu
  exact (W i hi c' u' hcu).le L (by rw [hcu];simp)
theorem FY {S S1:Nat→DY} {a:Nat} {d d' :DY} (hc:(S a).ch=none) (hb:(S a).busy=false) (h1:d.ch=none) (h2:d.busy=true) (e:Ext (upd S a d) S1) (h3:d'.ch≠none) (h4:d'.busy=false):S1 a=d∧Ext S (upd S1 a d'):=by
 have ea:S1 a=d:=by
  rcases e a with q|⟨_,q,_⟩
  ·rw [q,yQ]
  ·rw [yQ,h2] at q;cases q
 refine ⟨ea,fun i=> ?_⟩
 by_cases c:i=a
 ·subst c
  rw [yQ]
  exact .inr ⟨hc,hb,h3,h4⟩
 ·rw [A3 _ _ c]
  rcases e i with q|q
  ·rw [A3 _ _ c] at q;exact .inl q
  ·rw [A3 _ _ c] at q;exact .inr q
end Go.Ly
namespace Go.Ly
open Go Go.Am Go.Fs Go.Gn
variable {fns:Go.Am.F} {orc:Orc}
theorem EB (H:Has fns orc) {Γ:Tb} (O:Γ.Ok) {S:Nat→DY} {h:aD} (T:TB Γ S h) (W:WF Γ S) {a:Nat} (ha:a<Γ.n) (hs:¬((S a).ch=none∧(S a).busy=false)):
  Out fns orc (pJ Γ) (.call 38 [.ptr Γ.tb 0,.int .i64 (a:Nat)] .plain h) h fun v h' =>v= .ptr (Γ.loc a) 0∧∃S',Ext S S' ∧TB Γ S' h' ∧WF Γ S' ∧(S' a).ch≠none:=by
 by_cases hc:(S a).ch=none
 case neg=>exact Out.ret _ h (xV H O T ha hc) (.refl _ _) ⟨rfl,S,.refl _,T,W,hc⟩
 have hb:(S a).busy=true:=by
  cases q:(S a).busy with
  |true=>rfl
  |false=>exact absurd ⟨hc,q⟩ hs
 obtain ⟨tk,v2,tT⟩:=T.t_
 obtain ⟨vc,vu,bk,hv⟩:=T.d_ a ha
 rw [hc] at hv
 obtain rfl:vc= .aC:=hv
 rw [hb] at bk
 have k:=O.ok a ha
 have n15:=Fz k true .aC vu (S a).off (S a).cl
 have n14:=Si k true .aC vu (S a).off (S a).cl
 have hia:=Γ.at tk ha
 obtain ⟨m1,x1⟩:=vB H 12 h
 refine Out.pan 12 h om (Ev.call H.f38 H.o38 ⟨m1,fun m hm=> ?b⟩) (.refl _ _)
 case b=>
  have x1' :=x1 m hm
  exact SX (cj7 @BW tT hia bk n15 n14 x1')
theorem JN (H:Has fns orc) {Γ:Tb} (O:Γ.Ok) {N:Nat} (C:HF fns orc Γ N) {S:Nat→DY} {h:aD} (T:TB Γ S h) (W:WF Γ S) (hN:opn S Γ.n≤N+1) {a:Nat} (ha:a<Γ.n) (hc:(S a).ch=none) (hb:(S a).busy=false):
  Out fns orc (pJ Γ) (.call 38 [.ptr Γ.tb 0,.int .i64 (a:Nat)] .plain h) h fun v h' =>v= .ptr (Γ.loc a) 0∧∃S',Ext S S' ∧TB Γ S' h' ∧WF Γ S' ∧(S' a).ch≠none:=by
 have ltT:=T.lt
 obtain ⟨tk,v2,tT⟩:=T.t_
 obtain ⟨vc,vu,bk,hv⟩:=T.d_ a ha
 rw [hc] at hv
 obtain rfl:vc= .aC:=hv
 rw [hb] at bk
 have k:=O.ok a ha
 have n15:=Fz k false .aC vu (S a).off (S a).cl
 have n14:=Si k false .aC vu (S a).off (S a).cl
 have o14:=X8 k false .aC vu (S a).off (S a).cl true
 have hia:=Γ.at tk ha
 obtain ⟨m1,x1⟩:=uZ H 12 h
 obtain ⟨h1,h1e⟩:∃x,x=h.set (Γ.loc a) (.cells (bx (Γ.D a) true .aC vu (S a).off (S a).cl)):=⟨_,rfl⟩
 have la:=aO bk
 have n1:h1.next=h.next:=by rw [h1e];simp
 have b1:cont h1 (Γ.loc a)=some (bx (Γ.D a) true .aC vu (S a).off (S a).cl):=by rw [h1e];exact aG la
 obtain ⟨d,hd⟩:∃d:DY,d=⟨true,none,(S a).off,(S a).cl,bx (Γ.D a) true .aC vu (S a).off (S a).cl⟩:=⟨_,rfl⟩
 have T1:TB Γ (upd S a d) h1:=T.upd O ha d (by rw [hd];exact b1) (by rw [hd]) (by rw [hd];rfl) (fun j hj hn _=>by rw [h1e];exact aE _ _ _ _ la hn) (T.ne O ha)
 have C1:Chg (pJ Γ) h h1:=by rw [h1e];exact rX (.refl _ _) la (.inl ⟨a,ha,rfl⟩) _
 have hN1:opn (upd S a d) Γ.n≤N:=by
  have:=Oy hc hb (d:=d) (by rw [hd]) Γ.n
  rw [if_pos ha] at this
  omega
 rcases Uc H O C T1 (W.busy hc (by rw [hd])) hN1 ha with ⟨_,h2,⟨m2,x2⟩,ch2,S2,t,rfl,QK,T2,W2,ah,st,har⟩|⟨e',h2,hpe,⟨m2,x2⟩,ch2⟩
 case inr=>
  refine Out.pan e' h2 hpe (Ev.call H.f38 H.o38 ⟨m1+m2,fun m hm=> ?b1⟩) (kI C1 ch2)
  case b1=>
   have x1' :=x1 m om
   have x2' :=x2 m om
   exact SX (tR @BW tT hia bk n15 n14 x1' o14 (Eq.symm h1e) x2')
 obtain ⟨z1,z2,z3,hz⟩:=Bi t
 obtain ⟨h3,h3e⟩:∃x,x=(h2.push (.cells [.int .i64 0,.int .i64 0,.int .i64 0])).set h2.next (.cells [.int .i64 z1,.int .i64 z2,.int .i64 z3]):=⟨_,rfl⟩
 have g3:aP h2 h3:=by rw [h3e];exact gw2
 have n3:h3.next=h2.next+1:=by rw [h3e];simp
 have c9:cont h3 h2.next=some [.int .i64 z1,.int .i64 z2,.int .i64 z3]:=by rw [h3e];exact aG (by simp)
 have T3:=T2.grow g3
 have nn2:=ch2.next
 have C3:Chg (pJ Γ) h h3:=sR (kI C1 ch2) g3
 have first:∀m,m1+m2≤m→cG (eval fns orc m) 38 none a38.body ⟨eO 0 [.ptr Γ.tb 0,.int .i64 (a:Nat)],[],.plain,h⟩=
   (cG (eval fns orc m) 38 none BX ⟨[(0,.ptr Γ.tb 0),(1,.int .i64 (a:Nat)),(5,.ptr (Γ.loc a) 0),(6,.aC),(7,.aC),(8,.int .i64 0),(9,.ptr h2.next 0),(40,.bool (decide (0≤z1)))],[],.plain,h3⟩).bind (lS (cG (eval fns orc m) 38 none L3)):=by
  intro m hm
  have x1' :=x1 m om
  have x2' :=x2 m om
  rw [hz] at x2'
  exact SX (qC @BW tT hia bk n15 n14 x1' o14 (Eq.symm h1e) x2' (Eq.symm h3e) c9)
 have fin:∀{hX h' :aD} {ts:fN} {M:Nat},(∀m,M≤m→cG (eval fns orc m) 38 none BX ⟨[(0,.ptr Γ.tb 0),(1,.int .i64 (a:Nat)),(5,.ptr (Γ.loc a) 0),(6,.aC),(7,.aC),(8,.int .i64 0),(9,.ptr h2.next 0),(40,.bool (decide (0≤z1)))],[],.plain,h3⟩= .ok (.code .normal ⟨ts,[],.plain,hX⟩))→
   (∃n,∀m,n≤m→cG (eval fns orc m) 38 none L3 ⟨ts,[],.plain,hX⟩= .ok (.code .ret ⟨[(4,.ptr (Γ.loc a) 0)],[],.plain,h'⟩))→Ev fns orc (.call 38 [.ptr Γ.tb 0,.int .i64 (a:Nat)] .plain h) (.call (.ret (.ptr (Γ.loc a) 0)) .plain h'):=by
  rintro hX h' ts M e1 ⟨n,e2⟩
  refine Ev.call H.f38 H.o38 ⟨m1+m2+M+n,fun m hm=> ?b2⟩
  case b2=>
   rw [first m om,e1 m om]
   simp only [aM,lS]
   rw [e2 m om]
   simp only [aM,eP,LZ,eH,oneOf,dG,Nat.beq]
 have pan:∀{h' :aD} {e:Int} {ts:fN} {M:Nat},0<e→(∀m,M≤m→cG (eval fns orc m) 38 none BX ⟨[(0,.ptr Γ.tb 0),(1,.int .i64 (a:Nat)),(5,.ptr (Γ.loc a) 0),(6,.aC),(7,.aC),(8,.int .i64 0),(9,.ptr h2.next 0),(40,.bool (decide (0≤z1)))],[],.plain,h3⟩= .ok (.code (.panic (irr e)) ⟨ts,[],.plain,h'⟩))→Chg (pJ Γ) h3 h' →
   Out fns orc (pJ Γ) (.call 38 [.ptr Γ.tb 0,.int .i64 (a:Nat)] .plain h) h fun v h' =>v= .ptr (Γ.loc a) 0∧∃S',Ext S S' ∧TB Γ S' h' ∧WF Γ S' ∧(S' a).ch≠none:=by
  intro h' e ts M he e1 ch
  refine Out.pan e h' he (Ev.call H.f38 H.o38 ⟨m1+m2+M,fun m hm=> ?b3⟩) (kI C3 ch)
  case b3=>
   rw [first m om,e1 m om]
   simp only [aM,lS,eP]
 cases t with
 |none=>
  cases hz
  have ea:=(FY hc hb (d' :=⟨false,some ([]++[a],[]++[0]),0,(lB (aU (Γ.D a).pd):Nat),[]⟩) (by rw [hd]) (by rw [hd]) QK (by simp) rfl).1
  have ca:(S2 a).ch=none:=by rw [ea,hd]
  obtain ⟨h',cc,e2,T',ch'⟩:=L0 H O T3 ha (ts:=[(0,.ptr Γ.tb 0),(1,.int .i64 (a:Nat)),(5,.ptr (Γ.loc a) 0),(6,.aC),(7,.aC),(8,.int .i64 0),(9,.ptr h2.next 0),(40,.bool false)]) (c:=[]) (u:=[]) (off:=0) rfl rfl rfl rfl rfl (.inl .nil) (.inl .nil) (fun t w=>by cases w) (by simp) (by simp)
  have ex:=(FY hc hb (d' :=⟨false,some ([]++[a],[]++[0]),0,(lB (aU (Γ.D a).pd):Nat),cc⟩) (by rw [hd]) (by rw [hd]) QK (by simp) rfl).2
  refine Out.ret _ h' (fin (M:=0) (fun m _=> ?b4) e2) (kI C3 ⟨ch'.next,fun j hj hn=>ch'.get j hj (by rintro (w|w|w);exact hn w;cases w;cases w)⟩) ⟨rfl,_,ex,T',W2.known ca ah rfl (by simp) (by simp) O ha (.inl ⟨rfl,rfl,rfl,rfl⟩),by rw [yQ];simp⟩
  case b4=>
   have dz:decide (0≤(-1:Int))=false:=rfl
   exact SX (cj2 @BX.eq_1 dz)
 |some p=>
  obtain ⟨x,lv,pt⟩:=p
  cases hz
  obtain ⟨hxn,r,hxr,hpl⟩:=st x lv pt rfl
  have har:=har (by simp)
  have dz:decide (0≤((x:Nat):Int))=true:=dT om
  rcases C S2 h3 x T3 W2 (by have:=zG QK Γ.n;omega) hxn with ⟨_,h4,⟨m3,x3⟩,ch4,rfl,S3,Fc,T4,W3,hch⟩|⟨e',h4,hpe,⟨m3,x3⟩,ch4⟩
  case inr=>
   refine pan (M:=m3) (ts:= ?ts5) hpe (fun m hm=> ?b5) ch4
   case b5=>
    have x3' :=x3 m hm
    exact SX (cj4 @BX.eq_1 dz c9 x3')
  obtain ⟨⟨cx,ux⟩,hcx⟩:=Option.ne_none_iff_exists'.1 hch
  obtain ⟨cc,tkx,vux,bx4,y15,y16,yu,y8,y14,y17,y18⟩:=uQ O T4 hxn hcx
  have F:=W3 x hxn cx ux hcx
  have lx:∀hp,nJ hp .sl (.sl tkx (ints cx))= .ok cx.length:=fun hp=>by rw [iI,mQ]
  by_cases c40:cx.length<40
  case neg=>
   have d40:decide (((cx.length:Nat):Int)<40)=false:=dF om
   obtain ⟨m4,x4⟩:=vB H 2 h4
   refine pan (M:=m3+m4) (ts:= ?ts6) (e:=2) om (fun m hm=> ?b6) ch4
   case b6=>
    have x3' :=x3 m om
    have x4' :=x4 m om
    exact SX (cj9 @BX.eq_1 dz c9 x3' bx4 y15 lx d40 x4')
  have d40:decide (((cx.length:Nat):Int)<40)=true:=dT om
  obtain ⟨m4,x4⟩:=uZ H 2 h4
  obtain ⟨h5,vch,g5,x5,a5,tk5⟩:=E7 H (v:= .sl tkx (ints cx)) (.sl _ _) om h4
  have nn4:=ch4.next
  have nn5:=g5.next
  have ec:=vH tkx cx
  have bx5:=(aF g5 (aO bx4)).trans bx4
  have T5:=T4.grow g5
  have c95:cont h5 h2.next=some [.int .i64 ((x:Nat):Int),.int .i64 (lv:Nat),.int .i64 (pt:Nat)]:=(aF g5 om).trans ((qJ ch4 om (fun w=>by have:=ltT.2.2 _ w;omega)).trans c9)
  have lu:∀hp,nJ hp .sl vux= .ok ux.length:=fun hp=>by rw [bO yu hp,mQ]
  have hox:=F.R4
  have hcl:=F.cl
  have hcf:=yZ (O.ok x hxn)
  have XT:IntKind.wrap .i64 ((S3 x).off+(S3 x).cl)=(S3 x).off+(S3 x).cl:=pE om om
  have hul:=F.len
  have b0:Γ.tb<h2.next∧Γ.mb<h2.next∧∀j,pJ Γ j→j<h2.next:=⟨by omega,by omega,fun j w=>by have:=ltT.2.2 j w;omega⟩
  have L:=QX H O C ha har yu om F.ub (x:=((x:Nat):Int)) (lv:=lv) (pt:=pt) (r:=r) (b0:=h2.next) (b9:=h2.next) (vch:=vch) (off:=(S3 x).off+(S3 x).cl) ux.length 0 S3 h5 .aC [] om T5 W3 (by have:=zG QK Γ.n;have:=zG Fc Γ.n;omega) b0 (Nat.le_refl _) c95 (hpl.le Fc.le) (.inl .nil) (fun t w=>by cases w) rfl ⟨by simp,fun q n w=>by simp at w⟩
  rcases L with ⟨h6,S6,upv,u0,⟨m6,x6⟩,ch6,QJ,T6,W6,a6,tk6,cl6⟩|⟨h6,e',ts,hpe,⟨m6,x6⟩,ch6⟩
  case inr=>
   refine pan (h' :=h6) (M:=m3+m4+m6+2) (ts:= ?ts7) hpe (fun m hm=> ?b7) ⟨by have:=ch6.next;omega,fun j hj hn=>by rw [ch6.get j om (by rintro (w|w);exact hn w;cases w),g5.get j om,ch4.get j om hn]⟩
   case b7=>
    have x3' :=x3 m om
    have x4' :=x4 m om
    have x5' :=x5 m om
    have x6' :cG (eval fns orc m) 38 none (.loop p38x11111110110111100) _=_:=x6 (m+1) om
    simp only [FV,Int.ofNat_zero] at x6'
    exact SX (dI @BX.eq_1 dz c9 x3' bx4 y15 lx d40 x4' x5' ec bx5 y17 y18 XT y16 (cj2 lu x6'))
  have ea:=(FY hc hb (d' :=⟨false,some (cx++[a],u0++[0]),(S3 x).off+(S3 x).cl,(lB (aU (Γ.D a).pd):Nat),[]⟩) (by rw [hd]) (by rw [hd]) (QK.trans (Fc.trans QJ)) (by simp) rfl).1
  have ca:(S6 a).ch=none:=by rw [ea,hd]
  have acx:uU h6 vch (ints cx):=a5.wH fun t w=>ch6.get t (a5.lt w) (by rintro (q|q);have:=b0.2.2 t q;have:=tk5 t w;omega;cases q)
  have tkn:∀t,jK upv=some t→h5.next≤t:=fun t w=>by rcases tk6 t w with q|q;cases q;exact q
  obtain ⟨h',cc2,e2,T',ch'⟩:=L0 H O T6 ha (ts:=FV Γ a vch upv ((S3 x).off+(S3 x).cl) h2.next vux ux.length ux.length++[(72,.bool false)]) (vch:=vch) (vup:=upv) (c:=cx) (u:=u0) (off:=(S3 x).off+(S3 x).cl) rfl rfl rfl rfl rfl acx a6 (fun t w w2=>by have:=a5.lt w;have:=tkn t w2;omega) om (by have:=cl6.1;omega)
  have ex:=(FY hc hb (d' :=⟨false,some (cx++[a],u0++[0]),(S3 x).off+(S3 x).cl,(lB (aU (Γ.D a).pd):Nat),cc2⟩) (by rw [hd]) (by rw [hd]) (QK.trans (Fc.trans QJ)) (by simp) rfl).2
  have nn6:=ch6.next
  have S6x:S6 x=S3 x:=QJ.kY (by rw [hcx];simp)
  refine Out.ret _ h' (fin (M:=m3+m4+m6+2) (fun m hm=> ?b8) e2) (kI C3 ⟨by have:=ch'.next;omega,fun j hj hn=> ?g8⟩) ⟨rfl,_,ex,T',W6.known ca (ah.le (Fc.trans QJ).le) (by have:=cl6.1;omega) c40 ?ub O ha (.inr ⟨x,lv,pt,ux,r,rfl,hxn,QJ.le.ch hcx,by rw [S6x],har,hxr,(hpl.le (Fc.trans QJ).le),cl6⟩),by rw [yQ];simp⟩
  case g8=>
   rw [ch'.get j om (by rintro (w|w|w);exact hn w;have:=tk5 j w;omega;have:=tkn j w;omega),ch6.get j om (by rintro (w|w);exact hn w;cases w),g5.get j om,ch4.get j om hn]
  case ub=>
   intro y hy
   obtain ⟨q,hq⟩:=tX hy
   have hql:=(List.getElem?_eq_some_iff.1 hq).1
   have hqx:q<ux.length:=by have:=cl6.1;omega
   obtain ⟨l,p,k',h1,_,⟨w,_,_,h3,_⟩,_⟩:=cl6.2 q _ (List.getElem?_eq_getElem hqx)
   rw [hq] at h1
   cases h1
   have ar:=O.ar a ha
   have:=BD O y (a:=(Γ.D a).ar) ⟨by omega,by omega⟩ om
   have:=O.lt
   omega
  case b8=>
   have x3' :=x3 m om
   have x4' :=x4 m om
   have x5' :=x5 m om
   have x6' :cG (eval fns orc m) 38 none (.loop p38x11111110110111100) _=_:=x6 (m+1) om
   simp only [FV,Int.ofNat_zero] at x6' ⊢
   exact SX (dI @BX.eq_1 dz c9 x3' bx4 y15 lx d40 x4' x5' ec bx5 y17 y18 XT y16 (cj2 lu x6'))
theorem BV (H:Has fns orc) {Γ:Tb} (O:Γ.Ok):∀N,HF fns orc Γ N:=by
 intro N
 induction N with
 |zero=>
  intro S h a T W hN ha
  refine EB H O T W ha fun w=> ?_
  have:∀n,a<n→0<opn S n:=by
   intro n
   induction n with
   |zero=>intro h;omega
   |succ n ih=>
    intro h
    simp only [opn]
    by_cases e:a=n
    ·subst e;rw [if_pos w];omega
    ·have:=ih om;omega
  have:=this Γ.n ha
  omega
 |succ N ih=>
  intro S h a T W hN ha
  by_cases c:(S a).ch=none∧(S a).busy=false
  ·exact JN H O ih T W hN ha c.1 c.2
  ·exact EB H O T W ha c
end Go.Ly
namespace Go.Ly
open Go Go.Am Go.Fs Go.Gn
variable {fns:Go.Am.F} {orc:Orc}
def xX (k:Int):Bool:=decide (k=3∨k=4)
theorem Mb (H:Has fns orc) {k:Int} {vn vs vp vy:AV} (h:aD):
  ∃h',aP h h' ∧∀m,2≤m→eval fns orc m (.call 63 [.agg [.int .i64 k,vn,vs,vp,vy]] .plain h)= .ok (.call (.ret (.bool (xX k))) .plain h'):=by
 refine ⟨h.push (.cells [.int .i64 k,vn,vs,vp,vy]),.push _ _,fW (n:=0) H.f63 H.o63 fun m _=> ?b⟩
 case b=>
  by_cases c3:k=3
  ·have d3:=dT c3
   have e:xX k=true:=dT (.inl c3)
   exact SX (cj3 @a63.eq_1 d3 e)
  ·have d3:=dF c3
   by_cases c4:k=4
   ·have d4:=dT c4
    have e:xX k=true:=dT (.inr c4)
    exact SX (cj4 @a63.eq_1 d3 d4 e)
   ·have d4:=dF c4
    have e:xX k=false:=dF om
    exact SX (cj4 @a63.eq_1 d3 d4 e)
def Ca (Γ:Tb) (s:List UInt8):List Nat→Int→Int
 |[],z=>z
 |d::r,z=>Ca Γ s r (match pN (aU (Γ.D d).pd) s with
  |none=>z
  |some (i,_)=>match (aU (Γ.D d).pd)[i]? with
   |none=>z
   |some x=>iR x)
def rE (Γ:Tb) (s:List UInt8) (c:List Nat):Int:=Ca Γ s c 0
def H6 (Γ:Tb) (x1 x4 x5 x6:AV) (s:List UInt8) (z:Int) (x31 x32 x33 x39 x40 x41 vb:AV) (len j:Nat):fN:=
 [(0,.ptr Γ.tb 0),(1,x1),(4,x4),(5,x5),(6,x6),(8,.str s),(11,.int .i64 z),(31,x31),(32,x32),(33,x33),(39,x39),(40,x40),(41,x41),(63,vb),(64,.int .i64 (len:Nat)),(65,.int .i64 (j:Nat))]
def Cb:AC:=p39x110011001100110011110100
theorem Sx (H:Has fns orc) {Γ:Tb} (O:Γ.Ok) {S:Nat→DY} {s:List UInt8} {vb:AV} {c:List Nat} (hx:iP vb (ints c)) (hc:∀d∈c,d<Γ.n) (hn:c.length<10000000) {x1 x4 x5 x6 x31 x32 x33 x39 x40 x41:AV}:
  ∀(k j:Nat) (z:Int) (h:aD),j+k=c.length→TB Γ S h→∃h',aP h h' ∧
   Ev fns orc (.code 39 none (.loop Cb) ⟨H6 Γ x1 x4 x5 x6 s z x31 x32 x33 x39 x40 x41 vb c.length j,[],.plain,h⟩) (.code (.exit 4) ⟨H6 Γ x1 x4 x5 x6 s (Ca Γ s (c.drop j) z) x31 x32 x33 x39 x40 x41 vb c.length c.length++[(66,.bool false)],[],.plain,h'⟩):=by
 intro k
 induction k with
 |zero=>
  intro j z h hj T
  have d:decide ((j:Int)<((c.length:Nat):Int))=false:=dF om
  refine ⟨h,.refl _,Ev.code ⟨0,fun m _=> ?b0⟩⟩
  case b0=>
   rw [show j=c.length by omega] at d⊢
   rw [List.drop_length,Ca]
   exact SX (cj4 @H6.eq_1 @Cb.eq_1 d @aI)
 |succ k ih=>
  intro j z h hj T
  have hlt:j<c.length:=om
  have d:decide ((j:Int)<((c.length:Nat):Int))=true:=dT om
  have hdd:=hc _ (List.getElem_mem hlt)
  have hia:=rN hx (List.getElem?_eq_getElem hlt)
  rw [List.drop_eq_getElem_cons hlt,Ca]
  generalize c[j]=dd at hdd hia
  obtain ⟨tk,v2,tT⟩:=T.t_
  obtain ⟨vc',vu,hbb,hv⟩:=T.d_ dd hdd
  obtain ⟨vd,n2,rvd⟩:=FU (O.ok dd hdd) (S dd).busy vc' vu (S dd).off (S dd).cl
  have hib:=Γ.at tk hdd
  obtain ⟨bn1,bn2⟩:=qB (O.ok dd hdd)
  obtain ⟨h1,g1,n1,e1⟩:=zW H rvd bn1 bn2 s hbb n2
  have w:IntKind.wrap .i64 ((j:Int)+1)=((j+1:Nat):Int):=sH hlt om
  cases cf:pN (aU (Γ.D dd).pd) s with
  |none=>
   rw [cf] at e1
   obtain ⟨h2,h2e⟩:∃x,x=(h1.push (.cells [.int .i64 0,.int .i64 0,.int .i64 0,.int .i64 0])).set h1.next (.cells [.int .i64 0,.int .i64 0,.int .i64 0,.int .i64 0]):=⟨_,rfl⟩
   have g2:aP h1 h2:=by rw [h2e];exact gw2
   have gg:=g1.trans g2
   obtain ⟨h',g,n3,e3⟩:=ih (j+1) z h2 om (T.grow gg)
   refine ⟨h',gg.trans g,Ev.code ⟨n1+n3,fun m hm=> ?b1⟩⟩
   case b1=>
    have e1' :=e1 m om
    have e3' :=e3 m om
    simp only [AQ] at e1'
    simp only [H6,Cb] at e3'
    exact SXe (tR @H6.eq_1 @Cb.eq_1 d hia tT hib e1' (Eq.symm h2e) w @aI) e3'
  |some x=>
   obtain ⟨i',k'⟩:=x
   rw [cf] at e1
   obtain ⟨dc,hdc,hfx,_⟩:=xH cf
   obtain ⟨vn,vs,vp,vy,hie,_⟩:=Ey (O.ok dd hdd) (S dd).busy vc' vu (S dd).off (S dd).cl n2 hdc
   obtain ⟨h2,h2e⟩:∃x,x=(h1.push (.cells [.int .i64 0,.int .i64 0,.int .i64 0,.int .i64 0])).set h1.next (.cells [.int .i64 0,.int .i64 0,.int .i64 (i' :Nat),.int .i64 (k' :Nat)]):=⟨_,rfl⟩
   have g2:aP h1 h2:=by rw [h2e];exact gw2
   have gg:=g1.trans g2
   have x2:cont h2 h1.next=some [.int .i64 0,.int .i64 0,.int .i64 (i' :Nat),.int .i64 (k' :Nat)]:=by rw [h2e];exact aG (by simp)
   have t2:=(aF gg (aO tT)).trans tT
   have b2:=(aF gg (aO hbb)).trans hbb
   have xe:=Γ.D3 tk
   have ve:=jS rvd
   obtain ⟨h',g,n3,e3⟩:=ih (j+1) (iR dc) h2 om (T.grow gg)
   refine ⟨h',gg.trans g,Ev.code ⟨n1+n3,fun m hm=> ?b2⟩⟩
   case b2=>
    have e1' :=e1 m om
    have e3' :=e3 m om
    simp only [AQ] at e1'
    simp only [H6,Cb] at e3'
    simp only [hdc]
    exact SXe (dI @H6.eq_1 @Cb.eq_1 d hia tT hib e1' (Eq.symm h2e) x2 t2 b2 n2 hie xe ve w @aI) e3'
end Go.Ly
namespace Go.Ly
open Go Go.Am Go.Fs Go.Gn
variable {fns:Go.Am.F} {orc:Orc}
def Of (Γ:Tb) (c0:List Nat) (dl:List kV) (i:Nat) (x:kV) (q:Nat) (s:List UInt8):Prop:=pN dl s=some (i,q)∧(xX (iR x)=true→rE Γ s c0=2∨rE Γ s c0=3)∧(xX (iR x)=false→rE Γ s c0=0)
def zN:AC:=p39x110011001100
def nTs (Γ:Tb) (a:Nat) (vb:AV) (i b6:Nat) (x31 x32 x33 vn:AV) (len j:Nat):fN:=
 [(0,.ptr Γ.tb 0),(1,.ptr (Γ.loc a) 0),(4,vb),(5,.int .i64 (i:Nat)),(6,.ptr b6 0),(31,x31),(32,x32),(33,x33),(39,vn),(40,.int .i64 (len:Nat)),(41,.int .i64 (j:Nat))]
theorem Sk (H:Has fns orc) {Γ:Tb} (O:Γ.Ok) {S:Nat→DY} {a:Nat} (ha:a<Γ.n) {vb:AV} {c0:List Nat} (hx:iP vb (ints c0)) (hc:∀d∈c0,d<Γ.n) (hn:c0.length<10000000) {i:Nat} {x:kV} (hi:(aU (Γ.D a).pd)[i]? =some x) {vn vs vp vy:AV} (hvn:iP vn ((fR x).map AV.str)) {b6:Nat} {x31 x32 x33:AV}:
  ∀(k j:Nat) (h:aD),j+k=(fR x).length→TB Γ S h→cont h b6=some [.int .i64 (iR x),vn,vs,vp,vy]→
   (∃h',aP h h' ∧Ev fns orc (.code 39 none (.loop zN) ⟨nTs Γ a vb i b6 x31 x32 x33 vn (fR x).length j,[],.plain,h⟩) (.code (.exit 2) ⟨nTs Γ a vb i b6 x31 x32 x33 vn (fR x).length (fR x).length++[(42,.bool false)],[],.plain,h'⟩)∧∀q s,j≤q→(fR x)[q]? =some s→Of Γ c0 (aU (Γ.D a).pd) i x q s)∨
   (∃h' ts,aP h h' ∧Ev fns orc (.code 39 none (.loop zN) ⟨nTs Γ a vb i b6 x31 x32 x33 vn (fR x).length j,[],.plain,h⟩) (.code (.panic (irr 11)) ⟨ts,[],.plain,h'⟩)):=by
 have hnn:=(qB (O.ok a ha)).2 x (List.mem_of_getElem? hi)
 have hidl:=(qB (O.ok a ha)).1
 have hil:=(List.getElem?_eq_some_iff.1 hi).1
 intro k
 induction k with
 |zero=>
  intro j h hj T hb
  have d:decide ((j:Int)<(((fR x).length:Nat):Int))=false:=dF om
  refine .inl ⟨h,.refl _,Ev.code ⟨0,fun m _=> ?b0⟩,fun q s h1 h2=>by have:=(List.getElem?_eq_some_iff.1 h2).1;omega⟩
  case b0=>
   rw [show j=(fR x).length by omega] at d⊢
   rw [aI]
   exact SX (cj3 @nTs.eq_1 @zN.eq_1 d)
 |succ k ih=>
  intro j h hj T hb
  have hlt:j<(fR x).length:=om
  have d:decide ((j:Int)<(((fR x).length:Nat):Int))=true:=dT om
  obtain ⟨s,hs⟩:∃s,(fR x)[j]? =some s:=⟨_,List.getElem?_eq_getElem hlt⟩
  have hia:=oX hvn (i:=j) (v:= .str s) (by simp [hs]) rfl
  obtain ⟨vc',vu,hbb,hv⟩:=T.d_ a ha
  obtain ⟨vd,n2,rvd⟩:=FU (O.ok a ha) (S a).busy vc' vu (S a).off (S a).cl
  obtain ⟨bn1,bn2⟩:=qB (O.ok a ha)
  obtain ⟨h1,g1,n1,e1⟩:=zW H rvd bn1 bn2 s hbb n2
  have w:IntKind.wrap .i64 ((j:Int)+1)=((j+1:Nat):Int):=sH hlt om
  obtain ⟨⟨i',k'⟩,cf⟩:∃y,pN (aU (Γ.D a).pd) s=some y:=by
   cases q:pN (aU (Γ.D a).pd) s with
   |some y=>exact ⟨y,rfl⟩
   |none=>exact absurd (List.mem_of_getElem? hs) (Hi q x (List.mem_of_getElem? hi))
  rw [cf] at e1
  obtain ⟨h2,h2e⟩:∃x,x=(h1.push (.cells [.int .i64 0,.int .i64 0,.int .i64 0,.int .i64 0])).set h1.next (.cells [.int .i64 0,.int .i64 0,.int .i64 (i' :Nat),.int .i64 (k' :Nat)]):=⟨_,rfl⟩
  have g2:aP h1 h2:=by rw [h2e];exact gw2
  have gg:=g1.trans g2
  have x2:cont h2 h1.next=some [.int .i64 0,.int .i64 0,.int .i64 (i' :Nat),.int .i64 (k' :Nat)]:=by rw [h2e];exact aG (by simp)
  by_cases ce:i' =i∧k' =j
  case neg=>
   obtain ⟨n3,e3⟩:=vB H 11 h2
   by_cases c1:i' =i
   ·have d1:decide (((i' :Nat):Int)=(i:Int))=true:=dT om
    have d2:decide (((k' :Nat):Int)=(j:Int))=false:=dF (fun q=>ce ⟨c1,by omega⟩)
    refine .inr ⟨h2, ?ts1,gg,Ev.code ⟨n1+n3,fun m hm=> ?b1⟩⟩
    case b1=>
     have e1' :=e1 m om
     have e3' :=e3 m om
     simp only [AQ] at e1'
     rw [aI]
     exact SX (tR @nTs.eq_1 @zN.eq_1 d hia e1' (Eq.symm h2e) x2 d1 d2 e3')
   ·have d1:decide (((i' :Nat):Int)=(i:Int))=false:=dF om
    refine .inr ⟨h2, ?ts11,gg,Ev.code ⟨n1+n3,fun m hm=> ?b11⟩⟩
    case b11=>
     have e1' :=e1 m om
     have e3' :=e3 m om
     simp only [AQ] at e1'
     rw [aI]
     exact SX (cj9 @nTs.eq_1 @zN.eq_1 d hia e1' (Eq.symm h2e) x2 d1 e3')
  obtain ⟨rfl,rfl⟩:=ce
  have d1:decide (((i' :Nat):Int)=(i' :Int))=true:=dT rfl
  have d2:decide (((k' :Nat):Int)=(k' :Int))=true:=dT rfl
  obtain ⟨n3,e3⟩:=uZ H 11 h2
  have lc:∀hp,nJ hp .sl vb= .ok c0.length:=fun hp=>by rw [bO hx hp,mQ]
  obtain ⟨h4,g4,n4,e4⟩:=Sx H O (S:=S) (s:=s) hx hc hn (x1:= .ptr (Γ.loc a) 0) (x4:=vb) (x5:= .int .i64 (i' :Nat)) (x6:= .ptr b6 0) (x31:=x31) (x32:=x32) (x33:=x33) (x39:=vn) (x40:= .int .i64 ((fR x).length:Nat)) (x41:= .int .i64 (k' :Nat)) c0.length 0 0 h2 om (T.grow gg)
  rw [List.drop_zero,show Ca Γ s c0 0=rE Γ s c0 from rfl] at e4
  have b4:=(aF (gg.trans g4) (aO hb)).trans hb
  obtain ⟨h5,g5,e5⟩:=Mb (k:=iR x) (vn:=vn) (vs:=vs) (vp:=vp) (vy:=vy) H h4
  have Qy:=(gg.trans g4).trans g5
  have b5:=(aF Qy (aO hb)).trans hb
  by_cases ck:(xX (iR x)=true→rE Γ s c0=2∨rE Γ s c0=3)∧(xX (iR x)=false→rE Γ s c0=0)
  case neg=>
   obtain ⟨n6,e6⟩:=vB H 11 h5
   cases cb:xX (iR x) with
   |true=>
    rw [cb] at e5 ck
    have d6:decide (rE Γ s c0=2)=false:=dF (fun q=>ck ⟨fun _=> .inl q,fun q=>by cases q⟩)
    have d7:decide (rE Γ s c0=3)=false:=dF (fun q=>ck ⟨fun _=> .inr q,fun q=>by cases q⟩)
    refine .inr ⟨h5, ?ts2,Qy,Ev.code ⟨n1+n3+n4+n6+2,fun m hm=> ?b2⟩⟩
    case b2=>
     have e1' :=e1 m om
     have e3' :=e3 m om
     have e4' :cG (eval fns orc m) 39 none (.loop Cb) _=_:=e4 (m+1) om
     have e5' :=e5 m om
     have e6' :=e6 m om
     simp only [AQ] at e1'
     simp only [H6,Cb,Int.ofNat_zero] at e4'
     rw [aI]
     exact SX (dI @nTs.eq_1 @zN.eq_1 d hia e1' (Eq.symm h2e) x2 d1 d2 e3' lc e4' b4 e5' d6 d7 e6')
   |false=>
    rw [cb] at e5 ck
    have d6:decide (rE Γ s c0=0)=false:=dF (fun q=>ck ⟨fun q=>(by cases q),fun _=>q⟩)
    refine .inr ⟨h5, ?ts3,Qy,Ev.code ⟨n1+n3+n4+n6+2,fun m hm=> ?b3⟩⟩
    case b3=>
     have e1' :=e1 m om
     have e3' :=e3 m om
     have e4' :cG (eval fns orc m) 39 none (.loop Cb) _=_:=e4 (m+1) om
     have e5' :=e5 m om
     have e6' :=e6 m om
     simp only [AQ] at e1'
     simp only [H6,Cb,Int.ofNat_zero] at e4'
     rw [aI]
     exact SX (Bd @nTs.eq_1 @zN.eq_1 d hia e1' (Eq.symm h2e) x2 d1 d2 e3' lc e4' b4 e5' d6 e6')
  obtain ⟨n6,e6⟩:=uZ H 11 h5
  have step:∀ans,Ev fns orc (.code 39 none (.loop zN) ⟨nTs Γ a vb i' b6 x31 x32 x33 vn (fR x).length (k' +1),[],.plain,h5⟩) ans→
    Ev fns orc (.code 39 none (.loop zN) ⟨nTs Γ a vb i' b6 x31 x32 x33 vn (fR x).length k',[],.plain,h⟩) ans:=by
   rintro ans ⟨n7,e7⟩
   refine Ev.code ⟨n1+n3+n4+n6+n7+2,fun m hm=> ?b4⟩
   case b4=>
    have e1' :=e1 m om
    have e3' :=e3 m om
    have e4' :cG (eval fns orc m) 39 none (.loop Cb) _=_:=e4 (m+1) om
    have e5' :=e5 m om
    have e6' :=e6 m om
    have e7' :=e7 m om
    simp only [AQ] at e1'
    simp only [H6,Cb,Int.ofNat_zero] at e4'
    simp only [nTs,zN] at e7'
    rw [aI]
    cases cb:xX (iR x) with
    |true=>
     rw [cb] at e5' ck
     have d6:decide (rE Γ s c0=2)=true∨(decide (rE Γ s c0=2)=false∧decide (rE Γ s c0=3)=true):=by
      by_cases q:rE Γ s c0=2
      ·exact .inl (dT q)
      ·exact .inr ⟨dF q,dT ((ck.1 rfl).resolve_left q)⟩
     rcases d6 with d6|⟨d6,d7⟩
     ·exact SXe (dI @nTs.eq_1 @zN.eq_1 d hia e1' (Eq.symm h2e) x2 d1 d2 e3' lc e4' b4 e5' d6 e6' w) e7'
     ·exact SXe (dI @nTs.eq_1 @zN.eq_1 d hia e1' (Eq.symm h2e) x2 d1 d2 e3' lc e4' b4 e5' d6 d7 (cj2 e6' w)) e7'
    |false=>
     rw [cb] at e5' ck
     have d6:decide (rE Γ s c0=0)=true:=dT (ck.2 rfl)
     exact SXe (dI @nTs.eq_1 @zN.eq_1 d hia e1' (Eq.symm h2e) x2 d1 d2 e3' lc e4' b4 e5' d6 e6' w) e7'
  rcases ih (k' +1) h5 om (T.grow Qy) b5 with ⟨h',g,ev,ok⟩|⟨h',ts,g,ev⟩
  ·refine .inl ⟨h',Qy.trans g,step _ ev,fun q s' hq hs' => ?_⟩
   by_cases e:q=k'
   ·subst e
    rw [hs] at hs'
    cases hs'
    exact ⟨cf,ck⟩
   ·exact ok q s' om hs'
  ·exact .inr ⟨h',ts,Qy.trans g,step _ ev⟩
def uT (Γ:Tb) (a:Nat) (c0:List Nat):Prop:=∀(i:Nat) x q s,(aU (Γ.D a).pd)[i]? =some x→(fR x)[q]? =some s→Of Γ c0 (aU (Γ.D a).pd) i x q s
def Cd:AC:=p39x1100
theorem TD (H:Has fns orc) {Γ:Tb} (O:Γ.Ok) {S:Nat→DY} {a:Nat} (ha:a<Γ.n) {vb:AV} {c0:List Nat} (hx:iP vb (ints c0)) (hc:∀d∈c0,d<Γ.n) (hn:c0.length<10000000) {vd:AV} {xs:List AV} (hvd:iP vd xs) (hxl:xs.length=(aU (Γ.D a).pd).length) (hg:∀i (hi:i<(aU (Γ.D a).pd).length),∃c,xs[i]? =some (.agg c)∧RV (.decl (aU (Γ.D a).pd)[i]) (.agg c)):
  ∀(k i:Nat) (h:aD),i+k=(aU (Γ.D a).pd).length→TB Γ S h→
   (∃h' ts,aP h h' ∧Ev fns orc (.code 39 none (.loop Cd) ⟨[(0,.ptr Γ.tb 0),(1,.ptr (Γ.loc a) 0),(4,vb),(31,vd),(32,.int .i64 ((aU (Γ.D a).pd).length:Nat)),(33,.int .i64 (i:Nat))],[],.plain,h⟩) (.code (.exit 0) ⟨ts,[],.plain,h'⟩)∧∀(i' :Nat) x q s,i≤i' →(aU (Γ.D a).pd)[i']? =some x→(fR x)[q]? =some s→Of Γ c0 (aU (Γ.D a).pd) i' x q s)∨
   (∃h' ts,aP h h' ∧Ev fns orc (.code 39 none (.loop Cd) ⟨[(0,.ptr Γ.tb 0),(1,.ptr (Γ.loc a) 0),(4,vb),(31,vd),(32,.int .i64 ((aU (Γ.D a).pd).length:Nat)),(33,.int .i64 (i:Nat))],[],.plain,h⟩) (.code (.panic (irr 11)) ⟨ts,[],.plain,h'⟩)):=by
 have hbd:=(qB (O.ok a ha)).1
 intro k
 induction k with
 |zero=>
  intro i h hi T
  have d:decide ((i:Int)<(((aU (Γ.D a).pd).length:Nat):Int))=false:=dF om
  refine .inl ⟨h, ?ts,.refl _,Ev.code ⟨0,fun m _=> ?b0⟩,fun i' x q s h1 h2=>by have:=(List.getElem?_eq_some_iff.1 h2).1;omega⟩
  case b0=>
   rw [aI]
   exact SX (cj2 @Cd.eq_1 d)
 |succ k ih=>
  intro i h hi T
  have hlt:i<(aU (Γ.D a).pd).length:=om
  have d:decide ((i:Int)<(((aU (Γ.D a).pd).length:Nat):Int))=true:=dT om
  obtain ⟨c,hcc,rv⟩:=hg i hlt
  have hcl:=pG rv
  have hck:=uG rv
  have hia:=kT hvd hcc hcl
  have p5:takeN 5 c=some c:=by rw [←hcl];exact aW c
  have hst:=mW h (sz:=5) (z:=kF) rfl hcl hck
  obtain ⟨hA,hAe⟩:∃x,x=(h.push (.cells kF)).set h.next (.cells c):=⟨_,rfl⟩
  rw [←hAe] at hst
  simp only [kF] at hst
  have gA:aP h hA:=by rw [hAe];exact gw2
  have cA:cont hA h.next=some c:=by rw [hAe];exact aG (by simp)
  obtain ⟨x,hx0⟩:∃x,(aU (Γ.D a).pd)[i]? =some x:=⟨_,List.getElem?_eq_getElem hlt⟩
  have hxe:(aU (Γ.D a).pd)[i]=x:=by rw [List.getElem?_eq_getElem hlt] at hx0;exact Option.some.inj hx0
  rw [hxe] at rv
  obtain ⟨vn,vs,vp,vy,hcv,r0⟩:∃vn vs vp vy,c=[.int .i64 (iR x),vn,vs,vp,vy]∧iP vn ((fR x).map AV.str):=by
   cases x with|mk k n s p y=>
   cases rv with|decl r0 r1 r2 r3=>
   exact ⟨_,_,_,_,rfl,r0⟩
  rw [hcv] at cA
  have ln:∀hp,nJ hp .sl vn= .ok (fR x).length:=fun hp=>by rw [bO r0 hp,List.length_map]
  have w:IntKind.wrap .i64 ((i:Int)+1)=((i+1:Nat):Int):=sH hlt om
  rcases Sk H O ha hx hc hn hx0 r0 (b6:=h.next) (x31:=vd) (x32:= .int .i64 ((aU (Γ.D a).pd).length:Nat)) (x33:= .int .i64 (i:Nat)) (fR x).length 0 hA om (T.grow gA) cA with ⟨h1,g1,⟨n1,e1⟩,ok⟩|⟨h1,ts,g1,⟨n1,e1⟩⟩
  ·have step:∀ans,Ev fns orc (.code 39 none (.loop Cd) ⟨[(0,.ptr Γ.tb 0),(1,.ptr (Γ.loc a) 0),(4,vb),(31,vd),(32,.int .i64 ((aU (Γ.D a).pd).length:Nat)),(33,.int .i64 ((i+1:Nat):Int))],[],.plain,h1⟩) ans→
     Ev fns orc (.code 39 none (.loop Cd) ⟨[(0,.ptr Γ.tb 0),(1,.ptr (Γ.loc a) 0),(4,vb),(31,vd),(32,.int .i64 ((aU (Γ.D a).pd).length:Nat)),(33,.int .i64 (i:Nat))],[],.plain,h⟩) ans:=by
    rintro ans ⟨n2,e2⟩
    refine Ev.code ⟨n1+n2,fun m hm=> ?b1⟩
    case b1=>
     have e1' :cG (eval fns orc m) 39 none (.loop zN) _=_:=e1 (m+1) om
     have e2' :=e2 m om
     simp only [nTs,zN,Int.ofNat_zero] at e1'
     simp only [Cd] at e2'
     rw [aI]
     exact SVe (tR @Cd.eq_1 d hia @ldS p5 hst cA ln e1' w) e2'
   have gg:=gA.trans g1
   rcases ih (i+1) h1 om (T.grow gg) with ⟨h',ts,g,ev,ok2⟩|⟨h',ts,g,ev⟩
   ·refine .inl ⟨h',ts,gg.trans g,step _ ev,fun i' x' q s h1 h2 h3=> ?_⟩
    by_cases e:i' =i
    ·subst e
     rw [hx0] at h2
     cases h2
     exact ok q s (Nat.zero_le _) h3
    ·exact ok2 i' x' q s om h2 h3
   ·exact .inr ⟨h',ts,gg.trans g,step _ ev⟩
  ·refine .inr ⟨h1, ?ts2,gA.trans g1,Ev.code ⟨n1,fun m hm=> ?b2⟩⟩
   case b2=>
    have e1' :cG (eval fns orc m) 39 none (.loop zN) _=_:=e1 (m+1) om
    simp only [nTs,zN,Int.ofNat_zero] at e1'
    rw [aI]
    exact SV (cj9 @Cd.eq_1 d hia @ldS p5 hst cA ln e1')
theorem LP (H:Has fns orc) {Γ:Tb} (O:Γ.Ok) {S:Nat→DY} {h:aD} (T:TB Γ S h) (W:WF Γ S) {a:Nat} (ha:a<Γ.n) {c u:List Nat} (hcu:(S a).ch=some (c,u)):
  (∃h',aP h h' ∧Ev fns orc (.call 39 [.ptr Γ.tb 0,.ptr (Γ.loc a) 0] .plain h) (.call (.ret jC) .plain h')∧uT Γ a c.dropLast)∨
  (∃h',aP h h' ∧Ev fns orc (.call 39 [.ptr Γ.tb 0,.ptr (Γ.loc a) 0] .plain h) (.call (.panic (irr 11)) .plain h')):=by
 have F:=W a ha c u hcu
 obtain ⟨c0,hc0,_⟩:=W.last ha hcu
 have hcl:0<c.length:=by rw [hc0];simp
 have hcn:∀d∈c.dropLast,d<Γ.n:=fun d hd=>by
  obtain ⟨q,hq⟩:=tX (List.dropLast_subset c hd)
  exact (W.part c.length a c u (Nat.le_refl _) ha hcu q d hq).1
 obtain ⟨vc,vu,bk,hv⟩:=T.d_ a ha
 rw [hcu] at hv
 obtain ⟨tkw,rfl⟩:=CC hv
 have k:=O.ok a ha
 have n15:=Fz k (S a).busy (.sl tkw (ints c)) vu (S a).off (S a).cl
 obtain ⟨vd,n2,rvd⟩:=FU k (S a).busy (.sl tkw (ints c)) vu (S a).off (S a).cl
 obtain ⟨tk',dl⟩:=Ff hcl tkw
 have w1:IntKind.wrap .i64 ((c.length:Int) -1)=(c.length:Int) -1:=pE (by have:=F.max;omega) (by have:=F.max;omega)
 have lc:∀hp,nJ hp .sl (.sl tkw (ints c))= .ok c.length:=fun hp=>by rw [iI,mQ]
 have ec:=vH tkw c
 have ld:∀hp,nJ hp .sl vd= .ok (aU (Γ.D a).pd).length:=fun hp=>by have:=rvd.len hp;simpa using this
 obtain ⟨ys,hy,hyl,hyg⟩:=jZ rvd
 simp only [List.length_map,List.getElem_map] at hyl hyg
 rcases TD H O (S:=S) ha (vb:= .sl tk' (ints c.dropLast)) (.sl _ _) hcn (by have:=F.max;simp;omega) hy hyl hyg (aU (Γ.D a).pd).length 0 h om T with ⟨h',ts,g,⟨n,e⟩,ok⟩|⟨h',ts,g,⟨n,e⟩⟩
 ·refine .inl ⟨h',g,Ev.call H.f39 H.o39 ⟨n,fun m hm=> ?b1⟩,fun i x q s h1 h2=>ok i x q s (Nat.zero_le _) h1 h2⟩
  case b1=>
   have e1' :cG (eval fns orc m) 39 none (.loop Cd) _=_:=e (m+1) om
   simp only [Cd,Int.ofNat_zero] at e1'
   exact SX (sC @a39.eq_1 bk n15 n2 lc w1 dl ec ld e1' @jC.eq_1)
 ·refine .inr ⟨h',g,Ev.call H.f39 H.o39 ⟨n,fun m hm=> ?b2⟩⟩
  case b2=>
   have e1' :cG (eval fns orc m) 39 none (.loop Cd) _=_:=e (m+1) om
   simp only [Cd,Int.ofNat_zero] at e1'
   exact SX (tR @a39.eq_1 bk n15 n2 lc w1 dl ec ld e1')
end Go.Ly
namespace Go.Ly
open Go Go.Am Go.Fs Go.Gn
variable {fns:Go.Am.F} {orc:Orc}
def Cg (S:Nat→DY):Prop:=∀i,(S i).ch≠none
theorem Cg.ext {S S' :Nat→DY} (k:Cg S) (e:Ext S S'):S' =S:=funext fun i=>e.kY (k i)
theorem G7 {Γ:Tb} {S:Nat→DY} {h h' :aD} (T:TB Γ S h) (T' :TB Γ S h') (c:Chg (pJ Γ) h h'):aP h h' :=by
 refine ⟨c.next,fun i hi=> ?_⟩
 by_cases q:pJ Γ i
 ·obtain ⟨k,hk,rfl⟩:=q
  rw [gM (T.e_ k hk),gM (T'.e_ k hk)]
 ·exact c.get i hi q
def Uk (fns:Go.Am.F) (orc:Orc) (Γ:Tb) (t:Task) (h:aD) (Q:AV→Prop):Prop:=
 (∃v h',Ev fns orc t (.call (.ret v) .plain h')∧aP h h' ∧Q v)∨(∃e h',0<e∧Ev fns orc t (.call (.panic (irr e)) .plain h')∧Chg (pJ Γ) h h')
theorem Be {P:Nat→Prop} {a b c:aD} (g:aP a b) (k:Chg P b c):Chg P a c:=kI (fV g) k
section
variable (H:Has fns orc) {Γ:Tb} (O:Γ.Ok) {S:Nat→DY} (K:Cg S) (W:WF Γ S) {h:aD} (T:TB Γ S h)
include H O K W T
theorem WH {a:Int} (ha: -1≤a∧a<(Γ.n:Int)) {e:pO} {ce:List AV} (hr:RV (.exp e) (.agg ce)):
  Uk fns orc Γ (.call 64 [.ptr Γ.tb 0,.int .i64 a,.agg ce] .plain h) h fun v=>∃t,v=tgA t∧CH Γ S a e t∧B4 Γ S a t:=by
 rcases GH H O (BV H O _) T W (Nat.le_refl _) ha hr with ⟨v,h',ev,ch,S',t,hv,ex,T',_,mr,st⟩|p
 ·obtain rfl:=K.ext ex
  exact .inl ⟨v,h',ev,G7 T T' ch,t,hv,mr,st⟩
 ·exact .inr p
theorem N2 {w0:Nat} (hw0:w0<Γ.n) {c u0:List Nat} (hcu:(S w0).ch=some (c,u0)) {vc:AV} (hx:iP vc (ints c)) {q o:Nat} (hq:c[q]? =some o)
  {s:List UInt8} {i k:Nat} (hdf:pN (aU (Γ.D o).pd) s=some (i,k)) {dd:kV} (hdd:(aU (Γ.D o).pd)[i]? =some dd) (hb:(qP dd).length=1∨(wM dd).length=1):
  Uk fns orc Γ (.call 66 [.ptr Γ.tb 0,vc,.int .i64 (q:Nat),.str s] .plain h) h fun v=>∃t,v=tgA t∧AP Γ S c q s t∧B4 Γ S (o:Int) t:=by
 rcases Ma H O (BV H O _) T W (Nat.le_refl _) hw0 hcu hx hq hdf hdd hb with ⟨v,h',ev,ch,S',t,hv,ex,T',_,mr,st⟩|p
 ·obtain rfl:=K.ext ex
  exact .inl ⟨v,h',ev,G7 T T' ch,t,hv,mr,st⟩
 ·exact .inr p
theorem NN {a:Int} (ha: -1≤a∧a<(Γ.n:Int)) {n lv pt k:Nat} (hn:n<1000000000) (hp:PlK Γ S a lv pt k):
  Uk fns orc Γ (.call 61 [.ptr Γ.tb 0,.int .i64 a,.agg [.int .i64 (lv:Nat),.int .i64 (pt:Nat)],.int .i64 (n:Nat)] .plain h) h fun v=>∃lv' pt' k',v= .agg [.int .i64 (lv' :Nat),.int .i64 (pt' :Nat)]∧vY Γ S a n lv pt lv' pt' ∧PlK Γ S a lv' pt' k' ∧upF Γ n (k:Int)=((k' :Nat):Int):=by
 rcases DV H O (BV H O _) T W (Nat.le_refl _) ha hn hp with ⟨v,h',ev,ch,S',lv',pt',k',hv,ex,T',_,mr⟩|p
 ·obtain rfl:=K.ext ex
  exact .inl ⟨v,h',ev,G7 T T' ch,lv',pt',k',hv,mr⟩
 ·exact .inr p
end
theorem Tv (H:Has fns orc) {va vb:AV} {a b:List Nat} (ha:iP va (ints a)) (hb:iP vb (ints b)) (hn:a.length<10000000) (h:aD):
  Ev fns orc (.call 48 [va,vb] .plain h) (.call (.ret (.bool (decide (a=b)))) .plain h):=by
 have la:∀hp,nJ hp .sl va= .ok a.length:=fun hp=>by rw [bO ha hp,mQ]
 have lb:∀hp,nJ hp .sl vb= .ok b.length:=fun hp=>by rw [bO hb hp,mQ]
 by_cases hl:a.length=b.length
 case neg=>
  have d:decide (((a.length:Nat):Int)=((b.length:Nat):Int))=false:=dF om
  have e:decide (a=b)=false:=dF (fun q=>hl (by rw [q]))
  refine Ev.call H.f48 H.o48 ⟨0,fun m _=> ?b⟩
  case b=>
   exact SX (cj5 @a48.eq_1 la lb d e)
 have key:∀k i,i+k=a.length→∃n ts,∀m,n≤m→(cG (eval fns orc m) 48 none (.loop p48x110100) ⟨[(0,va),(1,vb),(12,.int .i64 (a.length:Nat)),(13,.int .i64 (i:Nat))],[],.plain,h⟩=
   match decide (a.drop i=b.drop i) with
   |true=> .ok (.code (.exit 0) ⟨ts,[],.plain,h⟩)
   |false=> .ok (.code .ret ⟨[(4,.bool false)],[],.plain,h⟩)):=by
  intro k
  induction k with
  |zero=>
   intro i hi
   refine ⟨0, ?ts0,fun m _=> ?z0⟩
   case z0=>
    have d:decide ((i:Int)<((a.length:Nat):Int))=false:=dF om
    have e:decide (a.drop i=b.drop i)=true:=dT (by rw [List.drop_eq_nil_of_le om,List.drop_eq_nil_of_le om])
    rw [e,aI]
    exact SX d
  |succ k ih=>
   intro i hi
   obtain ⟨n,ts,ih⟩:=ih (i+1) om
   refine ⟨n+1,ts,fun m hm=> ?_⟩
   obtain ⟨m,rfl⟩:∃j,m=j+1:=⟨m -1,by omega⟩
   have h1:i<a.length:=om
   have h2:i<b.length:=om
   have d:decide ((i:Int)<((a.length:Nat):Int))=true:=dT om
   have ia:=rN ha (List.getElem?_eq_getElem h1)
   have ib:=rN hb (List.getElem?_eq_getElem h2)
   have ih' :=ih m om
   rw [List.drop_eq_getElem_cons h1,List.drop_eq_getElem_cons h2,aI]
   by_cases c:a[i]=b[i]
   ·have e:decide (((a[i]:Nat):Int)=((b[i]:Nat):Int))=true:=dT (by rw [c])
    have e2:decide (a[i]::a.drop (i+1)=b[i]::b.drop (i+1))=decide (a.drop (i+1)=b.drop (i+1)):=by simp only [c,List.cons.injEq,true_and]
    rw [e2]
    exact SXe (cj5 d ia ib e (sH h1 om)) ih'
   ·have e:decide (((a[i]:Nat):Int)=((b[i]:Nat):Int))=false:=dF om
    have e2:decide (a[i]::a.drop (i+1)=b[i]::b.drop (i+1))=false:=dF (fun q=>c (List.cons.inj q).1)
    rw [e2]
    exact SX (cj4 d ia ib e)
 obtain ⟨n,ts,e⟩:=key a.length 0 om
 have d:decide (((a.length:Nat):Int)=((b.length:Nat):Int))=true:=dT om
 refine Ev.call H.f48 H.o48 ⟨n,fun m hm=> ?b2⟩
 case b2=>
  have e1:=e m hm
  simp only [List.drop_zero,Int.ofNat_zero] at e1
  cases c:decide (a=b) with
  |true=>
   rw [c] at e1
   exact SX (cj5 @a48.eq_1 la lb d e1)
  |false=>
   rw [c] at e1
   exact SX (cj5 @a48.eq_1 la lb d e1)
def Bf (a b:List Nat):Bool:=decide (b.length≤a.length∧a.take b.length=b)
theorem N1 (H:Has fns orc) {Γ:Tb} (O:Γ.Ok) {S:Nat→DY} (W:WF Γ S) {h:aD} (T:TB Γ S h) {a b:Nat} (ha:a<Γ.n) (hb:b<Γ.n) {ca ua cb ub:List Nat} (hca:(S a).ch=some (ca,ua)) (hcb:(S b).ch=some (cb,ub)):
  Ev fns orc (.call 29 [.ptr Γ.tb 0,.int .i64 (a:Nat),.int .i64 (b:Nat)] .plain h) (.call (.ret (.bool (Bf ca cb))) .plain h):=by
 obtain ⟨n1,e1⟩:=xV H O T ha (by rw [hca];simp)
 obtain ⟨n2,e2⟩:=xV H O T hb (by rw [hcb];simp)
 obtain ⟨x1,t1,v1,c1,p1,_⟩:=uQ O T ha hca
 obtain ⟨x2,t2,v2,c2,p2,_⟩:=uQ O T hb hcb
 have l1:∀hp,nJ hp .sl (.sl t1 (ints ca))= .ok ca.length:=fun hp=>by rw [iI,mQ]
 have l2:∀hp,nJ hp .sl (.sl t2 (ints cb))= .ok cb.length:=fun hp=>by rw [iI,mQ]
 have q1:=vH t1 ca
 have q2:=vH t2 cb
 have m1:=(W a ha ca ua hca).max
 by_cases c:cb.length≤ca.length
 ·have d:decide (((cb.length:Nat):Int)≤((ca.length:Nat):Int))=true:=dT om
  obtain ⟨tk',sl⟩:=Kl (tk:=t1) (yV ca) (n:=cb.length) (by rw [mQ];omega)
  obtain ⟨n3,e3⟩:=Tv H (va:= .sl tk' ((ints ca).take cb.length)) (vb:= .sl t2 (ints cb)) (a:=ca.take cb.length) (b:=cb) (by rw [show ints (ca.take cb.length)=(ints ca).take cb.length by simp [ints,List.map_take]];exact .sl _ _) (.sl _ _) (by simp;omega) h
  have e:Bf ca cb=decide (ca.take cb.length=cb):=by unfold Bf;simp [c]
  rw [e]
  refine Ev.call H.f29 H.o29 ⟨n1+n2+n3,fun m hm=> ?b⟩
  case b=>
   have e1' :=e1 m om
   have e2' :=e2 m om
   have e3' :=e3 m om
   exact SX (zZ @a29.eq_1 e1' e2' c1 c2 p1 p2 q1 q2 l1 l2 d sl e3')
 ·have d:decide (((cb.length:Nat):Int)≤((ca.length:Nat):Int))=false:=dF om
  have e:Bf ca cb=false:=dF (fun q=>c q.1)
  rw [e]
  refine Ev.call H.f29 H.o29 ⟨n1+n2,fun m hm=> ?b2⟩
  case b2=>
   have e1' :=e1 m om
   have e2' :=e2 m om
   exact SX (qC @a29.eq_1 e1' e2' c1 c2 p1 p2 q1 q2 l1 l2 d)
end Go.Ly
namespace Go.Ly
open Go Go.Am Go.Fs Go.Gn
variable {fns:Go.Am.F} {orc:Orc}
def cfY:AC:=p40x1110011001111001100
def cf5:AC:=p40x11100110011110011001111
def cf6:AC:=p40x111001100111100110011111
def cf7:AC:=p40x1110011001111001100111111
def cf8:AC:=p40x11100110011110011001111111
def QY:AC:=p40x1110011001111001100111111111
theorem TO:cfY= .seq p40x11100110011110011000 (.seq p40x111001100111100110010 (.seq p40x1110011001111001100110 (.seq p40x11100110011110011001110 cf5))):=rfl
theorem NV:cf5= .seq p40x111001100111100110011110 cf6:=rfl
theorem TS:cf6= .seq p40x1110011001111001100111110 cf7:=rfl
theorem NU:cf7= .seq p40x11100110011110011001111110 cf8:=rfl
theorem NT:cf8= .seq p40x111001100111100110011111110 (.seq p40x1110011001111001100111111110 QY):=rfl
def CR (fns:Go.Am.F) (orc:Orc) (c:AC) (ts:fN) (h:aD) (x:Am.Exit) (ts' :fN) (h' :aD):Prop:=∃n,∀m,n≤m→cG (eval fns orc m) 40 none c ⟨ts,[],.plain,h⟩= .ok (.code x ⟨ts',[],.plain,h'⟩)
theorem qG {α:Type} (n:Nat):nth ([]:List α) n=none:=rfl
structure K10 (Γ:Tb) (a e:Nat) (x33 x34 x35 x74 x75 x76:AV) (ts:fN):Prop where
 k0:cH ts 0= .ptr Γ.tb 0
 k1:cH ts 1= .int .i64 (a:Nat)
 k4:cH ts 4= .ptr (Γ.loc a) 0
 k5:cH ts 5= .int .i64 (e:Nat)
 k33:cH ts 33=x33
 k34:cH ts 34=x34
 k35:cH ts 35=x35
 k74:cH ts 74=x74
 k75:cH ts 75=x75
 k76:cH ts 76=x76
def Piece (fns:Go.Am.F) (orc:Orc) (Γ:Tb) (a e:Nat) (x33 x34 x35 x74 x75 x76:AV) (c:AC) (ts:fN) (h:aD) (Q:Prop):Prop:=
 (∃x ts' h',CR fns orc c ts h x ts' h' ∧aP h h' ∧(x= .normal∨x= .exit 3)∧K10 Γ a e x33 x34 x35 x74 x75 x76 ts' ∧Q)∨(∃er ts' h',0<er∧CR fns orc c ts h (.panic (irr er)) ts' h' ∧Chg (pJ Γ) h h')
theorem Piece.step {Γ:Tb} {a e:Nat} {x33 x34 x35 x74 x75 x76:AV} {c c' :AC} {ts ts' :fN} {h h' :aD} {Q Q' :Prop} (p:Piece fns orc Γ a e x33 x34 x35 x74 x75 x76 c' ts' h' Q') (g:aP h h') (q:Q' →Q)
  (e1:∃n,∀m,n≤m→cG (eval fns orc m) 40 none c ⟨ts,[],.plain,h⟩=cG (eval fns orc m) 40 none c' ⟨ts',[],.plain,h'⟩):Piece fns orc Γ a e x33 x34 x35 x74 x75 x76 c ts h Q:=by
 obtain ⟨n1,e1⟩:=e1
 rcases p with ⟨x,t2,h2,⟨n2,e2⟩,g2,hx,k,hq⟩|⟨er,t2,h2,he,⟨n2,e2⟩,ch⟩
 ·exact .inl ⟨x,t2,h2,⟨n1+n2,fun m hm=>(e1 m om).trans (e2 m om)⟩,g.trans g2,hx,k,q hq⟩
 ·exact .inr ⟨er,t2,h2,he,⟨n1+n2,fun m hm=>(e1 m om).trans (e2 m om)⟩,Be g ch⟩
def Pj (Γ:Tb) (S:Nat→DY) (a e q:Nat) (vo lo vn ln pn:Nat):Prop:=∃sl sp n l p l2 p2 co uo cn un,(S vo).ch=some (co,uo)∧(S vn).ch=some (cn,un)∧Bf cn co=true∧un[co.length -1]? =some n∧
 ((ln=0∧sl=0∧sp=e)∨(0<ln∧sp=pn∧∃p',vY Γ S a ln 0 e sl p'))∧vY Γ S a n sl sp l p∧vY Γ S a lo 0 q l2 p2∧l=l2
theorem Pb (H:Has fns orc) {Γ:Tb} (O:Γ.Ok) {S:Nat→DY} (K:Cg S) (W:WF Γ S) {h:aD} (T:TB Γ S h) {a e:Nat} (ha:a<Γ.n) {x33 x34 x35 x74 x75 x76:AV} {ts:fN} (k:K10 Γ a e x33 x34 x35 x74 x75 x76 ts) {q b12 b13 b14 vo lo po vn ln pn sl sp ks o:Nat} (t11:cH ts 11= .int .i64 (q:Nat)) (t12:cH ts 12= .ptr b12 0) (t13:cH ts 13= .ptr b13 0) (t14:cH ts 14= .ptr b14 0)
  (c12:cont h b12=some [.int .i64 (vo:Nat),.int .i64 (lo:Nat),.int .i64 (po:Nat)]) (c13:cont h b13=some [.int .i64 (vn:Nat),.int .i64 (ln:Nat),.int .i64 (pn:Nat)]) (c14:cont h b14=some [.int .i64 (sl:Nat),.int .i64 (sp:Nat)]) (hvo:vo<Γ.n) (hvn:vn<Γ.n) (hlo:lo<1000000000)
  {co uo cn un:List Nat} (hco:(S vo).ch=some (co,uo)) (hcn:(S vn).ch=some (cn,un)) (hb:Bf cn co=true) (hp:PlK Γ S a sl sp ks) (hq:PlK Γ S a 0 q o):
  Piece fns orc Γ a e x33 x34 x35 x74 x75 x76 QY ts h (∃n l p l2 p2,un[co.length -1]? =some n∧vY Γ S a n sl sp l p∧vY Γ S a lo 0 q l2 p2∧l=l2):=by
 obtain ⟨k0,k1,k4,k5,k33,k34,k35,k74,k75,k76⟩:=k
 have hO:=O.lt
 have hbb:co.length≤cn.length∧cn.take co.length=co:=by unfold Bf at hb;exact of_decide_eq_true hb
 have Fo:=W vo hvo co uo hco
 have Fn:=W vn hvn cn un hcn
 obtain ⟨co0,hco0,_⟩:=W.last hvo hco
 have lco:0<co.length:=by rw [hco0];simp
 obtain ⟨n,hn⟩:∃n,un[co.length -1]? =some n:=⟨un[co.length -1]'(by rw [Fn.len];omega),List.getElem?_eq_getElem _⟩
 have hnb:=Fn.ub n (List.mem_of_getElem? hn)
 obtain ⟨tk,v2,tT⟩:=T.t_
 have in_:=Γ.at tk hvn
 have io:=Γ.at tk hvo
 obtain ⟨xn,tn,vun,bn,n15,n16,nu,_⟩:=uQ O T hvn hcn
 obtain ⟨xo,to,vuo,bo,o15,o16,ou,_⟩:=uQ O T hvo hco
 have iu:=rN nu hn
 have lo' :∀hp,nJ hp .sl (.sl to (ints co))= .ok co.length:=fun hp=>by rw [iI,mQ]
 have w1:IntKind.wrap .i64 ((co.length:Int) -1)=((co.length -1:Nat):Int):=by have:=Fo.max;rw [pE om om];omega
 have xe:=Γ.D3 tk
 have q1:=yG nu
 have q2:=vH to co
 have ar: -1≤(a:Int)∧(a:Int)<(Γ.n:Int):=⟨by omega,by omega⟩
 rcases NN H O K W T ar (n:=n) om hp with ⟨_,h1,⟨m1,x1⟩,g1,l,p,k',rfl,cl1,_⟩|⟨er,h1,he,⟨m1,x1⟩,ch1⟩
 case inr=>
  refine .inr ⟨er, ?ts1,h1,he,⟨m1,fun m hm=> ?b1⟩,ch1⟩
  case b1=>
   have x1' :=x1 m hm
   exact SX (dI @QY.eq_1 k0 k1 k4 k5 k33 k34 k35 k74 k75 k76 t11 t12 t13 t14 tT (dI c12 c13 c14 in_ io bn bo n16 o15 iu lo' w1 xe q1 q2 x1' @qG))
 have T1:=T.grow g1
 have d12:=(aF g1 (aO c12)).trans c12
 rcases NN H O K W T1 ar (n:=lo) hlo hq with ⟨_,h2,⟨m2,x2⟩,g2,l2,p2,k2,rfl,cl2,_⟩|⟨er,h2,he,⟨m2,x2⟩,ch2⟩
 case inr=>
  refine .inr ⟨er, ?ts2,h2,he,⟨m1+m2,fun m hm=> ?b2⟩,Be g1 ch2⟩
  case b2=>
   have x1' :=x1 m om
   have x2' :=x2 m om
   simp only [Int.ofNat_zero] at x2'
   exact SX (dI @QY.eq_1 k0 k1 k4 k5 k33 k34 k35 k74 k75 k76 t11 t12 t13 t14 tT (dI c12 c13 c14 in_ io bn bo n16 o15 iu lo' w1 xe q1 q2 x1' (cj3 d12 x2' @qG)))
 by_cases cl:l=l2
 ·have d:decide (((l:Nat):Int)=(l2:Int))=true:=dT om
  obtain ⟨m3,x3⟩:=uZ H 11 h2
  refine .inl ⟨.normal, ?ts3,h2,⟨m1+m2+m3,fun m hm=> ?b3⟩,g1.trans g2,.inl rfl, ?kk,⟨n,l,p,l2,p2,hn,cl1,cl2,cl⟩⟩
  case b3=>
   have x1' :=x1 m om
   have x2' :=x2 m om
   have x3' :=x3 m om
   simp only [Int.ofNat_zero] at x2'
   exact SX (dI @QY.eq_1 k0 k1 k4 k5 k33 k34 k35 k74 k75 k76 t11 t12 t13 t14 tT (dI c12 c13 c14 in_ io bn bo n16 o15 iu lo' w1 xe q1 q2 x1' (cj4 d12 x2' d x3')))
  case kk=>exact ⟨rfl,rfl,rfl,rfl,rfl,rfl,rfl,rfl,rfl,rfl⟩
 ·have d:decide (((l:Nat):Int)=(l2:Int))=false:=dF om
  obtain ⟨m3,x3⟩:=vB H 11 h2
  refine .inr ⟨11, ?ts4,h2,by omega,⟨m1+m2+m3,fun m hm=> ?b4⟩,fV (g1.trans g2)⟩
  case b4=>
   have x1' :=x1 m om
   have x2' :=x2 m om
   have x3' :=x3 m om
   simp only [Int.ofNat_zero] at x2'
   exact SX (dI @QY.eq_1 k0 k1 k4 k5 k33 k34 k35 k74 k75 k76 t11 t12 t13 t14 tT (dI c12 c13 c14 in_ io bn bo n16 o15 iu lo' w1 xe q1 q2 x1' (cj4 d12 x2' d x3')))
end Go.Ly
end
