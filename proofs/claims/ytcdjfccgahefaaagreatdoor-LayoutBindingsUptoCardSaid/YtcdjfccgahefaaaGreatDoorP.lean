/- Parts of a proof. -/
import Derived.Test.YtcdjfccgahefaaaGreatDoorD
import Derived.Test.YtcdjfccgahefaaaGreatDoorW
set_option linter.all false
set_option maxHeartbeats 8000000
set_option maxRecDepth 4000
noncomputable section
namespace Go.Ly
open Go Go.Am Go.Fs Go.Gn
variable {fns:Go.Am.F} {orc:Orc}
def Cy (sz:Nat) (z:List AV):AC:=
 (.seq (.reg [⟨(some 11),.b2 (.bin .lss) (.t 10) (.t 9),none⟩] (some [1,5,8,9,10,11]))
   (.seq (.cond (.t 11)
    .skip
    (.exit 0))
   (.seq (.block 1
    (.seq (.reg [⟨(some 12),.b2 (.GH sz) (.t 8) (.t 10),none⟩,
      ⟨(some 13),.u1 (.load (some sz)) (.t 12),none⟩,
      ⟨(some 7),.o3 (.alloc z),none⟩,
      ⟨none,.b2 (.store sz) (.t 7) (.t 13),none⟩] (some [1,5,7,8,9,10]))
    (.reg [⟨(some 14),.mov (.t 5),none⟩,
      ⟨(some 15),.mov (.t 1),none⟩,
      ⟨(some 16),.u1 (.load (some sz)) (.t 7),none⟩,
      ⟨(some 17),.call (.t 15) [(.t 16)],none⟩,
      ⟨(some 18),.o3 (.DG sz [(.t 17)]),none⟩,
      ⟨(some 19),.b2 (.append sz) (.t 14) (.t 18),none⟩,
      ⟨(some 5),.mov (.t 19),none⟩] (some [1,5,8,9,10]))))
   (.reg [⟨(some 20),.b2 (.bin .add) (.t 10) (.c (.int .i64 1)),none⟩,
     ⟨(some 10),.mov (.t 20),none⟩] (some [1,5,8,9,10])))))
def N0 (sz:Nat) (z:List AV):AC:=
 (.seq (.reg [⟨(some 4),.mov (.c .aC),none⟩] (some [0,1]))
 (.seq (.reg [⟨(some 5),.mov (.c .aC),none⟩] (some [0,1,5]))
 (.seq (.seq (.reg [⟨(some 8),.mov (.t 0),none⟩,
   ⟨(some 9),.u1 (.len .sl) (.t 8),none⟩,
   ⟨(some 10),.mov (.c (.int .i64 0)),none⟩] (some [1,5,8,9,10]))
 (.block 0
  (.loop (Cy sz z))))
 (.seq (.reg [⟨(some 21),.mov (.t 5),none⟩,
   ⟨(some 4),.mov (.t 21),none⟩] (some [4]))
 .ret))))
theorem Lz (h:aD) (ts:eN) (t sz:Nat) {c:List AV} (hv:cX ts t= .agg c) (hl:c.length=sz) (hk:c.all AV.cF=true):jL h ts sz [.t t]= .ok (.val (.sl .full [.agg c]) h):=by
 have e:(Nat.beq c.length sz && c.all AV.cF)=true:=by rw [hk,hl];simp
 simp only [jL,kW,rE,hv,AV.cells,e,aM]
theorem QF {l:List Part} {xs:List AV} (h:RVL l xs) {p:Part} {v:AV} (hv:RV p v):RVL (l++[p]) (xs++[v]):=h.append (.cons hv .nil)
theorem Mw {fn g sz:Nat} {z:List AV} {capt:List AV} (hz:z.length=sz) (hsz:1≤sz∧sz≤8) {l0:List Part} {x:AV} {xs0:List AV} (hx:iK x xs0) (hl0:xs0.length=l0.length) (hn:l0.length<10000000)
  {N M:Nat→Prop} {K:aD→Prop} (hNM:∀i,N i→M i) (hK:∀a b:aD,K a→a.next≤b.next→(∀i,M i→b.get i=a.get i)→K b) (hM:∀a,K a→∀i,M i→i<a.next)
  (hel:∀i (hi:i<l0.length),∃c,xs0[i]? =some (.agg c)∧c.length=sz∧c.all AV.cF=true∧∀h,K h→∃h' c',Ev fns orc (.call g (.agg c::capt) .plain h) (.call (.ret (.agg c')) .plain h')∧Chg N h h' ∧K h' ∧RV l0[i] (.agg c')∧c'.length=sz∧c'.all AV.cF=true):
  ∀(k i:Nat) (l:AV) (ps:List Part) (xs:List AV) (h:aD),i+k=l0.length→Acc h l xs→(∀t,jE l=some t→¬M t)→RVL ps xs→Bp sz xs→ps.length=i→K h→
   ∃h' l' xs' ts,Ev fns orc (.code fn none (.loop (Cy sz z)) ⟨[(1,.fn g [] capt),(5,l),(8,x),(9,.int .i64 (l0.length:Nat)),(10,.int .i64 (i:Int))],[],.plain,h⟩) (.code (.exit 0) ⟨ts,[],.plain,h'⟩)∧cX ts 5=l' ∧
    Acc h' l' xs' ∧RVL (ps++l0.drop i) xs' ∧Chg (fun j=>N j∨jE l=some j) h h' ∧K h' :=by
 intro k
 induction k with
 |zero=>
  intro i l ps xs h hi ha ht hp hw hpl hk
  have e:i=l0.length:=om
  have d:decide ((i:Int)<((l0.length:Nat):Int))=false:=dF om
  refine ⟨h,l,xs, ?ts0,Ev.code ⟨0,fun m _=> ?b0⟩, ?t0,ha,by rw [e];simpa using hp,.refl _ _,hk⟩
  case b0=>
   exact SX (cj3 @Cy.eq_1 d @aI)
  case t0=>rfl
 |succ k ih=>
  intro i l ps xs h hi ha ht hp hw hpl hk
  have hlt:i<l0.length:=om
  have d:decide ((i:Int)<((l0.length:Nat):Int))=true:=dT om
  obtain ⟨c,hc,hcl,hck,GL⟩:=hel i hlt
  have hia:=jZ hx hc hcl
  have hlo:bK (some sz) c 0= .ok (.agg c):=vZ hcl
  have hst:=pM h hz hcl hck
  obtain ⟨hA,hAe⟩:∃x,x=(h.push (.cells z)).set h.next (.cells c):=⟨_,rfl⟩
  rw [←hAe] at hst
  have gA:aR h hA:=by rw [hAe];exact gw2
  have cA:cont hA h.next=some c:=by rw [hAe];exact aH (by simp)
  have kA:K hA:=hK _ _ hk gA.next (fun i q=>gA.get i (hM h hk i q))
  obtain ⟨hB,c',⟨n1,e1⟩,chB,kB,rv,rl,rk⟩:=GL hA kA
  have nBx:=chB.next
  have aB:Acc hB l xs:=by
   have aA:Acc hA l xs:=ha.grow gA
   cases aA with
   |nil=>exact .nil
   |opn t xs htg PA=>exact .opn t xs ((chB.get t (aD.mM htg) (fun q=>ht t rfl (hNM t q))).trans htg) PA
  have hxl:xs.length=i:=by have:=hp.length;omega
  obtain ⟨l2,h2,ap,a2,g2,tk2⟩:=tD aB (n:=sz) (v:= .agg c') hsz.1 hw rl (by
   have:(xs.length+1)*sz≤10000000*8:=Nat.mul_le_mul om hsz.2
   omega)
  have n2:=g2.next
  have k2:K h2:=hK _ _ kB n2 (fun i w=>g2.get i (hM hB kB i w) (fun e=>ht i e w))
  have ht2:∀t,jE l2=some t→¬M t:=fun t w q=>by
   rcases tk2 t w with w|w
   ·exact ht t w q
   ·have:=hM hB kB t q;omega
  obtain ⟨h',l',xs',ts,⟨n3,e3⟩,tt,a3,r3,ch3,k3⟩:=ih (i+1) l2 (ps++[l0[i]]) (xs++[.agg c']) h2 om a2 ht2 (QF hp rv) (fun y hy=>by
   rcases List.mem_append.1 hy with q|q
   ·exact hw y q
   ·rw [List.mem_singleton.1 q];exact rl) (by simp;omega) k2
  refine ⟨h',l',xs',ts,Ev.code ⟨max n1 n3,fun m hm=> ?b1⟩,tt,a3,by rw [List.drop_eq_getElem_cons hlt];simpa using r3, ?c1,k3⟩
  case b1=>
   have e1' :=e1 m om
   have e3' :=e3 m om
   have hbs:=fun ts=>Lz hB ts 17 sz (c:=c')
   have hb1:∀ts,jL hB ((17,.agg c')::ts) sz [.t 17]= .ok (.val (.sl .full [.agg c']) hB):=fun ts=>Lz hB _ 17 sz rfl rl rk
   simp only [Cy] at e3'
   exact SBe (sH @Cy.eq_1 d hia hlo hst cA e1' hb1 ap @aI (tM hlt om)) e3'
  case c1=>
   refine ⟨by have:=ch3.next;have:=gA.next;omega,fun j hj hn=> ?_⟩
   have j1:j<hA.next:=Nat.lt_of_lt_of_le hj gA.next
   rw [ch3.get j om (fun q=>by
    rcases q with q|q
    ·exact hn (.inl q)
    ·rcases tk2 j q with q|q
     ·exact hn (.inr q)
     ·omega),g2.get j om (fun q=>hn (.inr q)),chB.get j j1 (fun q=>hn (.inl q)),gA.get j hj]
theorem Ba {f g sz:Nat} {afn:AFn} {z:List AV} {capt:List AV} (hf:fns f=some afn) (ho:orc f=none) (hb:afn.body=N0 sz z) (hr:afn.results=[.tmp 4]) (hz:z.length=sz) (hsz:1≤sz∧sz≤8) {l0:List Part} {x:AV} (hv:RVs l0 x) (hn:l0.length<10000000)
  {N M:Nat→Prop} {K:aD→Prop} (hNM:∀i,N i→M i) (hK:∀a b:aD,K a→a.next≤b.next→(∀i,M i→b.get i=a.get i)→K b) (hM:∀a,K a→∀i,M i→i<a.next)
  (hel:∀p∈l0,∀c,RV p (.agg c)→c.length=sz∧c.all AV.cF=true∧∀h,K h→∃h' c',Ev fns orc (.call g (.agg c::capt) .plain h) (.call (.ret (.agg c')) .plain h')∧Chg N h h' ∧K h' ∧RV p (.agg c')∧c'.length=sz∧c'.all AV.cF=true) {h:aD} (hk:K h):
  ∃h' v',Ev fns orc (.call f [x,.fn g [] capt] .plain h) (.call (.ret v') .plain h')∧Chg N h h' ∧K h' ∧RVs l0 v' :=by
 obtain ⟨xs,hx,hxl,hge⟩:=jX hv
 have q:∀hp,mK hp .sl x= .ok l0.length:=fun hp=>by rw [bJ hx hp,hxl]
 obtain ⟨h',l',xs',ts,⟨n,e⟩,tt,a,r,ch,k⟩:=Mw (fns:=fns) (orc:=orc) (fn:=f) (g:=g) (capt:=capt) hz hsz hx hxl hn hNM hK hM (fun i hi=>by
  obtain ⟨c,e1,e2⟩:=hge i hi
  obtain ⟨e3,e4,e5⟩:=hel _ (List.getElem_mem hi) c e2
  exact ⟨c,e1,e3,e4,e5⟩) l0.length 0 .aC [] [] h om .nil (fun t w=>by cases w) .nil (fun y hy=>by cases hy) rfl hk
 refine ⟨h',l',Ev.call hf ho ⟨n,fun m hm=> ?b⟩,⟨ch.next,fun i hi hn=>ch.get i hi (fun w=>by rcases w with w|w;exact hn w;cases w)⟩,k, ?r⟩
 case b=>
  have e' :bZ (eval fns orc m) f none (.loop (Cy sz z)) ⟨[(1,.fn g [] capt),(5,.aC),(8,x),(9,.int .i64 (l0.length:Nat)),(10,.int .i64 0)],[],.plain,h⟩= .ok (.code (.exit 0) ⟨ts,[],.plain,h'⟩):=e (m+1) om
  rw [hb]
  obtain ⟨nt,res,body⟩:=afn
  cases hr
  exact SX (cj4 @N0.eq_1 q e' tt)
 case r=>
  simp only [List.nil_append,List.drop_zero] at r
  cases a with
  |nil=>cases r;exact .nil
  |opn t xs htg PA=>exact .sl _ r
end Go.Ly
namespace Go.Ly
open Go Go.Am Go.Fs Go.Gn
variable {fns:Go.Am.F} {orc:Orc}
theorem ldS (n:Nat) (c:List AV):bK (some n) c 0=match takeN n c with
  |some l=> .ok (.agg l)
  |none=> .no "load: n" :=rfl
def tK (fns:Go.Am.F) (orc:Orc) (q:Part):Prop:=∀v,RP q v→q.nodes<10000000→∀h:aD,∃h' v',aR h h' ∧Ev fns orc (.call 48 [v] .plain h) (.call (.ret v') .plain h')∧RP q v'
structure NK (nb fb xb:Nat) (h:aD):Prop where
 n_:∃z,cont h nb=some [.int .i64 z]
 f_:cont h fb=some [.fn 69 [] []]
 x_:cont h xb=some [.fn 83 [] [.ptr nb 0,.ptr fb 0]]
theorem NK.kR {nb fb xb:Nat} {a b:aD} (k:NK nb fb xb a) (h:∀i,i=nb∨i=fb∨i=xb→b.get i=a.get i):NK nb fb xb b:=
 ⟨k.n_.imp fun z q=>(aG (h nb (.inl rfl))).trans q,(aG (h fb (.inr (.inl rfl)))).trans k.f_,(aG (h xb (.inr (.inr rfl)))).trans k.x_⟩
theorem NK.lt {nb fb xb:Nat} {a:aD} (k:NK nb fb xb a):∀i,i=nb∨i=fb∨i=xb→i<a.next:=by
 obtain ⟨z,q⟩:=k.n_
 rintro i (rfl|rfl|rfl)
 ·exact aT q
 ·exact aT k.f_
 ·exact aT k.x_
theorem M1 (H:Has fns orc) {q:Part} (C:tK fns orc q) {v:AV} (hv:RP q v) (hn:q.nodes<10000000) (w:Int) (h:aD):
  ∃h' v',aR h h' ∧Ev fns orc (.call 69 [.int .i64 w,v] .plain h) (.call (.ret v') .plain h')∧RP q v' :=by
 obtain ⟨c,rfl,cl,ck⟩:=rX hv
 have p29:takeN 29 c=some c:=by rw [←cl];exact aX c
 obtain ⟨hA,hAe⟩:∃x,x=(h.push (.cells c)).push (.cells z29):=⟨_,rfl⟩
 have gA:aR h hA:=by rw [hAe];exact gw2
 have nA:hA.next=h.next+2:=by rw [hAe];simp
 have a0:cont hA h.next=some c:=by rw [hAe];exact ctp
 have a1:cont hA (h.next+1)=some z29:=by rw [hAe];exact ctp
 obtain ⟨hB,v',gAB,⟨n1,e1⟩,hv'⟩:=C (.agg c) hv hn hA
 have nB:=gAB.next
 have b1:=(aF gAB (by omega:h.next+1<hA.next)).trans a1
 have hv2:=hv'
 obtain ⟨c',rfl,cl',ck'⟩:=rX hv'
 have QV :takeN 29 c' =some c' :=by rw [←cl'];exact aX c'
 have f3:Nat.beq c'.length 29=true:=by rw [cl'];rfl
 have f4:cW 0 c' z29=some c' :=pR _ _ (by rw [cl'];rfl)
 obtain ⟨hC,hCe⟩:∃x,x=hB.set (h.next+1) (.cells c'):=⟨_,rfl⟩
 have cC:cont hC (h.next+1)=some c' :=by rw [hCe];exact aH om
 refine ⟨hC,.agg c',⟨by rw [hCe];simp;omega,fun i hi=>by rw [hCe,aE _ _ _ _ om om,gAB.get i om,gA.get i hi]⟩,Ev.call H.f69 H.o69 ⟨n1,fun m hm=> ?b⟩,hv2⟩
 have e1' :=e1 m hm
 rw [vH] at hAe b1 f4
 exact SX (qD @a69.eq_1 (Eq.symm hAe) a0 p29 e1' b1 ck' f3 f4 (Eq.symm hCe) cC QV)
theorem D7 (H:Has fns orc) {q:Part} (C:tK fns orc q) {v:AV} (hv:RP q v) (hn:q.nodes<10000000) {nb fb xb:Nat} (hne:nb≠fb∧nb≠xb) {h:aD} (K:NK nb fb xb h):
  ∃h' v',Ev fns orc (.call 83 [v,.ptr nb 0,.ptr fb 0] .plain h) (.call (.ret v') .plain h')∧Chg (fun i=>i=nb) h h' ∧NK nb fb xb h' ∧RP q v' :=by
 obtain ⟨c,rfl,cl,ck⟩:=rX hv
 have p29:takeN 29 c=some c:=by rw [←cl];exact aX c
 obtain ⟨z,hz⟩:=K.n_
 have lt:=K.lt
 have l1:=lt nb (.inl rfl)
 have l2:=lt fb (.inr (.inl rfl))
 have l3:=lt xb (.inr (.inr rfl))
 obtain ⟨hP,hPe⟩:∃x,x=(h.push (.cells c)).push (.cells z29):=⟨_,rfl⟩
 have gP:aR h hP:=by rw [hPe];exact gw2
 have nP:hP.next=h.next+2:=by rw [hPe];simp
 have p0:cont hP h.next=some c:=by rw [hPe];exact ctp
 have p1:cont hP (h.next+1)=some z29:=by rw [hPe];exact ctp
 have pn:=(aF gP l1).trans hz
 have pf:=(aF gP l2).trans K.f_
 have px:=(aF gP l3).trans K.x_
 obtain ⟨hA,hAe⟩:∃x,x=hP.set nb (.cells [.int .i64 (IntKind.wrap .i64 (z+1))]):=⟨_,rfl⟩
 have nA:hA.next=h.next+2:=by rw [hAe];simp [nP]
 have oA:∀i,i≠nb→cont hA i=cont hP i:=fun i hi=>by rw [hAe];exact aK om hi
 have an:cont hA nb=some [.int .i64 (IntKind.wrap .i64 (z+1))]:=by rw [hAe];exact aH om
 have a0:=(oA h.next om).trans p0
 have a1:=(oA (h.next+1) om).trans p1
 have af:=(oA fb (fun e=>hne.1 e.symm)).trans pf
 have ax:=(oA xb (fun e=>hne.2 e.symm)).trans px
 obtain ⟨hB,v',gAB,⟨n1,e1⟩,hv'⟩:=M1 H C hv hn (IntKind.wrap .i64 (IntKind.wrap .i64 (z+1) -1)) hA
 have nB:=gAB.next
 have b1:=(aF gAB (by omega:h.next+1<hA.next)).trans a1
 have hv2:=hv'
 obtain ⟨c',rfl,cl',ck'⟩:=rX hv'
 have QV :takeN 29 c' =some c' :=by rw [←cl'];exact aX c'
 have f3:Nat.beq c'.length 29=true:=by rw [cl'];rfl
 have f4:cW 0 c' z29=some c' :=pR _ _ (by rw [cl'];rfl)
 obtain ⟨hC,hCe⟩:∃x,x=hB.set (h.next+1) (.cells c'):=⟨_,rfl⟩
 have nC:hC.next=hB.next:=by rw [hCe];simp
 have oC:∀i,i<h.next→hC.get i=hA.get i:=fun i hi=>by rw [hCe,aE _ _ _ _ om om,gAB.get i om]
 have cC:cont hC (h.next+1)=some c' :=by rw [hCe];exact aH om
 refine ⟨hC,.agg c',Ev.call H.f83 H.o83 ⟨n1,fun m hm=> ?b⟩,⟨by omega,fun i hi hq=> ?g⟩,⟨⟨_,(aG (oC nb l1)).trans an⟩,(aG (oC fb l2)).trans af,(aG (oC xb l3)).trans ax⟩,hv2⟩
 case g=>rw [oC i hi,hAe,aE _ _ _ _ om hq,gP.get i hi]
 case b=>
  have e1' :=e1 m hm
  rw [vH] at hPe b1 f4
  exact SX (Bl @a83.eq_1 (Eq.symm hPe) pn (Eq.symm hAe) an af a0 p29 e1' b1 ck' f3 f4 (Eq.symm hCe) cC QV)
theorem Sj (H:Has fns orc) {p:pD} (C:tK fns orc (.exp p)) (hn:(Part.exp p).nodes<10000000) {c:List AV} (hv:RV (.exp p) (.agg c)) {nb fb xb:Nat} (hne:nb≠fb∧nb≠xb) {h:aD} (K:NK nb fb xb h):
  ∃h' c',Ev fns orc (.call 86 [.agg c,.ptr xb 0] .plain h) (.call (.ret (.agg c')) .plain h')∧Chg (fun i=>i=nb) h h' ∧NK nb fb xb h' ∧RV (.exp p) (.agg c')∧c'.length=8∧c'.all AV.cF=true:=by
 have cl:=pS hv
 have psz:takeN 8 c=some c:=by rw [←cl];exact aX c
 have ceq:dS (.agg c) (.agg c)=true:=A7 hv
 have lt:=K.lt
 have l1:=lt nb (.inl rfl)
 have l3:=lt xb (.inr (.inr rfl))
 obtain ⟨hA,hAe⟩:∃x,x=(h.push (.cells c)).push (.cells pU):=⟨_,rfl⟩
 have gA:aR h hA:=by rw [hAe];exact gw2
 have nA:hA.next=h.next+2:=by rw [hAe];simp
 have a0:cont hA h.next=some c:=by rw [hAe];exact ctp
 have a1:cont hA (h.next+1)=some pU:=by rw [hAe];exact ctp
 have KA:NK nb fb xb hA:=K.kR fun i hi=>gA.get i (lt i hi)
 obtain ⟨hB,gAB,n1,e1⟩:=Kf H hv hA
 have nB:=gAB.next
 have KB:NK nb fb xb hB:=KA.kR fun i hi=>gAB.get i (KA.lt i hi)
 obtain ⟨hC,v',⟨n2,e2⟩,ch,KC,hv'⟩:=D7 H C ⟨c,hv,rfl⟩ hn hne KB
 have nC:=ch.next
 have hv2:=hv'
 obtain ⟨c',rv',rfl⟩:=hv2
 have cl' :=pS rv'
 have ck' :c'.all AV.cF=true:=by
  have:=lE rv'
  simp only [aW,List.all_cons,List.all_append,Bool.and_eq_true] at this
  simp_all
 have fl:bK (some 8) (aW (.exp p) c') 1= .ok (.agg c'):=by
  have:takeN 8 ((aW (.exp p) c').drop 1)=some c' :=by
   cases rv'
   rfl
  simp only [bK,this]
 have c1:cont hC (h.next+1)=some pU:=(aG (ch.get _ om om)).trans ((aF gAB om).trans a1)
 have f3:Nat.beq c'.length 8=true:=by rw [cl'];rfl
 have f4:cW 0 c' pU=some c' :=pR _ _ (by rw [cl'];rfl)
 have p2:takeN 8 c' =some c' :=by rw [←cl'];exact aX c'
 obtain ⟨hD,hDe⟩:∃x,x=hC.set (h.next+1) (.cells c'):=⟨_,rfl⟩
 have cD:cont hD (h.next+1)=some c' :=by rw [hDe];exact aH om
 have oD:∀i,i<h.next→hD.get i=hC.get i:=fun i hi=>by rw [hDe,aE _ _ _ _ om om]
 refine ⟨hD,c',Ev.call H.f86 H.o86 ⟨n1+n2,fun m hm=> ?b⟩,⟨by rw [hDe];simp;omega,fun i hi hq=> ?g⟩,KC.kR fun i hi=>oD i (lt i hi),rv',cl',ck'⟩
 case g=>rw [oD i hi,ch.get i om hq,gAB.get i om,gA.get i hi]
 case b=>
  have e1' :=e1 m om
  have e2' :=e2 m om
  have kx:=KA.x_
  have kxB:=KB.x_
  simp only [pU] at hAe c1 f4
  exact SR (dD @a86.eq_1 (Eq.symm hAe) kx kxB a0 psz ceq e1' e2' fl c1 ck' f3 f4 (Eq.symm hDe) cD (cj2 p2 @ldS))
theorem Si (H:Has fns orc) {p:qE} (C:tK fns orc (.imp p)) (hn:(Part.imp p).nodes<10000000) {c:List AV} (hv:RV (.imp p) (.agg c)) {nb fb xb:Nat} (hne:nb≠fb∧nb≠xb) {h:aD} (K:NK nb fb xb h):
  ∃h' c',Ev fns orc (.call 90 [.agg c,.ptr xb 0] .plain h) (.call (.ret (.agg c')) .plain h')∧Chg (fun i=>i=nb) h h' ∧NK nb fb xb h' ∧RV (.imp p) (.agg c')∧c'.length=6∧c'.all AV.cF=true:=by
 have cl:=yH hv
 have psz:takeN 6 c=some c:=by rw [←cl];exact aX c
 have ceq:dS (.agg c) (.agg c)=true:=A7 hv
 have lt:=K.lt
 have l1:=lt nb (.inl rfl)
 have l3:=lt xb (.inr (.inr rfl))
 obtain ⟨hA,hAe⟩:∃x,x=(h.push (.cells c)).push (.cells pT):=⟨_,rfl⟩
 have gA:aR h hA:=by rw [hAe];exact gw2
 have nA:hA.next=h.next+2:=by rw [hAe];simp
 have a0:cont hA h.next=some c:=by rw [hAe];exact ctp
 have a1:cont hA (h.next+1)=some pT:=by rw [hAe];exact ctp
 have KA:NK nb fb xb hA:=K.kR fun i hi=>gA.get i (lt i hi)
 obtain ⟨hB,gAB,n1,e1⟩:=Kb H hv hA
 have nB:=gAB.next
 have KB:NK nb fb xb hB:=KA.kR fun i hi=>gAB.get i (KA.lt i hi)
 obtain ⟨hC,v',⟨n2,e2⟩,ch,KC,hv'⟩:=D7 H C ⟨c,hv,rfl⟩ hn hne KB
 have nC:=ch.next
 have hv2:=hv'
 obtain ⟨c',rv',rfl⟩:=hv2
 have cl' :=yH rv'
 have ck' :c'.all AV.cF=true:=by
  have:=lE rv'
  simp only [aW,List.all_cons,List.all_append,Bool.and_eq_true] at this
  simp_all
 have fl:bK (some 6) (aW (.imp p) c') 21= .ok (.agg c'):=by
  have:takeN 6 ((aW (.imp p) c').drop 21)=some c' :=by
   cases rv'
   rfl
  simp only [bK,this]
 have c1:cont hC (h.next+1)=some pT:=(aG (ch.get _ om om)).trans ((aF gAB om).trans a1)
 have f3:Nat.beq c'.length 6=true:=by rw [cl'];rfl
 have f4:cW 0 c' pT=some c' :=pR _ _ (by rw [cl'];rfl)
 have p2:takeN 6 c' =some c' :=by rw [←cl'];exact aX c'
 obtain ⟨hD,hDe⟩:∃x,x=hC.set (h.next+1) (.cells c'):=⟨_,rfl⟩
 have cD:cont hD (h.next+1)=some c' :=by rw [hDe];exact aH om
 have oD:∀i,i<h.next→hD.get i=hC.get i:=fun i hi=>by rw [hDe,aE _ _ _ _ om om]
 refine ⟨hD,c',Ev.call H.f90 H.o90 ⟨n1+n2,fun m hm=> ?b⟩,⟨by rw [hDe];simp;omega,fun i hi hq=> ?g⟩,KC.kR fun i hi=>oD i (lt i hi),rv',cl',ck'⟩
 case g=>rw [oD i hi,ch.get i om hq,gAB.get i om,gA.get i hi]
 case b=>
  have e1' :=e1 m om
  have e2' :=e2 m om
  have kx:=KA.x_
  have kxB:=KB.x_
  simp only [pT] at hAe c1 f4
  exact SR (dD @a90.eq_1 (Eq.symm hAe) kx kxB a0 psz ceq e1' e2' fl c1 ck' f3 f4 (Eq.symm hDe) cD (cj2 p2 @ldS))
theorem PV (H:Has fns orc) {p:pG} (C:tK fns orc (.desc p)) (hn:(Part.desc p).nodes<10000000) {c:List AV} (hv:RV (.desc p) (.agg c)) {nb fb xb:Nat} (hne:nb≠fb∧nb≠xb) {h:aD} (K:NK nb fb xb h):
  ∃h' c',Ev fns orc (.call 94 [.agg c,.ptr xb 0] .plain h) (.call (.ret (.agg c')) .plain h')∧Chg (fun i=>i=nb) h h' ∧NK nb fb xb h' ∧RV (.desc p) (.agg c')∧c'.length=7∧c'.all AV.cF=true:=by
 have cl:=kU hv
 have psz:takeN 7 c=some c:=by rw [←cl];exact aX c
 have ceq:dS (.agg c) (.agg c)=true:=A7 hv
 have lt:=K.lt
 have l1:=lt nb (.inl rfl)
 have l3:=lt xb (.inr (.inr rfl))
 obtain ⟨hA,hAe⟩:∃x,x=(h.push (.cells c)).push (.cells jY):=⟨_,rfl⟩
 have gA:aR h hA:=by rw [hAe];exact gw2
 have nA:hA.next=h.next+2:=by rw [hAe];simp
 have a0:cont hA h.next=some c:=by rw [hAe];exact ctp
 have a1:cont hA (h.next+1)=some jY:=by rw [hAe];exact ctp
 have KA:NK nb fb xb hA:=K.kR fun i hi=>gA.get i (lt i hi)
 obtain ⟨hB,gAB,n1,e1⟩:=A9 H hv hA
 have nB:=gAB.next
 have KB:NK nb fb xb hB:=KA.kR fun i hi=>gAB.get i (KA.lt i hi)
 obtain ⟨hC,v',⟨n2,e2⟩,ch,KC,hv'⟩:=D7 H C ⟨c,hv,rfl⟩ hn hne KB
 have nC:=ch.next
 have hv2:=hv'
 obtain ⟨c',rv',rfl⟩:=hv2
 have cl' :=kU rv'
 have ck' :c'.all AV.cF=true:=by
  have:=lE rv'
  simp only [aW,List.all_cons,List.all_append,Bool.and_eq_true] at this
  simp_all
 have fl:bK (some 7) (aW (.desc p) c') 9= .ok (.agg c'):=by
  have:takeN 7 ((aW (.desc p) c').drop 9)=some c' :=by
   cases rv'
   rfl
  simp only [bK,this]
 have c1:cont hC (h.next+1)=some jY:=(aG (ch.get _ om om)).trans ((aF gAB om).trans a1)
 have f3:Nat.beq c'.length 7=true:=by rw [cl'];rfl
 have f4:cW 0 c' jY=some c' :=pR _ _ (by rw [cl'];rfl)
 have p2:takeN 7 c' =some c' :=by rw [←cl'];exact aX c'
 obtain ⟨hD,hDe⟩:∃x,x=hC.set (h.next+1) (.cells c'):=⟨_,rfl⟩
 have cD:cont hD (h.next+1)=some c' :=by rw [hDe];exact aH om
 have oD:∀i,i<h.next→hD.get i=hC.get i:=fun i hi=>by rw [hDe,aE _ _ _ _ om om]
 refine ⟨hD,c',Ev.call H.f94 H.o94 ⟨n1+n2,fun m hm=> ?b⟩,⟨by rw [hDe];simp;omega,fun i hi hq=> ?g⟩,KC.kR fun i hi=>oD i (lt i hi),rv',cl',ck'⟩
 case g=>rw [oD i hi,ch.get i om hq,gAB.get i om,gA.get i hi]
 case b=>
  have e1' :=e1 m om
  have e2' :=e2 m om
  have kx:=KA.x_
  have kxB:=KB.x_
  simp only [jY] at hAe c1 f4
  exact SR (dD @a94.eq_1 (Eq.symm hAe) kx kxB a0 psz ceq e1' e2' fl c1 ck' f3 f4 (Eq.symm hDe) cD (cj2 p2 @ldS))
theorem PW (H:Has fns orc) {p:lH} (C:tK fns orc (.decl p)) (hn:(Part.decl p).nodes<10000000) {c:List AV} (hv:RV (.decl p) (.agg c)) {nb fb xb:Nat} (hne:nb≠fb∧nb≠xb) {h:aD} (K:NK nb fb xb h):
  ∃h' c',Ev fns orc (.call 96 [.agg c,.ptr xb 0] .plain h) (.call (.ret (.agg c')) .plain h')∧Chg (fun i=>i=nb) h h' ∧NK nb fb xb h' ∧RV (.decl p) (.agg c')∧c'.length=5∧c'.all AV.cF=true:=by
 have cl:=pJ hv
 have psz:takeN 5 c=some c:=by rw [←cl];exact aX c
 have ceq:dS (.agg c) (.agg c)=true:=A7 hv
 have lt:=K.lt
 have l1:=lt nb (.inl rfl)
 have l3:=lt xb (.inr (.inr rfl))
 obtain ⟨hA,hAe⟩:∃x,x=(h.push (.cells c)).push (.cells kD):=⟨_,rfl⟩
 have gA:aR h hA:=by rw [hAe];exact gw2
 have nA:hA.next=h.next+2:=by rw [hAe];simp
 have a0:cont hA h.next=some c:=by rw [hAe];exact ctp
 have a1:cont hA (h.next+1)=some kD:=by rw [hAe];exact ctp
 have KA:NK nb fb xb hA:=K.kR fun i hi=>gA.get i (lt i hi)
 obtain ⟨hB,gAB,n1,e1⟩:=HW H hv hA
 have nB:=gAB.next
 have KB:NK nb fb xb hB:=KA.kR fun i hi=>gAB.get i (KA.lt i hi)
 obtain ⟨hC,v',⟨n2,e2⟩,ch,KC,hv'⟩:=D7 H C ⟨c,hv,rfl⟩ hn hne KB
 have nC:=ch.next
 have hv2:=hv'
 obtain ⟨c',rv',rfl⟩:=hv2
 have cl' :=pJ rv'
 have ck' :c'.all AV.cF=true:=by
  have:=lE rv'
  simp only [aW,List.all_cons,List.all_append,Bool.and_eq_true] at this
  simp_all
 have fl:bK (some 5) (aW (.decl p) c') 16= .ok (.agg c'):=by
  have:takeN 5 ((aW (.decl p) c').drop 16)=some c' :=by
   cases rv'
   rfl
  simp only [bK,this]
 have c1:cont hC (h.next+1)=some kD:=(aG (ch.get _ om om)).trans ((aF gAB om).trans a1)
 have f3:Nat.beq c'.length 5=true:=by rw [cl'];rfl
 have f4:cW 0 c' kD=some c' :=pR _ _ (by rw [cl'];rfl)
 have p2:takeN 5 c' =some c' :=by rw [←cl'];exact aX c'
 obtain ⟨hD,hDe⟩:∃x,x=hC.set (h.next+1) (.cells c'):=⟨_,rfl⟩
 have cD:cont hD (h.next+1)=some c' :=by rw [hDe];exact aH om
 have oD:∀i,i<h.next→hD.get i=hC.get i:=fun i hi=>by rw [hDe,aE _ _ _ _ om om]
 refine ⟨hD,c',Ev.call H.f96 H.o96 ⟨n1+n2,fun m hm=> ?b⟩,⟨by rw [hDe];simp;omega,fun i hi hq=> ?g⟩,KC.kR fun i hi=>oD i (lt i hi),rv',cl',ck'⟩
 case g=>rw [oD i hi,ch.get i om hq,gAB.get i om,gA.get i hi]
 case b=>
  have e1' :=e1 m om
  have e2' :=e2 m om
  have kx:=KA.x_
  have kxB:=KB.x_
  simp only [kD] at hAe c1 f4
  exact SR (dD @a96.eq_1 (Eq.symm hAe) kx kxB a0 psz ceq e1' e2' fl c1 ck' f3 f4 (Eq.symm hDe) cD (cj2 p2 @ldS))
theorem PX (H:Has fns orc) {p:uY} (C:tK fns orc (.case p)) (hn:(Part.case p).nodes<10000000) {c:List AV} (hv:RV (.case p) (.agg c)) {nb fb xb:Nat} (hne:nb≠fb∧nb≠xb) {h:aD} (K:NK nb fb xb h):
  ∃h' c',Ev fns orc (.call 100 [.agg c,.ptr xb 0] .plain h) (.call (.ret (.agg c')) .plain h')∧Chg (fun i=>i=nb) h h' ∧NK nb fb xb h' ∧RV (.case p) (.agg c')∧c'.length=2∧c'.all AV.cF=true:=by
 have cl:=wU hv
 have psz:takeN 2 c=some c:=by rw [←cl];exact aX c
 have ceq:dS (.agg c) (.agg c)=true:=A7 hv
 have lt:=K.lt
 have l1:=lt nb (.inl rfl)
 have l3:=lt xb (.inr (.inr rfl))
 obtain ⟨hA,hAe⟩:∃x,x=(h.push (.cells c)).push (.cells kY):=⟨_,rfl⟩
 have gA:aR h hA:=by rw [hAe];exact gw2
 have nA:hA.next=h.next+2:=by rw [hAe];simp
 have a0:cont hA h.next=some c:=by rw [hAe];exact ctp
 have a1:cont hA (h.next+1)=some kY:=by rw [hAe];exact ctp
 have KA:NK nb fb xb hA:=K.kR fun i hi=>gA.get i (lt i hi)
 obtain ⟨hB,gAB,n1,e1⟩:=HX H hv hA
 have nB:=gAB.next
 have KB:NK nb fb xb hB:=KA.kR fun i hi=>gAB.get i (KA.lt i hi)
 obtain ⟨hC,v',⟨n2,e2⟩,ch,KC,hv'⟩:=D7 H C ⟨c,hv,rfl⟩ hn hne KB
 have nC:=ch.next
 have hv2:=hv'
 obtain ⟨c',rv',rfl⟩:=hv2
 have cl' :=wU rv'
 have ck' :c'.all AV.cF=true:=by
  have:=lE rv'
  simp only [aW,List.all_cons,List.all_append,Bool.and_eq_true] at this
  simp_all
 have fl:bK (some 2) (aW (.case p) c') 27= .ok (.agg c'):=by
  have:takeN 2 ((aW (.case p) c').drop 27)=some c' :=by
   cases rv'
   rfl
  simp only [bK,this]
 have c1:cont hC (h.next+1)=some kY:=(aG (ch.get _ om om)).trans ((aF gAB om).trans a1)
 have f3:Nat.beq c'.length 2=true:=by rw [cl'];rfl
 have f4:cW 0 c' kY=some c' :=pR _ _ (by rw [cl'];rfl)
 have p2:takeN 2 c' =some c' :=by rw [←cl'];exact aX c'
 obtain ⟨hD,hDe⟩:∃x,x=hC.set (h.next+1) (.cells c'):=⟨_,rfl⟩
 have cD:cont hD (h.next+1)=some c' :=by rw [hDe];exact aH om
 have oD:∀i,i<h.next→hD.get i=hC.get i:=fun i hi=>by rw [hDe,aE _ _ _ _ om om]
 refine ⟨hD,c',Ev.call H.f100 H.o100 ⟨n1+n2,fun m hm=> ?b⟩,⟨by rw [hDe];simp;omega,fun i hi hq=> ?g⟩,KC.kR fun i hi=>oD i (lt i hi),rv',cl',ck'⟩
 case g=>rw [oD i hi,ch.get i om hq,gAB.get i om,gA.get i hi]
 case b=>
  have e1' :=e1 m om
  have e2' :=e2 m om
  have kx:=KA.x_
  have kxB:=KB.x_
  simp only [kY] at hAe c1 f4
  exact SR (dD @a100.eq_1 (Eq.symm hAe) kx kxB a0 psz ceq e1' e2' fl c1 ck' f3 f4 (Eq.symm hDe) cD (cj2 p2 @ldS))
end Go.Ly
namespace Go.Ly
open Go Go.Am Go.Fs Go.Gn
variable {fns:Go.Am.F} {orc:Orc}
theorem OM (n:List (List UInt8)):Bp 1 (n.map AV.str):=fun x hx=>by obtain ⟨s,_,rfl⟩:=List.mem_map.1 hx;rfl
theorem OS (H:Has fns orc) {v:AV} {n:List (List UInt8)} (hv:iK v (n.map AV.str)) (hl:n.length<10000000) (h:aD):
  ∃h' v',aR h h' ∧(∀m,2≤m→eval fns orc m (.call 98 [v] .plain h)= .ok (.call (.ret v') .plain h'))∧iK v' (n.map AV.str):=by
 generalize hxs:n.map AV.str=xs at hv
 have hw:Bp 1 xs:=hxs▸OM n
 have hln:xs.length=n.length:=by rw [←hxs,List.length_map]
 cases hv with
 |nil=>
  refine ⟨h,.aC,.refl _,fun m hm=>fP (n:=0) H.f98 H.o98 (fun m _=> ?b1) m hm,.nil⟩
  exact SX @a98.eq_1
 |sl tk xs=>
  cases xs with
  |nil=>
   refine ⟨h,.sl .full [],.refl _,fun m hm=>fP (n:=0) H.f98 H.o98 (fun m _=> ?b2) m hm,.sl _ _⟩
   exact SX (uK @a98.eq_1 @oP.eq_1 @oJ.eq_1 @oJ.eq_2 @oJ.eq_3 @oJ.eq_4 @tW.eq_1 @tW.eq_2 @tW.eq_3 @tW.eq_4)
  |cons x xs=>
   have e1:rQ 1 (x::xs)=true:=BQ hw
   have e2:(Nat.ble 1 1 && rQ 1 (x::xs))=true:=by rw [e1];rfl
   have e3:(Nat.ble ((([]:List AV).length+(x::xs).length)*1) oO && oW 1 [])=true:=by
    simp only [oW,Bool.and_true]
    rw [Nat.ble_eq]
    simp [oO] at hln⊢
    omega
   have ap:oP h 1 (.sl .full []) (.sl tk (x::xs))= .ok (.sl (.opn h.next (([]:List AV).length+(x::xs).length)) ([]++(x::xs)),h.push (.tok (([]:List AV).length+(x::xs).length))):=by
    simp only [oP,oJ,aM,e2,yD,yM,e3]
   refine ⟨h.push (.tok (([]:List AV).length+(x::xs).length)),.sl (.opn h.next (([]:List AV).length+(x::xs).length)) ([]++(x::xs)),.push _ _,fun m hm=>fP (n:=0) H.f98 H.o98 (fun m _=> ?b3) m hm,.sl _ _⟩
   exact SX (cj2 @a98.eq_1 ap)
theorem Pg (H:Has fns orc) {l:List pD} (C:∀p∈l,tK fns orc (.exp p)∧(Part.exp p).nodes<10000000) {x:AV} (hv:RVs (l.map Part.exp) x) (hn:l.length<10000000) {nb fb xb:Nat} (hne:nb≠fb∧nb≠xb) {h:aD} (K:NK nb fb xb h):
  ∃h' v',Ev fns orc (.call 85 [x,.fn 86 [] [.ptr xb 0]] .plain h) (.call (.ret v') .plain h')∧Chg (fun i=>i=nb) h h' ∧NK nb fb xb h' ∧RVs (l.map Part.exp) v' :=
 Ba (z:=pU) (sz:=8) (M:=fun i=>i=nb∨i=fb∨i=xb) H.f85 H.o85 rfl rfl rfl ⟨by omega,by omega⟩ hv (by simpa using hn) (fun i q=> .inl q) (fun a b k _ q=>k.kR q) (fun a k=>k.lt) (fun p hp c rv=>by
  obtain ⟨e,he,rfl⟩:=List.mem_map.1 hp
  refine ⟨pS rv, ?_,fun h k=>Sj H (C e he).1 (C e he).2 rv hne k⟩
  have:=lE rv
  simp only [aW,List.all_cons,List.all_append,Bool.and_eq_true] at this
  simp_all) K
theorem vJ (H:Has fns orc) {l:List pD} (C:∀p∈l,tK fns orc (.exp p)∧(Part.exp p).nodes<10000000) {x:AV} (hv:RVs (l.map Part.exp) x) (hn:l.length<10000000) {nb fb xb:Nat} (hne:nb≠fb∧nb≠xb) {h:aD} (K:NK nb fb xb h):
  ∃h' v',Ev fns orc (.call 84 [x,.ptr xb 0] .plain h) (.call (.ret v') .plain h')∧Chg (fun i=>i=nb) h h' ∧NK nb fb xb h' ∧RVs (l.map Part.exp) v' :=by
 obtain ⟨h',v',⟨n,e⟩,ch,K',r⟩:=Pg H C hv hn hne K
 refine ⟨h',v',Ev.call H.f84 H.o84 ⟨n,fun m hm=> ?b⟩,ch,K',r⟩
 have e' :=e m hm
 exact SX (cj2 @a84.eq_1 e')
theorem Pf (H:Has fns orc) {l:List qE} (C:∀p∈l,tK fns orc (.imp p)∧(Part.imp p).nodes<10000000) {x:AV} (hv:RVs (l.map Part.imp) x) (hn:l.length<10000000) {nb fb xb:Nat} (hne:nb≠fb∧nb≠xb) {h:aD} (K:NK nb fb xb h):
  ∃h' v',Ev fns orc (.call 89 [x,.fn 90 [] [.ptr xb 0]] .plain h) (.call (.ret v') .plain h')∧Chg (fun i=>i=nb) h h' ∧NK nb fb xb h' ∧RVs (l.map Part.imp) v' :=
 Ba (z:=pT) (sz:=6) (M:=fun i=>i=nb∨i=fb∨i=xb) H.f89 H.o89 rfl rfl rfl ⟨by omega,by omega⟩ hv (by simpa using hn) (fun i q=> .inl q) (fun a b k _ q=>k.kR q) (fun a k=>k.lt) (fun p hp c rv=>by
  obtain ⟨e,he,rfl⟩:=List.mem_map.1 hp
  refine ⟨yH rv, ?_,fun h k=>Si H (C e he).1 (C e he).2 rv hne k⟩
  have:=lE rv
  simp only [aW,List.all_cons,List.all_append,Bool.and_eq_true] at this
  simp_all) K
theorem Dt (H:Has fns orc) {l:List qE} (C:∀p∈l,tK fns orc (.imp p)∧(Part.imp p).nodes<10000000) {x:AV} (hv:RVs (l.map Part.imp) x) (hn:l.length<10000000) {nb fb xb:Nat} (hne:nb≠fb∧nb≠xb) {h:aD} (K:NK nb fb xb h):
  ∃h' v',Ev fns orc (.call 88 [x,.ptr xb 0] .plain h) (.call (.ret v') .plain h')∧Chg (fun i=>i=nb) h h' ∧NK nb fb xb h' ∧RVs (l.map Part.imp) v' :=by
 obtain ⟨h',v',⟨n,e⟩,ch,K',r⟩:=Pf H C hv hn hne K
 refine ⟨h',v',Ev.call H.f88 H.o88 ⟨n,fun m hm=> ?b⟩,ch,K',r⟩
 have e' :=e m hm
 exact SX (cj2 @a88.eq_1 e')
theorem Mx (H:Has fns orc) {l:List pG} (C:∀p∈l,tK fns orc (.desc p)∧(Part.desc p).nodes<10000000) {x:AV} (hv:RVs (l.map Part.desc) x) (hn:l.length<10000000) {nb fb xb:Nat} (hne:nb≠fb∧nb≠xb) {h:aD} (K:NK nb fb xb h):
  ∃h' v',Ev fns orc (.call 93 [x,.fn 94 [] [.ptr xb 0]] .plain h) (.call (.ret v') .plain h')∧Chg (fun i=>i=nb) h h' ∧NK nb fb xb h' ∧RVs (l.map Part.desc) v' :=
 Ba (z:=jY) (sz:=7) (M:=fun i=>i=nb∨i=fb∨i=xb) H.f93 H.o93 rfl rfl rfl ⟨by omega,by omega⟩ hv (by simpa using hn) (fun i q=> .inl q) (fun a b k _ q=>k.kR q) (fun a k=>k.lt) (fun p hp c rv=>by
  obtain ⟨e,he,rfl⟩:=List.mem_map.1 hp
  refine ⟨kU rv, ?_,fun h k=>PV H (C e he).1 (C e he).2 rv hne k⟩
  have:=lE rv
  simp only [aW,List.all_cons,List.all_append,Bool.and_eq_true] at this
  simp_all) K
theorem Fb (H:Has fns orc) {l:List pG} (C:∀p∈l,tK fns orc (.desc p)∧(Part.desc p).nodes<10000000) {x:AV} (hv:RVs (l.map Part.desc) x) (hn:l.length<10000000) {nb fb xb:Nat} (hne:nb≠fb∧nb≠xb) {h:aD} (K:NK nb fb xb h):
  ∃h' v',Ev fns orc (.call 92 [x,.ptr xb 0] .plain h) (.call (.ret v') .plain h')∧Chg (fun i=>i=nb) h h' ∧NK nb fb xb h' ∧RVs (l.map Part.desc) v' :=by
 obtain ⟨h',v',⟨n,e⟩,ch,K',r⟩:=Mx H C hv hn hne K
 refine ⟨h',v',Ev.call H.f92 H.o92 ⟨n,fun m hm=> ?b⟩,ch,K',r⟩
 have e' :=e m hm
 exact SX (cj2 @a92.eq_1 e')
theorem My (H:Has fns orc) {l:List lH} (C:∀p∈l,tK fns orc (.decl p)∧(Part.decl p).nodes<10000000) {x:AV} (hv:RVs (l.map Part.decl) x) (hn:l.length<10000000) {nb fb xb:Nat} (hne:nb≠fb∧nb≠xb) {h:aD} (K:NK nb fb xb h):
  ∃h' v',Ev fns orc (.call 95 [x,.fn 96 [] [.ptr xb 0]] .plain h) (.call (.ret v') .plain h')∧Chg (fun i=>i=nb) h h' ∧NK nb fb xb h' ∧RVs (l.map Part.decl) v' :=
 Ba (z:=kD) (sz:=5) (M:=fun i=>i=nb∨i=fb∨i=xb) H.f95 H.o95 rfl rfl rfl ⟨by omega,by omega⟩ hv (by simpa using hn) (fun i q=> .inl q) (fun a b k _ q=>k.kR q) (fun a k=>k.lt) (fun p hp c rv=>by
  obtain ⟨e,he,rfl⟩:=List.mem_map.1 hp
  refine ⟨pJ rv, ?_,fun h k=>PW H (C e he).1 (C e he).2 rv hne k⟩
  have:=lE rv
  simp only [aW,List.all_cons,List.all_append,Bool.and_eq_true] at this
  simp_all) K
theorem Mz (H:Has fns orc) {l:List uY} (C:∀p∈l,tK fns orc (.case p)∧(Part.case p).nodes<10000000) {x:AV} (hv:RVs (l.map Part.case) x) (hn:l.length<10000000) {nb fb xb:Nat} (hne:nb≠fb∧nb≠xb) {h:aD} (K:NK nb fb xb h):
  ∃h' v',Ev fns orc (.call 99 [x,.fn 100 [] [.ptr xb 0]] .plain h) (.call (.ret v') .plain h')∧Chg (fun i=>i=nb) h h' ∧NK nb fb xb h' ∧RVs (l.map Part.case) v' :=
 Ba (z:=kY) (sz:=2) (M:=fun i=>i=nb∨i=fb∨i=xb) H.f99 H.o99 rfl rfl rfl ⟨by omega,by omega⟩ hv (by simpa using hn) (fun i q=> .inl q) (fun a b k _ q=>k.kR q) (fun a k=>k.lt) (fun p hp c rv=>by
  obtain ⟨e,he,rfl⟩:=List.mem_map.1 hp
  refine ⟨wU rv, ?_,fun h k=>PX H (C e he).1 (C e he).2 rv hne k⟩
  have:=lE rv
  simp only [aW,List.all_cons,List.all_append,Bool.and_eq_true] at this
  simp_all) K
theorem xY (h:aD) {pc:List AV} (hl:pc.length=29):∃hA,hA=((((h.push (.cells pc)).push (.cells [.fn 69 [] []])).push (.cells z29)).push (.cells [.int .i64 0])).set (h.next+3) (.cells [.int .i64 0])∧
  ∃hB,hB=(hA.push (.cells [.qZ])).set (h.next+4) (.cells [.fn 83 [] [.ptr (h.next+3) 0,.ptr (h.next+1) 0]])∧aR h hB∧hA.next=h.next+4∧hB.next=h.next+5∧cont hB h.next=some pc∧cont hB (h.next+2)=some z29∧NK (h.next+3) (h.next+1) (h.next+4) hB:=by
 refine ⟨_,rfl,_,rfl,by exact gw2,by simp,by simp, ?_, ?_,⟨0, ?_⟩, ?_, ?_⟩<;>simp (disch:=(first|omega|(simp only [aD.aJ,aD.aL];try omega)|skip)) only [aH,aK,aS,dA,aD.aJ,aD.aL]
def Br (fns:Go.Am.F) (orc:Orc) (p:Part):Prop:=∀v,RP p v→p.nodes<10000000→∀h:aD,∃h' v',aR h h' ∧Ev fns orc (.call 68 [v,.fn 69 [] []] .plain h) (.call (.ret v') .plain h')∧RP p v'
theorem Nb (H:Has fns orc) (q0:pD) (ih:∀q∈(Part.exp q0).kids,tK fns orc q):Br fns orc (.exp q0):=by
 intro v hv hn h
 obtain ⟨c,hr,rfl⟩:=hv
 have hkl:=uW (.exp q0)
 have hkn:=fun q (hq:q∈(Part.exp q0).kids)=>uI hq
 have hpl:=jJ hr
 obtain ⟨hA,hAe,hB,hBe,gB,nA,nB,cB,rB,KB⟩:=xY h hpl
 rw [vH] at hAe
 have hne:h.next+3≠h.next+1∧h.next+3≠h.next+4:=⟨by omega,by omega⟩
 cases hr with
 | @exp k op n man ex t a d va vd h1 h2=>
  simp only [aW,pU,jY,kD,pT,kY,List.cons_append,List.nil_append] at cB hAe
  simp only [Part.kids,List.length_append,List.length_map] at hkl
  obtain ⟨h0x,w0,⟨m0,e0⟩,ch0,K0,rv0⟩:=vJ H (l:=a) (fun q hq=>by
   have:Part.exp q∈(Part.exp (.mk k op n man ex t a d)).kids:=by
    simp only [Part.kids,List.mem_append,List.mem_map]
    simp [hq]
   exact ⟨ih _ this,by have:=hkn _ this;omega⟩) h1 om hne KB
  have s0:=aP rv0
  have t0:=jU rv0
  have nx0:=ch0.next
  have lt0:=K0.lt
  have c0x:cont h0x h.next=some [.int .i64 1,.int .i64 k,.int .i64 op,.int .i64 n,.int .i64 man,.int .i64 ex,.str t,va,vd,.str [],.aC,.aC,.aC,.bool false,.aC,.aC,.int .i64 0,.aC,.aC,.aC,.aC,.int .i64 0,.str [],.aC,.aC,.bool false,.aC,.aC,.aC]:=(aG (ch0.get _ om om)).trans cB
  have r0x:cont h0x (h.next+2)=some z29:=(aG (ch0.get _ om om)).trans rB
  obtain ⟨g0x,Ad⟩:∃x,x=h0x.set h.next (.cells [.int .i64 1,.int .i64 k,.int .i64 op,.int .i64 n,.int .i64 man,.int .i64 ex,.str t,w0,vd,.str [],.aC,.aC,.aC,.bool false,.aC,.aC,.int .i64 0,.aC,.aC,.aC,.aC,.int .i64 0,.str [],.aC,.aC,.bool false,.aC,.aC,.aC]):=⟨_,rfl⟩
  have n0g:h.next+5≤g0x.next:=by rw [Ad];simp;omega
  have o0g:∀i,i≠h.next→g0x.get i=h0x.get i:=fun i hi=>by rw [Ad];exact aE _ _ _ _ om hi
  have c0g:cont g0x h.next=some [.int .i64 1,.int .i64 k,.int .i64 op,.int .i64 n,.int .i64 man,.int .i64 ex,.str t,w0,vd,.str [],.aC,.aC,.aC,.bool false,.aC,.aC,.int .i64 0,.aC,.aC,.aC,.aC,.int .i64 0,.str [],.aC,.aC,.bool false,.aC,.aC,.aC]:=by rw [Ad];exact aH om
  have r0g:cont g0x (h.next+2)=some z29:=(aG (o0g _ om)).trans r0x
  have K0g:NK (h.next+3) (h.next+1) (h.next+4) g0x:=K0.kR fun i hi=>o0g i om
  have G0g:aR h g0x:=⟨by omega,fun i hi=>(o0g i om).trans ((ch0.get i om om).trans (gB.get i hi))⟩
  obtain ⟨h1x,w1,⟨m1,e1⟩,ch1,K1,rv1⟩:=Fb H (l:=d) (fun q hq=>by
   have:Part.desc q∈(Part.exp (.mk k op n man ex t a d)).kids:=by
    simp only [Part.kids,List.mem_append,List.mem_map]
    simp [hq]
   exact ⟨ih _ this,by have:=hkn _ this;omega⟩) h2 om hne K0g
  have s1:=aP rv1
  have t1:=jU rv1
  have nx1:=ch1.next
  have lt1:=K1.lt
  have c1x:cont h1x h.next=some [.int .i64 1,.int .i64 k,.int .i64 op,.int .i64 n,.int .i64 man,.int .i64 ex,.str t,w0,vd,.str [],.aC,.aC,.aC,.bool false,.aC,.aC,.int .i64 0,.aC,.aC,.aC,.aC,.int .i64 0,.str [],.aC,.aC,.bool false,.aC,.aC,.aC]:=(aG (ch1.get _ om om)).trans c0g
  have r1x:cont h1x (h.next+2)=some z29:=(aG (ch1.get _ om om)).trans r0g
  obtain ⟨g1x,Ac⟩:∃x,x=h1x.set h.next (.cells [.int .i64 1,.int .i64 k,.int .i64 op,.int .i64 n,.int .i64 man,.int .i64 ex,.str t,w0,w1,.str [],.aC,.aC,.aC,.bool false,.aC,.aC,.int .i64 0,.aC,.aC,.aC,.aC,.int .i64 0,.str [],.aC,.aC,.bool false,.aC,.aC,.aC]):=⟨_,rfl⟩
  have n1g:h.next+5≤g1x.next:=by rw [Ac];simp;omega
  have o1g:∀i,i≠h.next→g1x.get i=h1x.get i:=fun i hi=>by rw [Ac];exact aE _ _ _ _ om hi
  have c1g:cont g1x h.next=some [.int .i64 1,.int .i64 k,.int .i64 op,.int .i64 n,.int .i64 man,.int .i64 ex,.str t,w0,w1,.str [],.aC,.aC,.aC,.bool false,.aC,.aC,.int .i64 0,.aC,.aC,.aC,.aC,.int .i64 0,.str [],.aC,.aC,.bool false,.aC,.aC,.aC]:=by rw [Ac];exact aH om
  have r1g:cont g1x (h.next+2)=some z29:=(aG (o1g _ om)).trans r1x
  have K1g:NK (h.next+3) (h.next+1) (h.next+4) g1x:=K1.kR fun i hi=>o1g i om
  have G1g:aR h g1x:=⟨by omega,fun i hi=>(o1g i om).trans ((ch1.get i om om).trans (G0g.get i hi))⟩
  rw [vH] at r1g
  obtain ⟨hE,hEe⟩:∃x,x=g1x.set (h.next+2) (.cells [.int .i64 1,.int .i64 k,.int .i64 op,.int .i64 n,.int .i64 man,.int .i64 ex,.str t,w0,w1,.str [],.aC,.aC,.aC,.bool false,.aC,.aC,.int .i64 0,.aC,.aC,.aC,.aC,.int .i64 0,.str [],.aC,.aC,.bool false,.aC,.aC,.aC]):=⟨_,rfl⟩
  have cE:cont hE (h.next+2)=some [.int .i64 1,.int .i64 k,.int .i64 op,.int .i64 n,.int .i64 man,.int .i64 ex,.str t,w0,w1,.str [],.aC,.aC,.aC,.bool false,.aC,.aC,.int .i64 0,.aC,.aC,.aC,.aC,.int .i64 0,.str [],.aC,.aC,.bool false,.aC,.aC,.aC]:=by rw [hEe];exact aH om
  refine ⟨hE,.agg [.int .i64 1,.int .i64 k,.int .i64 op,.int .i64 n,.int .i64 man,.int .i64 ex,.str t,w0,w1,.str [],.aC,.aC,.aC,.bool false,.aC,.aC,.int .i64 0,.aC,.aC,.aC,.aC,.int .i64 0,.str [],.aC,.aC,.bool false,.aC,.aC,.aC],⟨by rw [hEe];simp;omega,fun i hi=>by rw [hEe,aE _ _ _ _ om om];exact G1g.get i hi⟩,Ev.call H.f68 H.o68 ⟨m0+m1+2,fun m hm=> ?b⟩,⟨[.int .i64 k,.int .i64 op,.int .i64 n,.int .i64 man,.int .i64 ex,.str t,w0,w1],.exp rv0 rv1,rfl⟩⟩
  have e0' :=e0 m om
  have e1' :=e1 m om
  exact SC (dD @a68.eq_1 @aW.eq_1 @aW.eq_2 @aW.eq_3 @aW.eq_4 @aW.eq_5 @pU.eq_1 @jY.eq_1 @kD.eq_1 @pT.eq_1 @kY.eq_1 (Eq.symm hAe) nA (Eq.symm hBe) cB c0x (yL (Eq.symm Ad) c0g s0 t0 c1x (Eq.symm Ac) c1g s1 t1 e0' e1' r1g (Eq.symm hEe) cE))
theorem Lq (H:Has fns orc) (q0:pG) (ih:∀q∈(Part.desc q0).kids,tK fns orc q):Br fns orc (.desc q0):=by
 intro v hv hn h
 obtain ⟨c,hr,rfl⟩:=hv
 have hkl:=uW (.desc q0)
 have hkn:=fun q (hq:q∈(Part.desc q0).kids)=>uI hq
 have hpl:=jJ hr
 obtain ⟨hA,hAe,hB,hBe,gB,nA,nB,cB,rB,KB⟩:=xY h hpl
 rw [vH] at hAe
 have hne:h.next+3≠h.next+1∧h.next+3≠h.next+4:=⟨by omega,by omega⟩
 cases hr with
 | @desc s p d e b i x vp vd ve vi vx h1 h2 h3 h4 h5=>
  simp only [aW,pU,jY,kD,pT,kY,List.cons_append,List.nil_append] at cB hAe
  simp only [Part.kids,List.length_append,List.length_map] at hkl
  obtain ⟨h0x,w0,⟨m0,e0⟩,ch0,K0,rv0⟩:=vJ H (l:=p) (fun q hq=>by
   have:Part.exp q∈(Part.desc (.mk s p d e b i x)).kids:=by
    simp only [Part.kids,List.mem_append,List.mem_map]
    simp [hq]
   exact ⟨ih _ this,by have:=hkn _ this;omega⟩) h1 om hne KB
  have s0:=aP rv0
  have t0:=jU rv0
  have nx0:=ch0.next
  have lt0:=K0.lt
  have c0x:cont h0x h.next=some [.int .i64 2,.int .i64 0,.int .i64 0,.int .i64 0,.int .i64 0,.int .i64 0,.str [],.aC,.aC,.str s,vp,vd,ve,.bool b,vi,vx,.int .i64 0,.aC,.aC,.aC,.aC,.int .i64 0,.str [],.aC,.aC,.bool false,.aC,.aC,.aC]:=(aG (ch0.get _ om om)).trans cB
  have r0x:cont h0x (h.next+2)=some z29:=(aG (ch0.get _ om om)).trans rB
  obtain ⟨g0x,Ad⟩:∃x,x=h0x.set h.next (.cells [.int .i64 2,.int .i64 0,.int .i64 0,.int .i64 0,.int .i64 0,.int .i64 0,.str [],.aC,.aC,.str s,w0,vd,ve,.bool b,vi,vx,.int .i64 0,.aC,.aC,.aC,.aC,.int .i64 0,.str [],.aC,.aC,.bool false,.aC,.aC,.aC]):=⟨_,rfl⟩
  have n0g:h.next+5≤g0x.next:=by rw [Ad];simp;omega
  have o0g:∀i,i≠h.next→g0x.get i=h0x.get i:=fun i hi=>by rw [Ad];exact aE _ _ _ _ om hi
  have c0g:cont g0x h.next=some [.int .i64 2,.int .i64 0,.int .i64 0,.int .i64 0,.int .i64 0,.int .i64 0,.str [],.aC,.aC,.str s,w0,vd,ve,.bool b,vi,vx,.int .i64 0,.aC,.aC,.aC,.aC,.int .i64 0,.str [],.aC,.aC,.bool false,.aC,.aC,.aC]:=by rw [Ad];exact aH om
  have r0g:cont g0x (h.next+2)=some z29:=(aG (o0g _ om)).trans r0x
  have K0g:NK (h.next+3) (h.next+1) (h.next+4) g0x:=K0.kR fun i hi=>o0g i om
  have G0g:aR h g0x:=⟨by omega,fun i hi=>(o0g i om).trans ((ch0.get i om om).trans (gB.get i hi))⟩
  obtain ⟨h1x,w1,⟨m1,e1⟩,ch1,K1,rv1⟩:=My H (l:=d) (fun q hq=>by
   have:Part.decl q∈(Part.desc (.mk s p d e b i x)).kids:=by
    simp only [Part.kids,List.mem_append,List.mem_map]
    simp [hq]
   exact ⟨ih _ this,by have:=hkn _ this;omega⟩) h2 om hne K0g
  have s1:=aP rv1
  have t1:=jU rv1
  have nx1:=ch1.next
  have lt1:=K1.lt
  have c1x:cont h1x h.next=some [.int .i64 2,.int .i64 0,.int .i64 0,.int .i64 0,.int .i64 0,.int .i64 0,.str [],.aC,.aC,.str s,w0,vd,ve,.bool b,vi,vx,.int .i64 0,.aC,.aC,.aC,.aC,.int .i64 0,.str [],.aC,.aC,.bool false,.aC,.aC,.aC]:=(aG (ch1.get _ om om)).trans c0g
  have r1x:cont h1x (h.next+2)=some z29:=(aG (ch1.get _ om om)).trans r0g
  obtain ⟨g1x,Ac⟩:∃x,x=h1x.set h.next (.cells [.int .i64 2,.int .i64 0,.int .i64 0,.int .i64 0,.int .i64 0,.int .i64 0,.str [],.aC,.aC,.str s,w0,w1,ve,.bool b,vi,vx,.int .i64 0,.aC,.aC,.aC,.aC,.int .i64 0,.str [],.aC,.aC,.bool false,.aC,.aC,.aC]):=⟨_,rfl⟩
  have n1g:h.next+5≤g1x.next:=by rw [Ac];simp;omega
  have o1g:∀i,i≠h.next→g1x.get i=h1x.get i:=fun i hi=>by rw [Ac];exact aE _ _ _ _ om hi
  have c1g:cont g1x h.next=some [.int .i64 2,.int .i64 0,.int .i64 0,.int .i64 0,.int .i64 0,.int .i64 0,.str [],.aC,.aC,.str s,w0,w1,ve,.bool b,vi,vx,.int .i64 0,.aC,.aC,.aC,.aC,.int .i64 0,.str [],.aC,.aC,.bool false,.aC,.aC,.aC]:=by rw [Ac];exact aH om
  have r1g:cont g1x (h.next+2)=some z29:=(aG (o1g _ om)).trans r1x
  have K1g:NK (h.next+3) (h.next+1) (h.next+4) g1x:=K1.kR fun i hi=>o1g i om
  have G1g:aR h g1x:=⟨by omega,fun i hi=>(o1g i om).trans ((ch1.get i om om).trans (G0g.get i hi))⟩
  obtain ⟨h2x,w2,⟨m2,e2⟩,ch2,K2,rv2⟩:=vJ H (l:=e) (fun q hq=>by
   have:Part.exp q∈(Part.desc (.mk s p d e b i x)).kids:=by
    simp only [Part.kids,List.mem_append,List.mem_map]
    simp [hq]
   exact ⟨ih _ this,by have:=hkn _ this;omega⟩) h3 om hne K1g
  have s2:=aP rv2
  have t2:=jU rv2
  have nx2:=ch2.next
  have lt2:=K2.lt
  have c2x:cont h2x h.next=some [.int .i64 2,.int .i64 0,.int .i64 0,.int .i64 0,.int .i64 0,.int .i64 0,.str [],.aC,.aC,.str s,w0,w1,ve,.bool b,vi,vx,.int .i64 0,.aC,.aC,.aC,.aC,.int .i64 0,.str [],.aC,.aC,.bool false,.aC,.aC,.aC]:=(aG (ch2.get _ om om)).trans c1g
  have r2x:cont h2x (h.next+2)=some z29:=(aG (ch2.get _ om om)).trans r1g
  obtain ⟨g2x,Ed⟩:∃x,x=h2x.set h.next (.cells [.int .i64 2,.int .i64 0,.int .i64 0,.int .i64 0,.int .i64 0,.int .i64 0,.str [],.aC,.aC,.str s,w0,w1,w2,.bool b,vi,vx,.int .i64 0,.aC,.aC,.aC,.aC,.int .i64 0,.str [],.aC,.aC,.bool false,.aC,.aC,.aC]):=⟨_,rfl⟩
  have n2g:h.next+5≤g2x.next:=by rw [Ed];simp;omega
  have o2g:∀i,i≠h.next→g2x.get i=h2x.get i:=fun i hi=>by rw [Ed];exact aE _ _ _ _ om hi
  have c2g:cont g2x h.next=some [.int .i64 2,.int .i64 0,.int .i64 0,.int .i64 0,.int .i64 0,.int .i64 0,.str [],.aC,.aC,.str s,w0,w1,w2,.bool b,vi,vx,.int .i64 0,.aC,.aC,.aC,.aC,.int .i64 0,.str [],.aC,.aC,.bool false,.aC,.aC,.aC]:=by rw [Ed];exact aH om
  have r2g:cont g2x (h.next+2)=some z29:=(aG (o2g _ om)).trans r2x
  have K2g:NK (h.next+3) (h.next+1) (h.next+4) g2x:=K2.kR fun i hi=>o2g i om
  have G2g:aR h g2x:=⟨by omega,fun i hi=>(o2g i om).trans ((ch2.get i om om).trans (G1g.get i hi))⟩
  obtain ⟨h3x,w3,⟨m3,e3⟩,ch3,K3,rv3⟩:=Dt H (l:=i) (fun q hq=>by
   have:Part.imp q∈(Part.desc (.mk s p d e b i x)).kids:=by
    simp only [Part.kids,List.mem_append,List.mem_map]
    simp [hq]
   exact ⟨ih _ this,by have:=hkn _ this;omega⟩) h4 om hne K2g
  have s3:=aP rv3
  have t3:=jU rv3
  have nx3:=ch3.next
  have lt3:=K3.lt
  have c3x:cont h3x h.next=some [.int .i64 2,.int .i64 0,.int .i64 0,.int .i64 0,.int .i64 0,.int .i64 0,.str [],.aC,.aC,.str s,w0,w1,w2,.bool b,vi,vx,.int .i64 0,.aC,.aC,.aC,.aC,.int .i64 0,.str [],.aC,.aC,.bool false,.aC,.aC,.aC]:=(aG (ch3.get _ om om)).trans c2g
  have r3x:cont h3x (h.next+2)=some z29:=(aG (ch3.get _ om om)).trans r2g
  obtain ⟨g3x,Jf⟩:∃x,x=h3x.set h.next (.cells [.int .i64 2,.int .i64 0,.int .i64 0,.int .i64 0,.int .i64 0,.int .i64 0,.str [],.aC,.aC,.str s,w0,w1,w2,.bool b,w3,vx,.int .i64 0,.aC,.aC,.aC,.aC,.int .i64 0,.str [],.aC,.aC,.bool false,.aC,.aC,.aC]):=⟨_,rfl⟩
  have n3g:h.next+5≤g3x.next:=by rw [Jf];simp;omega
  have o3g:∀i,i≠h.next→g3x.get i=h3x.get i:=fun i hi=>by rw [Jf];exact aE _ _ _ _ om hi
  have c3g:cont g3x h.next=some [.int .i64 2,.int .i64 0,.int .i64 0,.int .i64 0,.int .i64 0,.int .i64 0,.str [],.aC,.aC,.str s,w0,w1,w2,.bool b,w3,vx,.int .i64 0,.aC,.aC,.aC,.aC,.int .i64 0,.str [],.aC,.aC,.bool false,.aC,.aC,.aC]:=by rw [Jf];exact aH om
  have r3g:cont g3x (h.next+2)=some z29:=(aG (o3g _ om)).trans r3x
  have K3g:NK (h.next+3) (h.next+1) (h.next+4) g3x:=K3.kR fun i hi=>o3g i om
  have G3g:aR h g3x:=⟨by omega,fun i hi=>(o3g i om).trans ((ch3.get i om om).trans (G2g.get i hi))⟩
  obtain ⟨h4x,w4,⟨m4,e4⟩,ch4,K4,rv4⟩:=vJ H (l:=x) (fun q hq=>by
   have:Part.exp q∈(Part.desc (.mk s p d e b i x)).kids:=by
    simp only [Part.kids,List.mem_append,List.mem_map]
    simp [hq]
   exact ⟨ih _ this,by have:=hkn _ this;omega⟩) h5 om hne K3g
  have s4:=aP rv4
  have t4:=jU rv4
  have nx4:=ch4.next
  have lt4:=K4.lt
  have c4x:cont h4x h.next=some [.int .i64 2,.int .i64 0,.int .i64 0,.int .i64 0,.int .i64 0,.int .i64 0,.str [],.aC,.aC,.str s,w0,w1,w2,.bool b,w3,vx,.int .i64 0,.aC,.aC,.aC,.aC,.int .i64 0,.str [],.aC,.aC,.bool false,.aC,.aC,.aC]:=(aG (ch4.get _ om om)).trans c3g
  have r4x:cont h4x (h.next+2)=some z29:=(aG (ch4.get _ om om)).trans r3g
  obtain ⟨g4x,Up⟩:∃x,x=h4x.set h.next (.cells [.int .i64 2,.int .i64 0,.int .i64 0,.int .i64 0,.int .i64 0,.int .i64 0,.str [],.aC,.aC,.str s,w0,w1,w2,.bool b,w3,w4,.int .i64 0,.aC,.aC,.aC,.aC,.int .i64 0,.str [],.aC,.aC,.bool false,.aC,.aC,.aC]):=⟨_,rfl⟩
  have n4g:h.next+5≤g4x.next:=by rw [Up];simp;omega
  have o4g:∀i,i≠h.next→g4x.get i=h4x.get i:=fun i hi=>by rw [Up];exact aE _ _ _ _ om hi
  have c4g:cont g4x h.next=some [.int .i64 2,.int .i64 0,.int .i64 0,.int .i64 0,.int .i64 0,.int .i64 0,.str [],.aC,.aC,.str s,w0,w1,w2,.bool b,w3,w4,.int .i64 0,.aC,.aC,.aC,.aC,.int .i64 0,.str [],.aC,.aC,.bool false,.aC,.aC,.aC]:=by rw [Up];exact aH om
  have r4g:cont g4x (h.next+2)=some z29:=(aG (o4g _ om)).trans r4x
  have K4g:NK (h.next+3) (h.next+1) (h.next+4) g4x:=K4.kR fun i hi=>o4g i om
  have G4g:aR h g4x:=⟨by omega,fun i hi=>(o4g i om).trans ((ch4.get i om om).trans (G3g.get i hi))⟩
  rw [vH] at r4g
  obtain ⟨hE,hEe⟩:∃x,x=g4x.set (h.next+2) (.cells [.int .i64 2,.int .i64 0,.int .i64 0,.int .i64 0,.int .i64 0,.int .i64 0,.str [],.aC,.aC,.str s,w0,w1,w2,.bool b,w3,w4,.int .i64 0,.aC,.aC,.aC,.aC,.int .i64 0,.str [],.aC,.aC,.bool false,.aC,.aC,.aC]):=⟨_,rfl⟩
  have cE:cont hE (h.next+2)=some [.int .i64 2,.int .i64 0,.int .i64 0,.int .i64 0,.int .i64 0,.int .i64 0,.str [],.aC,.aC,.str s,w0,w1,w2,.bool b,w3,w4,.int .i64 0,.aC,.aC,.aC,.aC,.int .i64 0,.str [],.aC,.aC,.bool false,.aC,.aC,.aC]:=by rw [hEe];exact aH om
  refine ⟨hE,.agg [.int .i64 2,.int .i64 0,.int .i64 0,.int .i64 0,.int .i64 0,.int .i64 0,.str [],.aC,.aC,.str s,w0,w1,w2,.bool b,w3,w4,.int .i64 0,.aC,.aC,.aC,.aC,.int .i64 0,.str [],.aC,.aC,.bool false,.aC,.aC,.aC],⟨by rw [hEe];simp;omega,fun i hi=>by rw [hEe,aE _ _ _ _ om om];exact G4g.get i hi⟩,Ev.call H.f68 H.o68 ⟨m0+m1+m2+m3+m4+2,fun m hm=> ?b⟩,⟨[.str s,w0,w1,w2,.bool b,w3,w4],.desc rv0 rv1 rv2 rv3 rv4,rfl⟩⟩
  have e0' :=e0 m om
  have e1' :=e1 m om
  have e2' :=e2 m om
  have e3' :=e3 m om
  have e4' :=e4 m om
  exact SC (dD @a68.eq_1 @aW.eq_1 @aW.eq_2 @aW.eq_3 @aW.eq_4 @aW.eq_5 @pU.eq_1 @jY.eq_1 @kD.eq_1 @pT.eq_1 @kY.eq_1 (Eq.symm hAe) nA (Eq.symm hBe) cB c0x (dD (Eq.symm Ad) c0g s0 t0 c1x (Eq.symm Ac) c1g s1 t1 c2x (Eq.symm Ed) c2g s2 t2 c3x (Eq.symm Jf) (Bl c3g s3 t3 c4x (Eq.symm Up) c4g s4 t4 e0' e1' e2' e3' e4' r4g (Eq.symm hEe) cE)))
theorem Lr (H:Has fns orc) (q0:lH) (ih:∀q∈(Part.decl q0).kids,tK fns orc q):Br fns orc (.decl q0):=by
 intro v hv hn h
 obtain ⟨c,hr,rfl⟩:=hv
 have hkl:=uW (.decl q0)
 have hkn:=fun q (hq:q∈(Part.decl q0).kids)=>uI hq
 have hpl:=jJ hr
 obtain ⟨hA,hAe,hB,hBe,gB,nA,nB,cB,rB,KB⟩:=xY h hpl
 rw [vH] at hAe
 have hne:h.next+3≠h.next+1∧h.next+3≠h.next+4:=⟨by omega,by omega⟩
 cases hr with
 | @decl k n s p d vn vs vp vd h0 h1 h2 h3=>
  simp only [aW,pU,jY,kD,pT,kY,List.cons_append,List.nil_append] at cB hAe
  simp only [Part.kids,List.length_append,List.length_map] at hkl
  have hnl:n.length<10000000:=by
   have:=Part.qK (.decl (.mk k n s p d))
   simp only [Part.own] at this
   omega
  obtain ⟨h0x,w0,gr0,e0,rv0⟩:=OS H h0 hnl hB
  have ch0:Chg (fun i=>i=h.next+3) hB h0x:=fM gr0
  have K0:NK (h.next+3) (h.next+1) (h.next+4) h0x:=KB.kR fun i hi=>gr0.get i (KB.lt i hi)
  have s0:=(EK rv0).2.2
  have t0:=(EK rv0).1
  have nx0:=ch0.next
  have lt0:=K0.lt
  have c0x:cont h0x h.next=some [.int .i64 3,.int .i64 0,.int .i64 0,.int .i64 0,.int .i64 0,.int .i64 0,.str [],.aC,.aC,.str [],.aC,.aC,.aC,.bool false,.aC,.aC,.int .i64 k,vn,vs,vp,vd,.int .i64 0,.str [],.aC,.aC,.bool false,.aC,.aC,.aC]:=(aG (ch0.get _ om om)).trans cB
  have r0x:cont h0x (h.next+2)=some z29:=(aG (ch0.get _ om om)).trans rB
  obtain ⟨g0x,Ad⟩:∃x,x=h0x.set h.next (.cells [.int .i64 3,.int .i64 0,.int .i64 0,.int .i64 0,.int .i64 0,.int .i64 0,.str [],.aC,.aC,.str [],.aC,.aC,.aC,.bool false,.aC,.aC,.int .i64 k,w0,vs,vp,vd,.int .i64 0,.str [],.aC,.aC,.bool false,.aC,.aC,.aC]):=⟨_,rfl⟩
  have n0g:h.next+5≤g0x.next:=by rw [Ad];simp;omega
  have o0g:∀i,i≠h.next→g0x.get i=h0x.get i:=fun i hi=>by rw [Ad];exact aE _ _ _ _ om hi
  have c0g:cont g0x h.next=some [.int .i64 3,.int .i64 0,.int .i64 0,.int .i64 0,.int .i64 0,.int .i64 0,.str [],.aC,.aC,.str [],.aC,.aC,.aC,.bool false,.aC,.aC,.int .i64 k,w0,vs,vp,vd,.int .i64 0,.str [],.aC,.aC,.bool false,.aC,.aC,.aC]:=by rw [Ad];exact aH om
  have r0g:cont g0x (h.next+2)=some z29:=(aG (o0g _ om)).trans r0x
  have K0g:NK (h.next+3) (h.next+1) (h.next+4) g0x:=K0.kR fun i hi=>o0g i om
  have G0g:aR h g0x:=⟨by omega,fun i hi=>(o0g i om).trans ((ch0.get i om om).trans (gB.get i hi))⟩
  obtain ⟨h1x,w1,⟨m1,e1⟩,ch1,K1,rv1⟩:=vJ H (l:=s) (fun q hq=>by
   have:Part.exp q∈(Part.decl (.mk k n s p d)).kids:=by
    simp only [Part.kids,List.mem_append,List.mem_map]
    simp [hq]
   exact ⟨ih _ this,by have:=hkn _ this;omega⟩) h1 om hne K0g
  have s1:=aP rv1
  have t1:=jU rv1
  have nx1:=ch1.next
  have lt1:=K1.lt
  have c1x:cont h1x h.next=some [.int .i64 3,.int .i64 0,.int .i64 0,.int .i64 0,.int .i64 0,.int .i64 0,.str [],.aC,.aC,.str [],.aC,.aC,.aC,.bool false,.aC,.aC,.int .i64 k,w0,vs,vp,vd,.int .i64 0,.str [],.aC,.aC,.bool false,.aC,.aC,.aC]:=(aG (ch1.get _ om om)).trans c0g
  have r1x:cont h1x (h.next+2)=some z29:=(aG (ch1.get _ om om)).trans r0g
  obtain ⟨g1x,Ac⟩:∃x,x=h1x.set h.next (.cells [.int .i64 3,.int .i64 0,.int .i64 0,.int .i64 0,.int .i64 0,.int .i64 0,.str [],.aC,.aC,.str [],.aC,.aC,.aC,.bool false,.aC,.aC,.int .i64 k,w0,w1,vp,vd,.int .i64 0,.str [],.aC,.aC,.bool false,.aC,.aC,.aC]):=⟨_,rfl⟩
  have n1g:h.next+5≤g1x.next:=by rw [Ac];simp;omega
  have o1g:∀i,i≠h.next→g1x.get i=h1x.get i:=fun i hi=>by rw [Ac];exact aE _ _ _ _ om hi
  have c1g:cont g1x h.next=some [.int .i64 3,.int .i64 0,.int .i64 0,.int .i64 0,.int .i64 0,.int .i64 0,.str [],.aC,.aC,.str [],.aC,.aC,.aC,.bool false,.aC,.aC,.int .i64 k,w0,w1,vp,vd,.int .i64 0,.str [],.aC,.aC,.bool false,.aC,.aC,.aC]:=by rw [Ac];exact aH om
  have r1g:cont g1x (h.next+2)=some z29:=(aG (o1g _ om)).trans r1x
  have K1g:NK (h.next+3) (h.next+1) (h.next+4) g1x:=K1.kR fun i hi=>o1g i om
  have G1g:aR h g1x:=⟨by omega,fun i hi=>(o1g i om).trans ((ch1.get i om om).trans (G0g.get i hi))⟩
  obtain ⟨h2x,w2,⟨m2,e2⟩,ch2,K2,rv2⟩:=vJ H (l:=p) (fun q hq=>by
   have:Part.exp q∈(Part.decl (.mk k n s p d)).kids:=by
    simp only [Part.kids,List.mem_append,List.mem_map]
    simp [hq]
   exact ⟨ih _ this,by have:=hkn _ this;omega⟩) h2 om hne K1g
  have s2:=aP rv2
  have t2:=jU rv2
  have nx2:=ch2.next
  have lt2:=K2.lt
  have c2x:cont h2x h.next=some [.int .i64 3,.int .i64 0,.int .i64 0,.int .i64 0,.int .i64 0,.int .i64 0,.str [],.aC,.aC,.str [],.aC,.aC,.aC,.bool false,.aC,.aC,.int .i64 k,w0,w1,vp,vd,.int .i64 0,.str [],.aC,.aC,.bool false,.aC,.aC,.aC]:=(aG (ch2.get _ om om)).trans c1g
  have r2x:cont h2x (h.next+2)=some z29:=(aG (ch2.get _ om om)).trans r1g
  obtain ⟨g2x,Ed⟩:∃x,x=h2x.set h.next (.cells [.int .i64 3,.int .i64 0,.int .i64 0,.int .i64 0,.int .i64 0,.int .i64 0,.str [],.aC,.aC,.str [],.aC,.aC,.aC,.bool false,.aC,.aC,.int .i64 k,w0,w1,w2,vd,.int .i64 0,.str [],.aC,.aC,.bool false,.aC,.aC,.aC]):=⟨_,rfl⟩
  have n2g:h.next+5≤g2x.next:=by rw [Ed];simp;omega
  have o2g:∀i,i≠h.next→g2x.get i=h2x.get i:=fun i hi=>by rw [Ed];exact aE _ _ _ _ om hi
  have c2g:cont g2x h.next=some [.int .i64 3,.int .i64 0,.int .i64 0,.int .i64 0,.int .i64 0,.int .i64 0,.str [],.aC,.aC,.str [],.aC,.aC,.aC,.bool false,.aC,.aC,.int .i64 k,w0,w1,w2,vd,.int .i64 0,.str [],.aC,.aC,.bool false,.aC,.aC,.aC]:=by rw [Ed];exact aH om
  have r2g:cont g2x (h.next+2)=some z29:=(aG (o2g _ om)).trans r2x
  have K2g:NK (h.next+3) (h.next+1) (h.next+4) g2x:=K2.kR fun i hi=>o2g i om
  have G2g:aR h g2x:=⟨by omega,fun i hi=>(o2g i om).trans ((ch2.get i om om).trans (G1g.get i hi))⟩
  obtain ⟨h3x,w3,⟨m3,e3⟩,ch3,K3,rv3⟩:=Fb H (l:=d) (fun q hq=>by
   have:Part.desc q∈(Part.decl (.mk k n s p d)).kids:=by
    simp only [Part.kids,List.mem_append,List.mem_map]
    simp [hq]
   exact ⟨ih _ this,by have:=hkn _ this;omega⟩) h3 om hne K2g
  have s3:=aP rv3
  have t3:=jU rv3
  have nx3:=ch3.next
  have lt3:=K3.lt
  have c3x:cont h3x h.next=some [.int .i64 3,.int .i64 0,.int .i64 0,.int .i64 0,.int .i64 0,.int .i64 0,.str [],.aC,.aC,.str [],.aC,.aC,.aC,.bool false,.aC,.aC,.int .i64 k,w0,w1,w2,vd,.int .i64 0,.str [],.aC,.aC,.bool false,.aC,.aC,.aC]:=(aG (ch3.get _ om om)).trans c2g
  have r3x:cont h3x (h.next+2)=some z29:=(aG (ch3.get _ om om)).trans r2g
  obtain ⟨g3x,Jf⟩:∃x,x=h3x.set h.next (.cells [.int .i64 3,.int .i64 0,.int .i64 0,.int .i64 0,.int .i64 0,.int .i64 0,.str [],.aC,.aC,.str [],.aC,.aC,.aC,.bool false,.aC,.aC,.int .i64 k,w0,w1,w2,w3,.int .i64 0,.str [],.aC,.aC,.bool false,.aC,.aC,.aC]):=⟨_,rfl⟩
  have n3g:h.next+5≤g3x.next:=by rw [Jf];simp;omega
  have o3g:∀i,i≠h.next→g3x.get i=h3x.get i:=fun i hi=>by rw [Jf];exact aE _ _ _ _ om hi
  have c3g:cont g3x h.next=some [.int .i64 3,.int .i64 0,.int .i64 0,.int .i64 0,.int .i64 0,.int .i64 0,.str [],.aC,.aC,.str [],.aC,.aC,.aC,.bool false,.aC,.aC,.int .i64 k,w0,w1,w2,w3,.int .i64 0,.str [],.aC,.aC,.bool false,.aC,.aC,.aC]:=by rw [Jf];exact aH om
  have r3g:cont g3x (h.next+2)=some z29:=(aG (o3g _ om)).trans r3x
  have K3g:NK (h.next+3) (h.next+1) (h.next+4) g3x:=K3.kR fun i hi=>o3g i om
  have G3g:aR h g3x:=⟨by omega,fun i hi=>(o3g i om).trans ((ch3.get i om om).trans (G2g.get i hi))⟩
  rw [vH] at r3g
  obtain ⟨hE,hEe⟩:∃x,x=g3x.set (h.next+2) (.cells [.int .i64 3,.int .i64 0,.int .i64 0,.int .i64 0,.int .i64 0,.int .i64 0,.str [],.aC,.aC,.str [],.aC,.aC,.aC,.bool false,.aC,.aC,.int .i64 k,w0,w1,w2,w3,.int .i64 0,.str [],.aC,.aC,.bool false,.aC,.aC,.aC]):=⟨_,rfl⟩
  have cE:cont hE (h.next+2)=some [.int .i64 3,.int .i64 0,.int .i64 0,.int .i64 0,.int .i64 0,.int .i64 0,.str [],.aC,.aC,.str [],.aC,.aC,.aC,.bool false,.aC,.aC,.int .i64 k,w0,w1,w2,w3,.int .i64 0,.str [],.aC,.aC,.bool false,.aC,.aC,.aC]:=by rw [hEe];exact aH om
  refine ⟨hE,.agg [.int .i64 3,.int .i64 0,.int .i64 0,.int .i64 0,.int .i64 0,.int .i64 0,.str [],.aC,.aC,.str [],.aC,.aC,.aC,.bool false,.aC,.aC,.int .i64 k,w0,w1,w2,w3,.int .i64 0,.str [],.aC,.aC,.bool false,.aC,.aC,.aC],⟨by rw [hEe];simp;omega,fun i hi=>by rw [hEe,aE _ _ _ _ om om];exact G3g.get i hi⟩,Ev.call H.f68 H.o68 ⟨m1+m2+m3+2,fun m hm=> ?b⟩,⟨[.int .i64 k,w0,w1,w2,w3],.decl rv0 rv1 rv2 rv3,rfl⟩⟩
  have e0' :=e0 m om
  have e1' :=e1 m om
  have e2' :=e2 m om
  have e3' :=e3 m om
  exact SC (dD @a68.eq_1 @aW.eq_1 @aW.eq_2 @aW.eq_3 @aW.eq_4 @aW.eq_5 @pU.eq_1 @jY.eq_1 @kD.eq_1 @pT.eq_1 @kY.eq_1 (Eq.symm hAe) nA (Eq.symm hBe) cB c0x (dD (Eq.symm Ad) c0g s0 t0 c1x (Eq.symm Ac) c1g s1 t1 c2x (Eq.symm Ed) c2g s2 t2 c3x (Eq.symm Jf) (uK c3g s3 t3 e0' e1' e2' e3' r3g (Eq.symm hEe) cE)))
theorem Na (H:Has fns orc) (q0:qE) (ih:∀q∈(Part.imp q0).kids,tK fns orc q):Br fns orc (.imp q0):=by
 intro v hv hn h
 obtain ⟨c,hr,rfl⟩:=hv
 have hkl:=uW (.imp q0)
 have hkn:=fun q (hq:q∈(Part.imp q0).kids)=>uI hq
 have hpl:=jJ hr
 obtain ⟨hA,hAe,hB,hBe,gB,nA,nB,cB,rB,KB⟩:=xY h hpl
 rw [vH] at hAe
 have hne:h.next+3≠h.next+1∧h.next+3≠h.next+4:=⟨by omega,by omega⟩
 cases hr with
 | @imp k n e c b i ve vc vi h1 h2 h3=>
  simp only [aW,pU,jY,kD,pT,kY,List.cons_append,List.nil_append] at cB hAe
  simp only [Part.kids,List.length_append,List.length_map] at hkl
  obtain ⟨h0x,w0,⟨m0,e0⟩,ch0,K0,rv0⟩:=vJ H (l:=e) (fun q hq=>by
   have:Part.exp q∈(Part.imp (.mk k n e c b i)).kids:=by
    simp only [Part.kids,List.mem_append,List.mem_map]
    simp [hq]
   exact ⟨ih _ this,by have:=hkn _ this;omega⟩) h1 om hne KB
  have s0:=aP rv0
  have t0:=jU rv0
  have nx0:=ch0.next
  have lt0:=K0.lt
  have c0x:cont h0x h.next=some [.int .i64 4,.int .i64 0,.int .i64 0,.int .i64 0,.int .i64 0,.int .i64 0,.str [],.aC,.aC,.str [],.aC,.aC,.aC,.bool false,.aC,.aC,.int .i64 0,.aC,.aC,.aC,.aC,.int .i64 k,.str n,ve,vc,.bool b,vi,.aC,.aC]:=(aG (ch0.get _ om om)).trans cB
  have r0x:cont h0x (h.next+2)=some z29:=(aG (ch0.get _ om om)).trans rB
  obtain ⟨g0x,Ad⟩:∃x,x=h0x.set h.next (.cells [.int .i64 4,.int .i64 0,.int .i64 0,.int .i64 0,.int .i64 0,.int .i64 0,.str [],.aC,.aC,.str [],.aC,.aC,.aC,.bool false,.aC,.aC,.int .i64 0,.aC,.aC,.aC,.aC,.int .i64 k,.str n,w0,vc,.bool b,vi,.aC,.aC]):=⟨_,rfl⟩
  have n0g:h.next+5≤g0x.next:=by rw [Ad];simp;omega
  have o0g:∀i,i≠h.next→g0x.get i=h0x.get i:=fun i hi=>by rw [Ad];exact aE _ _ _ _ om hi
  have c0g:cont g0x h.next=some [.int .i64 4,.int .i64 0,.int .i64 0,.int .i64 0,.int .i64 0,.int .i64 0,.str [],.aC,.aC,.str [],.aC,.aC,.aC,.bool false,.aC,.aC,.int .i64 0,.aC,.aC,.aC,.aC,.int .i64 k,.str n,w0,vc,.bool b,vi,.aC,.aC]:=by rw [Ad];exact aH om
  have r0g:cont g0x (h.next+2)=some z29:=(aG (o0g _ om)).trans r0x
  have K0g:NK (h.next+3) (h.next+1) (h.next+4) g0x:=K0.kR fun i hi=>o0g i om
  have G0g:aR h g0x:=⟨by omega,fun i hi=>(o0g i om).trans ((ch0.get i om om).trans (gB.get i hi))⟩
  obtain ⟨h1x,w1,⟨m1,e1⟩,ch1,K1,rv1⟩:=Mz H (l:=c) (fun q hq=>by
   have:Part.case q∈(Part.imp (.mk k n e c b i)).kids:=by
    simp only [Part.kids,List.mem_append,List.mem_map]
    simp [hq]
   exact ⟨ih _ this,by have:=hkn _ this;omega⟩) h2 om hne K0g
  have s1:=aP rv1
  have t1:=jU rv1
  have nx1:=ch1.next
  have lt1:=K1.lt
  have c1x:cont h1x h.next=some [.int .i64 4,.int .i64 0,.int .i64 0,.int .i64 0,.int .i64 0,.int .i64 0,.str [],.aC,.aC,.str [],.aC,.aC,.aC,.bool false,.aC,.aC,.int .i64 0,.aC,.aC,.aC,.aC,.int .i64 k,.str n,w0,vc,.bool b,vi,.aC,.aC]:=(aG (ch1.get _ om om)).trans c0g
  have r1x:cont h1x (h.next+2)=some z29:=(aG (ch1.get _ om om)).trans r0g
  obtain ⟨g1x,Ac⟩:∃x,x=h1x.set h.next (.cells [.int .i64 4,.int .i64 0,.int .i64 0,.int .i64 0,.int .i64 0,.int .i64 0,.str [],.aC,.aC,.str [],.aC,.aC,.aC,.bool false,.aC,.aC,.int .i64 0,.aC,.aC,.aC,.aC,.int .i64 k,.str n,w0,w1,.bool b,vi,.aC,.aC]):=⟨_,rfl⟩
  have n1g:h.next+5≤g1x.next:=by rw [Ac];simp;omega
  have o1g:∀i,i≠h.next→g1x.get i=h1x.get i:=fun i hi=>by rw [Ac];exact aE _ _ _ _ om hi
  have c1g:cont g1x h.next=some [.int .i64 4,.int .i64 0,.int .i64 0,.int .i64 0,.int .i64 0,.int .i64 0,.str [],.aC,.aC,.str [],.aC,.aC,.aC,.bool false,.aC,.aC,.int .i64 0,.aC,.aC,.aC,.aC,.int .i64 k,.str n,w0,w1,.bool b,vi,.aC,.aC]:=by rw [Ac];exact aH om
  have r1g:cont g1x (h.next+2)=some z29:=(aG (o1g _ om)).trans r1x
  have K1g:NK (h.next+3) (h.next+1) (h.next+4) g1x:=K1.kR fun i hi=>o1g i om
  have G1g:aR h g1x:=⟨by omega,fun i hi=>(o1g i om).trans ((ch1.get i om om).trans (G0g.get i hi))⟩
  obtain ⟨h2x,w2,⟨m2,e2⟩,ch2,K2,rv2⟩:=Dt H (l:=i) (fun q hq=>by
   have:Part.imp q∈(Part.imp (.mk k n e c b i)).kids:=by
    simp only [Part.kids,List.mem_append,List.mem_map]
    simp [hq]
   exact ⟨ih _ this,by have:=hkn _ this;omega⟩) h3 om hne K1g
  have s2:=aP rv2
  have t2:=jU rv2
  have nx2:=ch2.next
  have lt2:=K2.lt
  have c2x:cont h2x h.next=some [.int .i64 4,.int .i64 0,.int .i64 0,.int .i64 0,.int .i64 0,.int .i64 0,.str [],.aC,.aC,.str [],.aC,.aC,.aC,.bool false,.aC,.aC,.int .i64 0,.aC,.aC,.aC,.aC,.int .i64 k,.str n,w0,w1,.bool b,vi,.aC,.aC]:=(aG (ch2.get _ om om)).trans c1g
  have r2x:cont h2x (h.next+2)=some z29:=(aG (ch2.get _ om om)).trans r1g
  obtain ⟨g2x,Ed⟩:∃x,x=h2x.set h.next (.cells [.int .i64 4,.int .i64 0,.int .i64 0,.int .i64 0,.int .i64 0,.int .i64 0,.str [],.aC,.aC,.str [],.aC,.aC,.aC,.bool false,.aC,.aC,.int .i64 0,.aC,.aC,.aC,.aC,.int .i64 k,.str n,w0,w1,.bool b,w2,.aC,.aC]):=⟨_,rfl⟩
  have n2g:h.next+5≤g2x.next:=by rw [Ed];simp;omega
  have o2g:∀i,i≠h.next→g2x.get i=h2x.get i:=fun i hi=>by rw [Ed];exact aE _ _ _ _ om hi
  have c2g:cont g2x h.next=some [.int .i64 4,.int .i64 0,.int .i64 0,.int .i64 0,.int .i64 0,.int .i64 0,.str [],.aC,.aC,.str [],.aC,.aC,.aC,.bool false,.aC,.aC,.int .i64 0,.aC,.aC,.aC,.aC,.int .i64 k,.str n,w0,w1,.bool b,w2,.aC,.aC]:=by rw [Ed];exact aH om
  have r2g:cont g2x (h.next+2)=some z29:=(aG (o2g _ om)).trans r2x
  have K2g:NK (h.next+3) (h.next+1) (h.next+4) g2x:=K2.kR fun i hi=>o2g i om
  have G2g:aR h g2x:=⟨by omega,fun i hi=>(o2g i om).trans ((ch2.get i om om).trans (G1g.get i hi))⟩
  rw [vH] at r2g
  obtain ⟨hE,hEe⟩:∃x,x=g2x.set (h.next+2) (.cells [.int .i64 4,.int .i64 0,.int .i64 0,.int .i64 0,.int .i64 0,.int .i64 0,.str [],.aC,.aC,.str [],.aC,.aC,.aC,.bool false,.aC,.aC,.int .i64 0,.aC,.aC,.aC,.aC,.int .i64 k,.str n,w0,w1,.bool b,w2,.aC,.aC]):=⟨_,rfl⟩
  have cE:cont hE (h.next+2)=some [.int .i64 4,.int .i64 0,.int .i64 0,.int .i64 0,.int .i64 0,.int .i64 0,.str [],.aC,.aC,.str [],.aC,.aC,.aC,.bool false,.aC,.aC,.int .i64 0,.aC,.aC,.aC,.aC,.int .i64 k,.str n,w0,w1,.bool b,w2,.aC,.aC]:=by rw [hEe];exact aH om
  refine ⟨hE,.agg [.int .i64 4,.int .i64 0,.int .i64 0,.int .i64 0,.int .i64 0,.int .i64 0,.str [],.aC,.aC,.str [],.aC,.aC,.aC,.bool false,.aC,.aC,.int .i64 0,.aC,.aC,.aC,.aC,.int .i64 k,.str n,w0,w1,.bool b,w2,.aC,.aC],⟨by rw [hEe];simp;omega,fun i hi=>by rw [hEe,aE _ _ _ _ om om];exact G2g.get i hi⟩,Ev.call H.f68 H.o68 ⟨m0+m1+m2+2,fun m hm=> ?b⟩,⟨[.int .i64 k,.str n,w0,w1,.bool b,w2],.imp rv0 rv1 rv2,rfl⟩⟩
  have e0' :=e0 m om
  have e1' :=e1 m om
  have e2' :=e2 m om
  exact SC (dD @a68.eq_1 @aW.eq_1 @aW.eq_2 @aW.eq_3 @aW.eq_4 @aW.eq_5 @pU.eq_1 @jY.eq_1 @kD.eq_1 @pT.eq_1 @kY.eq_1 (Eq.symm hAe) nA (Eq.symm hBe) cB c0x (dD (Eq.symm Ad) c0g s0 t0 c1x (Eq.symm Ac) c1g s1 t1 c2x (Eq.symm Ed) c2g s2 t2 e0' e1' (cj4 e2' r2g (Eq.symm hEe) cE)))
theorem Ls (H:Has fns orc) (q0:uY) (ih:∀q∈(Part.case q0).kids,tK fns orc q):Br fns orc (.case q0):=by
 intro v hv hn h
 obtain ⟨c,hr,rfl⟩:=hv
 have hkl:=uW (.case q0)
 have hkn:=fun q (hq:q∈(Part.case q0).kids)=>uI hq
 have hpl:=jJ hr
 obtain ⟨hA,hAe,hB,hBe,gB,nA,nB,cB,rB,KB⟩:=xY h hpl
 rw [vH] at hAe
 have hne:h.next+3≠h.next+1∧h.next+3≠h.next+4:=⟨by omega,by omega⟩
 cases hr with
 | @case v i vv vi h1 h2=>
  simp only [aW,pU,jY,kD,pT,kY,List.cons_append,List.nil_append] at cB hAe
  simp only [Part.kids,List.length_append,List.length_map] at hkl
  obtain ⟨h0x,w0,⟨m0,e0⟩,ch0,K0,rv0⟩:=vJ H (l:=v) (fun q hq=>by
   have:Part.exp q∈(Part.case (.mk v i)).kids:=by
    simp only [Part.kids,List.mem_append,List.mem_map]
    simp [hq]
   exact ⟨ih _ this,by have:=hkn _ this;omega⟩) h1 om hne KB
  have s0:=aP rv0
  have t0:=jU rv0
  have nx0:=ch0.next
  have lt0:=K0.lt
  have c0x:cont h0x h.next=some [.int .i64 5,.int .i64 0,.int .i64 0,.int .i64 0,.int .i64 0,.int .i64 0,.str [],.aC,.aC,.str [],.aC,.aC,.aC,.bool false,.aC,.aC,.int .i64 0,.aC,.aC,.aC,.aC,.int .i64 0,.str [],.aC,.aC,.bool false,.aC,vv,vi]:=(aG (ch0.get _ om om)).trans cB
  have r0x:cont h0x (h.next+2)=some z29:=(aG (ch0.get _ om om)).trans rB
  obtain ⟨g0x,Ad⟩:∃x,x=h0x.set h.next (.cells [.int .i64 5,.int .i64 0,.int .i64 0,.int .i64 0,.int .i64 0,.int .i64 0,.str [],.aC,.aC,.str [],.aC,.aC,.aC,.bool false,.aC,.aC,.int .i64 0,.aC,.aC,.aC,.aC,.int .i64 0,.str [],.aC,.aC,.bool false,.aC,w0,vi]):=⟨_,rfl⟩
  have n0g:h.next+5≤g0x.next:=by rw [Ad];simp;omega
  have o0g:∀i,i≠h.next→g0x.get i=h0x.get i:=fun i hi=>by rw [Ad];exact aE _ _ _ _ om hi
  have c0g:cont g0x h.next=some [.int .i64 5,.int .i64 0,.int .i64 0,.int .i64 0,.int .i64 0,.int .i64 0,.str [],.aC,.aC,.str [],.aC,.aC,.aC,.bool false,.aC,.aC,.int .i64 0,.aC,.aC,.aC,.aC,.int .i64 0,.str [],.aC,.aC,.bool false,.aC,w0,vi]:=by rw [Ad];exact aH om
  have r0g:cont g0x (h.next+2)=some z29:=(aG (o0g _ om)).trans r0x
  have K0g:NK (h.next+3) (h.next+1) (h.next+4) g0x:=K0.kR fun i hi=>o0g i om
  have G0g:aR h g0x:=⟨by omega,fun i hi=>(o0g i om).trans ((ch0.get i om om).trans (gB.get i hi))⟩
  obtain ⟨h1x,w1,⟨m1,e1⟩,ch1,K1,rv1⟩:=Dt H (l:=i) (fun q hq=>by
   have:Part.imp q∈(Part.case (.mk v i)).kids:=by
    simp only [Part.kids,List.mem_append,List.mem_map]
    simp [hq]
   exact ⟨ih _ this,by have:=hkn _ this;omega⟩) h2 om hne K0g
  have s1:=aP rv1
  have t1:=jU rv1
  have nx1:=ch1.next
  have lt1:=K1.lt
  have c1x:cont h1x h.next=some [.int .i64 5,.int .i64 0,.int .i64 0,.int .i64 0,.int .i64 0,.int .i64 0,.str [],.aC,.aC,.str [],.aC,.aC,.aC,.bool false,.aC,.aC,.int .i64 0,.aC,.aC,.aC,.aC,.int .i64 0,.str [],.aC,.aC,.bool false,.aC,w0,vi]:=(aG (ch1.get _ om om)).trans c0g
  have r1x:cont h1x (h.next+2)=some z29:=(aG (ch1.get _ om om)).trans r0g
  obtain ⟨g1x,Ac⟩:∃x,x=h1x.set h.next (.cells [.int .i64 5,.int .i64 0,.int .i64 0,.int .i64 0,.int .i64 0,.int .i64 0,.str [],.aC,.aC,.str [],.aC,.aC,.aC,.bool false,.aC,.aC,.int .i64 0,.aC,.aC,.aC,.aC,.int .i64 0,.str [],.aC,.aC,.bool false,.aC,w0,w1]):=⟨_,rfl⟩
  have n1g:h.next+5≤g1x.next:=by rw [Ac];simp;omega
  have o1g:∀i,i≠h.next→g1x.get i=h1x.get i:=fun i hi=>by rw [Ac];exact aE _ _ _ _ om hi
  have c1g:cont g1x h.next=some [.int .i64 5,.int .i64 0,.int .i64 0,.int .i64 0,.int .i64 0,.int .i64 0,.str [],.aC,.aC,.str [],.aC,.aC,.aC,.bool false,.aC,.aC,.int .i64 0,.aC,.aC,.aC,.aC,.int .i64 0,.str [],.aC,.aC,.bool false,.aC,w0,w1]:=by rw [Ac];exact aH om
  have r1g:cont g1x (h.next+2)=some z29:=(aG (o1g _ om)).trans r1x
  have K1g:NK (h.next+3) (h.next+1) (h.next+4) g1x:=K1.kR fun i hi=>o1g i om
  have G1g:aR h g1x:=⟨by omega,fun i hi=>(o1g i om).trans ((ch1.get i om om).trans (G0g.get i hi))⟩
  rw [vH] at r1g
  obtain ⟨hE,hEe⟩:∃x,x=g1x.set (h.next+2) (.cells [.int .i64 5,.int .i64 0,.int .i64 0,.int .i64 0,.int .i64 0,.int .i64 0,.str [],.aC,.aC,.str [],.aC,.aC,.aC,.bool false,.aC,.aC,.int .i64 0,.aC,.aC,.aC,.aC,.int .i64 0,.str [],.aC,.aC,.bool false,.aC,w0,w1]):=⟨_,rfl⟩
  have cE:cont hE (h.next+2)=some [.int .i64 5,.int .i64 0,.int .i64 0,.int .i64 0,.int .i64 0,.int .i64 0,.str [],.aC,.aC,.str [],.aC,.aC,.aC,.bool false,.aC,.aC,.int .i64 0,.aC,.aC,.aC,.aC,.int .i64 0,.str [],.aC,.aC,.bool false,.aC,w0,w1]:=by rw [hEe];exact aH om
  refine ⟨hE,.agg [.int .i64 5,.int .i64 0,.int .i64 0,.int .i64 0,.int .i64 0,.int .i64 0,.str [],.aC,.aC,.str [],.aC,.aC,.aC,.bool false,.aC,.aC,.int .i64 0,.aC,.aC,.aC,.aC,.int .i64 0,.str [],.aC,.aC,.bool false,.aC,w0,w1],⟨by rw [hEe];simp;omega,fun i hi=>by rw [hEe,aE _ _ _ _ om om];exact G1g.get i hi⟩,Ev.call H.f68 H.o68 ⟨m0+m1+2,fun m hm=> ?b⟩,⟨[w0,w1],.case rv0 rv1,rfl⟩⟩
  have e0' :=e0 m om
  have e1' :=e1 m om
  exact SC (dD @a68.eq_1 @aW.eq_1 @aW.eq_2 @aW.eq_3 @aW.eq_4 @aW.eq_5 @pU.eq_1 @jY.eq_1 @kD.eq_1 @pT.eq_1 @kY.eq_1 (Eq.symm hAe) nA (Eq.symm hBe) cB c0x (yL (Eq.symm Ad) c0g s0 t0 c1x (Eq.symm Ac) c1g s1 t1 e0' e1' r1g (Eq.symm hEe) cE))
end Go.Ly
namespace Go.Ly
open Go Go.Am Go.Fs Go.Gn
variable {fns:Go.Am.F} {orc:Orc}
theorem Qc (H:Has fns orc) {p:Part} (C:Br fns orc p):tK fns orc p:=by
 intro v hv hn h
 obtain ⟨c,rfl,cl,ck⟩:=rX hv
 have p29:takeN 29 c=some c:=by rw [←cl];exact aX c
 obtain ⟨hA,hAe⟩:∃x,x=(h.push (.cells c)).push (.cells z29):=⟨_,rfl⟩
 have gA:aR h hA:=by rw [hAe];exact gw2
 have nA:hA.next=h.next+2:=by rw [hAe];simp
 have a0:cont hA h.next=some c:=by rw [hAe];exact ctp
 have a1:cont hA (h.next+1)=some z29:=by rw [hAe];exact ctp
 obtain ⟨hB,v',gAB,⟨n1,e1⟩,hv'⟩:=C (.agg c) hv hn hA
 have nB:=gAB.next
 have b1:=(aF gAB (by omega:h.next+1<hA.next)).trans a1
 have hv2:=hv'
 obtain ⟨c',rfl,cl',ck'⟩:=rX hv'
 have QV :takeN 29 c' =some c' :=by rw [←cl'];exact aX c'
 have f3:Nat.beq c'.length 29=true:=by rw [cl'];rfl
 have f4:cW 0 c' z29=some c' :=pR _ _ (by rw [cl'];rfl)
 obtain ⟨hC,hCe⟩:∃x,x=hB.set (h.next+1) (.cells c'):=⟨_,rfl⟩
 have cC:cont hC (h.next+1)=some c' :=by rw [hCe];exact aH om
 refine ⟨hC,.agg c',⟨by rw [hCe];simp;omega,fun i hi=>by rw [hCe,aE _ _ _ _ om om,gAB.get i om,gA.get i hi]⟩,Ev.call H.f48 H.o48 ⟨n1,fun m hm=> ?b⟩,hv2⟩
 have e1' :=e1 m hm
 rw [vH] at hAe b1 f4
 exact SX (qD @a48.eq_1 (Eq.symm hAe) a0 p29 e1' b1 ck' f3 f4 (Eq.symm hCe) cC QV)
theorem Qb (H:Has fns orc):∀p,tK fns orc p:=by
 refine Part.ind fun p ih=>Qc H ?_
 cases p with
 |exp e=>exact Nb H e ih
 |desc e=>exact Lq H e ih
 |decl e=>exact Lr H e ih
 |imp e=>exact Na H e ih
 |case e=>exact Ls H e ih
def A3:pG:= .mk [] [] [] [] false [] []
theorem LQ:Valid (.desc A3):= .mk trivial (fun q hq=>by simp [Part.kids,A3] at hq)
theorem Uv (H:Has fns orc) (N:vP fns orc) {d:pG} {c:List AV} (hv:RV (.desc d) (.agg c)) (hs:wE (.desc d)) (hn:(Part.desc d).nodes<10000000) (h:aD):
  ∃h' c' d' e,aR h h' ∧Ev fns orc (.call 31 [.agg c] .plain h) (.call (.ret (.tup [.agg c',.int .i64 e])) .plain h')∧RV (.desc d') (.agg c')∧(d' =d∨d' =A3):=by
 have hcl:=kU hv
 have p7:takeN 7 c=some c:=by rw [←hcl];exact aX c
 obtain ⟨hA,hAe⟩:∃x,x=(h.push (.cells c)).push (.cells jY):=⟨_,rfl⟩
 have gA:aR h hA:=by rw [hAe];exact gw2
 have nA:hA.next=h.next+2:=by rw [hAe];simp
 have a0:cont hA h.next=some c:=by rw [hAe];exact ctp
 have a1:cont hA (h.next+1)=some jY:=by rw [hAe];exact ctp
 obtain ⟨hB,e,gAB,⟨n1,e1⟩,r1,r2,r3⟩:=LO H N hv hs hn hA
 have gB:=gA.trans gAB
 have nB:=gAB.next
 have b0:=(aF gAB (by omega:h.next<hA.next)).trans a0
 have b1:=(aF gAB (by omega:h.next+1<hA.next)).trans a1
 by_cases ce:e=0
 case neg=>
  have de:=dF ce
  refine ⟨hB.set (h.next+1) (.cells jY),jY,A3,e, ?g1,Ev.call H.f31 H.o31 ⟨n1,fun m hm=> ?b1⟩,.desc .nil .nil .nil .nil .nil,.inr rfl⟩
  case g1=>exact gB.set om om _
  case b1=>
   have e1' :=e1 m hm
   simp only [jY] at hAe b1
   exact SX (cj8 @a31.eq_1 (Eq.symm hAe) a0 p7 e1' de b1 @jY.eq_1)
 have de:=dT ce
 obtain ⟨hC,gC,n2,e2⟩:=A9 H hv hB
 have nC:=gC.next
 obtain ⟨hD,v',gD,⟨n3,e3⟩,hv'⟩:=Qb H (.desc d) (.agg (aW (.desc d) c)) ⟨c,hv,rfl⟩ hn hC
 have nD:=gD.next
 have d1:=(aF gD (by omega:h.next+1<hC.next)).trans ((aF gC (by omega:h.next+1<hB.next)).trans b1)
 obtain ⟨c',rv',rfl⟩:=hv'
 have cl' :=kU rv'
 have ck' :c'.all AV.cF=true:=by
  have:=lE rv'
  simp only [aW,List.all_cons,List.all_append,Bool.and_eq_true] at this
  simp_all
 have fl:bK (some 7) (aW (.desc d) c') 9= .ok (.agg c'):=by
  have:takeN 7 ((aW (.desc d) c').drop 9)=some c' :=by
   cases rv'
   rfl
  simp only [bK,this]
 have f3:Nat.beq c'.length 7=true:=by rw [cl'];rfl
 have f4:cW 0 c' jY=some c' :=pR _ _ (by rw [cl'];rfl)
 have p7' :takeN 7 c' =some c' :=by rw [←cl'];exact aX c'
 obtain ⟨hE,hEe⟩:∃x,x=hD.set (h.next+1) (.cells c'):=⟨_,rfl⟩
 have cE:cont hE (h.next+1)=some c' :=by rw [hEe];exact aH om
 refine ⟨hE,c',d,0, ?g2,Ev.call H.f31 H.o31 ⟨n1+n2+n3,fun m hm=> ?b2⟩,rv',.inl rfl⟩
 case g2=>rw [hEe];exact (gB.trans (gC.trans gD)).set om om _
 case b2=>
  have e1' :=e1 m om
  have e2' :=e2 m om
  have e3' :=e3 m om
  simp only [jY] at hAe b1 d1 f4
  exact SR (dD @a31.eq_1 (Eq.symm hAe) a0 b0 p7 e1' de e2' e3' fl d1 ck' f3 f4 (Eq.symm hEe) cE (cj2 p7' @ldS))
end Go.Ly
end
