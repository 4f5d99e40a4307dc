/- Parts of a proof. -/
import Derived.Test.YtfpohljcapcliaaGreatDoorD
import Derived.Test.YtfpohljcapcliaaGreatDoorW
set_option linter.all false
set_option maxHeartbeats 8000000
set_option maxRecDepth 4000
noncomputable section
namespace Go.Ly
open Go Go.Am Go.Fs Go.Gn
variable {fns:Go.Am.F} {orc:Orc}
def CS (sz:Nat) (z:List AV):AC:=
 (.seq (.reg [⟨(some 11),.b2 (.bin .lss) (.t 10) (.t 9),none⟩] (some [1,5,8,9,10,11]))
   (.seq (.cond (.t 11)
    .skip
    (.exit 0))
   (.seq (.block 1
    (.seq (.reg [⟨(some 12),.b2 (.GY sz) (.t 8) (.t 10),none⟩,
      ⟨(some 13),.u1 (.load (some sz)) (.t 12),none⟩,
      ⟨(some 7),.o3 (.alloc z),none⟩,
      ⟨none,.b2 (.store sz) (.t 7) (.t 13),none⟩] (some [1,5,7,8,9,10]))
    (.reg [⟨(some 14),.mov (.t 5),none⟩,
      ⟨(some 15),.mov (.t 1),none⟩,
      ⟨(some 16),.u1 (.load (some sz)) (.t 7),none⟩,
      ⟨(some 17),.call (.t 15) [(.t 16)],none⟩,
      ⟨(some 18),.o3 (.DX sz [(.t 17)]),none⟩,
      ⟨(some 19),.b2 (.append sz) (.t 14) (.t 18),none⟩,
      ⟨(some 5),.mov (.t 19),none⟩] (some [1,5,8,9,10]))))
   (.reg [⟨(some 20),.b2 (.bin .add) (.t 10) (.c (.int .i64 1)),none⟩,
     ⟨(some 10),.mov (.t 20),none⟩] (some [1,5,8,9,10])))))
def OI (sz:Nat) (z:List AV):AC:=
 (.seq (.reg [⟨(some 4),.mov (.c .aC),none⟩] (some [0,1]))
 (.seq (.reg [⟨(some 5),.mov (.c .aC),none⟩] (some [0,1,5]))
 (.seq (.seq (.reg [⟨(some 8),.mov (.t 0),none⟩,
   ⟨(some 9),.u1 (.len .sl) (.t 8),none⟩,
   ⟨(some 10),.mov (.c (.int .i64 0)),none⟩] (some [1,5,8,9,10]))
 (.block 0
  (.loop (CS sz z))))
 (.seq (.reg [⟨(some 21),.mov (.t 5),none⟩,
   ⟨(some 4),.mov (.t 21),none⟩] (some [4]))
 .ret))))
theorem L9 (h:aD) (ts:fN) (t sz:Nat) {c:List AV} (hv:cH ts t= .agg c) (hl:c.length=sz) (hk:c.all AV.bX=true):jN h ts sz [.t t]= .ok (.val (.sl .full [.agg c]) h):=by
 have e:(Nat.beq c.length sz && c.all AV.bX)=true:=by rw [hk,hl];simp
 simp only [jN,kZ,rJ,hv,AV.cells,e,aM]
theorem Rp {l:List Part} {xs:List AV} (h:RVL l xs) {p:Part} {v:AV} (hv:RV p v):RVL (l++[p]) (xs++[v]):=h.append (.cons hv .nil)
theorem Nc {fn g sz:Nat} {z:List AV} {capt:List AV} (hz:z.length=sz) (hsz:1≤sz∧sz≤8) {l0:List Part} {x:AV} {xs0:List AV} (hx:iP x xs0) (hl0:xs0.length=l0.length) (hn:l0.length<10000000)
  {N M:Nat→Prop} {K:aD→Prop} (hNM:∀i,N i→M i) (hK:∀a b:aD,K a→a.next≤b.next→(∀i,M i→b.get i=a.get i)→K b) (hM:∀a,K a→∀i,M i→i<a.next)
  (hel:∀i (hi:i<l0.length),∃c,xs0[i]? =some (.agg c)∧c.length=sz∧c.all AV.bX=true∧∀h,K h→∃h' c',Ev fns orc (.call g (.agg c::capt) .plain h) (.call (.ret (.agg c')) .plain h')∧Chg N h h' ∧K h' ∧RV l0[i] (.agg c')∧c'.length=sz∧c'.all AV.bX=true):
  ∀(k i:Nat) (l:AV) (ps:List Part) (xs:List AV) (h:aD),i+k=l0.length→Acc h l xs→(∀t,jK l=some t→¬M t)→RVL ps xs→Ab sz xs→ps.length=i→K h→
   ∃h' l' xs' ts,Ev fns orc (.code fn none (.loop (CS sz z)) ⟨[(1,.fn g [] capt),(5,l),(8,x),(9,.int .i64 (l0.length:Nat)),(10,.int .i64 (i:Int))],[],.plain,h⟩) (.code (.exit 0) ⟨ts,[],.plain,h'⟩)∧cH ts 5=l' ∧
    Acc h' l' xs' ∧RVL (ps++l0.drop i) xs' ∧Chg (fun j=>N j∨jK l=some j) h h' ∧K h' :=by
 intro k
 induction k with
 |zero=>
  intro i l ps xs h hi ha ht hp hw hpl hk
  have e:i=l0.length:=om
  have d:decide ((i:Int)<((l0.length:Nat):Int))=false:=dF om
  refine ⟨h,l,xs, ?ts0,Ev.code ⟨0,fun m _=> ?b0⟩, ?t0,ha,by rw [e];simpa using hp,.refl _ _,hk⟩
  case b0=>
   exact SX (cj3 @CS.eq_1 d @aI)
  case t0=>rfl
 |succ k ih=>
  intro i l ps xs h hi ha ht hp hw hpl hk
  have hlt:i<l0.length:=om
  have d:decide ((i:Int)<((l0.length:Nat):Int))=true:=dT om
  obtain ⟨c,hc,hcl,hck,G2⟩:=hel i hlt
  have hia:=kT hx hc hcl
  have hlo:bN (some sz) c 0= .ok (.agg c):=wJ hcl
  have hst:=mW h hz hcl hck
  obtain ⟨hA,hAe⟩:∃x,x=(h.push (.cells z)).set h.next (.cells c):=⟨_,rfl⟩
  rw [←hAe] at hst
  have gA:aP h hA:=by rw [hAe];exact gw2
  have cA:cont hA h.next=some c:=by rw [hAe];exact aG (by simp)
  have kA:K hA:=hK _ _ hk gA.next (fun i q=>gA.get i (hM h hk i q))
  obtain ⟨hB,c',⟨n1,e1⟩,chB,kB,rv,rl,rk⟩:=G2 hA kA
  have nBx:=chB.next
  have aB:Acc hB l xs:=by
   have aA:Acc hA l xs:=ha.grow gA
   cases aA with
   |nil=>exact .nil
   |opn t xs htg Qu=>exact .opn t xs ((chB.get t (aD.mN htg) (fun q=>ht t rfl (hNM t q))).trans htg) Qu
  have hxl:xs.length=i:=by have:=hp.length;omega
  obtain ⟨l2,h2,ap,a2,g2,tk2⟩:=sG aB (n:=sz) (v:= .agg c') hsz.1 hw rl (by
   have:(xs.length+1)*sz≤10000000*8:=Nat.mul_le_mul om hsz.2
   omega)
  have n2:=g2.next
  have k2:K h2:=hK _ _ kB n2 (fun i w=>g2.get i (hM hB kB i w) (fun e=>ht i e w))
  have ht2:∀t,jK l2=some t→¬M t:=fun t w q=>by
   rcases tk2 t w with w|w
   ·exact ht t w q
   ·have:=hM hB kB t q;omega
  obtain ⟨h',l',xs',ts,⟨n3,e3⟩,tt,a3,r3,ch3,k3⟩:=ih (i+1) l2 (ps++[l0[i]]) (xs++[.agg c']) h2 om a2 ht2 (Rp hp rv) (fun y hy=>by
   rcases List.mem_append.1 hy with q|q
   ·exact hw y q
   ·rw [List.mem_singleton.1 q];exact rl) (by simp;omega) k2
  refine ⟨h',l',xs',ts,Ev.code ⟨max n1 n3,fun m hm=> ?b1⟩,tt,a3,by rw [List.drop_eq_getElem_cons hlt];simpa using r3, ?c1,k3⟩
  case b1=>
   have e1' :=e1 m om
   have e3' :=e3 m om
   have hbs:=fun ts=>L9 hB ts 17 sz (c:=c')
   have hb1:∀ts,jN hB ((17,.agg c')::ts) sz [.t 17]= .ok (.val (.sl .full [.agg c']) hB):=fun ts=>L9 hB _ 17 sz rfl rl rk
   simp only [CS] at e3'
   exact SBe (sC @CS.eq_1 d hia hlo hst cA e1' hb1 ap @aI (sH hlt om)) e3'
  case c1=>
   refine ⟨by have:=ch3.next;have:=gA.next;omega,fun j hj hn=> ?_⟩
   have j1:j<hA.next:=Nat.lt_of_lt_of_le hj gA.next
   rw [ch3.get j om (fun q=>by
    rcases q with q|q
    ·exact hn (.inl q)
    ·rcases tk2 j q with q|q
     ·exact hn (.inr q)
     ·omega),g2.get j om (fun q=>hn (.inr q)),chB.get j j1 (fun q=>hn (.inl q)),gA.get j hj]
theorem Bn {f g sz:Nat} {afn:AFn} {z:List AV} {capt:List AV} (hf:fns f=some afn) (ho:orc f=none) (hb:afn.body=OI sz z) (hr:afn.results=[.tmp 4]) (hz:z.length=sz) (hsz:1≤sz∧sz≤8) {l0:List Part} {x:AV} (hv:RVs l0 x) (hn:l0.length<10000000)
  {N M:Nat→Prop} {K:aD→Prop} (hNM:∀i,N i→M i) (hK:∀a b:aD,K a→a.next≤b.next→(∀i,M i→b.get i=a.get i)→K b) (hM:∀a,K a→∀i,M i→i<a.next)
  (hel:∀p∈l0,∀c,RV p (.agg c)→c.length=sz∧c.all AV.bX=true∧∀h,K h→∃h' c',Ev fns orc (.call g (.agg c::capt) .plain h) (.call (.ret (.agg c')) .plain h')∧Chg N h h' ∧K h' ∧RV p (.agg c')∧c'.length=sz∧c'.all AV.bX=true) {h:aD} (hk:K h):
  ∃h' v',Ev fns orc (.call f [x,.fn g [] capt] .plain h) (.call (.ret v') .plain h')∧Chg N h h' ∧K h' ∧RVs l0 v' :=by
 obtain ⟨xs,hx,hxl,hge⟩:=jZ hv
 have q:∀hp,nJ hp .sl x= .ok l0.length:=fun hp=>by rw [bO hx hp,hxl]
 obtain ⟨h',l',xs',ts,⟨n,e⟩,tt,a,r,ch,k⟩:=Nc (fns:=fns) (orc:=orc) (fn:=f) (g:=g) (capt:=capt) hz hsz hx hxl hn hNM hK hM (fun i hi=>by
  obtain ⟨c,e1,e2⟩:=hge i hi
  obtain ⟨e3,e4,e5⟩:=hel _ (List.getElem_mem hi) c e2
  exact ⟨c,e1,e3,e4,e5⟩) l0.length 0 .aC [] [] h om .nil (fun t w=>by cases w) .nil (fun y hy=>by cases hy) rfl hk
 refine ⟨h',l',Ev.call hf ho ⟨n,fun m hm=> ?b⟩,⟨ch.next,fun i hi hn=>ch.get i hi (fun w=>by rcases w with w|w;exact hn w;cases w)⟩,k, ?r⟩
 case b=>
  have e' :cG (eval fns orc m) f none (.loop (CS sz z)) ⟨[(1,.fn g [] capt),(5,.aC),(8,x),(9,.int .i64 (l0.length:Nat)),(10,.int .i64 0)],[],.plain,h⟩= .ok (.code (.exit 0) ⟨ts,[],.plain,h'⟩):=e (m+1) om
  rw [hb]
  obtain ⟨nt,res,body⟩:=afn
  cases hr
  exact SX (cj4 @OI.eq_1 q e' tt)
 case r=>
  simp only [List.nil_append,List.drop_zero] at r
  cases a with
  |nil=>cases r;exact .nil
  |opn t xs htg Qu=>exact .sl _ r
end Go.Ly
namespace Go.Ly
open Go Go.Am Go.Fs Go.Gn
variable {fns:Go.Am.F} {orc:Orc}
theorem ldS (n:Nat) (c:List AV):bN (some n) c 0=match takeN n c with
  |some l=> .ok (.agg l)
  |none=> .no "load: n" :=rfl
def tU (fns:Go.Am.F) (orc:Orc) (q:Part):Prop:=∀v,RP q v→q.nodes<10000000→∀h:aD,∃h' v',aP h h' ∧Ev fns orc (.call 54 [v] .plain h) (.call (.ret v') .plain h')∧RP q v'
structure NK (nb fb xb:Nat) (h:aD):Prop where
 n_:∃z,cont h nb=some [.int .i64 z]
 f_:cont h fb=some [.fn 76 [] []]
 x_:cont h xb=some [.fn 88 [] [.ptr nb 0,.ptr fb 0]]
theorem NK.kY {nb fb xb:Nat} {a b:aD} (k:NK nb fb xb a) (h:∀i,i=nb∨i=fb∨i=xb→b.get i=a.get i):NK nb fb xb b:=
 ⟨k.n_.imp fun z q=>(aH (h nb (.inl rfl))).trans q,(aH (h fb (.inr (.inl rfl)))).trans k.f_,(aH (h xb (.inr (.inr rfl)))).trans k.x_⟩
theorem NK.lt {nb fb xb:Nat} {a:aD} (k:NK nb fb xb a):∀i,i=nb∨i=fb∨i=xb→i<a.next:=by
 obtain ⟨z,q⟩:=k.n_
 rintro i (rfl|rfl|rfl)
 ·exact aO q
 ·exact aO k.f_
 ·exact aO k.x_
theorem NI (H:Has fns orc) {q:Part} (C:tU fns orc q) {v:AV} (hv:RP q v) (hn:q.nodes<10000000) (w:Int) (h:aD):
  ∃h' v',aP h h' ∧Ev fns orc (.call 76 [.int .i64 w,v] .plain h) (.call (.ret v') .plain h')∧RP q v' :=by
 obtain ⟨c,rfl,cl,ck⟩:=sK hv
 have p29:takeN 29 c=some c:=by rw [←cl];exact aW c
 obtain ⟨hA,hAe⟩:∃x,x=(h.push (.cells c)).push (.cells z29):=⟨_,rfl⟩
 have gA:aP h hA:=by rw [hAe];exact gw2
 have nA:hA.next=h.next+2:=by rw [hAe];simp
 have a0:cont hA h.next=some c:=by rw [hAe];exact ctp
 have a1:cont hA (h.next+1)=some z29:=by rw [hAe];exact ctp
 obtain ⟨hB,v',gAB,⟨n1,e1⟩,hv'⟩:=C (.agg c) hv hn hA
 have nB:=gAB.next
 have b1:=(aF gAB (by omega:h.next+1<hA.next)).trans a1
 have hv2:=hv'
 obtain ⟨c',rfl,cl',ck'⟩:=sK hv'
 have RI :takeN 29 c' =some c' :=by rw [←cl'];exact aW c'
 have f3:Nat.beq c'.length 29=true:=by rw [cl'];rfl
 have f4:cI 0 c' z29=some c' :=pU _ _ (by rw [cl'];rfl)
 obtain ⟨hC,hCe⟩:∃x,x=hB.set (h.next+1) (.cells c'):=⟨_,rfl⟩
 have cC:cont hC (h.next+1)=some c' :=by rw [hCe];exact aG om
 refine ⟨hC,.agg c',⟨by rw [hCe];simp;omega,fun i hi=>by rw [hCe,aE _ _ _ _ om om,gAB.get i om,gA.get i hi]⟩,Ev.call H.f76 H.o76 ⟨n1,fun m hm=> ?b⟩,hv2⟩
 have e1' :=e1 m hm
 rw [vR] at hAe b1 f4
 exact SX (qC @a76.eq_1 (Eq.symm hAe) a0 p29 e1' b1 ck' f3 f4 (Eq.symm hCe) cC RI)
theorem El (H:Has fns orc) {q:Part} (C:tU fns orc q) {v:AV} (hv:RP q v) (hn:q.nodes<10000000) {nb fb xb:Nat} (hne:nb≠fb∧nb≠xb) {h:aD} (K:NK nb fb xb h):
  ∃h' v',Ev fns orc (.call 88 [v,.ptr nb 0,.ptr fb 0] .plain h) (.call (.ret v') .plain h')∧Chg (fun i=>i=nb) h h' ∧NK nb fb xb h' ∧RP q v' :=by
 obtain ⟨c,rfl,cl,ck⟩:=sK hv
 have p29:takeN 29 c=some c:=by rw [←cl];exact aW c
 obtain ⟨z,hz⟩:=K.n_
 have lt:=K.lt
 have l1:=lt nb (.inl rfl)
 have l2:=lt fb (.inr (.inl rfl))
 have l3:=lt xb (.inr (.inr rfl))
 obtain ⟨hP,hPe⟩:∃x,x=(h.push (.cells c)).push (.cells z29):=⟨_,rfl⟩
 have gP:aP h hP:=by rw [hPe];exact gw2
 have nP:hP.next=h.next+2:=by rw [hPe];simp
 have p0:cont hP h.next=some c:=by rw [hPe];exact ctp
 have p1:cont hP (h.next+1)=some z29:=by rw [hPe];exact ctp
 have pn:=(aF gP l1).trans hz
 have pf:=(aF gP l2).trans K.f_
 have px:=(aF gP l3).trans K.x_
 obtain ⟨hA,hAe⟩:∃x,x=hP.set nb (.cells [.int .i64 (IntKind.wrap .i64 (z+1))]):=⟨_,rfl⟩
 have nA:hA.next=h.next+2:=by rw [hAe];simp [nP]
 have oA:∀i,i≠nb→cont hA i=cont hP i:=fun i hi=>by rw [hAe];exact aK om hi
 have an:cont hA nb=some [.int .i64 (IntKind.wrap .i64 (z+1))]:=by rw [hAe];exact aG om
 have a0:=(oA h.next om).trans p0
 have a1:=(oA (h.next+1) om).trans p1
 have af:=(oA fb (fun e=>hne.1 e.symm)).trans pf
 have ax:=(oA xb (fun e=>hne.2 e.symm)).trans px
 obtain ⟨hB,v',gAB,⟨n1,e1⟩,hv'⟩:=NI H C hv hn (IntKind.wrap .i64 (IntKind.wrap .i64 (z+1) -1)) hA
 have nB:=gAB.next
 have b1:=(aF gAB (by omega:h.next+1<hA.next)).trans a1
 have hv2:=hv'
 obtain ⟨c',rfl,cl',ck'⟩:=sK hv'
 have RI :takeN 29 c' =some c' :=by rw [←cl'];exact aW c'
 have f3:Nat.beq c'.length 29=true:=by rw [cl'];rfl
 have f4:cI 0 c' z29=some c' :=pU _ _ (by rw [cl'];rfl)
 obtain ⟨hC,hCe⟩:∃x,x=hB.set (h.next+1) (.cells c'):=⟨_,rfl⟩
 have nC:hC.next=hB.next:=by rw [hCe];simp
 have oC:∀i,i<h.next→hC.get i=hA.get i:=fun i hi=>by rw [hCe,aE _ _ _ _ om om,gAB.get i om]
 have cC:cont hC (h.next+1)=some c' :=by rw [hCe];exact aG om
 refine ⟨hC,.agg c',Ev.call H.f88 H.o88 ⟨n1,fun m hm=> ?b⟩,⟨by omega,fun i hi hq=> ?g⟩,⟨⟨_,(aH (oC nb l1)).trans an⟩,(aH (oC fb l2)).trans af,(aH (oC xb l3)).trans ax⟩,hv2⟩
 case g=>rw [oC i hi,hAe,aE _ _ _ _ om hq,gP.get i hi]
 case b=>
  have e1' :=e1 m hm
  rw [vR] at hPe b1 f4
  exact SX (Bd @a88.eq_1 (Eq.symm hPe) pn (Eq.symm hAe) an af a0 p29 e1' b1 ck' f3 f4 (Eq.symm hCe) cC RI)
theorem Ty (H:Has fns orc) {p:pO} (C:tU fns orc (.exp p)) (hn:(Part.exp p).nodes<10000000) {c:List AV} (hv:RV (.exp p) (.agg c)) {nb fb xb:Nat} (hne:nb≠fb∧nb≠xb) {h:aD} (K:NK nb fb xb h):
  ∃h' c',Ev fns orc (.call 91 [.agg c,.ptr xb 0] .plain h) (.call (.ret (.agg c')) .plain h')∧Chg (fun i=>i=nb) h h' ∧NK nb fb xb h' ∧RV (.exp p) (.agg c')∧c'.length=8∧c'.all AV.bX=true:=by
 have cl:=pW hv
 have psz:takeN 8 c=some c:=by rw [←cl];exact aW c
 have ceq:dX (.agg c) (.agg c)=true:=AR hv
 have lt:=K.lt
 have l1:=lt nb (.inl rfl)
 have l3:=lt xb (.inr (.inr rfl))
 obtain ⟨hA,hAe⟩:∃x,x=(h.push (.cells c)).push (.cells pY):=⟨_,rfl⟩
 have gA:aP h hA:=by rw [hAe];exact gw2
 have nA:hA.next=h.next+2:=by rw [hAe];simp
 have a0:cont hA h.next=some c:=by rw [hAe];exact ctp
 have a1:cont hA (h.next+1)=some pY:=by rw [hAe];exact ctp
 have KA:NK nb fb xb hA:=K.kY fun i hi=>gA.get i (lt i hi)
 obtain ⟨hB,gAB,n1,e1⟩:=KT H hv hA
 have nB:=gAB.next
 have KB:NK nb fb xb hB:=KA.kY fun i hi=>gAB.get i (KA.lt i hi)
 obtain ⟨hC,v',⟨n2,e2⟩,ch,KC,hv'⟩:=El H C ⟨c,hv,rfl⟩ hn hne KB
 have nC:=ch.next
 have hv2:=hv'
 obtain ⟨c',rv',rfl⟩:=hv2
 have cl' :=pW rv'
 have ck' :c'.all AV.bX=true:=by
  have:=lF rv'
  simp only [aX,List.all_cons,List.all_append,Bool.and_eq_true] at this
  simp_all
 have fl:bN (some 8) (aX (.exp p) c') 1= .ok (.agg c'):=by
  have:takeN 8 ((aX (.exp p) c').drop 1)=some c' :=by
   cases rv'
   rfl
  simp only [bN,this]
 have c1:cont hC (h.next+1)=some pY:=(aH (ch.get _ om om)).trans ((aF gAB om).trans a1)
 have f3:Nat.beq c'.length 8=true:=by rw [cl'];rfl
 have f4:cI 0 c' pY=some c' :=pU _ _ (by rw [cl'];rfl)
 have p2:takeN 8 c' =some c' :=by rw [←cl'];exact aW c'
 obtain ⟨hD,hDe⟩:∃x,x=hC.set (h.next+1) (.cells c'):=⟨_,rfl⟩
 have cD:cont hD (h.next+1)=some c' :=by rw [hDe];exact aG om
 have oD:∀i,i<h.next→hD.get i=hC.get i:=fun i hi=>by rw [hDe,aE _ _ _ _ om om]
 refine ⟨hD,c',Ev.call H.f91 H.o91 ⟨n1+n2,fun m hm=> ?b⟩,⟨by rw [hDe];simp;omega,fun i hi hq=> ?g⟩,KC.kY fun i hi=>oD i (lt i hi),rv',cl',ck'⟩
 case g=>rw [oD i hi,ch.get i om hq,gAB.get i om,gA.get i hi]
 case b=>
  have e1' :=e1 m om
  have e2' :=e2 m om
  have kx:=KA.x_
  have kxB:=KB.x_
  simp only [pY] at hAe c1 f4
  exact SR (dI @a91.eq_1 (Eq.symm hAe) kx kxB a0 psz ceq e1' e2' fl c1 ck' f3 f4 (Eq.symm hDe) cD (cj2 p2 @ldS))
theorem Tx (H:Has fns orc) {p:qN} (C:tU fns orc (.imp p)) (hn:(Part.imp p).nodes<10000000) {c:List AV} (hv:RV (.imp p) (.agg c)) {nb fb xb:Nat} (hne:nb≠fb∧nb≠xb) {h:aD} (K:NK nb fb xb h):
  ∃h' c',Ev fns orc (.call 95 [.agg c,.ptr xb 0] .plain h) (.call (.ret (.agg c')) .plain h')∧Chg (fun i=>i=nb) h h' ∧NK nb fb xb h' ∧RV (.imp p) (.agg c')∧c'.length=6∧c'.all AV.bX=true:=by
 have cl:=yR hv
 have psz:takeN 6 c=some c:=by rw [←cl];exact aW c
 have ceq:dX (.agg c) (.agg c)=true:=AR hv
 have lt:=K.lt
 have l1:=lt nb (.inl rfl)
 have l3:=lt xb (.inr (.inr rfl))
 obtain ⟨hA,hAe⟩:∃x,x=(h.push (.cells c)).push (.cells pX):=⟨_,rfl⟩
 have gA:aP h hA:=by rw [hAe];exact gw2
 have nA:hA.next=h.next+2:=by rw [hAe];simp
 have a0:cont hA h.next=some c:=by rw [hAe];exact ctp
 have a1:cont hA (h.next+1)=some pX:=by rw [hAe];exact ctp
 have KA:NK nb fb xb hA:=K.kY fun i hi=>gA.get i (lt i hi)
 obtain ⟨hB,gAB,n1,e1⟩:=KQ H hv hA
 have nB:=gAB.next
 have KB:NK nb fb xb hB:=KA.kY fun i hi=>gAB.get i (KA.lt i hi)
 obtain ⟨hC,v',⟨n2,e2⟩,ch,KC,hv'⟩:=El H C ⟨c,hv,rfl⟩ hn hne KB
 have nC:=ch.next
 have hv2:=hv'
 obtain ⟨c',rv',rfl⟩:=hv2
 have cl' :=yR rv'
 have ck' :c'.all AV.bX=true:=by
  have:=lF rv'
  simp only [aX,List.all_cons,List.all_append,Bool.and_eq_true] at this
  simp_all
 have fl:bN (some 6) (aX (.imp p) c') 21= .ok (.agg c'):=by
  have:takeN 6 ((aX (.imp p) c').drop 21)=some c' :=by
   cases rv'
   rfl
  simp only [bN,this]
 have c1:cont hC (h.next+1)=some pX:=(aH (ch.get _ om om)).trans ((aF gAB om).trans a1)
 have f3:Nat.beq c'.length 6=true:=by rw [cl'];rfl
 have f4:cI 0 c' pX=some c' :=pU _ _ (by rw [cl'];rfl)
 have p2:takeN 6 c' =some c' :=by rw [←cl'];exact aW c'
 obtain ⟨hD,hDe⟩:∃x,x=hC.set (h.next+1) (.cells c'):=⟨_,rfl⟩
 have cD:cont hD (h.next+1)=some c' :=by rw [hDe];exact aG om
 have oD:∀i,i<h.next→hD.get i=hC.get i:=fun i hi=>by rw [hDe,aE _ _ _ _ om om]
 refine ⟨hD,c',Ev.call H.f95 H.o95 ⟨n1+n2,fun m hm=> ?b⟩,⟨by rw [hDe];simp;omega,fun i hi hq=> ?g⟩,KC.kY fun i hi=>oD i (lt i hi),rv',cl',ck'⟩
 case g=>rw [oD i hi,ch.get i om hq,gAB.get i om,gA.get i hi]
 case b=>
  have e1' :=e1 m om
  have e2' :=e2 m om
  have kx:=KA.x_
  have kxB:=KB.x_
  simp only [pX] at hAe c1 f4
  exact SR (dI @a95.eq_1 (Eq.symm hAe) kx kxB a0 psz ceq e1' e2' fl c1 ck' f3 f4 (Eq.symm hDe) cD (cj2 p2 @ldS))
theorem QM (H:Has fns orc) {p:pD} (C:tU fns orc (.desc p)) (hn:(Part.desc p).nodes<10000000) {c:List AV} (hv:RV (.desc p) (.agg c)) {nb fb xb:Nat} (hne:nb≠fb∧nb≠xb) {h:aD} (K:NK nb fb xb h):
  ∃h' c',Ev fns orc (.call 99 [.agg c,.ptr xb 0] .plain h) (.call (.ret (.agg c')) .plain h')∧Chg (fun i=>i=nb) h h' ∧NK nb fb xb h' ∧RV (.desc p) (.agg c')∧c'.length=7∧c'.all AV.bX=true:=by
 have cl:=kW hv
 have psz:takeN 7 c=some c:=by rw [←cl];exact aW c
 have ceq:dX (.agg c) (.agg c)=true:=AR hv
 have lt:=K.lt
 have l1:=lt nb (.inl rfl)
 have l3:=lt xb (.inr (.inr rfl))
 obtain ⟨hA,hAe⟩:∃x,x=(h.push (.cells c)).push (.cells kD):=⟨_,rfl⟩
 have gA:aP h hA:=by rw [hAe];exact gw2
 have nA:hA.next=h.next+2:=by rw [hAe];simp
 have a0:cont hA h.next=some c:=by rw [hAe];exact ctp
 have a1:cont hA (h.next+1)=some kD:=by rw [hAe];exact ctp
 have KA:NK nb fb xb hA:=K.kY fun i hi=>gA.get i (lt i hi)
 obtain ⟨hB,gAB,n1,e1⟩:=Bl H hv hA
 have nB:=gAB.next
 have KB:NK nb fb xb hB:=KA.kY fun i hi=>gAB.get i (KA.lt i hi)
 obtain ⟨hC,v',⟨n2,e2⟩,ch,KC,hv'⟩:=El H C ⟨c,hv,rfl⟩ hn hne KB
 have nC:=ch.next
 have hv2:=hv'
 obtain ⟨c',rv',rfl⟩:=hv2
 have cl' :=kW rv'
 have ck' :c'.all AV.bX=true:=by
  have:=lF rv'
  simp only [aX,List.all_cons,List.all_append,Bool.and_eq_true] at this
  simp_all
 have fl:bN (some 7) (aX (.desc p) c') 9= .ok (.agg c'):=by
  have:takeN 7 ((aX (.desc p) c').drop 9)=some c' :=by
   cases rv'
   rfl
  simp only [bN,this]
 have c1:cont hC (h.next+1)=some kD:=(aH (ch.get _ om om)).trans ((aF gAB om).trans a1)
 have f3:Nat.beq c'.length 7=true:=by rw [cl'];rfl
 have f4:cI 0 c' kD=some c' :=pU _ _ (by rw [cl'];rfl)
 have p2:takeN 7 c' =some c' :=by rw [←cl'];exact aW c'
 obtain ⟨hD,hDe⟩:∃x,x=hC.set (h.next+1) (.cells c'):=⟨_,rfl⟩
 have cD:cont hD (h.next+1)=some c' :=by rw [hDe];exact aG om
 have oD:∀i,i<h.next→hD.get i=hC.get i:=fun i hi=>by rw [hDe,aE _ _ _ _ om om]
 refine ⟨hD,c',Ev.call H.f99 H.o99 ⟨n1+n2,fun m hm=> ?b⟩,⟨by rw [hDe];simp;omega,fun i hi hq=> ?g⟩,KC.kY fun i hi=>oD i (lt i hi),rv',cl',ck'⟩
 case g=>rw [oD i hi,ch.get i om hq,gAB.get i om,gA.get i hi]
 case b=>
  have e1' :=e1 m om
  have e2' :=e2 m om
  have kx:=KA.x_
  have kxB:=KB.x_
  simp only [kD] at hAe c1 f4
  exact SR (dI @a99.eq_1 (Eq.symm hAe) kx kxB a0 psz ceq e1' e2' fl c1 ck' f3 f4 (Eq.symm hDe) cD (cj2 p2 @ldS))
theorem QN (H:Has fns orc) {p:kV} (C:tU fns orc (.decl p)) (hn:(Part.decl p).nodes<10000000) {c:List AV} (hv:RV (.decl p) (.agg c)) {nb fb xb:Nat} (hne:nb≠fb∧nb≠xb) {h:aD} (K:NK nb fb xb h):
  ∃h' c',Ev fns orc (.call 101 [.agg c,.ptr xb 0] .plain h) (.call (.ret (.agg c')) .plain h')∧Chg (fun i=>i=nb) h h' ∧NK nb fb xb h' ∧RV (.decl p) (.agg c')∧c'.length=5∧c'.all AV.bX=true:=by
 have cl:=pG hv
 have psz:takeN 5 c=some c:=by rw [←cl];exact aW c
 have ceq:dX (.agg c) (.agg c)=true:=AR hv
 have lt:=K.lt
 have l1:=lt nb (.inl rfl)
 have l3:=lt xb (.inr (.inr rfl))
 obtain ⟨hA,hAe⟩:∃x,x=(h.push (.cells c)).push (.cells kF):=⟨_,rfl⟩
 have gA:aP h hA:=by rw [hAe];exact gw2
 have nA:hA.next=h.next+2:=by rw [hAe];simp
 have a0:cont hA h.next=some c:=by rw [hAe];exact ctp
 have a1:cont hA (h.next+1)=some kF:=by rw [hAe];exact ctp
 have KA:NK nb fb xb hA:=K.kY fun i hi=>gA.get i (lt i hi)
 obtain ⟨hB,gAB,n1,e1⟩:=Io H hv hA
 have nB:=gAB.next
 have KB:NK nb fb xb hB:=KA.kY fun i hi=>gAB.get i (KA.lt i hi)
 obtain ⟨hC,v',⟨n2,e2⟩,ch,KC,hv'⟩:=El H C ⟨c,hv,rfl⟩ hn hne KB
 have nC:=ch.next
 have hv2:=hv'
 obtain ⟨c',rv',rfl⟩:=hv2
 have cl' :=pG rv'
 have ck' :c'.all AV.bX=true:=by
  have:=lF rv'
  simp only [aX,List.all_cons,List.all_append,Bool.and_eq_true] at this
  simp_all
 have fl:bN (some 5) (aX (.decl p) c') 16= .ok (.agg c'):=by
  have:takeN 5 ((aX (.decl p) c').drop 16)=some c' :=by
   cases rv'
   rfl
  simp only [bN,this]
 have c1:cont hC (h.next+1)=some kF:=(aH (ch.get _ om om)).trans ((aF gAB om).trans a1)
 have f3:Nat.beq c'.length 5=true:=by rw [cl'];rfl
 have f4:cI 0 c' kF=some c' :=pU _ _ (by rw [cl'];rfl)
 have p2:takeN 5 c' =some c' :=by rw [←cl'];exact aW c'
 obtain ⟨hD,hDe⟩:∃x,x=hC.set (h.next+1) (.cells c'):=⟨_,rfl⟩
 have cD:cont hD (h.next+1)=some c' :=by rw [hDe];exact aG om
 have oD:∀i,i<h.next→hD.get i=hC.get i:=fun i hi=>by rw [hDe,aE _ _ _ _ om om]
 refine ⟨hD,c',Ev.call H.f101 H.o101 ⟨n1+n2,fun m hm=> ?b⟩,⟨by rw [hDe];simp;omega,fun i hi hq=> ?g⟩,KC.kY fun i hi=>oD i (lt i hi),rv',cl',ck'⟩
 case g=>rw [oD i hi,ch.get i om hq,gAB.get i om,gA.get i hi]
 case b=>
  have e1' :=e1 m om
  have e2' :=e2 m om
  have kx:=KA.x_
  have kxB:=KB.x_
  simp only [kF] at hAe c1 f4
  exact SR (dI @a101.eq_1 (Eq.symm hAe) kx kxB a0 psz ceq e1' e2' fl c1 ck' f3 f4 (Eq.symm hDe) cD (cj2 p2 @ldS))
theorem QO (H:Has fns orc) {p:vK} (C:tU fns orc (.case p)) (hn:(Part.case p).nodes<10000000) {c:List AV} (hv:RV (.case p) (.agg c)) {nb fb xb:Nat} (hne:nb≠fb∧nb≠xb) {h:aD} (K:NK nb fb xb h):
  ∃h' c',Ev fns orc (.call 105 [.agg c,.ptr xb 0] .plain h) (.call (.ret (.agg c')) .plain h')∧Chg (fun i=>i=nb) h h' ∧NK nb fb xb h' ∧RV (.case p) (.agg c')∧c'.length=2∧c'.all AV.bX=true:=by
 have cl:=xL hv
 have psz:takeN 2 c=some c:=by rw [←cl];exact aW c
 have ceq:dX (.agg c) (.agg c)=true:=AR hv
 have lt:=K.lt
 have l1:=lt nb (.inl rfl)
 have l3:=lt xb (.inr (.inr rfl))
 obtain ⟨hA,hAe⟩:∃x,x=(h.push (.cells c)).push (.cells lG):=⟨_,rfl⟩
 have gA:aP h hA:=by rw [hAe];exact gw2
 have nA:hA.next=h.next+2:=by rw [hAe];simp
 have a0:cont hA h.next=some c:=by rw [hAe];exact ctp
 have a1:cont hA (h.next+1)=some lG:=by rw [hAe];exact ctp
 have KA:NK nb fb xb hA:=K.kY fun i hi=>gA.get i (lt i hi)
 obtain ⟨hB,gAB,n1,e1⟩:=Ip H hv hA
 have nB:=gAB.next
 have KB:NK nb fb xb hB:=KA.kY fun i hi=>gAB.get i (KA.lt i hi)
 obtain ⟨hC,v',⟨n2,e2⟩,ch,KC,hv'⟩:=El H C ⟨c,hv,rfl⟩ hn hne KB
 have nC:=ch.next
 have hv2:=hv'
 obtain ⟨c',rv',rfl⟩:=hv2
 have cl' :=xL rv'
 have ck' :c'.all AV.bX=true:=by
  have:=lF rv'
  simp only [aX,List.all_cons,List.all_append,Bool.and_eq_true] at this
  simp_all
 have fl:bN (some 2) (aX (.case p) c') 27= .ok (.agg c'):=by
  have:takeN 2 ((aX (.case p) c').drop 27)=some c' :=by
   cases rv'
   rfl
  simp only [bN,this]
 have c1:cont hC (h.next+1)=some lG:=(aH (ch.get _ om om)).trans ((aF gAB om).trans a1)
 have f3:Nat.beq c'.length 2=true:=by rw [cl'];rfl
 have f4:cI 0 c' lG=some c' :=pU _ _ (by rw [cl'];rfl)
 have p2:takeN 2 c' =some c' :=by rw [←cl'];exact aW c'
 obtain ⟨hD,hDe⟩:∃x,x=hC.set (h.next+1) (.cells c'):=⟨_,rfl⟩
 have cD:cont hD (h.next+1)=some c' :=by rw [hDe];exact aG om
 have oD:∀i,i<h.next→hD.get i=hC.get i:=fun i hi=>by rw [hDe,aE _ _ _ _ om om]
 refine ⟨hD,c',Ev.call H.f105 H.o105 ⟨n1+n2,fun m hm=> ?b⟩,⟨by rw [hDe];simp;omega,fun i hi hq=> ?g⟩,KC.kY fun i hi=>oD i (lt i hi),rv',cl',ck'⟩
 case g=>rw [oD i hi,ch.get i om hq,gAB.get i om,gA.get i hi]
 case b=>
  have e1' :=e1 m om
  have e2' :=e2 m om
  have kx:=KA.x_
  have kxB:=KB.x_
  simp only [lG] at hAe c1 f4
  exact SR (dI @a105.eq_1 (Eq.symm hAe) kx kxB a0 psz ceq e1' e2' fl c1 ck' f3 f4 (Eq.symm hDe) cD (cj2 p2 @ldS))
end Go.Ly
namespace Go.Ly
open Go Go.Am Go.Fs Go.Gn
variable {fns:Go.Am.F} {orc:Orc}
theorem Px (n:List (List UInt8)):Ab 1 (n.map AV.str):=fun x hx=>by obtain ⟨s,_,rfl⟩:=List.mem_map.1 hx;rfl
theorem PG (H:Has fns orc) {v:AV} {n:List (List UInt8)} (hv:iP v (n.map AV.str)) (hl:n.length<10000000) (h:aD):
  ∃h' v',aP h h' ∧(∀m,2≤m→eval fns orc m (.call 103 [v] .plain h)= .ok (.call (.ret v') .plain h'))∧iP v' (n.map AV.str):=by
 generalize hxs:n.map AV.str=xs at hv
 have hw:Ab 1 xs:=hxs▸Px n
 have hln:xs.length=n.length:=by rw [←hxs,List.length_map]
 cases hv with
 |nil=>
  refine ⟨h,.aC,.refl _,fun m hm=>fW (n:=0) H.f103 H.o103 (fun m _=> ?b1) m hm,.nil⟩
  exact SX @a103.eq_1
 |sl tk xs=>
  cases xs with
  |nil=>
   refine ⟨h,.sl .full [],.refl _,fun m hm=>fW (n:=0) H.f103 H.o103 (fun m _=> ?b2) m hm,.sl _ _⟩
   exact SX (tR @a103.eq_1 @mT.eq_1 @oO.eq_1 @oO.eq_2 @oO.eq_3 @oO.eq_4 @uE.eq_1 @uE.eq_2 @uE.eq_3 @uE.eq_4)
  |cons x xs=>
   have e1:qK 1 (x::xs)=true:=B1 hw
   have e2:(Nat.ble 1 1 && qK 1 (x::xs))=true:=by rw [e1];rfl
   have e3:(Nat.ble ((([]:List AV).length+(x::xs).length)*1) lX && mR 1 [])=true:=by
    simp only [mR,Bool.and_true]
    rw [Nat.ble_eq]
    simp [lX] at hln⊢
    omega
   have ap:mT h 1 (.sl .full []) (.sl tk (x::xs))= .ok (.sl (.opn h.next (([]:List AV).length+(x::xs).length)) ([]++(x::xs)),h.push (.tok (([]:List AV).length+(x::xs).length))):=by
    simp only [mT,oO,aM,e2,wD,yN,e3]
   refine ⟨h.push (.tok (([]:List AV).length+(x::xs).length)),.sl (.opn h.next (([]:List AV).length+(x::xs).length)) ([]++(x::xs)),.push _ _,fun m hm=>fW (n:=0) H.f103 H.o103 (fun m _=> ?b3) m hm,.sl _ _⟩
   exact SX (cj2 @a103.eq_1 ap)
theorem Qc (H:Has fns orc) {l:List pO} (C:∀p∈l,tU fns orc (.exp p)∧(Part.exp p).nodes<10000000) {x:AV} (hv:RVs (l.map Part.exp) x) (hn:l.length<10000000) {nb fb xb:Nat} (hne:nb≠fb∧nb≠xb) {h:aD} (K:NK nb fb xb h):
  ∃h' v',Ev fns orc (.call 90 [x,.fn 91 [] [.ptr xb 0]] .plain h) (.call (.ret v') .plain h')∧Chg (fun i=>i=nb) h h' ∧NK nb fb xb h' ∧RVs (l.map Part.exp) v' :=
 Bn (z:=pY) (sz:=8) (M:=fun i=>i=nb∨i=fb∨i=xb) H.f90 H.o90 rfl rfl rfl ⟨by omega,by omega⟩ hv (by simpa using hn) (fun i q=> .inl q) (fun a b k _ q=>k.kY q) (fun a k=>k.lt) (fun p hp c rv=>by
  obtain ⟨e,he,rfl⟩:=List.mem_map.1 hp
  refine ⟨pW rv, ?_,fun h k=>Ty H (C e he).1 (C e he).2 rv hne k⟩
  have:=lF rv
  simp only [aX,List.all_cons,List.all_append,Bool.and_eq_true] at this
  simp_all) K
theorem vU (H:Has fns orc) {l:List pO} (C:∀p∈l,tU fns orc (.exp p)∧(Part.exp p).nodes<10000000) {x:AV} (hv:RVs (l.map Part.exp) x) (hn:l.length<10000000) {nb fb xb:Nat} (hne:nb≠fb∧nb≠xb) {h:aD} (K:NK nb fb xb h):
  ∃h' v',Ev fns orc (.call 89 [x,.ptr xb 0] .plain h) (.call (.ret v') .plain h')∧Chg (fun i=>i=nb) h h' ∧NK nb fb xb h' ∧RVs (l.map Part.exp) v' :=by
 obtain ⟨h',v',⟨n,e⟩,ch,K',r⟩:=Qc H C hv hn hne K
 refine ⟨h',v',Ev.call H.f89 H.o89 ⟨n,fun m hm=> ?b⟩,ch,K',r⟩
 have e' :=e m hm
 exact SX (cj2 @a89.eq_1 e')
theorem Qb (H:Has fns orc) {l:List qN} (C:∀p∈l,tU fns orc (.imp p)∧(Part.imp p).nodes<10000000) {x:AV} (hv:RVs (l.map Part.imp) x) (hn:l.length<10000000) {nb fb xb:Nat} (hne:nb≠fb∧nb≠xb) {h:aD} (K:NK nb fb xb h):
  ∃h' v',Ev fns orc (.call 94 [x,.fn 95 [] [.ptr xb 0]] .plain h) (.call (.ret v') .plain h')∧Chg (fun i=>i=nb) h h' ∧NK nb fb xb h' ∧RVs (l.map Part.imp) v' :=
 Bn (z:=pX) (sz:=6) (M:=fun i=>i=nb∨i=fb∨i=xb) H.f94 H.o94 rfl rfl rfl ⟨by omega,by omega⟩ hv (by simpa using hn) (fun i q=> .inl q) (fun a b k _ q=>k.kY q) (fun a k=>k.lt) (fun p hp c rv=>by
  obtain ⟨e,he,rfl⟩:=List.mem_map.1 hp
  refine ⟨yR rv, ?_,fun h k=>Tx H (C e he).1 (C e he).2 rv hne k⟩
  have:=lF rv
  simp only [aX,List.all_cons,List.all_append,Bool.and_eq_true] at this
  simp_all) K
theorem DG (H:Has fns orc) {l:List qN} (C:∀p∈l,tU fns orc (.imp p)∧(Part.imp p).nodes<10000000) {x:AV} (hv:RVs (l.map Part.imp) x) (hn:l.length<10000000) {nb fb xb:Nat} (hne:nb≠fb∧nb≠xb) {h:aD} (K:NK nb fb xb h):
  ∃h' v',Ev fns orc (.call 93 [x,.ptr xb 0] .plain h) (.call (.ret v') .plain h')∧Chg (fun i=>i=nb) h h' ∧NK nb fb xb h' ∧RVs (l.map Part.imp) v' :=by
 obtain ⟨h',v',⟨n,e⟩,ch,K',r⟩:=Qb H C hv hn hne K
 refine ⟨h',v',Ev.call H.f93 H.o93 ⟨n,fun m hm=> ?b⟩,ch,K',r⟩
 have e' :=e m hm
 exact SX (cj2 @a93.eq_1 e')
theorem Nd (H:Has fns orc) {l:List pD} (C:∀p∈l,tU fns orc (.desc p)∧(Part.desc p).nodes<10000000) {x:AV} (hv:RVs (l.map Part.desc) x) (hn:l.length<10000000) {nb fb xb:Nat} (hne:nb≠fb∧nb≠xb) {h:aD} (K:NK nb fb xb h):
  ∃h' v',Ev fns orc (.call 98 [x,.fn 99 [] [.ptr xb 0]] .plain h) (.call (.ret v') .plain h')∧Chg (fun i=>i=nb) h h' ∧NK nb fb xb h' ∧RVs (l.map Part.desc) v' :=
 Bn (z:=kD) (sz:=7) (M:=fun i=>i=nb∨i=fb∨i=xb) H.f98 H.o98 rfl rfl rfl ⟨by omega,by omega⟩ hv (by simpa using hn) (fun i q=> .inl q) (fun a b k _ q=>k.kY q) (fun a k=>k.lt) (fun p hp c rv=>by
  obtain ⟨e,he,rfl⟩:=List.mem_map.1 hp
  refine ⟨kW rv, ?_,fun h k=>QM H (C e he).1 (C e he).2 rv hne k⟩
  have:=lF rv
  simp only [aX,List.all_cons,List.all_append,Bool.and_eq_true] at this
  simp_all) K
theorem FA (H:Has fns orc) {l:List pD} (C:∀p∈l,tU fns orc (.desc p)∧(Part.desc p).nodes<10000000) {x:AV} (hv:RVs (l.map Part.desc) x) (hn:l.length<10000000) {nb fb xb:Nat} (hne:nb≠fb∧nb≠xb) {h:aD} (K:NK nb fb xb h):
  ∃h' v',Ev fns orc (.call 97 [x,.ptr xb 0] .plain h) (.call (.ret v') .plain h')∧Chg (fun i=>i=nb) h h' ∧NK nb fb xb h' ∧RVs (l.map Part.desc) v' :=by
 obtain ⟨h',v',⟨n,e⟩,ch,K',r⟩:=Nd H C hv hn hne K
 refine ⟨h',v',Ev.call H.f97 H.o97 ⟨n,fun m hm=> ?b⟩,ch,K',r⟩
 have e' :=e m hm
 exact SX (cj2 @a97.eq_1 e')
theorem Nf (H:Has fns orc) {l:List kV} (C:∀p∈l,tU fns orc (.decl p)∧(Part.decl p).nodes<10000000) {x:AV} (hv:RVs (l.map Part.decl) x) (hn:l.length<10000000) {nb fb xb:Nat} (hne:nb≠fb∧nb≠xb) {h:aD} (K:NK nb fb xb h):
  ∃h' v',Ev fns orc (.call 100 [x,.fn 101 [] [.ptr xb 0]] .plain h) (.call (.ret v') .plain h')∧Chg (fun i=>i=nb) h h' ∧NK nb fb xb h' ∧RVs (l.map Part.decl) v' :=
 Bn (z:=kF) (sz:=5) (M:=fun i=>i=nb∨i=fb∨i=xb) H.f100 H.o100 rfl rfl rfl ⟨by omega,by omega⟩ hv (by simpa using hn) (fun i q=> .inl q) (fun a b k _ q=>k.kY q) (fun a k=>k.lt) (fun p hp c rv=>by
  obtain ⟨e,he,rfl⟩:=List.mem_map.1 hp
  refine ⟨pG rv, ?_,fun h k=>QN H (C e he).1 (C e he).2 rv hne k⟩
  have:=lF rv
  simp only [aX,List.all_cons,List.all_append,Bool.and_eq_true] at this
  simp_all) K
theorem Ng (H:Has fns orc) {l:List vK} (C:∀p∈l,tU fns orc (.case p)∧(Part.case p).nodes<10000000) {x:AV} (hv:RVs (l.map Part.case) x) (hn:l.length<10000000) {nb fb xb:Nat} (hne:nb≠fb∧nb≠xb) {h:aD} (K:NK nb fb xb h):
  ∃h' v',Ev fns orc (.call 104 [x,.fn 105 [] [.ptr xb 0]] .plain h) (.call (.ret v') .plain h')∧Chg (fun i=>i=nb) h h' ∧NK nb fb xb h' ∧RVs (l.map Part.case) v' :=
 Bn (z:=lG) (sz:=2) (M:=fun i=>i=nb∨i=fb∨i=xb) H.f104 H.o104 rfl rfl rfl ⟨by omega,by omega⟩ hv (by simpa using hn) (fun i q=> .inl q) (fun a b k _ q=>k.kY q) (fun a k=>k.lt) (fun p hp c rv=>by
  obtain ⟨e,he,rfl⟩:=List.mem_map.1 hp
  refine ⟨xL rv, ?_,fun h k=>QO H (C e he).1 (C e he).2 rv hne k⟩
  have:=lF rv
  simp only [aX,List.all_cons,List.all_append,Bool.and_eq_true] at this
  simp_all) K
theorem yK (h:aD) {pc:List AV} (hl:pc.length=29):∃hA,hA=((((h.push (.cells pc)).push (.cells [.fn 76 [] []])).push (.cells z29)).push (.cells [.int .i64 0])).set (h.next+3) (.cells [.int .i64 0])∧
  ∃hB,hB=(hA.push (.cells [.rM])).set (h.next+4) (.cells [.fn 88 [] [.ptr (h.next+3) 0,.ptr (h.next+1) 0]])∧aP h hB∧hA.next=h.next+4∧hB.next=h.next+5∧cont hB h.next=some pc∧cont hB (h.next+2)=some z29∧NK (h.next+3) (h.next+1) (h.next+4) hB:=by
 refine ⟨_,rfl,_,rfl,by exact gw2,by simp,by simp, ?_, ?_,⟨0, ?_⟩, ?_, ?_⟩<;>simp (disch:=(first|omega|(simp only [aD.aJ,aD.aL];try omega)|skip)) only [aG,aK,aR,dB,aD.aJ,aD.aL]
def BA (fns:Go.Am.F) (orc:Orc) (p:Part):Prop:=∀v,RP p v→p.nodes<10000000→∀h:aD,∃h' v',aP h h' ∧Ev fns orc (.call 75 [v,.fn 76 [] []] .plain h) (.call (.ret v') .plain h')∧RP p v'
theorem NQ (H:Has fns orc) (q0:pO) (ih:∀q∈(Part.exp q0).kids,tU fns orc q):BA fns orc (.exp q0):=by
 intro v hv hn h
 obtain ⟨c,hr,rfl⟩:=hv
 have hkl:=uR (.exp q0)
 have hkn:=fun q (hq:q∈(Part.exp q0).kids)=>tW hq
 have hpl:=jD hr
 obtain ⟨hA,hAe,hB,hBe,gB,nA,nB,cB,rB,KB⟩:=yK h hpl
 rw [vR] at hAe
 have hne:h.next+3≠h.next+1∧h.next+3≠h.next+4:=⟨by omega,by omega⟩
 cases hr with
 | @exp k op n man ex t a d va vd h1 h2=>
  simp only [aX,pY,kD,kF,pX,lG,List.cons_append,List.nil_append] at cB hAe
  simp only [Part.kids,List.length_append,List.length_map] at hkl
  obtain ⟨h0x,w0,⟨m0,e0⟩,ch0,K0,rv0⟩:=vU H (l:=a) (fun q hq=>by
   have:Part.exp q∈(Part.exp (.mk k op n man ex t a d)).kids:=by
    simp only [Part.kids,List.mem_append,List.mem_map]
    simp [hq]
   exact ⟨ih _ this,by have:=hkn _ this;omega⟩) h1 om hne KB
  have s0:=aS rv0
  have t0:=jX rv0
  have nx0:=ch0.next
  have lt0:=K0.lt
  have c0x:cont h0x h.next=some [.int .i64 1,.int .i64 k,.int .i64 op,.int .i64 n,.int .i64 man,.int .i64 ex,.str t,va,vd,.str [],.aC,.aC,.aC,.bool false,.aC,.aC,.int .i64 0,.aC,.aC,.aC,.aC,.int .i64 0,.str [],.aC,.aC,.bool false,.aC,.aC,.aC]:=(aH (ch0.get _ om om)).trans cB
  have r0x:cont h0x (h.next+2)=some z29:=(aH (ch0.get _ om om)).trans rB
  obtain ⟨g0x,Ar⟩:∃x,x=h0x.set h.next (.cells [.int .i64 1,.int .i64 k,.int .i64 op,.int .i64 n,.int .i64 man,.int .i64 ex,.str t,w0,vd,.str [],.aC,.aC,.aC,.bool false,.aC,.aC,.int .i64 0,.aC,.aC,.aC,.aC,.int .i64 0,.str [],.aC,.aC,.bool false,.aC,.aC,.aC]):=⟨_,rfl⟩
  have n0g:h.next+5≤g0x.next:=by rw [Ar];simp;omega
  have o0g:∀i,i≠h.next→g0x.get i=h0x.get i:=fun i hi=>by rw [Ar];exact aE _ _ _ _ om hi
  have c0g:cont g0x h.next=some [.int .i64 1,.int .i64 k,.int .i64 op,.int .i64 n,.int .i64 man,.int .i64 ex,.str t,w0,vd,.str [],.aC,.aC,.aC,.bool false,.aC,.aC,.int .i64 0,.aC,.aC,.aC,.aC,.int .i64 0,.str [],.aC,.aC,.bool false,.aC,.aC,.aC]:=by rw [Ar];exact aG om
  have r0g:cont g0x (h.next+2)=some z29:=(aH (o0g _ om)).trans r0x
  have K0g:NK (h.next+3) (h.next+1) (h.next+4) g0x:=K0.kY fun i hi=>o0g i om
  have G0g:aP h g0x:=⟨by omega,fun i hi=>(o0g i om).trans ((ch0.get i om om).trans (gB.get i hi))⟩
  obtain ⟨h1x,w1,⟨m1,e1⟩,ch1,K1,rv1⟩:=FA H (l:=d) (fun q hq=>by
   have:Part.desc q∈(Part.exp (.mk k op n man ex t a d)).kids:=by
    simp only [Part.kids,List.mem_append,List.mem_map]
    simp [hq]
   exact ⟨ih _ this,by have:=hkn _ this;omega⟩) h2 om hne K0g
  have s1:=aS rv1
  have t1:=jX rv1
  have nx1:=ch1.next
  have lt1:=K1.lt
  have c1x:cont h1x h.next=some [.int .i64 1,.int .i64 k,.int .i64 op,.int .i64 n,.int .i64 man,.int .i64 ex,.str t,w0,vd,.str [],.aC,.aC,.aC,.bool false,.aC,.aC,.int .i64 0,.aC,.aC,.aC,.aC,.int .i64 0,.str [],.aC,.aC,.bool false,.aC,.aC,.aC]:=(aH (ch1.get _ om om)).trans c0g
  have r1x:cont h1x (h.next+2)=some z29:=(aH (ch1.get _ om om)).trans r0g
  obtain ⟨g1x,Aq⟩:∃x,x=h1x.set h.next (.cells [.int .i64 1,.int .i64 k,.int .i64 op,.int .i64 n,.int .i64 man,.int .i64 ex,.str t,w0,w1,.str [],.aC,.aC,.aC,.bool false,.aC,.aC,.int .i64 0,.aC,.aC,.aC,.aC,.int .i64 0,.str [],.aC,.aC,.bool false,.aC,.aC,.aC]):=⟨_,rfl⟩
  have n1g:h.next+5≤g1x.next:=by rw [Aq];simp;omega
  have o1g:∀i,i≠h.next→g1x.get i=h1x.get i:=fun i hi=>by rw [Aq];exact aE _ _ _ _ om hi
  have c1g:cont g1x h.next=some [.int .i64 1,.int .i64 k,.int .i64 op,.int .i64 n,.int .i64 man,.int .i64 ex,.str t,w0,w1,.str [],.aC,.aC,.aC,.bool false,.aC,.aC,.int .i64 0,.aC,.aC,.aC,.aC,.int .i64 0,.str [],.aC,.aC,.bool false,.aC,.aC,.aC]:=by rw [Aq];exact aG om
  have r1g:cont g1x (h.next+2)=some z29:=(aH (o1g _ om)).trans r1x
  have K1g:NK (h.next+3) (h.next+1) (h.next+4) g1x:=K1.kY fun i hi=>o1g i om
  have G1g:aP h g1x:=⟨by omega,fun i hi=>(o1g i om).trans ((ch1.get i om om).trans (G0g.get i hi))⟩
  rw [vR] at r1g
  obtain ⟨hE,hEe⟩:∃x,x=g1x.set (h.next+2) (.cells [.int .i64 1,.int .i64 k,.int .i64 op,.int .i64 n,.int .i64 man,.int .i64 ex,.str t,w0,w1,.str [],.aC,.aC,.aC,.bool false,.aC,.aC,.int .i64 0,.aC,.aC,.aC,.aC,.int .i64 0,.str [],.aC,.aC,.bool false,.aC,.aC,.aC]):=⟨_,rfl⟩
  have cE:cont hE (h.next+2)=some [.int .i64 1,.int .i64 k,.int .i64 op,.int .i64 n,.int .i64 man,.int .i64 ex,.str t,w0,w1,.str [],.aC,.aC,.aC,.bool false,.aC,.aC,.int .i64 0,.aC,.aC,.aC,.aC,.int .i64 0,.str [],.aC,.aC,.bool false,.aC,.aC,.aC]:=by rw [hEe];exact aG om
  refine ⟨hE,.agg [.int .i64 1,.int .i64 k,.int .i64 op,.int .i64 n,.int .i64 man,.int .i64 ex,.str t,w0,w1,.str [],.aC,.aC,.aC,.bool false,.aC,.aC,.int .i64 0,.aC,.aC,.aC,.aC,.int .i64 0,.str [],.aC,.aC,.bool false,.aC,.aC,.aC],⟨by rw [hEe];simp;omega,fun i hi=>by rw [hEe,aE _ _ _ _ om om];exact G1g.get i hi⟩,Ev.call H.f75 H.o75 ⟨m0+m1+2,fun m hm=> ?b⟩,⟨[.int .i64 k,.int .i64 op,.int .i64 n,.int .i64 man,.int .i64 ex,.str t,w0,w1],.exp rv0 rv1,rfl⟩⟩
  have e0' :=e0 m om
  have e1' :=e1 m om
  exact SC (dI @a75.eq_1 @aX.eq_1 @aX.eq_2 @aX.eq_3 @aX.eq_4 @aX.eq_5 @pY.eq_1 @kD.eq_1 @kF.eq_1 @pX.eq_1 @lG.eq_1 (Eq.symm hAe) nA (Eq.symm hBe) cB c0x (zZ (Eq.symm Ar) c0g s0 t0 c1x (Eq.symm Aq) c1g s1 t1 e0' e1' r1g (Eq.symm hEe) cE))
theorem LW (H:Has fns orc) (q0:pD) (ih:∀q∈(Part.desc q0).kids,tU fns orc q):BA fns orc (.desc q0):=by
 intro v hv hn h
 obtain ⟨c,hr,rfl⟩:=hv
 have hkl:=uR (.desc q0)
 have hkn:=fun q (hq:q∈(Part.desc q0).kids)=>tW hq
 have hpl:=jD hr
 obtain ⟨hA,hAe,hB,hBe,gB,nA,nB,cB,rB,KB⟩:=yK h hpl
 rw [vR] at hAe
 have hne:h.next+3≠h.next+1∧h.next+3≠h.next+4:=⟨by omega,by omega⟩
 cases hr with
 | @desc s p d e b i x vp vd ve vi vx h1 h2 h3 h4 h5=>
  simp only [aX,pY,kD,kF,pX,lG,List.cons_append,List.nil_append] at cB hAe
  simp only [Part.kids,List.length_append,List.length_map] at hkl
  obtain ⟨h0x,w0,⟨m0,e0⟩,ch0,K0,rv0⟩:=vU H (l:=p) (fun q hq=>by
   have:Part.exp q∈(Part.desc (.mk s p d e b i x)).kids:=by
    simp only [Part.kids,List.mem_append,List.mem_map]
    simp [hq]
   exact ⟨ih _ this,by have:=hkn _ this;omega⟩) h1 om hne KB
  have s0:=aS rv0
  have t0:=jX rv0
  have nx0:=ch0.next
  have lt0:=K0.lt
  have c0x:cont h0x h.next=some [.int .i64 2,.int .i64 0,.int .i64 0,.int .i64 0,.int .i64 0,.int .i64 0,.str [],.aC,.aC,.str s,vp,vd,ve,.bool b,vi,vx,.int .i64 0,.aC,.aC,.aC,.aC,.int .i64 0,.str [],.aC,.aC,.bool false,.aC,.aC,.aC]:=(aH (ch0.get _ om om)).trans cB
  have r0x:cont h0x (h.next+2)=some z29:=(aH (ch0.get _ om om)).trans rB
  obtain ⟨g0x,Ar⟩:∃x,x=h0x.set h.next (.cells [.int .i64 2,.int .i64 0,.int .i64 0,.int .i64 0,.int .i64 0,.int .i64 0,.str [],.aC,.aC,.str s,w0,vd,ve,.bool b,vi,vx,.int .i64 0,.aC,.aC,.aC,.aC,.int .i64 0,.str [],.aC,.aC,.bool false,.aC,.aC,.aC]):=⟨_,rfl⟩
  have n0g:h.next+5≤g0x.next:=by rw [Ar];simp;omega
  have o0g:∀i,i≠h.next→g0x.get i=h0x.get i:=fun i hi=>by rw [Ar];exact aE _ _ _ _ om hi
  have c0g:cont g0x h.next=some [.int .i64 2,.int .i64 0,.int .i64 0,.int .i64 0,.int .i64 0,.int .i64 0,.str [],.aC,.aC,.str s,w0,vd,ve,.bool b,vi,vx,.int .i64 0,.aC,.aC,.aC,.aC,.int .i64 0,.str [],.aC,.aC,.bool false,.aC,.aC,.aC]:=by rw [Ar];exact aG om
  have r0g:cont g0x (h.next+2)=some z29:=(aH (o0g _ om)).trans r0x
  have K0g:NK (h.next+3) (h.next+1) (h.next+4) g0x:=K0.kY fun i hi=>o0g i om
  have G0g:aP h g0x:=⟨by omega,fun i hi=>(o0g i om).trans ((ch0.get i om om).trans (gB.get i hi))⟩
  obtain ⟨h1x,w1,⟨m1,e1⟩,ch1,K1,rv1⟩:=Nf H (l:=d) (fun q hq=>by
   have:Part.decl q∈(Part.desc (.mk s p d e b i x)).kids:=by
    simp only [Part.kids,List.mem_append,List.mem_map]
    simp [hq]
   exact ⟨ih _ this,by have:=hkn _ this;omega⟩) h2 om hne K0g
  have s1:=aS rv1
  have t1:=jX rv1
  have nx1:=ch1.next
  have lt1:=K1.lt
  have c1x:cont h1x h.next=some [.int .i64 2,.int .i64 0,.int .i64 0,.int .i64 0,.int .i64 0,.int .i64 0,.str [],.aC,.aC,.str s,w0,vd,ve,.bool b,vi,vx,.int .i64 0,.aC,.aC,.aC,.aC,.int .i64 0,.str [],.aC,.aC,.bool false,.aC,.aC,.aC]:=(aH (ch1.get _ om om)).trans c0g
  have r1x:cont h1x (h.next+2)=some z29:=(aH (ch1.get _ om om)).trans r0g
  obtain ⟨g1x,Aq⟩:∃x,x=h1x.set h.next (.cells [.int .i64 2,.int .i64 0,.int .i64 0,.int .i64 0,.int .i64 0,.int .i64 0,.str [],.aC,.aC,.str s,w0,w1,ve,.bool b,vi,vx,.int .i64 0,.aC,.aC,.aC,.aC,.int .i64 0,.str [],.aC,.aC,.bool false,.aC,.aC,.aC]):=⟨_,rfl⟩
  have n1g:h.next+5≤g1x.next:=by rw [Aq];simp;omega
  have o1g:∀i,i≠h.next→g1x.get i=h1x.get i:=fun i hi=>by rw [Aq];exact aE _ _ _ _ om hi
  have c1g:cont g1x h.next=some [.int .i64 2,.int .i64 0,.int .i64 0,.int .i64 0,.int .i64 0,.int .i64 0,.str [],.aC,.aC,.str s,w0,w1,ve,.bool b,vi,vx,.int .i64 0,.aC,.aC,.aC,.aC,.int .i64 0,.str [],.aC,.aC,.bool false,.aC,.aC,.aC]:=by rw [Aq];exact aG om
  have r1g:cont g1x (h.next+2)=some z29:=(aH (o1g _ om)).trans r1x
  have K1g:NK (h.next+3) (h.next+1) (h.next+4) g1x:=K1.kY fun i hi=>o1g i om
  have G1g:aP h g1x:=⟨by omega,fun i hi=>(o1g i om).trans ((ch1.get i om om).trans (G0g.get i hi))⟩
  obtain ⟨h2x,w2,⟨m2,e2⟩,ch2,K2,rv2⟩:=vU H (l:=e) (fun q hq=>by
   have:Part.exp q∈(Part.desc (.mk s p d e b i x)).kids:=by
    simp only [Part.kids,List.mem_append,List.mem_map]
    simp [hq]
   exact ⟨ih _ this,by have:=hkn _ this;omega⟩) h3 om hne K1g
  have s2:=aS rv2
  have t2:=jX rv2
  have nx2:=ch2.next
  have lt2:=K2.lt
  have c2x:cont h2x h.next=some [.int .i64 2,.int .i64 0,.int .i64 0,.int .i64 0,.int .i64 0,.int .i64 0,.str [],.aC,.aC,.str s,w0,w1,ve,.bool b,vi,vx,.int .i64 0,.aC,.aC,.aC,.aC,.int .i64 0,.str [],.aC,.aC,.bool false,.aC,.aC,.aC]:=(aH (ch2.get _ om om)).trans c1g
  have r2x:cont h2x (h.next+2)=some z29:=(aH (ch2.get _ om om)).trans r1g
  obtain ⟨g2x,Ew⟩:∃x,x=h2x.set h.next (.cells [.int .i64 2,.int .i64 0,.int .i64 0,.int .i64 0,.int .i64 0,.int .i64 0,.str [],.aC,.aC,.str s,w0,w1,w2,.bool b,vi,vx,.int .i64 0,.aC,.aC,.aC,.aC,.int .i64 0,.str [],.aC,.aC,.bool false,.aC,.aC,.aC]):=⟨_,rfl⟩
  have n2g:h.next+5≤g2x.next:=by rw [Ew];simp;omega
  have o2g:∀i,i≠h.next→g2x.get i=h2x.get i:=fun i hi=>by rw [Ew];exact aE _ _ _ _ om hi
  have c2g:cont g2x h.next=some [.int .i64 2,.int .i64 0,.int .i64 0,.int .i64 0,.int .i64 0,.int .i64 0,.str [],.aC,.aC,.str s,w0,w1,w2,.bool b,vi,vx,.int .i64 0,.aC,.aC,.aC,.aC,.int .i64 0,.str [],.aC,.aC,.bool false,.aC,.aC,.aC]:=by rw [Ew];exact aG om
  have r2g:cont g2x (h.next+2)=some z29:=(aH (o2g _ om)).trans r2x
  have K2g:NK (h.next+3) (h.next+1) (h.next+4) g2x:=K2.kY fun i hi=>o2g i om
  have G2g:aP h g2x:=⟨by omega,fun i hi=>(o2g i om).trans ((ch2.get i om om).trans (G1g.get i hi))⟩
  obtain ⟨h3x,w3,⟨m3,e3⟩,ch3,K3,rv3⟩:=DG H (l:=i) (fun q hq=>by
   have:Part.imp q∈(Part.desc (.mk s p d e b i x)).kids:=by
    simp only [Part.kids,List.mem_append,List.mem_map]
    simp [hq]
   exact ⟨ih _ this,by have:=hkn _ this;omega⟩) h4 om hne K2g
  have s3:=aS rv3
  have t3:=jX rv3
  have nx3:=ch3.next
  have lt3:=K3.lt
  have c3x:cont h3x h.next=some [.int .i64 2,.int .i64 0,.int .i64 0,.int .i64 0,.int .i64 0,.int .i64 0,.str [],.aC,.aC,.str s,w0,w1,w2,.bool b,vi,vx,.int .i64 0,.aC,.aC,.aC,.aC,.int .i64 0,.str [],.aC,.aC,.bool false,.aC,.aC,.aC]:=(aH (ch3.get _ om om)).trans c2g
  have r3x:cont h3x (h.next+2)=some z29:=(aH (ch3.get _ om om)).trans r2g
  obtain ⟨g3x,Jz⟩:∃x,x=h3x.set h.next (.cells [.int .i64 2,.int .i64 0,.int .i64 0,.int .i64 0,.int .i64 0,.int .i64 0,.str [],.aC,.aC,.str s,w0,w1,w2,.bool b,w3,vx,.int .i64 0,.aC,.aC,.aC,.aC,.int .i64 0,.str [],.aC,.aC,.bool false,.aC,.aC,.aC]):=⟨_,rfl⟩
  have n3g:h.next+5≤g3x.next:=by rw [Jz];simp;omega
  have o3g:∀i,i≠h.next→g3x.get i=h3x.get i:=fun i hi=>by rw [Jz];exact aE _ _ _ _ om hi
  have c3g:cont g3x h.next=some [.int .i64 2,.int .i64 0,.int .i64 0,.int .i64 0,.int .i64 0,.int .i64 0,.str [],.aC,.aC,.str s,w0,w1,w2,.bool b,w3,vx,.int .i64 0,.aC,.aC,.aC,.aC,.int .i64 0,.str [],.aC,.aC,.bool false,.aC,.aC,.aC]:=by rw [Jz];exact aG om
  have r3g:cont g3x (h.next+2)=some z29:=(aH (o3g _ om)).trans r3x
  have K3g:NK (h.next+3) (h.next+1) (h.next+4) g3x:=K3.kY fun i hi=>o3g i om
  have G3g:aP h g3x:=⟨by omega,fun i hi=>(o3g i om).trans ((ch3.get i om om).trans (G2g.get i hi))⟩
  obtain ⟨h4x,w4,⟨m4,e4⟩,ch4,K4,rv4⟩:=vU H (l:=x) (fun q hq=>by
   have:Part.exp q∈(Part.desc (.mk s p d e b i x)).kids:=by
    simp only [Part.kids,List.mem_append,List.mem_map]
    simp [hq]
   exact ⟨ih _ this,by have:=hkn _ this;omega⟩) h5 om hne K3g
  have s4:=aS rv4
  have t4:=jX rv4
  have nx4:=ch4.next
  have lt4:=K4.lt
  have c4x:cont h4x h.next=some [.int .i64 2,.int .i64 0,.int .i64 0,.int .i64 0,.int .i64 0,.int .i64 0,.str [],.aC,.aC,.str s,w0,w1,w2,.bool b,w3,vx,.int .i64 0,.aC,.aC,.aC,.aC,.int .i64 0,.str [],.aC,.aC,.bool false,.aC,.aC,.aC]:=(aH (ch4.get _ om om)).trans c3g
  have r4x:cont h4x (h.next+2)=some z29:=(aH (ch4.get _ om om)).trans r3g
  obtain ⟨g4x,Vo⟩:∃x,x=h4x.set h.next (.cells [.int .i64 2,.int .i64 0,.int .i64 0,.int .i64 0,.int .i64 0,.int .i64 0,.str [],.aC,.aC,.str s,w0,w1,w2,.bool b,w3,w4,.int .i64 0,.aC,.aC,.aC,.aC,.int .i64 0,.str [],.aC,.aC,.bool false,.aC,.aC,.aC]):=⟨_,rfl⟩
  have n4g:h.next+5≤g4x.next:=by rw [Vo];simp;omega
  have o4g:∀i,i≠h.next→g4x.get i=h4x.get i:=fun i hi=>by rw [Vo];exact aE _ _ _ _ om hi
  have c4g:cont g4x h.next=some [.int .i64 2,.int .i64 0,.int .i64 0,.int .i64 0,.int .i64 0,.int .i64 0,.str [],.aC,.aC,.str s,w0,w1,w2,.bool b,w3,w4,.int .i64 0,.aC,.aC,.aC,.aC,.int .i64 0,.str [],.aC,.aC,.bool false,.aC,.aC,.aC]:=by rw [Vo];exact aG om
  have r4g:cont g4x (h.next+2)=some z29:=(aH (o4g _ om)).trans r4x
  have K4g:NK (h.next+3) (h.next+1) (h.next+4) g4x:=K4.kY fun i hi=>o4g i om
  have G4g:aP h g4x:=⟨by omega,fun i hi=>(o4g i om).trans ((ch4.get i om om).trans (G3g.get i hi))⟩
  rw [vR] at r4g
  obtain ⟨hE,hEe⟩:∃x,x=g4x.set (h.next+2) (.cells [.int .i64 2,.int .i64 0,.int .i64 0,.int .i64 0,.int .i64 0,.int .i64 0,.str [],.aC,.aC,.str s,w0,w1,w2,.bool b,w3,w4,.int .i64 0,.aC,.aC,.aC,.aC,.int .i64 0,.str [],.aC,.aC,.bool false,.aC,.aC,.aC]):=⟨_,rfl⟩
  have cE:cont hE (h.next+2)=some [.int .i64 2,.int .i64 0,.int .i64 0,.int .i64 0,.int .i64 0,.int .i64 0,.str [],.aC,.aC,.str s,w0,w1,w2,.bool b,w3,w4,.int .i64 0,.aC,.aC,.aC,.aC,.int .i64 0,.str [],.aC,.aC,.bool false,.aC,.aC,.aC]:=by rw [hEe];exact aG om
  refine ⟨hE,.agg [.int .i64 2,.int .i64 0,.int .i64 0,.int .i64 0,.int .i64 0,.int .i64 0,.str [],.aC,.aC,.str s,w0,w1,w2,.bool b,w3,w4,.int .i64 0,.aC,.aC,.aC,.aC,.int .i64 0,.str [],.aC,.aC,.bool false,.aC,.aC,.aC],⟨by rw [hEe];simp;omega,fun i hi=>by rw [hEe,aE _ _ _ _ om om];exact G4g.get i hi⟩,Ev.call H.f75 H.o75 ⟨m0+m1+m2+m3+m4+2,fun m hm=> ?b⟩,⟨[.str s,w0,w1,w2,.bool b,w3,w4],.desc rv0 rv1 rv2 rv3 rv4,rfl⟩⟩
  have e0' :=e0 m om
  have e1' :=e1 m om
  have e2' :=e2 m om
  have e3' :=e3 m om
  have e4' :=e4 m om
  exact SC (dI @a75.eq_1 @aX.eq_1 @aX.eq_2 @aX.eq_3 @aX.eq_4 @aX.eq_5 @pY.eq_1 @kD.eq_1 @kF.eq_1 @pX.eq_1 @lG.eq_1 (Eq.symm hAe) nA (Eq.symm hBe) cB c0x (dI (Eq.symm Ar) c0g s0 t0 c1x (Eq.symm Aq) c1g s1 t1 c2x (Eq.symm Ew) c2g s2 t2 c3x (Eq.symm Jz) (Bd c3g s3 t3 c4x (Eq.symm Vo) c4g s4 t4 e0' e1' e2' e3' e4' r4g (Eq.symm hEe) cE)))
theorem LX (H:Has fns orc) (q0:kV) (ih:∀q∈(Part.decl q0).kids,tU fns orc q):BA fns orc (.decl q0):=by
 intro v hv hn h
 obtain ⟨c,hr,rfl⟩:=hv
 have hkl:=uR (.decl q0)
 have hkn:=fun q (hq:q∈(Part.decl q0).kids)=>tW hq
 have hpl:=jD hr
 obtain ⟨hA,hAe,hB,hBe,gB,nA,nB,cB,rB,KB⟩:=yK h hpl
 rw [vR] at hAe
 have hne:h.next+3≠h.next+1∧h.next+3≠h.next+4:=⟨by omega,by omega⟩
 cases hr with
 | @decl k n s p d vn vs vp vd h0 h1 h2 h3=>
  simp only [aX,pY,kD,kF,pX,lG,List.cons_append,List.nil_append] at cB hAe
  simp only [Part.kids,List.length_append,List.length_map] at hkl
  have hnl:n.length<10000000:=by
   have:=Part.qH (.decl (.mk k n s p d))
   simp only [Part.own] at this
   omega
  obtain ⟨h0x,w0,gr0,e0,rv0⟩:=PG H h0 hnl hB
  have ch0:Chg (fun i=>i=h.next+3) hB h0x:=fV gr0
  have K0:NK (h.next+3) (h.next+1) (h.next+4) h0x:=KB.kY fun i hi=>gr0.get i (KB.lt i hi)
  have s0:=(E5 rv0).2.2
  have t0:=(E5 rv0).1
  have nx0:=ch0.next
  have lt0:=K0.lt
  have c0x:cont h0x h.next=some [.int .i64 3,.int .i64 0,.int .i64 0,.int .i64 0,.int .i64 0,.int .i64 0,.str [],.aC,.aC,.str [],.aC,.aC,.aC,.bool false,.aC,.aC,.int .i64 k,vn,vs,vp,vd,.int .i64 0,.str [],.aC,.aC,.bool false,.aC,.aC,.aC]:=(aH (ch0.get _ om om)).trans cB
  have r0x:cont h0x (h.next+2)=some z29:=(aH (ch0.get _ om om)).trans rB
  obtain ⟨g0x,Ar⟩:∃x,x=h0x.set h.next (.cells [.int .i64 3,.int .i64 0,.int .i64 0,.int .i64 0,.int .i64 0,.int .i64 0,.str [],.aC,.aC,.str [],.aC,.aC,.aC,.bool false,.aC,.aC,.int .i64 k,w0,vs,vp,vd,.int .i64 0,.str [],.aC,.aC,.bool false,.aC,.aC,.aC]):=⟨_,rfl⟩
  have n0g:h.next+5≤g0x.next:=by rw [Ar];simp;omega
  have o0g:∀i,i≠h.next→g0x.get i=h0x.get i:=fun i hi=>by rw [Ar];exact aE _ _ _ _ om hi
  have c0g:cont g0x h.next=some [.int .i64 3,.int .i64 0,.int .i64 0,.int .i64 0,.int .i64 0,.int .i64 0,.str [],.aC,.aC,.str [],.aC,.aC,.aC,.bool false,.aC,.aC,.int .i64 k,w0,vs,vp,vd,.int .i64 0,.str [],.aC,.aC,.bool false,.aC,.aC,.aC]:=by rw [Ar];exact aG om
  have r0g:cont g0x (h.next+2)=some z29:=(aH (o0g _ om)).trans r0x
  have K0g:NK (h.next+3) (h.next+1) (h.next+4) g0x:=K0.kY fun i hi=>o0g i om
  have G0g:aP h g0x:=⟨by omega,fun i hi=>(o0g i om).trans ((ch0.get i om om).trans (gB.get i hi))⟩
  obtain ⟨h1x,w1,⟨m1,e1⟩,ch1,K1,rv1⟩:=vU H (l:=s) (fun q hq=>by
   have:Part.exp q∈(Part.decl (.mk k n s p d)).kids:=by
    simp only [Part.kids,List.mem_append,List.mem_map]
    simp [hq]
   exact ⟨ih _ this,by have:=hkn _ this;omega⟩) h1 om hne K0g
  have s1:=aS rv1
  have t1:=jX rv1
  have nx1:=ch1.next
  have lt1:=K1.lt
  have c1x:cont h1x h.next=some [.int .i64 3,.int .i64 0,.int .i64 0,.int .i64 0,.int .i64 0,.int .i64 0,.str [],.aC,.aC,.str [],.aC,.aC,.aC,.bool false,.aC,.aC,.int .i64 k,w0,vs,vp,vd,.int .i64 0,.str [],.aC,.aC,.bool false,.aC,.aC,.aC]:=(aH (ch1.get _ om om)).trans c0g
  have r1x:cont h1x (h.next+2)=some z29:=(aH (ch1.get _ om om)).trans r0g
  obtain ⟨g1x,Aq⟩:∃x,x=h1x.set h.next (.cells [.int .i64 3,.int .i64 0,.int .i64 0,.int .i64 0,.int .i64 0,.int .i64 0,.str [],.aC,.aC,.str [],.aC,.aC,.aC,.bool false,.aC,.aC,.int .i64 k,w0,w1,vp,vd,.int .i64 0,.str [],.aC,.aC,.bool false,.aC,.aC,.aC]):=⟨_,rfl⟩
  have n1g:h.next+5≤g1x.next:=by rw [Aq];simp;omega
  have o1g:∀i,i≠h.next→g1x.get i=h1x.get i:=fun i hi=>by rw [Aq];exact aE _ _ _ _ om hi
  have c1g:cont g1x h.next=some [.int .i64 3,.int .i64 0,.int .i64 0,.int .i64 0,.int .i64 0,.int .i64 0,.str [],.aC,.aC,.str [],.aC,.aC,.aC,.bool false,.aC,.aC,.int .i64 k,w0,w1,vp,vd,.int .i64 0,.str [],.aC,.aC,.bool false,.aC,.aC,.aC]:=by rw [Aq];exact aG om
  have r1g:cont g1x (h.next+2)=some z29:=(aH (o1g _ om)).trans r1x
  have K1g:NK (h.next+3) (h.next+1) (h.next+4) g1x:=K1.kY fun i hi=>o1g i om
  have G1g:aP h g1x:=⟨by omega,fun i hi=>(o1g i om).trans ((ch1.get i om om).trans (G0g.get i hi))⟩
  obtain ⟨h2x,w2,⟨m2,e2⟩,ch2,K2,rv2⟩:=vU H (l:=p) (fun q hq=>by
   have:Part.exp q∈(Part.decl (.mk k n s p d)).kids:=by
    simp only [Part.kids,List.mem_append,List.mem_map]
    simp [hq]
   exact ⟨ih _ this,by have:=hkn _ this;omega⟩) h2 om hne K1g
  have s2:=aS rv2
  have t2:=jX rv2
  have nx2:=ch2.next
  have lt2:=K2.lt
  have c2x:cont h2x h.next=some [.int .i64 3,.int .i64 0,.int .i64 0,.int .i64 0,.int .i64 0,.int .i64 0,.str [],.aC,.aC,.str [],.aC,.aC,.aC,.bool false,.aC,.aC,.int .i64 k,w0,w1,vp,vd,.int .i64 0,.str [],.aC,.aC,.bool false,.aC,.aC,.aC]:=(aH (ch2.get _ om om)).trans c1g
  have r2x:cont h2x (h.next+2)=some z29:=(aH (ch2.get _ om om)).trans r1g
  obtain ⟨g2x,Ew⟩:∃x,x=h2x.set h.next (.cells [.int .i64 3,.int .i64 0,.int .i64 0,.int .i64 0,.int .i64 0,.int .i64 0,.str [],.aC,.aC,.str [],.aC,.aC,.aC,.bool false,.aC,.aC,.int .i64 k,w0,w1,w2,vd,.int .i64 0,.str [],.aC,.aC,.bool false,.aC,.aC,.aC]):=⟨_,rfl⟩
  have n2g:h.next+5≤g2x.next:=by rw [Ew];simp;omega
  have o2g:∀i,i≠h.next→g2x.get i=h2x.get i:=fun i hi=>by rw [Ew];exact aE _ _ _ _ om hi
  have c2g:cont g2x h.next=some [.int .i64 3,.int .i64 0,.int .i64 0,.int .i64 0,.int .i64 0,.int .i64 0,.str [],.aC,.aC,.str [],.aC,.aC,.aC,.bool false,.aC,.aC,.int .i64 k,w0,w1,w2,vd,.int .i64 0,.str [],.aC,.aC,.bool false,.aC,.aC,.aC]:=by rw [Ew];exact aG om
  have r2g:cont g2x (h.next+2)=some z29:=(aH (o2g _ om)).trans r2x
  have K2g:NK (h.next+3) (h.next+1) (h.next+4) g2x:=K2.kY fun i hi=>o2g i om
  have G2g:aP h g2x:=⟨by omega,fun i hi=>(o2g i om).trans ((ch2.get i om om).trans (G1g.get i hi))⟩
  obtain ⟨h3x,w3,⟨m3,e3⟩,ch3,K3,rv3⟩:=FA H (l:=d) (fun q hq=>by
   have:Part.desc q∈(Part.decl (.mk k n s p d)).kids:=by
    simp only [Part.kids,List.mem_append,List.mem_map]
    simp [hq]
   exact ⟨ih _ this,by have:=hkn _ this;omega⟩) h3 om hne K2g
  have s3:=aS rv3
  have t3:=jX rv3
  have nx3:=ch3.next
  have lt3:=K3.lt
  have c3x:cont h3x h.next=some [.int .i64 3,.int .i64 0,.int .i64 0,.int .i64 0,.int .i64 0,.int .i64 0,.str [],.aC,.aC,.str [],.aC,.aC,.aC,.bool false,.aC,.aC,.int .i64 k,w0,w1,w2,vd,.int .i64 0,.str [],.aC,.aC,.bool false,.aC,.aC,.aC]:=(aH (ch3.get _ om om)).trans c2g
  have r3x:cont h3x (h.next+2)=some z29:=(aH (ch3.get _ om om)).trans r2g
  obtain ⟨g3x,Jz⟩:∃x,x=h3x.set h.next (.cells [.int .i64 3,.int .i64 0,.int .i64 0,.int .i64 0,.int .i64 0,.int .i64 0,.str [],.aC,.aC,.str [],.aC,.aC,.aC,.bool false,.aC,.aC,.int .i64 k,w0,w1,w2,w3,.int .i64 0,.str [],.aC,.aC,.bool false,.aC,.aC,.aC]):=⟨_,rfl⟩
  have n3g:h.next+5≤g3x.next:=by rw [Jz];simp;omega
  have o3g:∀i,i≠h.next→g3x.get i=h3x.get i:=fun i hi=>by rw [Jz];exact aE _ _ _ _ om hi
  have c3g:cont g3x h.next=some [.int .i64 3,.int .i64 0,.int .i64 0,.int .i64 0,.int .i64 0,.int .i64 0,.str [],.aC,.aC,.str [],.aC,.aC,.aC,.bool false,.aC,.aC,.int .i64 k,w0,w1,w2,w3,.int .i64 0,.str [],.aC,.aC,.bool false,.aC,.aC,.aC]:=by rw [Jz];exact aG om
  have r3g:cont g3x (h.next+2)=some z29:=(aH (o3g _ om)).trans r3x
  have K3g:NK (h.next+3) (h.next+1) (h.next+4) g3x:=K3.kY fun i hi=>o3g i om
  have G3g:aP h g3x:=⟨by omega,fun i hi=>(o3g i om).trans ((ch3.get i om om).trans (G2g.get i hi))⟩
  rw [vR] at r3g
  obtain ⟨hE,hEe⟩:∃x,x=g3x.set (h.next+2) (.cells [.int .i64 3,.int .i64 0,.int .i64 0,.int .i64 0,.int .i64 0,.int .i64 0,.str [],.aC,.aC,.str [],.aC,.aC,.aC,.bool false,.aC,.aC,.int .i64 k,w0,w1,w2,w3,.int .i64 0,.str [],.aC,.aC,.bool false,.aC,.aC,.aC]):=⟨_,rfl⟩
  have cE:cont hE (h.next+2)=some [.int .i64 3,.int .i64 0,.int .i64 0,.int .i64 0,.int .i64 0,.int .i64 0,.str [],.aC,.aC,.str [],.aC,.aC,.aC,.bool false,.aC,.aC,.int .i64 k,w0,w1,w2,w3,.int .i64 0,.str [],.aC,.aC,.bool false,.aC,.aC,.aC]:=by rw [hEe];exact aG om
  refine ⟨hE,.agg [.int .i64 3,.int .i64 0,.int .i64 0,.int .i64 0,.int .i64 0,.int .i64 0,.str [],.aC,.aC,.str [],.aC,.aC,.aC,.bool false,.aC,.aC,.int .i64 k,w0,w1,w2,w3,.int .i64 0,.str [],.aC,.aC,.bool false,.aC,.aC,.aC],⟨by rw [hEe];simp;omega,fun i hi=>by rw [hEe,aE _ _ _ _ om om];exact G3g.get i hi⟩,Ev.call H.f75 H.o75 ⟨m1+m2+m3+2,fun m hm=> ?b⟩,⟨[.int .i64 k,w0,w1,w2,w3],.decl rv0 rv1 rv2 rv3,rfl⟩⟩
  have e0' :=e0 m om
  have e1' :=e1 m om
  have e2' :=e2 m om
  have e3' :=e3 m om
  exact SC (dI @a75.eq_1 @aX.eq_1 @aX.eq_2 @aX.eq_3 @aX.eq_4 @aX.eq_5 @pY.eq_1 @kD.eq_1 @kF.eq_1 @pX.eq_1 @lG.eq_1 (Eq.symm hAe) nA (Eq.symm hBe) cB c0x (dI (Eq.symm Ar) c0g s0 t0 c1x (Eq.symm Aq) c1g s1 t1 c2x (Eq.symm Ew) c2g s2 t2 c3x (Eq.symm Jz) (tR c3g s3 t3 e0' e1' e2' e3' r3g (Eq.symm hEe) cE)))
theorem NP (H:Has fns orc) (q0:qN) (ih:∀q∈(Part.imp q0).kids,tU fns orc q):BA fns orc (.imp q0):=by
 intro v hv hn h
 obtain ⟨c,hr,rfl⟩:=hv
 have hkl:=uR (.imp q0)
 have hkn:=fun q (hq:q∈(Part.imp q0).kids)=>tW hq
 have hpl:=jD hr
 obtain ⟨hA,hAe,hB,hBe,gB,nA,nB,cB,rB,KB⟩:=yK h hpl
 rw [vR] at hAe
 have hne:h.next+3≠h.next+1∧h.next+3≠h.next+4:=⟨by omega,by omega⟩
 cases hr with
 | @imp k n e c b i ve vc vi h1 h2 h3=>
  simp only [aX,pY,kD,kF,pX,lG,List.cons_append,List.nil_append] at cB hAe
  simp only [Part.kids,List.length_append,List.length_map] at hkl
  obtain ⟨h0x,w0,⟨m0,e0⟩,ch0,K0,rv0⟩:=vU H (l:=e) (fun q hq=>by
   have:Part.exp q∈(Part.imp (.mk k n e c b i)).kids:=by
    simp only [Part.kids,List.mem_append,List.mem_map]
    simp [hq]
   exact ⟨ih _ this,by have:=hkn _ this;omega⟩) h1 om hne KB
  have s0:=aS rv0
  have t0:=jX rv0
  have nx0:=ch0.next
  have lt0:=K0.lt
  have c0x:cont h0x h.next=some [.int .i64 4,.int .i64 0,.int .i64 0,.int .i64 0,.int .i64 0,.int .i64 0,.str [],.aC,.aC,.str [],.aC,.aC,.aC,.bool false,.aC,.aC,.int .i64 0,.aC,.aC,.aC,.aC,.int .i64 k,.str n,ve,vc,.bool b,vi,.aC,.aC]:=(aH (ch0.get _ om om)).trans cB
  have r0x:cont h0x (h.next+2)=some z29:=(aH (ch0.get _ om om)).trans rB
  obtain ⟨g0x,Ar⟩:∃x,x=h0x.set h.next (.cells [.int .i64 4,.int .i64 0,.int .i64 0,.int .i64 0,.int .i64 0,.int .i64 0,.str [],.aC,.aC,.str [],.aC,.aC,.aC,.bool false,.aC,.aC,.int .i64 0,.aC,.aC,.aC,.aC,.int .i64 k,.str n,w0,vc,.bool b,vi,.aC,.aC]):=⟨_,rfl⟩
  have n0g:h.next+5≤g0x.next:=by rw [Ar];simp;omega
  have o0g:∀i,i≠h.next→g0x.get i=h0x.get i:=fun i hi=>by rw [Ar];exact aE _ _ _ _ om hi
  have c0g:cont g0x h.next=some [.int .i64 4,.int .i64 0,.int .i64 0,.int .i64 0,.int .i64 0,.int .i64 0,.str [],.aC,.aC,.str [],.aC,.aC,.aC,.bool false,.aC,.aC,.int .i64 0,.aC,.aC,.aC,.aC,.int .i64 k,.str n,w0,vc,.bool b,vi,.aC,.aC]:=by rw [Ar];exact aG om
  have r0g:cont g0x (h.next+2)=some z29:=(aH (o0g _ om)).trans r0x
  have K0g:NK (h.next+3) (h.next+1) (h.next+4) g0x:=K0.kY fun i hi=>o0g i om
  have G0g:aP h g0x:=⟨by omega,fun i hi=>(o0g i om).trans ((ch0.get i om om).trans (gB.get i hi))⟩
  obtain ⟨h1x,w1,⟨m1,e1⟩,ch1,K1,rv1⟩:=Ng H (l:=c) (fun q hq=>by
   have:Part.case q∈(Part.imp (.mk k n e c b i)).kids:=by
    simp only [Part.kids,List.mem_append,List.mem_map]
    simp [hq]
   exact ⟨ih _ this,by have:=hkn _ this;omega⟩) h2 om hne K0g
  have s1:=aS rv1
  have t1:=jX rv1
  have nx1:=ch1.next
  have lt1:=K1.lt
  have c1x:cont h1x h.next=some [.int .i64 4,.int .i64 0,.int .i64 0,.int .i64 0,.int .i64 0,.int .i64 0,.str [],.aC,.aC,.str [],.aC,.aC,.aC,.bool false,.aC,.aC,.int .i64 0,.aC,.aC,.aC,.aC,.int .i64 k,.str n,w0,vc,.bool b,vi,.aC,.aC]:=(aH (ch1.get _ om om)).trans c0g
  have r1x:cont h1x (h.next+2)=some z29:=(aH (ch1.get _ om om)).trans r0g
  obtain ⟨g1x,Aq⟩:∃x,x=h1x.set h.next (.cells [.int .i64 4,.int .i64 0,.int .i64 0,.int .i64 0,.int .i64 0,.int .i64 0,.str [],.aC,.aC,.str [],.aC,.aC,.aC,.bool false,.aC,.aC,.int .i64 0,.aC,.aC,.aC,.aC,.int .i64 k,.str n,w0,w1,.bool b,vi,.aC,.aC]):=⟨_,rfl⟩
  have n1g:h.next+5≤g1x.next:=by rw [Aq];simp;omega
  have o1g:∀i,i≠h.next→g1x.get i=h1x.get i:=fun i hi=>by rw [Aq];exact aE _ _ _ _ om hi
  have c1g:cont g1x h.next=some [.int .i64 4,.int .i64 0,.int .i64 0,.int .i64 0,.int .i64 0,.int .i64 0,.str [],.aC,.aC,.str [],.aC,.aC,.aC,.bool false,.aC,.aC,.int .i64 0,.aC,.aC,.aC,.aC,.int .i64 k,.str n,w0,w1,.bool b,vi,.aC,.aC]:=by rw [Aq];exact aG om
  have r1g:cont g1x (h.next+2)=some z29:=(aH (o1g _ om)).trans r1x
  have K1g:NK (h.next+3) (h.next+1) (h.next+4) g1x:=K1.kY fun i hi=>o1g i om
  have G1g:aP h g1x:=⟨by omega,fun i hi=>(o1g i om).trans ((ch1.get i om om).trans (G0g.get i hi))⟩
  obtain ⟨h2x,w2,⟨m2,e2⟩,ch2,K2,rv2⟩:=DG H (l:=i) (fun q hq=>by
   have:Part.imp q∈(Part.imp (.mk k n e c b i)).kids:=by
    simp only [Part.kids,List.mem_append,List.mem_map]
    simp [hq]
   exact ⟨ih _ this,by have:=hkn _ this;omega⟩) h3 om hne K1g
  have s2:=aS rv2
  have t2:=jX rv2
  have nx2:=ch2.next
  have lt2:=K2.lt
  have c2x:cont h2x h.next=some [.int .i64 4,.int .i64 0,.int .i64 0,.int .i64 0,.int .i64 0,.int .i64 0,.str [],.aC,.aC,.str [],.aC,.aC,.aC,.bool false,.aC,.aC,.int .i64 0,.aC,.aC,.aC,.aC,.int .i64 k,.str n,w0,w1,.bool b,vi,.aC,.aC]:=(aH (ch2.get _ om om)).trans c1g
  have r2x:cont h2x (h.next+2)=some z29:=(aH (ch2.get _ om om)).trans r1g
  obtain ⟨g2x,Ew⟩:∃x,x=h2x.set h.next (.cells [.int .i64 4,.int .i64 0,.int .i64 0,.int .i64 0,.int .i64 0,.int .i64 0,.str [],.aC,.aC,.str [],.aC,.aC,.aC,.bool false,.aC,.aC,.int .i64 0,.aC,.aC,.aC,.aC,.int .i64 k,.str n,w0,w1,.bool b,w2,.aC,.aC]):=⟨_,rfl⟩
  have n2g:h.next+5≤g2x.next:=by rw [Ew];simp;omega
  have o2g:∀i,i≠h.next→g2x.get i=h2x.get i:=fun i hi=>by rw [Ew];exact aE _ _ _ _ om hi
  have c2g:cont g2x h.next=some [.int .i64 4,.int .i64 0,.int .i64 0,.int .i64 0,.int .i64 0,.int .i64 0,.str [],.aC,.aC,.str [],.aC,.aC,.aC,.bool false,.aC,.aC,.int .i64 0,.aC,.aC,.aC,.aC,.int .i64 k,.str n,w0,w1,.bool b,w2,.aC,.aC]:=by rw [Ew];exact aG om
  have r2g:cont g2x (h.next+2)=some z29:=(aH (o2g _ om)).trans r2x
  have K2g:NK (h.next+3) (h.next+1) (h.next+4) g2x:=K2.kY fun i hi=>o2g i om
  have G2g:aP h g2x:=⟨by omega,fun i hi=>(o2g i om).trans ((ch2.get i om om).trans (G1g.get i hi))⟩
  rw [vR] at r2g
  obtain ⟨hE,hEe⟩:∃x,x=g2x.set (h.next+2) (.cells [.int .i64 4,.int .i64 0,.int .i64 0,.int .i64 0,.int .i64 0,.int .i64 0,.str [],.aC,.aC,.str [],.aC,.aC,.aC,.bool false,.aC,.aC,.int .i64 0,.aC,.aC,.aC,.aC,.int .i64 k,.str n,w0,w1,.bool b,w2,.aC,.aC]):=⟨_,rfl⟩
  have cE:cont hE (h.next+2)=some [.int .i64 4,.int .i64 0,.int .i64 0,.int .i64 0,.int .i64 0,.int .i64 0,.str [],.aC,.aC,.str [],.aC,.aC,.aC,.bool false,.aC,.aC,.int .i64 0,.aC,.aC,.aC,.aC,.int .i64 k,.str n,w0,w1,.bool b,w2,.aC,.aC]:=by rw [hEe];exact aG om
  refine ⟨hE,.agg [.int .i64 4,.int .i64 0,.int .i64 0,.int .i64 0,.int .i64 0,.int .i64 0,.str [],.aC,.aC,.str [],.aC,.aC,.aC,.bool false,.aC,.aC,.int .i64 0,.aC,.aC,.aC,.aC,.int .i64 k,.str n,w0,w1,.bool b,w2,.aC,.aC],⟨by rw [hEe];simp;omega,fun i hi=>by rw [hEe,aE _ _ _ _ om om];exact G2g.get i hi⟩,Ev.call H.f75 H.o75 ⟨m0+m1+m2+2,fun m hm=> ?b⟩,⟨[.int .i64 k,.str n,w0,w1,.bool b,w2],.imp rv0 rv1 rv2,rfl⟩⟩
  have e0' :=e0 m om
  have e1' :=e1 m om
  have e2' :=e2 m om
  exact SC (dI @a75.eq_1 @aX.eq_1 @aX.eq_2 @aX.eq_3 @aX.eq_4 @aX.eq_5 @pY.eq_1 @kD.eq_1 @kF.eq_1 @pX.eq_1 @lG.eq_1 (Eq.symm hAe) nA (Eq.symm hBe) cB c0x (dI (Eq.symm Ar) c0g s0 t0 c1x (Eq.symm Aq) c1g s1 t1 c2x (Eq.symm Ew) c2g s2 t2 e0' e1' (cj4 e2' r2g (Eq.symm hEe) cE)))
theorem LY (H:Has fns orc) (q0:vK) (ih:∀q∈(Part.case q0).kids,tU fns orc q):BA fns orc (.case q0):=by
 intro v hv hn h
 obtain ⟨c,hr,rfl⟩:=hv
 have hkl:=uR (.case q0)
 have hkn:=fun q (hq:q∈(Part.case q0).kids)=>tW hq
 have hpl:=jD hr
 obtain ⟨hA,hAe,hB,hBe,gB,nA,nB,cB,rB,KB⟩:=yK h hpl
 rw [vR] at hAe
 have hne:h.next+3≠h.next+1∧h.next+3≠h.next+4:=⟨by omega,by omega⟩
 cases hr with
 | @case v i vv vi h1 h2=>
  simp only [aX,pY,kD,kF,pX,lG,List.cons_append,List.nil_append] at cB hAe
  simp only [Part.kids,List.length_append,List.length_map] at hkl
  obtain ⟨h0x,w0,⟨m0,e0⟩,ch0,K0,rv0⟩:=vU H (l:=v) (fun q hq=>by
   have:Part.exp q∈(Part.case (.mk v i)).kids:=by
    simp only [Part.kids,List.mem_append,List.mem_map]
    simp [hq]
   exact ⟨ih _ this,by have:=hkn _ this;omega⟩) h1 om hne KB
  have s0:=aS rv0
  have t0:=jX rv0
  have nx0:=ch0.next
  have lt0:=K0.lt
  have c0x:cont h0x h.next=some [.int .i64 5,.int .i64 0,.int .i64 0,.int .i64 0,.int .i64 0,.int .i64 0,.str [],.aC,.aC,.str [],.aC,.aC,.aC,.bool false,.aC,.aC,.int .i64 0,.aC,.aC,.aC,.aC,.int .i64 0,.str [],.aC,.aC,.bool false,.aC,vv,vi]:=(aH (ch0.get _ om om)).trans cB
  have r0x:cont h0x (h.next+2)=some z29:=(aH (ch0.get _ om om)).trans rB
  obtain ⟨g0x,Ar⟩:∃x,x=h0x.set h.next (.cells [.int .i64 5,.int .i64 0,.int .i64 0,.int .i64 0,.int .i64 0,.int .i64 0,.str [],.aC,.aC,.str [],.aC,.aC,.aC,.bool false,.aC,.aC,.int .i64 0,.aC,.aC,.aC,.aC,.int .i64 0,.str [],.aC,.aC,.bool false,.aC,w0,vi]):=⟨_,rfl⟩
  have n0g:h.next+5≤g0x.next:=by rw [Ar];simp;omega
  have o0g:∀i,i≠h.next→g0x.get i=h0x.get i:=fun i hi=>by rw [Ar];exact aE _ _ _ _ om hi
  have c0g:cont g0x h.next=some [.int .i64 5,.int .i64 0,.int .i64 0,.int .i64 0,.int .i64 0,.int .i64 0,.str [],.aC,.aC,.str [],.aC,.aC,.aC,.bool false,.aC,.aC,.int .i64 0,.aC,.aC,.aC,.aC,.int .i64 0,.str [],.aC,.aC,.bool false,.aC,w0,vi]:=by rw [Ar];exact aG om
  have r0g:cont g0x (h.next+2)=some z29:=(aH (o0g _ om)).trans r0x
  have K0g:NK (h.next+3) (h.next+1) (h.next+4) g0x:=K0.kY fun i hi=>o0g i om
  have G0g:aP h g0x:=⟨by omega,fun i hi=>(o0g i om).trans ((ch0.get i om om).trans (gB.get i hi))⟩
  obtain ⟨h1x,w1,⟨m1,e1⟩,ch1,K1,rv1⟩:=DG H (l:=i) (fun q hq=>by
   have:Part.imp q∈(Part.case (.mk v i)).kids:=by
    simp only [Part.kids,List.mem_append,List.mem_map]
    simp [hq]
   exact ⟨ih _ this,by have:=hkn _ this;omega⟩) h2 om hne K0g
  have s1:=aS rv1
  have t1:=jX rv1
  have nx1:=ch1.next
  have lt1:=K1.lt
  have c1x:cont h1x h.next=some [.int .i64 5,.int .i64 0,.int .i64 0,.int .i64 0,.int .i64 0,.int .i64 0,.str [],.aC,.aC,.str [],.aC,.aC,.aC,.bool false,.aC,.aC,.int .i64 0,.aC,.aC,.aC,.aC,.int .i64 0,.str [],.aC,.aC,.bool false,.aC,w0,vi]:=(aH (ch1.get _ om om)).trans c0g
  have r1x:cont h1x (h.next+2)=some z29:=(aH (ch1.get _ om om)).trans r0g
  obtain ⟨g1x,Aq⟩:∃x,x=h1x.set h.next (.cells [.int .i64 5,.int .i64 0,.int .i64 0,.int .i64 0,.int .i64 0,.int .i64 0,.str [],.aC,.aC,.str [],.aC,.aC,.aC,.bool false,.aC,.aC,.int .i64 0,.aC,.aC,.aC,.aC,.int .i64 0,.str [],.aC,.aC,.bool false,.aC,w0,w1]):=⟨_,rfl⟩
  have n1g:h.next+5≤g1x.next:=by rw [Aq];simp;omega
  have o1g:∀i,i≠h.next→g1x.get i=h1x.get i:=fun i hi=>by rw [Aq];exact aE _ _ _ _ om hi
  have c1g:cont g1x h.next=some [.int .i64 5,.int .i64 0,.int .i64 0,.int .i64 0,.int .i64 0,.int .i64 0,.str [],.aC,.aC,.str [],.aC,.aC,.aC,.bool false,.aC,.aC,.int .i64 0,.aC,.aC,.aC,.aC,.int .i64 0,.str [],.aC,.aC,.bool false,.aC,w0,w1]:=by rw [Aq];exact aG om
  have r1g:cont g1x (h.next+2)=some z29:=(aH (o1g _ om)).trans r1x
  have K1g:NK (h.next+3) (h.next+1) (h.next+4) g1x:=K1.kY fun i hi=>o1g i om
  have G1g:aP h g1x:=⟨by omega,fun i hi=>(o1g i om).trans ((ch1.get i om om).trans (G0g.get i hi))⟩
  rw [vR] at r1g
  obtain ⟨hE,hEe⟩:∃x,x=g1x.set (h.next+2) (.cells [.int .i64 5,.int .i64 0,.int .i64 0,.int .i64 0,.int .i64 0,.int .i64 0,.str [],.aC,.aC,.str [],.aC,.aC,.aC,.bool false,.aC,.aC,.int .i64 0,.aC,.aC,.aC,.aC,.int .i64 0,.str [],.aC,.aC,.bool false,.aC,w0,w1]):=⟨_,rfl⟩
  have cE:cont hE (h.next+2)=some [.int .i64 5,.int .i64 0,.int .i64 0,.int .i64 0,.int .i64 0,.int .i64 0,.str [],.aC,.aC,.str [],.aC,.aC,.aC,.bool false,.aC,.aC,.int .i64 0,.aC,.aC,.aC,.aC,.int .i64 0,.str [],.aC,.aC,.bool false,.aC,w0,w1]:=by rw [hEe];exact aG om
  refine ⟨hE,.agg [.int .i64 5,.int .i64 0,.int .i64 0,.int .i64 0,.int .i64 0,.int .i64 0,.str [],.aC,.aC,.str [],.aC,.aC,.aC,.bool false,.aC,.aC,.int .i64 0,.aC,.aC,.aC,.aC,.int .i64 0,.str [],.aC,.aC,.bool false,.aC,w0,w1],⟨by rw [hEe];simp;omega,fun i hi=>by rw [hEe,aE _ _ _ _ om om];exact G1g.get i hi⟩,Ev.call H.f75 H.o75 ⟨m0+m1+2,fun m hm=> ?b⟩,⟨[w0,w1],.case rv0 rv1,rfl⟩⟩
  have e0' :=e0 m om
  have e1' :=e1 m om
  exact SC (dI @a75.eq_1 @aX.eq_1 @aX.eq_2 @aX.eq_3 @aX.eq_4 @aX.eq_5 @pY.eq_1 @kD.eq_1 @kF.eq_1 @pX.eq_1 @lG.eq_1 (Eq.symm hAe) nA (Eq.symm hBe) cB c0x (zZ (Eq.symm Ar) c0g s0 t0 c1x (Eq.symm Aq) c1g s1 t1 e0' e1' r1g (Eq.symm hEe) cE))
end Go.Ly
namespace Go.Ly
open Go Go.Am Go.Fs Go.Gn
variable {fns:Go.Am.F} {orc:Orc}
theorem QU (H:Has fns orc) {p:Part} (C:BA fns orc p):tU fns orc p:=by
 intro v hv hn h
 obtain ⟨c,rfl,cl,ck⟩:=sK hv
 have p29:takeN 29 c=some c:=by rw [←cl];exact aW c
 obtain ⟨hA,hAe⟩:∃x,x=(h.push (.cells c)).push (.cells z29):=⟨_,rfl⟩
 have gA:aP h hA:=by rw [hAe];exact gw2
 have nA:hA.next=h.next+2:=by rw [hAe];simp
 have a0:cont hA h.next=some c:=by rw [hAe];exact ctp
 have a1:cont hA (h.next+1)=some z29:=by rw [hAe];exact ctp
 obtain ⟨hB,v',gAB,⟨n1,e1⟩,hv'⟩:=C (.agg c) hv hn hA
 have nB:=gAB.next
 have b1:=(aF gAB (by omega:h.next+1<hA.next)).trans a1
 have hv2:=hv'
 obtain ⟨c',rfl,cl',ck'⟩:=sK hv'
 have RI :takeN 29 c' =some c' :=by rw [←cl'];exact aW c'
 have f3:Nat.beq c'.length 29=true:=by rw [cl'];rfl
 have f4:cI 0 c' z29=some c' :=pU _ _ (by rw [cl'];rfl)
 obtain ⟨hC,hCe⟩:∃x,x=hB.set (h.next+1) (.cells c'):=⟨_,rfl⟩
 have cC:cont hC (h.next+1)=some c' :=by rw [hCe];exact aG om
 refine ⟨hC,.agg c',⟨by rw [hCe];simp;omega,fun i hi=>by rw [hCe,aE _ _ _ _ om om,gAB.get i om,gA.get i hi]⟩,Ev.call H.f54 H.o54 ⟨n1,fun m hm=> ?b⟩,hv2⟩
 have e1' :=e1 m hm
 rw [vR] at hAe b1 f4
 exact SX (qC @a54.eq_1 (Eq.symm hAe) a0 p29 e1' b1 ck' f3 f4 (Eq.symm hCe) cC RI)
theorem QT (H:Has fns orc):∀p,tU fns orc p:=by
 refine Part.ind fun p ih=>QU H ?_
 cases p with
 |exp e=>exact NQ H e ih
 |desc e=>exact LW H e ih
 |decl e=>exact LX H e ih
 |imp e=>exact NP H e ih
 |case e=>exact LY H e ih
def vE:pD:= .mk [] [] [] [] false [] []
theorem Mr:Valid (.desc vE):= .mk trivial (fun q hq=>by simp [Part.kids,vE] at hq)
theorem Vt (H:Has fns orc) (N:vX fns orc) {d:pD} {c:List AV} (hv:RV (.desc d) (.agg c)) (hs:wP (.desc d)) (hn:(Part.desc d).nodes<10000000) (h:aD):
  ∃h' c' d' e,aP h h' ∧Ev fns orc (.call 36 [.agg c] .plain h) (.call (.ret (.tup [.agg c',.int .i64 e])) .plain h')∧RV (.desc d') (.agg c')∧(d' =d∨d' =vE):=by
 have hcl:=kW hv
 have p7:takeN 7 c=some c:=by rw [←hcl];exact aW c
 obtain ⟨hA,hAe⟩:∃x,x=(h.push (.cells c)).push (.cells kD):=⟨_,rfl⟩
 have gA:aP h hA:=by rw [hAe];exact gw2
 have nA:hA.next=h.next+2:=by rw [hAe];simp
 have a0:cont hA h.next=some c:=by rw [hAe];exact ctp
 have a1:cont hA (h.next+1)=some kD:=by rw [hAe];exact ctp
 obtain ⟨hB,e,gAB,⟨n1,e1⟩,r1,r2,r3⟩:=Mo H N hv hs hn hA
 have gB:=gA.trans gAB
 have nB:=gAB.next
 have b0:=(aF gAB (by omega:h.next<hA.next)).trans a0
 have b1:=(aF gAB (by omega:h.next+1<hA.next)).trans a1
 by_cases ce:e=0
 case neg=>
  have de:=dF ce
  refine ⟨hB.set (h.next+1) (.cells kD),kD,vE,e, ?g1,Ev.call H.f36 H.o36 ⟨n1,fun m hm=> ?b1⟩,.desc .nil .nil .nil .nil .nil,.inr rfl⟩
  case g1=>exact gB.set om om _
  case b1=>
   have e1' :=e1 m hm
   simp only [kD] at hAe b1
   exact SX (cj8 @a36.eq_1 (Eq.symm hAe) a0 p7 e1' de b1 @kD.eq_1)
 have de:=dT ce
 obtain ⟨hC,gC,n2,e2⟩:=Bl H hv hB
 have nC:=gC.next
 obtain ⟨hD,v',gD,⟨n3,e3⟩,hv'⟩:=QT H (.desc d) (.agg (aX (.desc d) c)) ⟨c,hv,rfl⟩ hn hC
 have nD:=gD.next
 have d1:=(aF gD (by omega:h.next+1<hC.next)).trans ((aF gC (by omega:h.next+1<hB.next)).trans b1)
 obtain ⟨c',rv',rfl⟩:=hv'
 have cl' :=kW rv'
 have ck' :c'.all AV.bX=true:=by
  have:=lF rv'
  simp only [aX,List.all_cons,List.all_append,Bool.and_eq_true] at this
  simp_all
 have fl:bN (some 7) (aX (.desc d) c') 9= .ok (.agg c'):=by
  have:takeN 7 ((aX (.desc d) c').drop 9)=some c' :=by
   cases rv'
   rfl
  simp only [bN,this]
 have f3:Nat.beq c'.length 7=true:=by rw [cl'];rfl
 have f4:cI 0 c' kD=some c' :=pU _ _ (by rw [cl'];rfl)
 have p7' :takeN 7 c' =some c' :=by rw [←cl'];exact aW c'
 obtain ⟨hE,hEe⟩:∃x,x=hD.set (h.next+1) (.cells c'):=⟨_,rfl⟩
 have cE:cont hE (h.next+1)=some c' :=by rw [hEe];exact aG om
 refine ⟨hE,c',d,0, ?g2,Ev.call H.f36 H.o36 ⟨n1+n2+n3,fun m hm=> ?b2⟩,rv',.inl rfl⟩
 case g2=>rw [hEe];exact (gB.trans (gC.trans gD)).set om om _
 case b2=>
  have e1' :=e1 m om
  have e2' :=e2 m om
  have e3' :=e3 m om
  simp only [kD] at hAe b1 d1 f4
  exact SR (dI @a36.eq_1 (Eq.symm hAe) a0 b0 p7 e1' de e2' e3' fl d1 ck' f3 f4 (Eq.symm hEe) cE (cj2 p7' @ldS))
end Go.Ly
end
