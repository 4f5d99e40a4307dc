/- Parts of a proof. -/
import Derived.Test.YtfpohljcapcliaaGreatDoorD
import Derived.Test.YtfpohljcapcliaaGreatDoorZ1
import Derived.Test.YtfpohljcapcliaaGreatDoorM
set_option linter.all false
set_option maxHeartbeats 16000000
set_option maxRecDepth 20000
noncomputable section
namespace Go.Ly
open Go Go.Am Go.Fs Go.Gn
variable {fns:Go.Am.F} {orc:Orc}
structure TkG (l l' :AV) (h h' :aD):Prop where
 g:Aj (jK l) h h'
 t:∀t,jK l' =some t→jK l=some t∨h.next≤t
theorem TkG.of {l:AV} {h h' :aD} (g:aP h h'):TkG l l h h' :=⟨Et g _,fun _ e=> .inl e⟩
theorem TkG.trans {a b c:AV} {x y z:aD} (p:TkG a b x y) (q:TkG b c y z):TkG a c x z:=⟨⟨Nat.le_trans p.g.next q.g.next,fun i hi hn=>by
 rw [q.g.get i (Nat.lt_of_lt_of_le hi p.g.next) (fun e=>by rcases p.t i e with w|w;exact hn w;omega),p.g.get i hi hn]⟩,fun t e=>by
 rcases q.t t e with w|w
 ·exact p.t t w
 ·have:=p.g.next;exact .inr om⟩
theorem TkG.cont {a b:AV} {x y:aD} (p:TkG a b x y) {xs:List AV} (ac:Acc x a xs) {i:Nat} {c:List AV} (h:cont x i=some c):cont y i=some c:=by
 refine (aH (p.g.get i (aO h) fun e=> ?_)).trans h
 have h1:=Oa ac e
 rw [gM h] at h1
 cases h1
theorem Rm {p q:Part} (h:Sub p q):q=p∨∃k∈p.kids,Sub k q:=by
 induction h with
 |refl=>exact .inl rfl
 |kid _ hq ih=>
  rcases ih with rfl|⟨k,hk,hs⟩
  ·exact .inr ⟨_,hq,.refl⟩
  ·exact .inr ⟨k,hk,.kid hs hq⟩
def ptB:AC:=p44x1110100
def XJ (fns:Go.Am.F) (orc:Orc) (p:Part):Prop:=∀v,RP p v→p.nodes<10000000→∀(out:AV) (xs:List AV) (h:aD),Acc h out xs→Ab 29 xs→xs.length+p.nodes<20000000→
 ∃h' GC ys L,TkG out GC h h' ∧Ev fns orc (.call 44 [out,v] .plain h) (.call (.ret GC) .plain h')∧Acc h' GC (xs++ys)∧RPL L ys∧(∀q,Sub p q→q∈L)∧(L.map Part.own).sum=p.nodes
theorem F3:∀L:List Part,L.length≤(L.map Part.own).sum
 |[]=>Nat.le_refl _
 |p::L=>by
  have:=F3 L
  have:1≤p.own:=by cases p with|decl d=>cases d;simp only [Part.own];omega|_=>simp [Part.own]
  simp only [List.length_cons,List.map_cons,List.sum_cons]
  omega
theorem PJ {l0:List Part} {l:AV} {zs:List AV} (hl:iP l zs) (hr:RPL l0 zs) (hn:l0.length<10000000) (C:∀p∈l0,XJ fns orc p∧p.nodes<10000000):∀(k i:Nat) (out:AV) (xs:List AV) (h:aD),i+k=l0.length→Acc h out xs→Ab 29 xs→xs.length+tot (l0.drop i)<20000000→
  ∃h' GC ys L ts,TkG out GC h h' ∧(∃N,∀m,N≤m→cG (eval fns orc m) 44 none (.loop ptB) ⟨[(0,out),(5,l),(6,.int .i64 (i:Nat))],[],.plain,h⟩= .ok (.code (.exit 0) ⟨ts,[],.plain,h'⟩))∧cH ts 0=GC ∧
   Acc h' GC (xs++ys)∧RPL L ys∧(∀p∈l0.drop i,∀q,Sub p q→q∈L)∧(L.map Part.own).sum=tot (l0.drop i):=by
 have hlen:∀hp,nJ hp .sl l= .ok l0.length:=fun hp=>by rw [bO hl hp,uH hr]
 intro k
 induction k with
 |zero=>
  intro i out xs h hi ac hw hb
  have d:decide ((i:Int)<((l0.length:Nat):Int))=false:=dF om
  refine ⟨h,out,[],[], ?ts0,.of (.refl _),⟨0,fun m _=> ?b0⟩, ?t0,by simpa using ac,.nil, ?s0, ?u0⟩
  case b0=>
   rw [aI]
   exact SX (cj3 @ptB.eq_1 hlen d)
  case t0=>rfl
  case s0=>rw [List.drop_eq_nil_of_le om];intro p hp;cases hp
  case u0=>rw [List.drop_eq_nil_of_le om];rfl
 |succ k ih=>
  intro i out xs h hi ac hw hb
  have hlt:i<l0.length:=om
  have d:decide ((i:Int)<((l0.length:Nat):Int))=true:=dT om
  have w:IntKind.wrap .i64 ((i:Int)+1)=((i+1:Nat):Int):=sH hlt om
  obtain ⟨c,hc,rp,hcl⟩:=Co hr i hlt
  have hia:=kT hl hc hcl
  have p29:takeN 29 c=some c:=by rw [←hcl];exact aW c
  obtain ⟨C1,C2⟩:=C _ (List.getElem_mem hlt)
  have td:=zK hlt
  obtain ⟨h1,o1,ys1,L1,g1,⟨n1,e1⟩,ac1,r1,s1,u1⟩:=C1 _ rp C2 out xs h ac hw om
  have ll:=F3 L1
  have yl:ys1.length=L1.length:=uH r1
  have hw1:Ab 29 (xs++ys1):=fun x hx=>by
   rcases List.mem_append.1 hx with q|q
   ·exact hw x q
   ·exact Ee r1 x q
  obtain ⟨h',o2,ys2,L2,ts,g2,⟨n2,e2⟩,t,ac2,r2,s2,u2⟩:=ih (i+1) o1 (xs++ys1) h1 om ac1 hw1 (by rw [List.length_append];omega)
  refine ⟨h',o2,ys1++ys2,L1++L2,ts,g1.trans g2,⟨n1+n2+1,fun m hm=> ?b2⟩,t,by rw [←List.append_assoc];exact ac2,qF r1 r2, ?s2, ?u2⟩
  case b2=>
   obtain ⟨j,rfl⟩:∃j,m=j+1:=⟨m -1,by omega⟩
   have e1' :=e1 (j+1) om
   have e2' :eval fns orc (j+1) (.code 44 none (.loop ptB) _)=_:=e2 j om
   simp only [ptB] at e2'
   rw [aI]
   exact SVe (cj8 @ptB.eq_1 hlen d hia @ldS p29 e1' w) e2'
  case s2=>
   rw [List.drop_eq_getElem_cons hlt]
   intro p hp q hq
   rcases List.mem_cons.1 hp with rfl|hp
   ·exact List.mem_append_left _ (s1 q hq)
   ·exact List.mem_append_right _ (s2 p hp q hq)
  case u2=>rw [List.map_append,List.sum_append,u1,u2,td]
theorem RH (H:Has fns orc):∀p,XJ fns orc p:=by
 have HB:Has fns orc:=H
 refine Part.ind fun p ih=> ?_
 intro v hv hn out xs h ac hw hb
 have hkl:=uR p
 have ck:∀q∈p.kids,XJ fns orc q∧q.nodes<10000000:=fun q hq=>⟨ih q hq,by have:=tW hq;omega⟩
 have nq:=Part.qH p
 have hv' :=hv
 obtain ⟨c,hc,hcl,hcc⟩:∃c,v= .agg c∧c.length=29∧c.all AV.bX=true:=by obtain ⟨c,h1,rfl⟩:=hv;exact ⟨_,rfl,jD h1,lF h1⟩
 subst hc
 have p29:takeN 29 c=some c:=by rw [←hcl];exact aW c
 obtain ⟨h1,h1e⟩:∃x,x=h.push (.cells c):=⟨_,rfl⟩
 have g1:aP h h1:=by rw [h1e];exact gw2
 have x1:cont h1 h.next=some c:=by rw [h1e];exact aR om om
 have bl:(Nat.beq c.length 29 && c.all AV.bX)=true:=by rw [hcl,hcc];rfl
 have ac1:=ac.grow g1
 have PM:1≤p.own:=by have:=F3 [p];simpa using this
 have hxl:xs.length<20000000:=om
 obtain ⟨o2,h2,ap,ac2,gx,tk⟩:=sG ac1 (n:=29) (v:= .agg c) om hw hcl om
 have T2:TkG out o2 h1 h2:=⟨gx,tk⟩
 have x2:=T2.cont ac1 x1
 obtain ⟨h3,l,zs,g3,⟨m3,e3⟩,hl,hr⟩:=GQ HB hv' hn h2
 have hw2:Ab 29 (xs++[AV.agg c]):=fun x hx=>by
  rcases List.mem_append.1 hx with q|q
  ·exact hw x q
  ·rw [List.mem_singleton.1 q];exact hcl
 obtain ⟨h4,o4,ys,L,ts,T4,⟨m4,e4⟩,t,ac4,r4,s4,u4⟩:=PJ (fns:=fns) (orc:=orc) hl hr om ck p.kids.length 0 o2 (xs++[AV.agg c]) h3 om (ac2.grow g3) hw2 (by
  rw [List.drop_zero,List.length_append]
  show _+tot p.kids<_
  simp only [tot,List.length_singleton]
  omega)
 rw [List.drop_zero] at s4 u4
 refine ⟨h4,o4,AV.agg c::ys,p::L,(((TkG.of g1).trans T2).trans (TkG.of g3)).trans T4,Ev.call H.f44 H.o44 ⟨m3+m4,fun m hm=> ?b2⟩,by simpa using ac4,.cons hv' r4,fun q hq=> ?sq, ?uq⟩
 case b2=>
  have e3' :=e3 m om
  have e4' :=e4 m om
  simp only [ptB,Int.ofNat_zero] at e4'
  exact SV (qC @a44.eq_1 (Eq.symm h1e) x1 @ldS p29 bl ap x2 e3' e4' t @qG)
 case sq=>
  rcases Rm hq with rfl|⟨k,hk,hs⟩
  ·exact List.mem_cons_self ..
  ·exact List.mem_cons_of_mem _ (s4 k hk q hs)
 case uq=>
  rw [List.map_cons,List.sum_cons,u4,nq]
  rfl
theorem Uj (H:Has fns orc) {p:Part} {v:AV} (hv:RP p v) (hn:p.nodes<10000000) (h:aD):
  ∃h' l ys L,aP h h' ∧Ev fns orc (.call 23 [v] .plain h) (.call (.ret l) .plain h')∧iP l ys∧RPL L ys∧(∀q,Sub p q→q∈L)∧(L.map Part.own).sum=p.nodes:=by
 obtain ⟨c,hc,hcl⟩:∃c,v= .agg c∧c.length=29:=by obtain ⟨c,h1,rfl⟩:=hv;exact ⟨_,rfl,jD h1⟩
 subst hc
 have p29:takeN 29 c=some c:=by rw [←hcl];exact aW c
 obtain ⟨h1,h1e⟩:∃x,x=h.push (.cells c):=⟨_,rfl⟩
 have g1:aP h h1:=by rw [h1e];exact gw2
 have x1:cont h1 h.next=some c:=by rw [h1e];exact aR om om
 obtain ⟨h',l,ys,L,T,⟨n1,e1⟩,ac,r,s,u⟩:=RH H p _ hv hn .aC [] h1 .nil (fun x hx=>by cases hx) (by simp;omega)
 have g2:aP h1 h' :=⟨T.g.next,fun i hi=>T.g.get i hi (by intro e;cases e)⟩
 refine ⟨h',l,ys,L,g1.trans g2,Ev.call H.f23 H.o23 ⟨n1,fun m hm=> ?b⟩,(show uU h' l _ from .inl (by simpa using ac)).E6,r,s,u⟩
 case b=>
  have e1' :=e1 m hm
  exact SV (cj7 @a23.eq_1 (Eq.symm h1e) x1 @ldS p29 e1' @qG)
end Go.Ly
namespace Go.Ly
open Go Go.Am Go.Fs Go.Gn
variable {fns:Go.Am.F} {orc:Orc}
theorem Mg {h:aD} {l:AV} {xs:List AV} (a:Acc h l xs) {v:AV} {ys:List AV} (hv:iP v ys) (hx:Ab 1 xs) (hy:∀y∈ys,y.cells.length=1) (hs:xs.length+ys.length≤1073741824):
  ∃l' h',mT h 1 l v= .ok (l',h')∧Acc h' l' (xs++ys)∧TkG l l' h h' :=by
 have el:oO h 1 v= .ok ys:=by cases hv<;>rfl
 cases ys with
 |nil=>
  refine ⟨l,h, ?_,by simpa using a,.of (.refl _)⟩
  simp only [mT,el,aM]
  cases a<;>rfl
 |cons y r=>
  have al:∀zs:List AV,(∀z∈zs,z.cells.length=1)→qK 1 zs=true:=by
   intro zs
   induction zs with
   |nil=>intro _;rfl
   |cons z zs ih=>intro k;simp only [qK,k z (by simp),Nat.beq_refl];exact ih (fun x hx=>k x (by simp [hx]))
  have h1:(Nat.ble 1 1 && qK 1 (y::r))=true:=by rw [al _ hy];rfl
  simp only [List.length_cons] at hs
  cases a with
  |nil=>
   refine ⟨.sl (.opn h.next (y::r).length) (y::r),h.push (.tok (y::r).length), ?_, ?_,⟨Et (aP.push h _) _,fun t ht=>by cases ht;exact .inr (Nat.le_refl _)⟩⟩
   ·simp only [mT,el,aM,h1,wD,yN]
    have:(Nat.ble ((([]:List AV).length+(y::r).length)*1) lX && mR 1 [])=true:=by
     simp only [mR,Bool.and_true,List.length_nil,List.length_cons,Nat.zero_add,Nat.mul_one]
     rw [Nat.ble_eq];simp only [lX];simp at hs;omega
    rw [this]
    simp
   ·exact .opn h.next (y::r) (aD.qI _ _) (by simp)
  |opn t xs ht hp=>
   have hlt:=aD.mN ht
   refine ⟨.sl (.opn t (xs.length+(y::r).length)) (xs++(y::r)),h.set t (.tok (xs.length+(y::r).length)), ?_, ?_,⟨⟨by simp,fun i hi hne=>aE _ _ _ _ hlt (fun e=>hne (by rw [e];rfl))⟩,fun t' e=> .inl e⟩⟩
   ·simp only [mT,el,aM,h1,wD,Hu,ht]
    have:(Nat.beq xs.length xs.length && Nat.beq xs.length xs.length && Nat.ble ((xs.length+(y::r).length)*1) lX && Bq 1 xs)=true:=by
     simp only [Ep hx hp,Bool.and_true,Nat.beq_refl,Bool.true_and,Nat.mul_one]
     rw [Nat.ble_eq];simp only [lX,List.length_cons];omega
    rw [this]
   ·have:=Acc.opn (h:=h.set t (.tok (xs.length+(y::r).length))) t (xs++(y::r)) (by rw [aQ _ _ _ hlt];simp) (by simp;omega)
    simpa using this
def nmP:Part→List (List UInt8)
 | .decl d=>fR d
 |_=>[]
def nmL (L:List Part):List (List UInt8):=L.flatMap nmP
theorem M0:∀L:List Part,(nmL L).length≤(L.map Part.own).sum
 |[]=>Nat.le_refl _
 |p::L=>by
  have:=M0 L
  have:(nmP p).length≤p.own:=by cases p with|decl d=>cases d;simp only [nmP,fR,Part.own];omega|_=>exact Nat.zero_le _
  simp only [nmL,List.flatMap_cons,List.length_append,List.map_cons,List.sum_cons] at*
  omega
theorem UH {p:Part} {c:List AV} (h:RP p (.agg c)):(∃k,nth c 0=some (.int .i64 k)∧decide (k=3)=false∧nmP p=[])∨(nth c 0=some (.int .i64 3)∧∃vn,nth c 17=some vn∧iP vn ((nmP p).map AV.str)):=by
 obtain ⟨c0,hv,e⟩:=h
 cases e
 cases hv with
 |decl h0 h1 h2 h3=>exact .inr ⟨rfl,_,rfl,h0⟩
 |_=>exact .inl ⟨_,rfl,rfl,rfl⟩
def nsB:AC:=p8x1110100
theorem PX {L:List Part} {l:AV} {zs:List AV} (hl:iP l zs) (hr:RPL L zs) (hn:(L.map Part.own).sum<10000000):∀(k i:Nat) (out:AV) (h:aD),i+k=L.length→Acc h out ((nmL (L.take i)).map AV.str)→
  ∃h' GC ts,TkG out GC h h' ∧(∃N,∀m,N≤m→cG (eval fns orc m) 8 none (.loop nsB) ⟨[(3,out),(4,l),(5,.int .i64 (i:Nat))],[],.plain,h⟩= .ok (.code (.exit 0) ⟨ts,[],.plain,h'⟩))∧cH ts 3=GC ∧Acc h' GC ((nmL L).map AV.str):=by
 have hll:=F3 L
 have hlen:∀hp,nJ hp .sl l= .ok L.length:=fun hp=>by rw [bO hl hp,uH hr]
 intro k
 induction k with
 |zero=>
  intro i out h hi ac
  have d:decide ((i:Int)<((L.length:Nat):Int))=false:=dF om
  rw [List.take_of_length_le om] at ac
  refine ⟨h,out, ?ts0,.of (.refl _),⟨0,fun m _=> ?b0⟩, ?t0,ac⟩
  case b0=>
   rw [aI]
   exact SX (cj3 @nsB.eq_1 hlen d)
  case t0=>rfl
 |succ k ih=>
  intro i out h hi ac
  have hlt:i<L.length:=om
  have d:decide ((i:Int)<((L.length:Nat):Int))=true:=dT om
  have w:IntKind.wrap .i64 ((i:Int)+1)=((i+1:Nat):Int):=sH hlt om
  obtain ⟨c,hc,rp,hcl⟩:=Co hr i hlt
  have hia:=kT hl hc hcl
  have tk:nmL (L.take (i+1))=nmL (L.take i)++nmP L[i]:=by
   rw [List.take_add_one,List.getElem?_eq_getElem hlt]
   show List.flatMap nmP (L.take i++[L[i]])=_
   rw [List.flatMap_append,List.flatMap_singleton]
   rfl
  rcases UH rp with ⟨k',k1,k2,k3⟩|⟨k1,vn,k2,k3⟩
  ·rw [k3,List.append_nil] at tk
   obtain ⟨h',o2,ts,g2,⟨n2,e2⟩,t,ac2⟩:=ih (i+1) out h om (by rw [tk];exact ac)
   refine ⟨h',o2,ts,g2,⟨n2+1,fun m hm=> ?b1⟩,t,ac2⟩
   case b1=>
    obtain ⟨j,rfl⟩:∃j,m=j+1:=⟨m -1,by omega⟩
    have e2' :eval fns orc (j+1) (.code 8 none (.loop nsB) _)=_:=e2 j om
    simp only [nsB] at e2'
    rw [aI]
    exact SXe (cj7 @nsB.eq_1 hlen d hia k1 k2 w) e2'
  ·have tl:=M0 (L.take (i+1))
   have tl2:((L.take (i+1)).map Part.own).sum≤(L.map Part.own).sum:=by
    have:=List.take_append_drop (i+1) L
    have e:(L.map Part.own).sum=((L.take (i+1)).map Part.own).sum+((L.drop (i+1)).map Part.own).sum:=by rw [←List.sum_append,←List.map_append,this]
    omega
   rw [tk,List.length_append] at tl
   obtain ⟨o1,h1,ap,ac1,T1⟩:=Mg ac k3 (fun x hx=>by obtain ⟨s,_,rfl⟩:=List.mem_map.1 hx;rfl) (fun x hx=>by obtain ⟨s,_,rfl⟩:=List.mem_map.1 hx;rfl) (by simp only [List.length_map];omega)
   obtain ⟨h',o2,ts,g2,⟨n2,e2⟩,t,ac2⟩:=ih (i+1) o1 h1 om (by rw [tk,List.map_append];exact ac1)
   refine ⟨h',o2,ts,T1.trans g2,⟨n2+1,fun m hm=> ?b2⟩,t,ac2⟩
   case b2=>
    obtain ⟨j,rfl⟩:∃j,m=j+1:=⟨m -1,by omega⟩
    have e2' :eval fns orc (j+1) (.code 8 none (.loop nsB) _)=_:=e2 j om
    simp only [nsB] at e2'
    rw [aI]
    exact SXe (cj8 @nsB.eq_1 hlen d hia k1 k2 ap w) e2'
theorem Qa (H:Has fns orc) {d:pD} {cs:List AV} (hv:RV (.desc d) (.agg cs)) (hn:(Part.desc d).nodes<10000000) (h:aD):
  ∃h' v,∃all:List (List UInt8),aP h h' ∧Ev fns orc (.call 8 [.agg cs] .plain h) (.call (.ret v) .plain h')∧iP v (all.map AV.str)∧all.length<10000000∧∀x,Sub (.desc d) (.decl x)→∀s∈fR x,s∈all:=by
 have HB:Has fns orc:=H
 have hcl:=kW hv
 have p7:takeN 7 cs=some cs:=by rw [←hcl];exact aW cs
 obtain ⟨h1,h1e⟩:∃x,x=h.push (.cells cs):=⟨_,rfl⟩
 have g1:aP h h1:=by rw [h1e];exact gw2
 have x1:cont h1 h.next=some cs:=by rw [h1e];exact aR om om
 obtain ⟨h2,v2,g2,rp,⟨n2,e2⟩⟩:=Gg HB hv h1
 obtain ⟨h3,l,ys,L,g3,⟨n3,e3⟩,hl,hr,hs,hu⟩:=Uj H rp hn h2
 obtain ⟨h4,o,ts,T,⟨n4,e4⟩,t,ac⟩:=PX (fns:=fns) (orc:=orc) hl hr om L.length 0 .aC h3 om .nil
 have g4:aP h3 h4:=⟨T.g.next,fun i hi=>T.g.get i hi (by intro e;cases e)⟩
 have nl:=M0 L
 refine ⟨h4,o,nmL L,(g1.trans g2).trans (g3.trans g4),Ev.call H.f8 H.o8 ⟨n2+n3+n4,fun m hm=> ?b⟩,(show uU h4 o _ from .inl ac).E6,by omega,fun x hx s hs' =>List.mem_flatMap.2 ⟨_,hs _ hx,hs'⟩⟩
 case b=>
  have e2' :=e2 m om
  have e3' :=e3 m om
  have e4' :=e4 m om
  simp only [nsB,Int.ofNat_zero] at e4'
  exact SX (cj8 @a8.eq_1 (Eq.symm h1e) x1 p7 e2' e3' e4' t)
end Go.Ly
namespace Go.Ly
open Go Go.Am Go.Fs Go.Gn
def mcF (Γ:Tb) (S:Nat→DY) (c:List Nat) (s:List UInt8):Int:=match uW Γ s c with
 |some x=>AZ Γ S (c.getD x.1 0) x.2.1 x.2.2
 |none=> -1
theorem BU {l:List kV} {i:Nat} {x:kV} (h:l[i]? =some x):lB (l.take (i+1))=lB (l.take i)+(if xW (iR x)=true then (fR x).length else 0):=by
 rw [vZ h]
 simp [lB]
theorem Hk (l:List kV) {i j:Nat} (h:i≤j):lB (l.take i)≤lB (l.take j):=by
 have:=DU (l.take j) i
 rwa [List.take_take,Nat.min_eq_left h] at this
theorem Iy {l:List kV} {z:Nat}:∀n,n≤l.length→z<lB (l.take n)→∃i x,l[i]? =some x∧xW (iR x)=true∧lB (l.take i)≤z∧z<lB (l.take i)+(fR x).length
 |0,_,h=>by simp [lB] at h
 |n+1,hn,h=>by
  obtain ⟨x,hx⟩:∃x,l[n]? =some x:=⟨l[n],List.getElem?_eq_getElem om⟩
  by_cases c:z<lB (l.take n)
  ·exact Iy n om c
  ·rw [BU hx] at h
   cases k:xW (iR x) with
   |false=>rw [k] at h;simp at h;omega
   |true=>rw [k,if_pos rfl] at h;exact ⟨n,x,hx,k,by omega,h⟩
theorem CM {S:Nat→DY} {c:List Nat} {q o:Nat} (h:c[q]? =some o):wA S (c.take (q+1))=wA S (c.take q)+(S o).cl:=by rw [vZ h,EX]
theorem Im {S:Nat→DY} {c:List Nat} (hc:∀k∈c,0≤(S k).cl) {i j:Nat} (h:i≤j):wA S (c.take i)≤wA S (c.take j):=by
 obtain ⟨d,rfl⟩:∃d,j=i+d:=⟨j -i,by omega⟩
 clear h
 induction d with
 |zero=>exact Int.le_refl _
 |succ d ih=>
  rw [←Nat.add_assoc]
  by_cases q:i+d<c.length
  ·have w:=List.getElem?_eq_getElem q
   have:=hc _ (List.mem_of_getElem? w)
   rw [CM w]
   omega
  ·rw [List.take_of_length_le (by omega:c.length≤i+d+1)]
   rw [List.take_of_length_le (by omega:c.length≤i+d)] at ih
   exact ih
theorem KP {S:Nat→DY} {c:List Nat} {y:Int} (h0:0≤y):∀n,n≤c.length→y<wA S (c.take n)→∃q o,c[q]? =some o∧wA S (c.take q)≤y∧y<wA S (c.take q)+(S o).cl
 |0,_,h=>by simp [wA] at h;omega
 |n+1,hn,h=>by
  have hx:=List.getElem?_eq_getElem (l:=c) (i:=n) om
  by_cases q:y<wA S (c.take n)
  ·exact KP h0 n om q
  ·rw [CM hx] at h
   exact ⟨n,_,hx,by omega,h⟩
structure J7 (Γ:Tb) (S:Nat→DY) (c:List Nat) (s:List UInt8) (y:Int) (q o i k:Nat) (x:kV):Prop where
 o_:c[q]? =some o
 x_:(aU (Γ.D o).pd)[i]? =some x
 s_:(fR x)[k]? =some s
 k_:xW (iR x)=true
 y_:y=wA S (c.take q)+(lB ((aU (Γ.D o).pd).take i):Nat)+(k:Nat)
section
variable {Γ:Tb} {S:Nat→DY} {h:aD} (M:Made Γ S h) {a:Nat} (ha:a<Γ.n) {c u:List Nat} (hc:(S a).ch=some (c,u))
include M ha hc
theorem JR {s:List UInt8} (h0:0≤mcF Γ S c s):∃q o i k x,J7 Γ S c s (mcF Γ S c s) q o i k x:=by
 cases hm:uW Γ s c with
 |none=>simp only [mcF,hm] at h0;omega
 |some t=>
  obtain ⟨q,i,k⟩:=t
  obtain ⟨_,⟨o,h1,h2⟩,_⟩:=CP hm
  obtain ⟨x,h3,h4,_⟩:=xH h2
  obtain ⟨y,g1,g2,_⟩:=Bu h4
  obtain rfl:s=y:=of_decide_eq_true g2
  have e:mcF Γ S c s=AZ Γ S o i k:=by simp only [mcF,hm,List.getD_eq_getElem?_getD,h1,Option.getD_some]
  rw [e] at h0⊢
  simp only [AZ,h3] at h0⊢
  cases kk:xW (iR x) with
  |false=>rw [kk] at h0;simp at h0
  |true=>exact ⟨q,o,i,k,x,h1,h3,g1,kk,by rw [if_pos rfl,M.wf.Yb ha hc h1]⟩
theorem Ge {k:Nat} (hk:k∈c):(S k).cl=(lB (aU (Γ.D k).pd):Nat):=by
 obtain ⟨q,hq⟩:=tX hk
 obtain ⟨h1,u',h2⟩:=M.wf.part c.length a c u (Nat.le_refl _) ha hc q k hq
 exact (M.wf k h1 _ _ h2).cl
theorem L5 {k:Nat} (hk:k∈c):0≤(S k).cl:=by rw [Ge M ha hc hk];omega
theorem J7.rng {s:List UInt8} {y:Int} {q o i k:Nat} {x:kV} (C:J7 Γ S c s y q o i k x):k<(fR x).length∧lB ((aU (Γ.D o).pd).take i)+(fR x).length≤lB (aU (Γ.D o).pd)∧wA S (c.take q)≤y∧y<wA S (c.take q)+(S o).cl∧y<wA S c:=by
 have hk:=(List.getElem?_eq_some_iff.1 C.s_).1
 have st:=BU C.x_
 rw [C.k_,if_pos rfl] at st
 have ct:=DU (aU (Γ.D o).pd) (i+1)
 have ho:=List.mem_of_getElem? C.o_
 have cl:=Ge M ha hc ho
 have y_:=C.y_
 have mo:=Im (S:=S) (c:=c) (fun k hk=>L5 M ha hc hk) (i:=q+1) (j:=c.length) (List.getElem?_eq_some_iff.1 C.o_).1
 rw [CM C.o_,List.take_length] at mo
 omega
theorem L6 {s s' :List UInt8} (h0:0≤mcF Γ S c s) (e:mcF Γ S c s' =mcF Γ S c s):s=s' :=by
 obtain ⟨q,o,i,k,x,C⟩:=JR M ha hc h0
 obtain ⟨q',o',i',k',x',C'⟩:=JR M ha hc (s:=s') om
 rw [e] at C'
 have r:=C.rng M ha hc
 have r' :=C'.rng M ha hc
 have mono:∀{q q' o o' :Nat},c[q]? =some o→q<q' →wA S (c.take q)+(S o).cl≤wA S (c.take q'):=fun {q q' o o'} h l=>by
  have:=Im (S:=S) (c:=c) (fun k hk=>L5 M ha hc hk) (i:=q+1) (j:=q') l
  rwa [CM h] at this
 have hq:q=q' :=by
  rcases Nat.lt_trichotomy q q' with l|l|l
  ·have:=mono (o' :=0) C.o_ l;omega
  ·exact l
  ·have:=mono (o' :=0) C'.o_ l;omega
 subst hq
 have ho:o=o' :=by have:=C.o_;rw [C'.o_] at this;exact (Option.some.inj this).symm
 subst ho
 have y1:=C.y_
 have y2:=C'.y_
 have hi:i=i' :=by
  rcases Nat.lt_trichotomy i i' with l|l|l
  ·have:=Hk (aU (Γ.D o).pd) (i:=i+1) (j:=i') l
   rw [BU C.x_,C.k_,if_pos rfl] at this
   omega
  ·exact l
  ·have:=Hk (aU (Γ.D o).pd) (i:=i' +1) (j:=i) l
   rw [BU C'.x_,C'.k_,if_pos rfl] at this
   omega
 subst hi
 have hx:x=x' :=by have:=C.x_;rw [C'.x_] at this;exact (Option.some.inj this).symm
 subst hx
 obtain rfl:k=k' :=om
 have:=C.s_
 rw [C'.s_] at this
 exact (Option.some.inj this).symm
theorem Hp {s:List UInt8} {n:Nat} {x:Nat×Nat×Nat} (hx:uW Γ s (c.take n)=some x) (hk:¬(rE Γ s (c.take n)=2∨rE Γ s (c.take n)=3)):
  ∀k,n+k≤c.length→uW Γ s (c.take (n+k))=some x∧rE Γ s (c.take (n+k))=rE Γ s (c.take n)
 |0,_=>⟨hx,rfl⟩
 |k+1,hl=>by
  obtain ⟨d,hd⟩:∃d,c[n+k]? =some d:=⟨c[n+k],List.getElem?_eq_getElem om⟩
  have ih:=Hp hx hk k om
  obtain ⟨hn,D⟩:=JO M ha hc (n+k) d hd
  have km:=GP M.ok (JO M ha hc) s n om
  rw [←Nat.add_assoc,vZ hd,CQ]
  have ek:rE Γ s (c.take (n+k)++[d])=_:=AD 0
  rw [ek]
  cases e:pN (aU (Γ.D d).pd) s with
  |none=>exact ih
  |some y=>
   obtain ⟨i,k'⟩:=y
   obtain ⟨x',g1,g2,g3,g4⟩:=NG D e
   rw [ih.2] at g3 g4
   cases b:xX (iR x') with
   |true=>exact absurd (g3 b) hk
   |false=>exact absurd (g4 b) (km.2.1 (by rw [hx];simp))
theorem TT {y:Int} (h0:0≤y) (h1:y<wA S c):∃s q o i k x,mcF Γ S c s=y∧J7 Γ S c s y q o i k x:=by
 obtain ⟨q,o,ho,l1,l2⟩:=KP h0 c.length (Nat.le_refl _) (by rw [List.take_length];exact h1)
 have cl:=Ge M ha hc (List.mem_of_getElem? ho)
 obtain ⟨hon,D⟩:=JO M ha hc q o ho
 obtain ⟨z,hz⟩:∃z:Nat,y=wA S (c.take q)+(z:Nat):=⟨(y -wA S (c.take q)).toNat,by omega⟩
 obtain ⟨i,x,hx,hk,g1,g2⟩:=Iy (l:=aU (Γ.D o).pd) (z:=z) _ (Nat.le_refl _) (by rw [List.take_length];omega)
 obtain ⟨k,hk2⟩:∃k,z=lB ((aU (Γ.D o).pd).take i)+k:=⟨z -lB ((aU (Γ.D o).pd).take i),by omega⟩
 have hkl:k<(fR x).length:=om
 obtain ⟨s,hs⟩:∃s,(fR x)[k]? =some s:=⟨_,List.getElem?_eq_getElem hkl⟩
 obtain ⟨d1,d2,d3⟩:=D i x k s hx hs
 have bk:xX (iR x)=false:=by
  simp only [xW,decide_eq_true_eq] at hk
  exact decide_eq_false om
 have m1:uW Γ s (c.take (q+1))=some (q,i,k):=by
  have hql:(c.take q).length=q:=by rw [List.length_take];have:=(List.getElem?_eq_some_iff.1 ho).1;omega
  rw [vZ ho,CQ,d1,hql]
 have k1:rE Γ s (c.take (q+1))=iR x:=by
  rw [vZ ho]
  have ek:rE Γ s (c.take q++[o])=_:=AD 0
  rw [ek,d1]
  simp only [hx]
 have hql:=(List.getElem?_eq_some_iff.1 ho).1
 have m2:=(Hp M ha hc (s:=s) (n:=q+1) m1 (by
  rw [k1]
  simp only [xW,decide_eq_true_eq] at hk
  omega) (c.length -(q+1)) om).1
 rw [show q+1+(c.length -(q+1))=c.length by omega,List.take_length] at m2
 refine ⟨s,q,o,i,k,x, ?_,ho,hx,hs,hk,by omega⟩
 simp only [mcF,m2,List.getD_eq_getElem?_getD,ho,Option.getD_some,AZ,hx,hk,if_true,M.wf.Yb ha hc ho]
 omega
end
theorem sub_zero {q:Part} (h:Sub (.desc vE) q):q= .desc vE:=by
 induction h with
 |refl=>rfl
 |kid _ hq ih=>subst ih;simp [Part.kids,vE] at hq
theorem TU {Γ:Tb} {S:Nat→DY} {h:aD} (M:Made Γ S h) {d:pD} (R:VH Γ d) {all:List (List UInt8)} (A:∀x,Sub (.desc d) (.decl x)→∀s∈fR x,s∈all) {o i k:Nat} {x:kV} {s:List UInt8} (ho:o<Γ.n) (hx:(aU (Γ.D o).pd)[i]? =some x) (hs:(fR x)[k]? =some s):s∈all∧s≠[]:=by
 have hm:=List.mem_of_getElem? hx
 have hsm:=List.mem_of_getElem? hs
 obtain ⟨d',hd,hR⟩:=R
 have sb:=hR o ho
 have kd:Part.decl x∈(Part.desc (Γ.D o).pd).kids:=by
  cases e:(Γ.D o).pd with|mk s1 pl dl el b il xl=>
  rw [e] at hm
  simp only [Part.kids,List.mem_append,List.mem_map]
  exact .inl (.inl (.inl (.inr ⟨x,hm,rfl⟩)))
 refine ⟨?_,(BS (M.ok.ok o ho) hm).name s hsm⟩
 rcases hd with rfl|rfl
 ·exact A x (.kid sb kd) s hsm
 ·have:=sub_zero sb
  rw [this] at kd
  simp [Part.kids,vE] at kd
end Go.Ly
namespace Go.Ly
open Go Go.Am Go.Fs Go.Gn
variable {fns:Go.Am.F} {orc:Orc}
def clA:AC:=p3x111111110100
def clB:AC:=p3x1111111110100
theorem Ua {a n y:Nat} (h:y<n):pT 1 (.arr a 0 n n) (.int .i64 (y:Nat))= .ok (.ptr a y):=by
 have e:ilt (y:Int) ((n:Nat):Int)=true:=by rw [kH];exact dT om
 simp only [pT,yH,e,Bool.and_self,uP,Nat.mul_one,Nat.zero_add]
theorem Fy:∀(y:Nat) (cs:List AV) (v:AV),y<cs.length→cI y [v] cs=some (cs.set y v)
 |0,c::cs,v,_=>by simp [cI]
 |y+1,c::cs,v,h=>by simp only [cI,Fy y cs v (Nat.lt_of_succ_lt_succ h),List.set_cons_succ]
theorem Rn {h:aD} {a y:Nat} {cs:List AV} {v:AV} (hc:cont h a=some cs) (hy:y<cs.length) (hv:v.cells=[v]) (hk:v.bX=true):kG h 1 (.ptr a y) v= .ok (h.set a (.cells (cs.set y v))):=by
 have e:(Nat.beq [v].length 1 &&[v].all AV.bX)=true:=by simp [hk]
 rw [iS,hc,iO,hv,e,if_pos rfl,Fy y cs v hy]
def Un (Γ:Tb) (S:Nat→DY) (c:List Nat) (N:Nat) (l has:List (List UInt8)):Prop:=∀y:Nat,y<N→(∃s∈l,mcF Γ S c s=(y:Int)∧has[y]? =some s)∨((∀s∈l,mcF Γ S c s≠(y:Int))∧has[y]? =some [])
theorem Kf {l:List (List UInt8)} {y:Nat} {s:List UInt8} (h:l[y]? =some s):nth (l.map AV.str) y=some (.str s):=by rw [yU];simp [h]
abbrev clT (at_:Nat) (Γ:Tb) (N ab:Nat) (v:AV) (i:Nat):fN:=[(1,.int .i64 (at_:Nat)),(5,.ptr Γ.tb 0),(7,.int .i64 (N:Nat)),(8,.arr ab 0 N N),(9,v),(10,.int .i64 (i:Nat))]
theorem Xt (H:Has fns orc) {Γ:Tb} {S:Nat→DY} {h0:aD} (M:Made Γ S h0) {a:Nat} (ha:a<Γ.n) {c u:List Nat} (hc:(S a).ch=some (c,u)) {N:Nat} (hN:wA S c=(N:Nat)) {ab:Nat} (hab:h0.next≤ab) {v:AV} {all:List (List UInt8)} (hv:iP v (all.map AV.str)) (hal:all.length<10000000):
  ∀(k i:Nat) (h:aD) (has:List (List UInt8)),i+k=all.length→aP h0 h→cont h ab=some (has.map AV.str)→has.length=N→Un Γ S c N (all.take i) has→
   ∃h' Lv ts,aP h0 h' ∧cont h' ab=some (Lv.map AV.str)∧Un Γ S c N all Lv ∧(∃n,∀m,n≤m→cG (eval fns orc m) 3 none (.loop clA) ⟨clT a Γ N ab v i,[],.plain,h⟩= .ok (.code (.exit 0) ⟨ts,[],.plain,h'⟩))∧cH ts 7= .int .i64 (N:Nat)∧cH ts 8= .arr ab 0 N N:=by
 have hlen:∀hp,nJ hp .sl v= .ok all.length:=fun hp=>by rw [bO hv hp,List.length_map]
 intro k
 induction k with
 |zero=>
  intro i h has hi g hcn hl I
  have d:decide ((i:Int)<((all.length:Nat):Int))=false:=dF om
  rw [List.take_of_length_le om] at I
  refine ⟨h,has, ?ts0,g,hcn,I,⟨0,fun m _=> ?b0⟩, ?t7, ?t8⟩
  case b0=>
   rw [aI]
   exact SX (cj3 @clA.eq_1 hlen d)
  case t7=>rfl
  case t8=>rfl
 |succ k ih=>
  intro i h has hi g hcn hl I
  have hlt:i<all.length:=om
  have d:decide ((i:Int)<((all.length:Nat):Int))=true:=dT om
  have w:IntKind.wrap .i64 ((i:Int)+1)=((i+1:Nat):Int):=sH hlt om
  obtain ⟨s,hs⟩:∃s,all[i]? =some s:=⟨_,List.getElem?_eq_getElem hlt⟩
  have hia:=oX hv (i:=i) (v:= .str s) (by simp [hs]) rfl
  have tk:all.take (i+1)=all.take i++[s]:=vZ hs
  obtain ⟨h1,g1,⟨n1,e1⟩⟩:=Ft H (M.grow g) ha hc s
  have nn1:=g1.next
  have lab:=aO hcn
  have c1:=(aF g1 lab).trans hcn
  have skip:mcF Γ S c s<0→Un Γ S c N (all.take (i+1)) has:=fun q y hy=>by
   rw [tk]
   rcases I y hy with ⟨s',h1,h2,h3⟩|⟨h1,h2⟩
   ·exact .inl ⟨s',List.mem_append_left _ h1,h2,h3⟩
   ·refine .inr ⟨fun s' hs' => ?_,h2⟩
    rcases List.mem_append.1 hs' with w|w
    ·exact h1 s' w
    ·rw [List.mem_singleton.1 w];omega
  cases hm:uW Γ s c with
  |none=>
   have e:sA Γ S (Az Γ s c)= .tup [.agg z6,.int .i64 5]:=by simp only [Az,hm];rfl
   rw [e] at e1
   obtain ⟨hA,hAe⟩:∃x,x=(h1.push (.cells z6)).set h1.next (.cells z6):=⟨_,rfl⟩
   have gA:aP h1 hA:=by rw [hAe];exact gw2
   obtain ⟨h',Lv,ts,g',c',I',⟨n2,e2⟩,t7,t8⟩:=ih (i+1) hA has om ((g.trans g1).trans gA) ((aF gA om).trans c1) hl (skip (by simp only [mcF,hm];omega))
   refine ⟨h',Lv,ts,g',c',I',⟨n1+n2+1,fun m hm=> ?b1⟩,t7,t8⟩
   case b1=>
    obtain ⟨j,rfl⟩:∃j,m=j+1:=⟨m -1,by omega⟩
    have e1' :=e1 (j+1) om
    have e2' :eval fns orc (j+1) (.code 3 none (.loop clA) _)=_:=e2 j om
    simp only [clA] at e2'
    rw [aI]
    exact SXe (cj7 @clA.eq_1 hlen d hia e1' (Eq.symm hAe) w) e2'
  |some t=>
   obtain ⟨q,i',k'⟩:=t
   obtain ⟨o,x,r5,_⟩:=M9 hm
   have em:mcF Γ S c s=AZ Γ S o i' k' :=by simp only [mcF,hm,List.getD_eq_getElem?_getD,r5,Option.getD_some]
   have e:sA Γ S (Az Γ s c)= .tup [.agg [.int .i64 0,.int .i64 (q:Nat),.int .i64 (o:Nat),.int .i64 (i' :Nat),.int .i64 (k' :Nat),.int .i64 (AZ Γ S o i' k')],.int .i64 0]:=by
    simp only [Az,hm,Option.map,List.getD_eq_getElem?_getD,r5,Option.getD_some,sA]
    rfl
   rw [e] at e1
   obtain ⟨y0,hy0⟩:∃z,z=AZ Γ S o i' k' :=⟨_,rfl⟩
   rw [←hy0] at e1 em
   obtain ⟨hA,hAe⟩:∃x,x=(h1.push (.cells z6)).set h1.next (.cells [.int .i64 0,.int .i64 (q:Nat),.int .i64 (o:Nat),.int .i64 (i' :Nat),.int .i64 (k' :Nat),.int .i64 y0]):=⟨_,rfl⟩
   have gA:aP h1 hA:=by rw [hAe];exact gw2
   have nA:hA.next=h1.next+1:=by rw [hAe];simp
   have a11:cont hA h1.next=some [.int .i64 0,.int .i64 (q:Nat),.int .i64 (o:Nat),.int .i64 (i' :Nat),.int .i64 (k' :Nat),.int .i64 y0]:=by rw [hAe];exact aG (by simp)
   have cA:=(aF gA om).trans c1
   have d0:decide ((0:Int)=0)=true:=rfl
   cases dy:decide (y0<0) with
   |true=>
    obtain ⟨h',Lv,ts,g',c',I',⟨n2,e2⟩,t7,t8⟩:=ih (i+1) hA has om ((g.trans g1).trans gA) cA hl (skip (by rw [em];exact of_decide_eq_true dy))
    refine ⟨h',Lv,ts,g',c',I',⟨n1+n2+1,fun m hm=> ?b2⟩,t7,t8⟩
    case b2=>
     obtain ⟨j,rfl⟩:∃j,m=j+1:=⟨m -1,by omega⟩
     have e1' :=e1 (j+1) om
     have e2' :eval fns orc (j+1) (.code 3 none (.loop clA) _)=_:=e2 j om
     simp only [clA] at e2'
     rw [aI]
     exact SXe (tR @clA.eq_1 hlen d hia e1' (Eq.symm hAe) d0 a11 dy w) e2'
   |false=>
    have hp:=of_decide_eq_false dy
    obtain ⟨y,rfl⟩:∃y:Nat,y0=(y:Int):=⟨y0.toNat,by omega⟩
    obtain ⟨q',o',i'',k'',x',C⟩:=JR M ha hc (s:=s) (by rw [em];omega)
    rw [em] at C
    have hyN:y<N:=by have:=(C.rng M ha hc).2.2.2.2;omega
    have dN:decide (((N:Nat):Int)≤(y:Int))=false:=dF om
    have i8:=Ua (a:=ab) hyN
    obtain ⟨hv0,hh0⟩:∃z,has[y]? =some z:=⟨_,List.getElem?_eq_getElem om⟩
    have n8:=Kf hh0
    have st:=Rn (v:= .str s) cA (y:=y) (by rw [List.length_map];omega) rfl rfl
    rw [←List.map_set] at st
    obtain ⟨hB,hBe⟩:∃z,z=hA.set ab (.cells ((has.set y s).map AV.str)):=⟨_,rfl⟩
    rw [←hBe] at st
    have gB:aP h0 hB:=by rw [hBe];exact ((g.trans g1).trans gA).set om om _
    have cB:cont hB ab=some ((has.set y s).map AV.str):=by rw [hBe];exact aG om
    have I2:Un Γ S c N (all.take (i+1)) (has.set y s):=fun z hz=>by
     rw [tk]
     by_cases e:z=y
     ·subst e
      exact .inl ⟨s,by simp,em,by rw [List.getElem?_set_self om]⟩
     ·rw [List.getElem?_set_ne (fun w=>e w.symm)]
      rcases I z hz with ⟨s',h1,h2,h3⟩|⟨h1,h2⟩
      ·exact .inl ⟨s',List.mem_append_left _ h1,h2,h3⟩
      ·refine .inr ⟨fun s' hs' => ?_,h2⟩
       rcases List.mem_append.1 hs' with w|w
       ·exact h1 s' w
       ·rw [List.mem_singleton.1 w,em];omega
    obtain ⟨h',Lv,ts,g',c',I',⟨n2,e2⟩,t7,t8⟩:=ih (i+1) hB (has.set y s) om gB cB (by rw [List.length_set];exact hl) I2
    refine ⟨h',Lv,ts,g',c',I',⟨n1+n2+1,fun m hm=> ?b3⟩,t7,t8⟩
    case b3=>
     obtain ⟨j,rfl⟩:∃j,m=j+1:=⟨m -1,by omega⟩
     have e1' :=e1 (j+1) om
     have e2' :eval fns orc (j+1) (.code 3 none (.loop clA) _)=_:=e2 j om
     simp only [clA] at e2'
     rw [aI]
     cases dE:jI hv0 [] with
     |true=>
      exact SXe (Bd @clA.eq_1 hlen d hia e1' (Eq.symm hAe) d0 a11 dy dN i8 cA n8 dE st w) e2'
     |false=>
      have hs0:hv0=s:=by
       rcases I y hyN with ⟨s',h1,h2,h3⟩|⟨h1,h2⟩
       ·rw [hh0] at h3
        cases h3
        exact (L6 M ha hc (s:=s) (by rw [em];omega) (by rw [h2,em])).symm
       ·rw [hh0] at h2
        cases h2
        cases dE
      have dS:jI hv0 s=true:=by rw [jV,hs0];simp
      exact SXe (dI @clA.eq_1 hlen d hia e1' (Eq.symm hAe) d0 a11 dy dN i8 cA n8 dE dS st w) e2'
theorem Xs {N ab:Nat} (hN:N<1000000000) {has:List (List UInt8)} {h:aD} (hcn:cont h ab=some (has.map AV.str)) (hh:∀y,y<N→∃s,has[y]? =some s∧s≠[]):∀(k i:Nat),i+k=N→
  ∃ts n,∀m,n≤m→cG (eval fns orc m) 3 none (.loop clB) ⟨[(7,.int .i64 (N:Nat)),(8,.arr ab 0 N N),(13,.int .i64 (i:Nat))],[],.plain,h⟩= .ok (.code (.exit 2) ⟨ts,[],.plain,h⟩):=by
 intro k
 induction k with
 |zero=>
  intro i hi
  have d:decide ((i:Int)<((N:Nat):Int))=false:=dF om
  refine ⟨?ts0,0,fun m _=> ?b0⟩
  case b0=>
   rw [aI]
   exact SX (cj2 @clB.eq_1 d)
 |succ k ih=>
  intro i hi
  have hlt:i<N:=om
  have d:decide ((i:Int)<((N:Nat):Int))=true:=dT om
  have w:IntKind.wrap .i64 ((i:Int)+1)=((i+1:Nat):Int):=sH hlt om
  have i8:=Ua (a:=ab) hlt
  obtain ⟨s,hs,hne⟩:=hh i hlt
  have n8:=Kf hs
  have dE:jI s []=false:=by rw [jV];simpa using hne
  obtain ⟨ts,n,e⟩:=ih (i+1) om
  refine ⟨ts,n+1,fun m hm=> ?b1⟩
  case b1=>
   obtain ⟨j,rfl⟩:∃j,m=j+1:=⟨m -1,by omega⟩
   have e' :eval fns orc (j+1) (.code 3 none (.loop clB) _)=_:=e j om
   simp only [clB] at e'
   rw [aI]
   exact SXe (cj7 @clB.eq_1 d i8 hcn n8 dE w) e'
end Go.Ly
namespace Go.Ly
open Go Go.Am Go.Fs Go.Gn
variable {fns:Go.Am.F} {orc:Orc}
def YW:AC:=p3x1111111
def YV:AC:=p3x11111111
def YU:AC:=p3x111111111
theorem Gc:a3.body= .seq p3x0 (.seq p3x10 (.seq p3x110 (.seq p3x1110 (.seq p3x11110 (.seq p3x111110 (.seq p3x1111110 YW)))))):=rfl
theorem VA:YW= .seq p3x11111110 YV:=rfl
theorem Vz:YV= .seq (.seq p3x1111111100 (.block 0 (.loop clA))) YU:=rfl
theorem Vy:YU= .seq (.seq p3x11111111100 (.block 2 (.loop clB))) p3x1111111111:=rfl
theorem JM:a3.results=[.tmp 4]:=rfl
theorem Yf (h:aD) {n:Nat} (hn:n≤1073741824):Bm h [.str []] (.int .i64 (n:Nat)) (.int .i64 (n:Nat))= .ok (.val (.arr h.next 0 n n) (h.push (.cells ((List.replicate n ([]:List UInt8)).map AV.str)))):=by
 have e1:ile ((n:Nat):Int) ((n:Nat):Int)=true:=by rw [jE];exact dT (Int.le_refl _)
 have e2:ile ((n:Nat):Int) 1073741824=true:=by rw [jE];exact dT om
 have e3:ile (((n:Nat):Int)*([AV.str []]:List AV).length) 1073741824=true:=by rw [jE];exact dT (by simp;omega)
 have e4:(List.replicate n [AV.str []]).flatten=(List.replicate n ([]:List UInt8)).map AV.str:=by
  rw [List.map_replicate]
  clear hn e1 e2 e3
  induction n with
  |zero=>rfl
  |succ n ih=>rw [List.replicate_succ,List.flatten_cons,ih,List.replicate_succ];rfl
 simp only [Bm,yH,e1,e2,e3,Bool.and_self,uP,e4]
theorem L4 (H:Has fns orc) (N:vX fns orc) (X:AN orc) {d:pD} {cs:List AV} (hv:RV (.desc d) (.agg cs)) (hs:wP (.desc d)) (hn:(Part.desc d).nodes<5000000) (a:Int) (h:aD):
  ∃h',Ev fns orc (.call 3 [.agg cs,.int .i64 a] .plain h) (.call (.ret (.bool true)) .plain h'):=by
 have HB:Has fns orc:=H
 have hcl:=kW hv
 have p7:takeN 7 cs=some cs:=by rw [←hcl];exact aW cs
 have eqc:=AR hv
 obtain ⟨g,s1,s2⟩:=id X
 obtain ⟨h1,h1e⟩:∃x,x=h.push (.cells cs):=⟨_,rfl⟩
 have x1:cont h1 h.next=some cs:=by rw [h1e];exact aR om om
 obtain ⟨h2,g2,⟨n2,e2⟩|⟨Γ,S,⟨n2,e2⟩,M,RT⟩⟩:=ON HB N hv hs hn h1
 ·have os:=vT (fns:=fns) s1 s2 h2
  refine ⟨h2,Ev.call H.f3 H.o3 ⟨n2+2,fun m hm=> ?b1⟩⟩
  case b1=>
   have os' :=os m om
   have e2' :=e2 m om
   exact SX (cj8 @Gc @JM hcl p7 (Eq.symm h1e) x1 e2' os')
 ·obtain ⟨h3,l,rs,g3,⟨n3,e3⟩,hl,hlen,zV⟩:=LO HB M
  have R:Q5 Γ S rs:=⟨hlen,zV⟩
  have M3:=M.grow g3
  have hO:=M.ok.lt
  have lx:∀hp,nJ hp .sl l= .ok Γ.n:=fun hp=>by rw [bO hl hp,R.1]
  cases d1:decide (a<0) with
  |true=>
   have os:=vT (fns:=fns) s1 s2 h3
   refine ⟨h3,Ev.call H.f3 H.o3 ⟨n2+n3+2,fun m hm=> ?b2⟩⟩
   case b2=>
    have os' :=os m om
    have e2' :=e2 m om
    have e3' :=e3 m om
    exact SX (tR @Gc @JM hcl p7 (Eq.symm h1e) x1 e2' e3' d1 os')
  |false=>
  cases d2:decide (((Γ.n:Nat):Int)≤a) with
  |true=>
   have os:=vT (fns:=fns) s1 s2 h3
   refine ⟨h3,Ev.call H.f3 H.o3 ⟨n2+n3+2,fun m hm=> ?b3⟩⟩
   case b3=>
    have os' :=os m om
    have e2' :=e2 m om
    have e3' :=e3 m om
    exact SX (qC @Gc @JM hcl p7 (Eq.symm h1e) x1 e2' e3' d1 lx d2 os')
  |false=>
  have q1:=of_decide_eq_false d1
  have q2:=of_decide_eq_false d2
  obtain ⟨i,rfl⟩:∃i:Nat,a=(i:Int):=⟨a.toNat,by omega⟩
  have hi:i<Γ.n:=om
  obtain ⟨vc,vu,vv,c,u,vs2,ri,hc,hvc,hvu,_⟩:=R.get hi
  have ia:=kT hl ri (sz:=7) rfl
  have kc:=yW hvc
  have ku:=yW hvu
  have wf:=M.wf i hi c u hc
  have YI:=Ge M hi hc (k:=i) (by obtain ⟨c0,rfl,_⟩:=M.wf.last hi hc;simp)
  have cl9:=yZ (M.ok.ok i hi)
  have ofb:=wf.R4
  have mx:=wf.max
  have hof:wA S c=(S i).off+(S i).cl:=by
   obtain ⟨c0,rfl,_⟩:=M.wf.last hi hc
   rw [EX,M.wf.wA _ i _ u (Nat.le_refl _) hi hc,List.dropLast_concat]
  obtain ⟨K,hK⟩:∃K:Nat,(S i).off+(S i).cl=(K:Nat):=⟨((S i).off+(S i).cl).toNat,by omega⟩
  have hKb:K<500000000:=om
  have w1:IntKind.wrap .i64 ((S i).off+(S i).cl)=(K:Nat):=by rw [hK];exact pE om om
  have mk:=Yf h3 (n:=K) om
  obtain ⟨h4,h4e⟩:∃x,x=h3.push (.cells ((List.replicate K ([]:List UInt8)).map AV.str)):=⟨_,rfl⟩
  rw [←h4e] at mk
  have g4:aP h3 h4:=by rw [h4e];exact .push _ _
  have n4:h4.next=h3.next+1:=by rw [h4e];simp
  have x4:cont h4 h3.next=some ((List.replicate K ([]:List UInt8)).map AV.str):=by rw [h4e];exact aR om om
  have cs4:cont h4 h.next=some cs:=(aF ((g2.trans g3).trans g4) (aO x1)).trans x1
  obtain ⟨h5,v,all,g5,⟨n5,e5⟩,hsl,hal,hsub⟩:=Qa H hv om h4
  have x5:=(aF g5 (aO x4)).trans x4
  have I0:Un Γ S c K (all.take 0) (List.replicate K []):=fun y hy=> .inr ⟨(fun s hs=>by cases hs),by simp [hy]⟩
  obtain ⟨h6,has,ts,g6,c6,I6,⟨n6,e6⟩,t7,t8⟩:=Xt H M3 hi hc (hof.trans hK) (Nat.le_refl h3.next) hsl hal all.length 0 h5 (List.replicate K []) om (g4.trans g5) x5 (by simp) I0
  have full:∀y,y<K→∃s,has[y]? =some s∧s≠[]:=fun y hy=>by
   obtain ⟨s,q,o,i',k,x,hm,C⟩:=TT M hi hc (y:=(y:Int)) om om
   have hon:=(M.wf.part c.length i c u (Nat.le_refl _) hi hc q o C.o_).1
   obtain ⟨hsa,hsn⟩:=TU M RT hsub hon C.x_ C.s_
   rcases I6 y hy with ⟨s',h1,h2,h3⟩|⟨h1,_⟩
   ·obtain rfl:=L6 M hi hc (s:=s) (s' :=s') (by rw [hm];omega) (by rw [h2,hm])
    exact ⟨s,h3,hsn⟩
   ·exact absurd hm (h1 s hsa)
  obtain ⟨ts2,n7,e7⟩:=Xs (fns:=fns) (orc:=orc) (by omega:K<1000000000) c6 full K 0 om
  have os:=vT (fns:=fns) s1 s2 h6
  refine ⟨h6,Ev.call H.f3 H.o3 ⟨n2+n3+n5+n6+n7+2,fun m hm=> ?b4⟩⟩
  case b4=>
   have os' :=os m om
   have e2' :=e2 m om
   have e3' :=e3 m om
   have e5' :=e5 m om
   have e6' :=e6 m om
   have e7' :=e7 m om
   simp only [clT,Int.ofNat_zero] at e6' e7'
   exact SX (dI @Gc @JM @VA @Vz @Vy hcl p7 (Eq.symm h1e) x1 e2' e3' d1 lx d2 ia kc (tR ku w1 mk cs4 e5' e6' t7 t8 e7' os'))
end Go.Ly
end
