/- Parts of a proof. -/
import Derived.Test.YtfpohljcapcliaaGreatDoorD
import Derived.Test.YtfpohljcapcliaaGreatDoorV
import Derived.Test.YtfpohljcapcliaaGreatDoorC
set_option linter.all false
set_option maxHeartbeats 16000000
set_option maxRecDepth 8000
noncomputable section
namespace Go.Ly
open Go Go.Am Go.Fs Go.Gn
variable {fns:Go.Am.F} {orc:Orc}
def expC (k op n man ex:Int) (t:List UInt8) (va vd:AV):List AV:=[.int .i64 k,.int .i64 op,.int .i64 n,.int .i64 man,.int .i64 ex,.str t,va,vd]
theorem UD (h:aD) (i:Nat) (o:AO):(h.set i o).next=h.next:=by simp
theorem wO (H:Has fns orc) {x e:Nat} {k op n man ex k' op' n' man' ex' :Int} {t t' :List UInt8} {va vd vd' :AV} {b0:Bool} {xs:List AV} (hs:iP va xs) (hc:va.bX=true) (hcc:va.cells=[va]) {w:Int} {h:aD} (hx:cont h x=some [.int .i64 k,.int .i64 op,.int .i64 n,.int .i64 man,.int .i64 ex,.str t,va,vd])
  (he:cont h e=some [.int .i64 k',.int .i64 op',.int .i64 n',.int .i64 man',.int .i64 ex',.str t',.aC,vd',.bool b0]) (hne:x≠e):
  ∃h' va' b,Ev fns orc (.call 134 [.int .i64 w,.ptr x 0,.ptr e 0] .plain h) (.call (.ret jC) .plain h')∧h'.next=h.next∧(∀i,i≠e→h'.get i=h.get i)∧
   cont h' e=some [.int .i64 k',.int .i64 op',.int .i64 n',.int .i64 man',.int .i64 ex',.str t',va',vd',.bool b]∧(va' =va∨va' = .aC)∧b=decide ((xs.length:Int)=w):=by
 have l1:=aO hx
 have l2:=aO he
 have q:=bO hs
 by_cases c:(xs.length:Int)=w
 ·have d:=dT c
  refine ⟨(h.set e (.cells [.int .i64 k',.int .i64 op',.int .i64 n',.int .i64 man',.int .i64 ex',.str t',va,vd',.bool b0])).set e (.cells [.int .i64 k',.int .i64 op',.int .i64 n',.int .i64 man',.int .i64 ex',.str t',va,vd',.bool true]),va,true,Ev.call H.f134 H.o134 ⟨0,fun m hm=> ?b1⟩, ?n1, ?g1, ?c1,.inl rfl,d.symm⟩
  case b1=>exact SX (cj7 @a134.eq_1 hx he q d hc hcc)
  case n1=>simp
  case g1=>intro i hi;rw [aE _ _ _ _ (by simpa using l2) hi,aE _ _ _ _ l2 hi]
  case c1=>exact aG (by simpa using l2)
 ·have d:=dF c
  refine ⟨h.set e (.cells [.int .i64 k',.int .i64 op',.int .i64 n',.int .i64 man',.int .i64 ex',.str t',.aC,vd',.bool false]),.aC,false,Ev.call H.f134 H.o134 ⟨0,fun m hm=> ?b2⟩, ?n2, ?g2, ?c2,.inr rfl,d.symm⟩
  case b2=>exact SX (cj5 @a134.eq_1 hx he q d)
  case n2=>simp
  case g2=>intro i hi;rw [aE _ _ _ _ l2 hi]
  case c2=>exact aG l2
theorem MH {e:pO} {c:List AV} (h:RV (.exp e) (.agg c)):c.all AV.bX=true:=by
 cases h with
 |exp h1 h2=>simp [aS h1,aS h2,bJ,cF]
theorem yJ (H:Has fns orc) {x:Nat} {k op n man ex:Int} {t:List UInt8} {a:List pO} {va vd:AV} (hv:RVs (a.map Part.exp) va) {h:aD} (hx:cont h x=some [.int .i64 k,.int .i64 op,.int .i64 n,.int .i64 man,.int .i64 ex,.str t,va,vd]):
  ∃h' c' e',Ev fns orc (.call 135 [.ptr x 0] .plain h) (.call (.ret (.agg c')) .plain h')∧aP h h' ∧RV (.exp e') (.agg c'):=by
 have l1:=aO hx
 obtain ⟨xs,hs,hxl,hel⟩:=jZ hv
 rw [List.length_map] at hxl
 have q:=bO hs
 cases a with
 |nil=>
  have d:decide ((xs.length:Int)=0)=true:=dT (by simp at hxl;simp [hxl])
  refine ⟨?hh,_,.mk 0 0 0 0 0 [] [] [],Ev.call H.f135 H.o135 ⟨0,fun m hm=> ?b1⟩, ?g1,.exp .nil .nil⟩
  case b1=>
   exact SX (cj4 @a135.eq_1 hx q d)
  case g1=>exact gw2
 |cons e0 a=>
  have d:decide ((xs.length:Int)=0)=false:=dF (by simp at hxl;omega)
  obtain ⟨c',e1,e2⟩:=hel 0 (by simp)
  have e4:=pW (e:=e0) (by simpa using e2)
  have f1:pT 8 va (.int .i64 0)= .ok (.ep c' 0):=kT (i:=0) hs e1 e4
  have f2:=wJ e4
  have f3:=MH (e:=e0) (by simpa using e2)
  have f4:cI 0 c' [.int .i64 0,.int .i64 0,.int .i64 0,.int .i64 0,.int .i64 0,.str [],.aC,.aC]=some c' :=pU _ _ (by simp [e4])
  have f5:Nat.beq c'.length 8=true:=by rw [e4];rfl
  refine ⟨(h.push (.cells [.int .i64 0,.int .i64 0,.int .i64 0,.int .i64 0,.int .i64 0,.str [],.aC,.aC])).set h.next (.cells c'),c',e0,Ev.call H.f135 H.o135 ⟨0,fun m hm=> ?b2⟩, ?g2,by simpa using e2⟩
  case b2=>
   exact SX (cj9 @a135.eq_1 hx q d f1 f2 f3 f4 f5)
  case g2=>exact gw2
def WOut (v:AV):Prop:=∃(k op n man ex:Int) (t:List UInt8) (va vd:AV) (ok:Bool) (xa xd:List AV),v= .agg [.int .i64 k,.int .i64 op,.int .i64 n,.int .i64 man,.int .i64 ex,.str t,va,vd,.bool ok]∧iP va xa∧iP vd xd
theorem Ps (H:Has fns orc) (N:vX fns orc) {k op n man ex:Int} {t:List UInt8} {a:List pO} {d:List pD} {va vd:AV} (h1:RVs (a.map Part.exp) va) (h2:RVs (d.map Part.desc) vd) (ht:t.length<10000000) (h:aD):
  ∃h' v,aP h h' ∧Ev fns orc (.call 118 [.agg [.int .i64 k,.int .i64 op,.int .i64 n,.int .i64 man,.int .i64 ex,.str t,va,vd]] .plain h) (.call (.ret v) .plain h')∧WOut v:=by
 obtain ⟨xs,hs,hxl,hel⟩:=jZ h1
 obtain ⟨ys,hs2,hyl,_⟩:=jZ h2
 have q:=bO hs
 have q2:=bO hs2
 have i1:=aS h1
 have i2:=aS h2
 have j1:=jX h1
 have j2:=jX h2
 have y1:=jS h1
 have y2:=jS h2
 obtain ⟨hA,hAe⟩:∃x,x=((h.push (.cells [.int .i64 k,.int .i64 op,.int .i64 n,.int .i64 man,.int .i64 ex,.str t,va,vd])).push (.cells [.int .i64 0,.int .i64 0,.int .i64 0,.int .i64 0,.int .i64 0,.str [],.aC,.aC,.bool false])).push (.cells [.int .i64 0,.int .i64 0,.int .i64 0,.int .i64 0,.int .i64 0,.str [],.aC,.aC,.bool false]):=⟨_,rfl⟩
 have gA:aP h hA:=by rw [hAe];exact gw2
 have nA:hA.next=h.next+3:=by rw [hAe];simp
 have xA:cont hA h.next=some [.int .i64 k,.int .i64 op,.int .i64 n,.int .i64 man,.int .i64 ex,.str t,va,vd]:=by rw [hAe];exact ctp
 have rA:cont hA (h.next+1)=some [.int .i64 0,.int .i64 0,.int .i64 0,.int .i64 0,.int .i64 0,.str [],.aC,.aC,.bool false]:=by rw [hAe];exact ctp
 have eA:cont hA (h.next+2)=some [.int .i64 0,.int .i64 0,.int .i64 0,.int .i64 0,.int .i64 0,.str [],.aC,.aC,.bool false]:=by rw [hAe];exact ctp
 by_cases k1:k=1
 ·subst k1
  obtain ⟨b,n1,e1⟩:=QR H t hA
  refine ⟨?hh1, ?vv1, ?g1,Ev.call H.f118 H.o118 ⟨n1,fun m hm=> ?b1⟩, ?w1⟩
  case b1=>
   have e1' :=e1 m om
   exact SX (zZ @a118.eq_1 (Eq.symm hAe) i1 i2 j1 j2 y1 y2 q q2 xA rA eA e1')
  case g1=>exact gw3
  case w1=>exact ⟨_,_,_,_,_,_,_,_,_,_,_,rfl,by first|exact .nil|exact hs,by first|exact .nil|exact hs2⟩
 by_cases k2:k=2
 ·subst k2
  obtain ⟨hB,b,gAB,n1,e1⟩:=I8 H man ex hA
  have xB:=(aF gAB om).trans xA
  have rB:=(aF gAB om).trans rA
  have eB:=(aF gAB om).trans eA
  have nB:=gAB.next
  have gB:aP h hB:=gA.trans gAB
  cases b
  case false=>
   refine ⟨?hh2, ?vv2, ?g2,Ev.call H.f118 H.o118 ⟨n1,fun m hm=> ?b2⟩, ?w2⟩
   case b2=>
    have e1' :=e1 m om
    exact SX (dI @a118.eq_1 (Eq.symm hAe) i1 i2 j1 j2 y1 y2 q q2 xA rA eA xB rB eB e1')
   case g2=>exact gw3
   case w2=>exact ⟨_,_,_,_,_,_,_,_,_,_,_,rfl,by first|exact .nil|exact hs,by first|exact .nil|exact hs2⟩
  case true=>
   by_cases c:0≤man
   ·have dc:=dT c
    refine ⟨?hh3, ?vv3, ?g3,Ev.call H.f118 H.o118 ⟨n1,fun m hm=> ?b3⟩, ?w3⟩
    case b3=>
     have e1' :=e1 m om
     exact SX (dI @a118.eq_1 (Eq.symm hAe) i1 i2 j1 j2 y1 y2 q q2 xA rA eA xB rB eB (cj2 e1' dc))
    case g3=>exact gw3
    case w3=>exact ⟨_,_,_,_,_,_,_,_,_,_,_,rfl,by first|exact .nil|exact hs,by first|exact .nil|exact hs2⟩
   ·have dc:=dF c
    refine ⟨?hh4, ?vv4, ?g4,Ev.call H.f118 H.o118 ⟨n1,fun m hm=> ?b4⟩, ?w4⟩
    case b4=>
     have e1' :=e1 m om
     exact SX (dI @a118.eq_1 (Eq.symm hAe) i1 i2 j1 j2 y1 y2 q q2 xA rA eA xB rB eB (cj2 e1' dc))
    case g4=>exact gw3
    case w4=>exact ⟨_,_,_,_,_,_,_,_,_,_,_,rfl,by first|exact .nil|exact hs,by first|exact .nil|exact hs2⟩
 by_cases k3:k=3
 ·subst k3
  by_cases c1:32≤n
  case neg=>
   have d1:=dF c1
   refine ⟨?hh5, ?vv5, ?g5,Ev.call H.f118 H.o118 ⟨0,fun m hm=> ?b5⟩, ?w5⟩
   case b5=>
    exact SX (zZ @a118.eq_1 (Eq.symm hAe) i1 i2 j1 j2 y1 y2 q q2 xA rA eA d1)
   case g5=>exact gw3
   case w5=>exact ⟨_,_,_,_,_,_,_,_,_,_,_,rfl,by first|exact .nil|exact hs,by first|exact .nil|exact hs2⟩
  have d1:=dT c1
  by_cases c2:n≤126
  case neg=>
   have d2:=dF c2
   refine ⟨?hh6, ?vv6, ?g6,Ev.call H.f118 H.o118 ⟨0,fun m hm=> ?b6⟩, ?w6⟩
   case b6=>
    exact SX (xJ @a118.eq_1 (Eq.symm hAe) i1 i2 j1 j2 y1 y2 q q2 xA rA eA d1 d2)
   case g6=>exact gw3
   case w6=>exact ⟨_,_,_,_,_,_,_,_,_,_,_,rfl,by first|exact .nil|exact hs,by first|exact .nil|exact hs2⟩
  have d2:=dT c2
  by_cases c3:n=39
  case neg=>
   have d3:=dF c3
   refine ⟨?hh7, ?vv7, ?g7,Ev.call H.f118 H.o118 ⟨0,fun m hm=> ?b7⟩, ?w7⟩
   case b7=>
    exact SX (Bd @a118.eq_1 (Eq.symm hAe) i1 i2 j1 j2 y1 y2 q q2 xA rA eA d1 d2 d3)
   case g7=>exact gw3
   case w7=>exact ⟨_,_,_,_,_,_,_,_,_,_,_,rfl,by first|exact .nil|exact hs,by first|exact .nil|exact hs2⟩
  have d3:=dT c3
  refine ⟨?hh8, ?vv8, ?g8,Ev.call H.f118 H.o118 ⟨0,fun m hm=> ?b8⟩, ?w8⟩
  case b8=>
   exact SX (Bd @a118.eq_1 (Eq.symm hAe) i1 i2 j1 j2 y1 y2 q q2 xA rA eA d1 d2 d3)
  case g8=>exact gw3
  case w8=>exact ⟨_,_,_,_,_,_,_,_,_,_,_,rfl,by first|exact .nil|exact hs,by first|exact .nil|exact hs2⟩
 by_cases k4:k=4
 ·subst k4
  obtain ⟨b,n1,e1⟩:=MO H t ht hA
  refine ⟨?hh9, ?vv9, ?g9,Ev.call H.f118 H.o118 ⟨n1,fun m hm=> ?b9⟩, ?w9⟩
  case b9=>
   have e1' :=e1 m om
   exact SX (zZ @a118.eq_1 (Eq.symm hAe) i1 i2 j1 j2 y1 y2 q q2 xA rA eA e1')
  case g9=>exact gw3
  case w9=>exact ⟨_,_,_,_,_,_,_,_,_,_,_,rfl,by first|exact .nil|exact hs,by first|exact .nil|exact hs2⟩
 by_cases k5:k=5
 ·subst k5
  refine ⟨?hh10, ?vv10, ?g10,Ev.call H.f118 H.o118 ⟨0,fun m hm=> ?b10⟩, ?w10⟩
  case b10=>
   exact SX (wK @a118.eq_1 (Eq.symm hAe) i1 i2 j1 j2 y1 y2 q q2 xA rA eA)
  case g10=>exact gw3
  case w10=>exact ⟨_,_,_,_,_,_,_,_,_,_,_,rfl,by first|exact .nil|exact hs,by first|exact .nil|exact hs2⟩
 by_cases k6:k=6
 ·subst k6
  refine ⟨?hh11, ?XY, ?g11,Ev.call H.f118 H.o118 ⟨0,fun m hm=> ?b11⟩, ?w11⟩
  case b11=>
   exact SX (wK @a118.eq_1 (Eq.symm hAe) i1 i2 j1 j2 y1 y2 q q2 xA rA eA)
  case g11=>exact gw3
  case w11=>exact ⟨_,_,_,_,_,_,_,_,_,_,_,rfl,by first|exact .nil|exact hs,by first|exact .nil|exact hs2⟩
 by_cases k7:k=7
 ·subst k7
  refine ⟨?hh12, ?vv12, ?g12,Ev.call H.f118 H.o118 ⟨0,fun m hm=> ?b12⟩, ?w12⟩
  case b12=>
   exact SX (wK @a118.eq_1 (Eq.symm hAe) i1 i2 j1 j2 y1 y2 q q2 xA rA eA)
  case g12=>exact gw3
  case w12=>exact ⟨_,_,_,_,_,_,_,_,_,_,_,rfl,by first|exact .nil|exact hs,by first|exact .nil|exact hs2⟩
 by_cases k8:k=8
 ·subst k8
  obtain ⟨hB,b,gAB,⟨n1,e1⟩,_⟩:=N t ht hA
  have xB:=(aF gAB om).trans xA
  have rB:=(aF gAB om).trans rA
  have eB:=(aF gAB om).trans eA
  have nB:=gAB.next
  have gB:aP h hB:=gA.trans gAB
  refine ⟨?hh13, ?XX, ?g13,Ev.call H.f118 H.o118 ⟨n1,fun m hm=> ?b13⟩, ?w13⟩
  case b13=>
   have e1' :=e1 m om
   exact SX (dI @a118.eq_1 (Eq.symm hAe) i1 i2 j1 j2 y1 y2 q q2 xA rA eA xB rB eB e1')
  case g13=>exact gw3
  case w13=>exact ⟨_,_,_,_,_,_,_,_,_,_,_,rfl,by first|exact .nil|exact hs,by first|exact .nil|exact hs2⟩
 by_cases k10:k=10
 ·subst k10
  obtain ⟨hB,b,gAB,⟨n1,e1⟩,_⟩:=N t ht hA
  have xB:=(aF gAB om).trans xA
  have rB:=(aF gAB om).trans rA
  have eB:=(aF gAB om).trans eA
  have nB:=gAB.next
  have gB:aP h hB:=gA.trans gAB
  refine ⟨?hh14, ?XW, ?g14,Ev.call H.f118 H.o118 ⟨n1,fun m hm=> ?b14⟩, ?w14⟩
  case b14=>
   have e1' :=e1 m om
   exact SX (dI @a118.eq_1 (Eq.symm hAe) i1 i2 j1 j2 y1 y2 q q2 xA rA eA xB rB eB e1')
  case g14=>exact gw3
  case w14=>exact ⟨_,_,_,_,_,_,_,_,_,_,_,rfl,by first|exact .nil|exact hs,by first|exact .nil|exact hs2⟩
 by_cases k9:k=9
 ·subst k9
  obtain ⟨hB,va',bA,⟨mB,eqB⟩,nB,cB,eB,vaB,bAe⟩:=wO H hs i1 j1 (w:=1) xA eA om
  have xB:=(aH (cB _ om)).trans xA
  have rB:=(aH (cB _ om)).trans rA
  have gB:aP h hB:=⟨by have:=gA.next;omega,fun i hi=>(cB i om).trans (gA.get i hi)⟩
  have hc' :va'.bX=true:=by rcases vaB with rfl|rfl;exact i1;rfl
  have hs' :∃z,iP va' z:=by rcases vaB with rfl|rfl;exact ⟨_,hs⟩;exact ⟨_,.nil⟩
  obtain ⟨zs,hs'⟩:=hs'
  cases bA
  case false=>
   refine ⟨?hh15, ?vv15, ?g15,Ev.call H.f118 H.o118 ⟨mB,fun m hm=> ?b15⟩, ?w15⟩
   case b15=>
    have qZ :=eqB m om
    exact SX (dI @a118.eq_1 (Eq.symm hAe) i1 i2 j1 j2 y1 y2 q q2 hc' xA rA eA xB rB (cj2 eB qZ))
   case g15=>exact gw3
   case w15=>exact ⟨_,_,_,_,_,_,_,_,_,_,_,rfl,by first|exact .nil|exact hs' |exact hs,by first|exact .nil|exact hs2⟩
  case true=>
   obtain ⟨hC,b,gBC,⟨n1,e1⟩,_⟩:=N t ht hB
   have xC:=(aF gBC om).trans xB
   have rC:=(aF gBC om).trans rB
   have eC:=(aF gBC om).trans eB
   have nC:=gBC.next
   have gC:aP h hC:=gB.trans gBC
   cases b
   case false=>
    refine ⟨?hh16, ?XV, ?g16,Ev.call H.f118 H.o118 ⟨mB+n1,fun m hm=> ?b16⟩, ?w16⟩
    case b16=>
     have qZ :=eqB m om
     have e1' :=e1 m om
     exact SX (dI @a118.eq_1 (Eq.symm hAe) i1 i2 j1 j2 y1 y2 q q2 hc' xA rA eA xB rB (cj6 eB xC rC eC qZ e1'))
    case g16=>exact gw3
    case w16=>exact ⟨_,_,_,_,_,_,_,_,_,_,_,rfl,by first|exact .nil|exact hs' |exact hs,by first|exact .nil|exact hs2⟩
   case true=>
    obtain ⟨hF,c',e',⟨mF,eqF⟩,gPF,hv'⟩:=yJ H h1 xC
    have xF:=(aF gPF om).trans xC
    have rF:=(aF gPF om).trans rC
    have eF:=(aF gPF om).trans eC
    have nF:=gPF.next
    have gF:aP h hF:=gC.trans gPF
    obtain ⟨hG,bG,gFG,mG,eqG⟩:=xN H hv' false hF
    have xG:=(aF gFG om).trans xF
    have rG:=(aF gFG om).trans rF
    have eG:=(aF gFG om).trans eF
    have nG:=gFG.next
    have gG:aP h hG:=gF.trans gFG
    refine ⟨?hh17, ?XU, ?g17,Ev.call H.f118 H.o118 ⟨mB+n1+mF+mG,fun m hm=> ?b17⟩, ?w17⟩
    case b17=>
     have qZ :=eqB m om
     have e1' :=e1 m om
     have Bc :=eqF m om
     have Bb :=eqG m om
     exact SX (dI @a118.eq_1 (Eq.symm hAe) i1 i2 j1 j2 y1 y2 q q2 hc' xA rA eA xB rB (zZ eB xC rC eC xF rF eF xG rG eG qZ e1' Bc Bb))
    case g17=>exact gw3
    case w17=>exact ⟨_,_,_,_,_,_,_,_,_,_,_,rfl,by first|exact .nil|exact hs' |exact hs,by first|exact .nil|exact hs2⟩
 by_cases k11:k=11
 ·subst k11
  obtain ⟨hB,va',bA,⟨mB,eqB⟩,nB,cB,eB,vaB,bAe⟩:=wO H hs i1 j1 (w:=2) xA eA om
  have xB:=(aH (cB _ om)).trans xA
  have rB:=(aH (cB _ om)).trans rA
  have gB:aP h hB:=⟨by have:=gA.next;omega,fun i hi=>(cB i om).trans (gA.get i hi)⟩
  have hc' :va'.bX=true:=by rcases vaB with rfl|rfl;exact i1;rfl
  have hs' :∃z,iP va' z:=by rcases vaB with rfl|rfl;exact ⟨_,hs⟩;exact ⟨_,.nil⟩
  obtain ⟨zs,hs'⟩:=hs'
  cases bA
  case false=>
   refine ⟨?hh18, ?vv18, ?g18,Ev.call H.f118 H.o118 ⟨mB,fun m hm=> ?b18⟩, ?w18⟩
   case b18=>
    have qZ :=eqB m om
    exact SX (dI @a118.eq_1 (Eq.symm hAe) i1 i2 j1 j2 y1 y2 q q2 hc' xA rA eA xB rB (cj2 eB qZ))
   case g18=>exact gw3
   case w18=>exact ⟨_,_,_,_,_,_,_,_,_,_,_,rfl,by first|exact .nil|exact hs' |exact hs,by first|exact .nil|exact hs2⟩
  case true=>
   obtain ⟨hF,c',e',⟨mF,eqF⟩,gPF,hv'⟩:=yJ H h1 xB
   have xF:=(aF gPF om).trans xB
   have rF:=(aF gPF om).trans rB
   have eF:=(aF gPF om).trans eB
   have nF:=gPF.next
   have gF:aP h hF:=gB.trans gPF
   obtain ⟨hG,bG,gFG,mG,eqG⟩:=xN H hv' false hF
   have xG:=(aF gFG om).trans xF
   have rG:=(aF gFG om).trans rF
   have eG:=(aF gFG om).trans eF
   have nG:=gFG.next
   have gG:aP h hG:=gF.trans gFG
   refine ⟨?hh19, ?vv19, ?g19,Ev.call H.f118 H.o118 ⟨mB+mF+mG,fun m hm=> ?b19⟩, ?w19⟩
   case b19=>
    have qZ :=eqB m om
    have Bc :=eqF m om
    have Bb :=eqG m om
    exact SX (dI @a118.eq_1 (Eq.symm hAe) i1 i2 j1 j2 y1 y2 q q2 hc' xA rA eA xB rB (tR eB xF rF eF xG rG eG qZ Bc Bb))
   case g19=>exact gw3
   case w19=>exact ⟨_,_,_,_,_,_,_,_,_,_,_,rfl,by first|exact .nil|exact hs' |exact hs,by first|exact .nil|exact hs2⟩
 by_cases k12:k=12
 ·subst k12
  obtain ⟨hB,va',bA,⟨mB,eqB⟩,nB,cB,eB,vaB,bAe⟩:=wO H hs i1 j1 (w:=1) xA eA om
  have xB:=(aH (cB _ om)).trans xA
  have rB:=(aH (cB _ om)).trans rA
  have gB:aP h hB:=⟨by have:=gA.next;omega,fun i hi=>(cB i om).trans (gA.get i hi)⟩
  have hc' :va'.bX=true:=by rcases vaB with rfl|rfl;exact i1;rfl
  have hs' :∃z,iP va' z:=by rcases vaB with rfl|rfl;exact ⟨_,hs⟩;exact ⟨_,.nil⟩
  obtain ⟨zs,hs'⟩:=hs'
  cases bA
  case false=>
   refine ⟨?hh20, ?vv20, ?g20,Ev.call H.f118 H.o118 ⟨mB,fun m hm=> ?b20⟩, ?w20⟩
   case b20=>
    have qZ :=eqB m om
    exact SX (dI @a118.eq_1 (Eq.symm hAe) i1 i2 j1 j2 y1 y2 q q2 hc' xA rA eA xB rB (cj2 eB qZ))
   case g20=>exact gw3
   case w20=>exact ⟨_,_,_,_,_,_,_,_,_,_,_,rfl,by first|exact .nil|exact hs' |exact hs,by first|exact .nil|exact hs2⟩
  case true=>
   obtain ⟨hF,c',e',⟨mF,eqF⟩,gPF,hv'⟩:=yJ H h1 xB
   have xF:=(aF gPF om).trans xB
   have rF:=(aF gPF om).trans rB
   have eF:=(aF gPF om).trans eB
   have nF:=gPF.next
   have gF:aP h hF:=gB.trans gPF
   obtain ⟨hG,bG,gFG,mG,eqG⟩:=xN H hv' false hF
   have xG:=(aF gFG om).trans xF
   have rG:=(aF gFG om).trans rF
   have eG:=(aF gFG om).trans eF
   have nG:=gFG.next
   have gG:aP h hG:=gF.trans gFG
   refine ⟨?hh21, ?vv21, ?g21,Ev.call H.f118 H.o118 ⟨mB+mF+mG,fun m hm=> ?b21⟩, ?w21⟩
   case b21=>
    have qZ :=eqB m om
    have Bc :=eqF m om
    have Bb :=eqG m om
    exact SX (dI @a118.eq_1 (Eq.symm hAe) i1 i2 j1 j2 y1 y2 q q2 hc' xA rA eA xB rB (tR eB xF rF eF xG rG eG qZ Bc Bb))
   case g21=>exact gw3
   case w21=>exact ⟨_,_,_,_,_,_,_,_,_,_,_,rfl,by first|exact .nil|exact hs' |exact hs,by first|exact .nil|exact hs2⟩
 by_cases k13:k=13
 ·subst k13
  obtain ⟨hB,va',bA,⟨mB,eqB⟩,nB,cB,eB,vaB,bAe⟩:=wO H hs i1 j1 (w:=1) xA eA om
  have xB:=(aH (cB _ om)).trans xA
  have rB:=(aH (cB _ om)).trans rA
  have gB:aP h hB:=⟨by have:=gA.next;omega,fun i hi=>(cB i om).trans (gA.get i hi)⟩
  have hc' :va'.bX=true:=by rcases vaB with rfl|rfl;exact i1;rfl
  have hs' :∃z,iP va' z:=by rcases vaB with rfl|rfl;exact ⟨_,hs⟩;exact ⟨_,.nil⟩
  obtain ⟨zs,hs'⟩:=hs'
  cases bA
  case false=>
   refine ⟨?hh22, ?vv22, ?g22,Ev.call H.f118 H.o118 ⟨mB,fun m hm=> ?b22⟩, ?w22⟩
   case b22=>
    have qZ :=eqB m om
    exact SX (dI @a118.eq_1 (Eq.symm hAe) i1 i2 j1 j2 y1 y2 q q2 hc' xA rA eA xB rB (cj2 eB qZ))
   case g22=>exact gw3
   case w22=>exact ⟨_,_,_,_,_,_,_,_,_,_,_,rfl,by first|exact .nil|exact hs' |exact hs,by first|exact .nil|exact hs2⟩
  case true=>
   obtain ⟨hF,c',e',⟨mF,eqF⟩,gPF,hv'⟩:=yJ H h1 xB
   have xF:=(aF gPF om).trans xB
   have rF:=(aF gPF om).trans rB
   have eF:=(aF gPF om).trans eB
   have nF:=gPF.next
   have gF:aP h hF:=gB.trans gPF
   obtain ⟨hG,bG,gFG,mG,eqG⟩:=xN H hv' false hF
   have xG:=(aF gFG om).trans xF
   have rG:=(aF gFG om).trans rF
   have eG:=(aF gFG om).trans eF
   have nG:=gFG.next
   have gG:aP h hG:=gF.trans gFG
   refine ⟨?hh23, ?vv23, ?g23,Ev.call H.f118 H.o118 ⟨mB+mF+mG,fun m hm=> ?b23⟩, ?w23⟩
   case b23=>
    have qZ :=eqB m om
    have Bc :=eqF m om
    have Bb :=eqG m om
    exact SX (dI @a118.eq_1 (Eq.symm hAe) i1 i2 j1 j2 y1 y2 q q2 hc' xA rA eA xB rB (tR eB xF rF eF xG rG eG qZ Bc Bb))
   case g23=>exact gw3
   case w23=>exact ⟨_,_,_,_,_,_,_,_,_,_,_,rfl,by first|exact .nil|exact hs' |exact hs,by first|exact .nil|exact hs2⟩
 by_cases k14:k=14
 ·subst k14
  obtain ⟨hB,va',bA,⟨mB,eqB⟩,nB,cB,eB,vaB,bAe⟩:=wO H hs i1 j1 (w:=1) xA eA om
  have xB:=(aH (cB _ om)).trans xA
  have rB:=(aH (cB _ om)).trans rA
  have gB:aP h hB:=⟨by have:=gA.next;omega,fun i hi=>(cB i om).trans (gA.get i hi)⟩
  have hc' :va'.bX=true:=by rcases vaB with rfl|rfl;exact i1;rfl
  have hs' :∃z,iP va' z:=by rcases vaB with rfl|rfl;exact ⟨_,hs⟩;exact ⟨_,.nil⟩
  obtain ⟨zs,hs'⟩:=hs'
  cases bA
  case false=>
   refine ⟨?hh24, ?vv24, ?g24,Ev.call H.f118 H.o118 ⟨mB,fun m hm=> ?b24⟩, ?w24⟩
   case b24=>
    have qZ :=eqB m om
    exact SX (dI @a118.eq_1 (Eq.symm hAe) i1 i2 j1 j2 y1 y2 q q2 hc' xA rA eA xB rB (cj2 eB qZ))
   case g24=>exact gw3
   case w24=>exact ⟨_,_,_,_,_,_,_,_,_,_,_,rfl,by first|exact .nil|exact hs' |exact hs,by first|exact .nil|exact hs2⟩
  case true=>
   obtain ⟨hF,c',e',⟨mF,eqF⟩,gPF,hv'⟩:=yJ H h1 xB
   have xF:=(aF gPF om).trans xB
   have rF:=(aF gPF om).trans rB
   have eF:=(aF gPF om).trans eB
   have nF:=gPF.next
   have gF:aP h hF:=gB.trans gPF
   obtain ⟨hG,bG,gFG,mG,eqG⟩:=xN H hv' false hF
   have xG:=(aF gFG om).trans xF
   have rG:=(aF gFG om).trans rF
   have eG:=(aF gFG om).trans eF
   have nG:=gFG.next
   have gG:aP h hG:=gF.trans gFG
   refine ⟨?hh25, ?vv25, ?g25,Ev.call H.f118 H.o118 ⟨mB+mF+mG,fun m hm=> ?b25⟩, ?w25⟩
   case b25=>
    have qZ :=eqB m om
    have Bc :=eqF m om
    have Bb :=eqG m om
    exact SX (dI @a118.eq_1 (Eq.symm hAe) i1 i2 j1 j2 y1 y2 q q2 hc' xA rA eA xB rB (tR eB xF rF eF xG rG eG qZ Bc Bb))
   case g25=>exact gw3
   case w25=>exact ⟨_,_,_,_,_,_,_,_,_,_,_,rfl,by first|exact .nil|exact hs' |exact hs,by first|exact .nil|exact hs2⟩
 by_cases k15:k=15
 ·subst k15
  obtain ⟨hB,va',bA,⟨mB,eqB⟩,nB,cB,eB,vaB,bAe⟩:=wO H hs i1 j1 (w:=1) xA eA om
  have xB:=(aH (cB _ om)).trans xA
  have rB:=(aH (cB _ om)).trans rA
  have gB:aP h hB:=⟨by have:=gA.next;omega,fun i hi=>(cB i om).trans (gA.get i hi)⟩
  have hc' :va'.bX=true:=by rcases vaB with rfl|rfl;exact i1;rfl
  have hs' :∃z,iP va' z:=by rcases vaB with rfl|rfl;exact ⟨_,hs⟩;exact ⟨_,.nil⟩
  obtain ⟨zs,hs'⟩:=hs'
  cases bA
  case false=>
   refine ⟨?hh26, ?vv26, ?g26,Ev.call H.f118 H.o118 ⟨mB,fun m hm=> ?b26⟩, ?w26⟩
   case b26=>
    have qZ :=eqB m om
    exact SX (dI @a118.eq_1 (Eq.symm hAe) i1 i2 j1 j2 y1 y2 q q2 hc' xA rA eA xB rB (cj2 eB qZ))
   case g26=>exact gw3
   case w26=>exact ⟨_,_,_,_,_,_,_,_,_,_,_,rfl,by first|exact .nil|exact hs' |exact hs,by first|exact .nil|exact hs2⟩
  case true=>
   obtain ⟨hF,c',e',⟨mF,eqF⟩,gPF,hv'⟩:=yJ H h1 xB
   have xF:=(aF gPF om).trans xB
   have rF:=(aF gPF om).trans rB
   have eF:=(aF gPF om).trans eB
   have nF:=gPF.next
   have gF:aP h hF:=gB.trans gPF
   obtain ⟨hG,bG,gFG,mG,eqG⟩:=xN H hv' false hF
   have xG:=(aF gFG om).trans xF
   have rG:=(aF gFG om).trans rF
   have eG:=(aF gFG om).trans eF
   have nG:=gFG.next
   have gG:aP h hG:=gF.trans gFG
   cases bG
   case true=>
    refine ⟨?hh27, ?vv27, ?g27,Ev.call H.f118 H.o118 ⟨mB+mF+mG,fun m hm=> ?b27⟩, ?w27⟩
    case b27=>
     have qZ :=eqB m om
     have Bc :=eqF m om
     have Bb :=eqG m om
     exact SX (dI @a118.eq_1 (Eq.symm hAe) i1 i2 j1 j2 y1 y2 q q2 hc' xA rA eA xB rB (tR eB xF rF eF xG rG eG qZ Bc Bb))
    case g27=>exact gw3
    case w27=>exact ⟨_,_,_,_,_,_,_,_,_,_,_,rfl,by first|exact .nil|exact hs' |exact hs,by first|exact .nil|exact hs2⟩
   case false=>
    obtain ⟨hI,c2,e2,⟨mI,eqI⟩,gGI,hv2⟩:=yJ H h1 xG
    have xI:=(aF gGI om).trans xG
    have rI:=(aF gGI om).trans rG
    have eI:=(aF gGI om).trans eG
    have nI:=gGI.next
    have gI:aP h hI:=gG.trans gGI
    cases hv2 with
    | @exp k2 op2 n2 man2 ex2 t2 a2 d2 va2 vd2 u1 u2=>
     by_cases ck:k2=17
     ·have dk:=dT ck
      refine ⟨?hh28, ?vv28, ?g28,Ev.call H.f118 H.o118 ⟨mB+mF+mG+mI,fun m hm=> ?b28⟩, ?w28⟩
      case b28=>
       have qZ :=eqB m om
       have Bc :=eqF m om
       have Bb :=eqG m om
       have NA :=eqI m om
       exact SX (dI @a118.eq_1 (Eq.symm hAe) i1 i2 j1 j2 y1 y2 q q2 hc' xA rA eA xB rB (xJ eB xF rF eF xG rG eG xI rI eI qZ Bc Bb NA dk))
      case g28=>exact gw3
      case w28=>exact ⟨_,_,_,_,_,_,_,_,_,_,_,rfl,by first|exact .nil|exact hs' |exact hs,by first|exact .nil|exact hs2⟩
     ·have dk:=dF ck
      refine ⟨?hh29, ?vv29, ?g29,Ev.call H.f118 H.o118 ⟨mB+mF+mG+mI,fun m hm=> ?b29⟩, ?w29⟩
      case b29=>
       have qZ :=eqB m om
       have Bc :=eqF m om
       have Bb :=eqG m om
       have NA :=eqI m om
       exact SX (dI @a118.eq_1 (Eq.symm hAe) i1 i2 j1 j2 y1 y2 q q2 hc' xA rA eA xB rB (xJ eB xF rF eF xG rG eG xI rI eI qZ Bc Bb NA dk))
      case g29=>exact gw3
      case w29=>exact ⟨_,_,_,_,_,_,_,_,_,_,_,rfl,by first|exact .nil|exact hs' |exact hs,by first|exact .nil|exact hs2⟩
 by_cases k16:k=16
 ·subst k16
  obtain ⟨hB,va',bA,⟨mB,eqB⟩,nB,cB,eB,vaB,bAe⟩:=wO H hs i1 j1 (w:=1) xA eA om
  have xB:=(aH (cB _ om)).trans xA
  have rB:=(aH (cB _ om)).trans rA
  have gB:aP h hB:=⟨by have:=gA.next;omega,fun i hi=>(cB i om).trans (gA.get i hi)⟩
  have hc' :va'.bX=true:=by rcases vaB with rfl|rfl;exact i1;rfl
  have hs' :∃z,iP va' z:=by rcases vaB with rfl|rfl;exact ⟨_,hs⟩;exact ⟨_,.nil⟩
  obtain ⟨zs,hs'⟩:=hs'
  cases bA
  case false=>
   refine ⟨?hh30, ?vv30, ?g30,Ev.call H.f118 H.o118 ⟨mB,fun m hm=> ?b30⟩, ?w30⟩
   case b30=>
    have qZ :=eqB m om
    exact SX (dI @a118.eq_1 (Eq.symm hAe) i1 i2 j1 j2 y1 y2 q q2 hc' xA rA eA xB rB (cj2 eB qZ))
   case g30=>exact gw3
   case w30=>exact ⟨_,_,_,_,_,_,_,_,_,_,_,rfl,by first|exact .nil|exact hs' |exact hs,by first|exact .nil|exact hs2⟩
  case true=>
   obtain ⟨hF,c',e',⟨mF,eqF⟩,gPF,hv'⟩:=yJ H h1 xB
   have xF:=(aF gPF om).trans xB
   have rF:=(aF gPF om).trans rB
   have eF:=(aF gPF om).trans eB
   have nF:=gPF.next
   have gF:aP h hF:=gB.trans gPF
   obtain ⟨hG,bG,gFG,mG,eqG⟩:=xN H hv' false hF
   have xG:=(aF gFG om).trans xF
   have rG:=(aF gFG om).trans rF
   have eG:=(aF gFG om).trans eF
   have nG:=gFG.next
   have gG:aP h hG:=gF.trans gFG
   cases bG
   case true=>
    refine ⟨?hh31, ?vv31, ?g31,Ev.call H.f118 H.o118 ⟨mB+mF+mG,fun m hm=> ?b31⟩, ?w31⟩
    case b31=>
     have qZ :=eqB m om
     have Bc :=eqF m om
     have Bb :=eqG m om
     exact SX (dI @a118.eq_1 (Eq.symm hAe) i1 i2 j1 j2 y1 y2 q q2 hc' xA rA eA xB rB (tR eB xF rF eF xG rG eG qZ Bc Bb))
    case g31=>exact gw3
    case w31=>exact ⟨_,_,_,_,_,_,_,_,_,_,_,rfl,by first|exact .nil|exact hs' |exact hs,by first|exact .nil|exact hs2⟩
   case false=>
    obtain ⟨hI,c2,e2,⟨mI,eqI⟩,gGI,hv2⟩:=yJ H h1 xG
    have xI:=(aF gGI om).trans xG
    have rI:=(aF gGI om).trans rG
    have eI:=(aF gGI om).trans eG
    have nI:=gGI.next
    have gI:aP h hI:=gG.trans gGI
    cases hv2 with
    | @exp k2 op2 n2 man2 ex2 t2 a2 d2 va2 vd2 u1 u2=>
     by_cases ck:k2=17
     ·have dk:=dT ck
      refine ⟨?hh32, ?vv32, ?g32,Ev.call H.f118 H.o118 ⟨mB+mF+mG+mI,fun m hm=> ?b32⟩, ?w32⟩
      case b32=>
       have qZ :=eqB m om
       have Bc :=eqF m om
       have Bb :=eqG m om
       have NA :=eqI m om
       exact SX (dI @a118.eq_1 (Eq.symm hAe) i1 i2 j1 j2 y1 y2 q q2 hc' xA rA eA xB rB (xJ eB xF rF eF xG rG eG xI rI eI qZ Bc Bb NA dk))
      case g32=>exact gw3
      case w32=>exact ⟨_,_,_,_,_,_,_,_,_,_,_,rfl,by first|exact .nil|exact hs' |exact hs,by first|exact .nil|exact hs2⟩
     ·have dk:=dF ck
      refine ⟨?hh33, ?vv33, ?g33,Ev.call H.f118 H.o118 ⟨mB+mF+mG+mI,fun m hm=> ?b33⟩, ?w33⟩
      case b33=>
       have qZ :=eqB m om
       have Bc :=eqF m om
       have Bb :=eqG m om
       have NA :=eqI m om
       exact SX (dI @a118.eq_1 (Eq.symm hAe) i1 i2 j1 j2 y1 y2 q q2 hc' xA rA eA xB rB (xJ eB xF rF eF xG rG eG xI rI eI qZ Bc Bb NA dk))
      case g33=>exact gw3
      case w33=>exact ⟨_,_,_,_,_,_,_,_,_,_,_,rfl,by first|exact .nil|exact hs' |exact hs,by first|exact .nil|exact hs2⟩
 by_cases k17:k=17
 ·subst k17
  refine ⟨?hh34, ?vv34, ?g34,Ev.call H.f118 H.o118 ⟨0,fun m hm=> ?b34⟩, ?w34⟩
  case b34=>
   exact SX (wK @a118.eq_1 (Eq.symm hAe) i1 i2 j1 j2 y1 y2 q q2 xA rA eA)
  case g34=>exact gw3
  case w34=>exact ⟨_,_,_,_,_,_,_,_,_,_,_,rfl,by first|exact .nil|exact hs,by first|exact .nil|exact hs2⟩
 by_cases k18:k=18
 ·subst k18
  refine ⟨?hh35, ?vv35, ?g35,Ev.call H.f118 H.o118 ⟨0,fun m hm=> ?b35⟩, ?w35⟩
  case b35=>
   exact SX (wK @a118.eq_1 (Eq.symm hAe) i1 i2 j1 j2 y1 y2 q q2 xA rA eA)
  case g35=>exact gw3
  case w35=>exact ⟨_,_,_,_,_,_,_,_,_,_,_,rfl,by first|exact .nil|exact hs,by first|exact .nil|exact hs2⟩
 by_cases k19:k=19
 ·subst k19
  obtain ⟨hB,va',bA,⟨mB,eqB⟩,nB,cB,eB,vaB,bAe⟩:=wO H hs i1 j1 (w:=2) xA eA om
  have xB:=(aH (cB _ om)).trans xA
  have rB:=(aH (cB _ om)).trans rA
  have gB:aP h hB:=⟨by have:=gA.next;omega,fun i hi=>(cB i om).trans (gA.get i hi)⟩
  have hc' :va'.bX=true:=by rcases vaB with rfl|rfl;exact i1;rfl
  have hs' :∃z,iP va' z:=by rcases vaB with rfl|rfl;exact ⟨_,hs⟩;exact ⟨_,.nil⟩
  obtain ⟨zs,hs'⟩:=hs'
  refine ⟨?hh36, ?vv36, ?g36,Ev.call H.f118 H.o118 ⟨mB,fun m hm=> ?b36⟩, ?w36⟩
  case b36=>
   have qZ :=eqB m om
   exact SX (dI @a118.eq_1 (Eq.symm hAe) i1 i2 j1 j2 y1 y2 q q2 hc' xA rA eA xB rB (cj2 eB qZ))
  case g36=>exact gw3
  case w36=>exact ⟨_,_,_,_,_,_,_,_,_,_,_,rfl,by first|exact .nil|exact hs' |exact hs,by first|exact .nil|exact hs2⟩
 by_cases k20:k=20
 ·subst k20
  obtain ⟨hB,va',bA,⟨mB,eqB⟩,nB,cB,eB,vaB,bAe⟩:=wO H hs i1 j1 (w:=1) xA eA om
  have xB:=(aH (cB _ om)).trans xA
  have rB:=(aH (cB _ om)).trans rA
  have gB:aP h hB:=⟨by have:=gA.next;omega,fun i hi=>(cB i om).trans (gA.get i hi)⟩
  have hc' :va'.bX=true:=by rcases vaB with rfl|rfl;exact i1;rfl
  have hs' :∃z,iP va' z:=by rcases vaB with rfl|rfl;exact ⟨_,hs⟩;exact ⟨_,.nil⟩
  obtain ⟨zs,hs'⟩:=hs'
  cases bA
  case false=>
   refine ⟨?hh37, ?vv37, ?g37,Ev.call H.f118 H.o118 ⟨mB,fun m hm=> ?b37⟩, ?w37⟩
   case b37=>
    have qZ :=eqB m om
    exact SX (dI @a118.eq_1 (Eq.symm hAe) i1 i2 j1 j2 y1 y2 q q2 hc' xA rA eA xB rB (cj2 eB qZ))
   case g37=>exact gw3
   case w37=>exact ⟨_,_,_,_,_,_,_,_,_,_,_,rfl,by first|exact .nil|exact hs' |exact hs,by first|exact .nil|exact hs2⟩
  case true=>
   by_cases c1:op=1
   ·have d1:=dT c1
    refine ⟨?hh38, ?vv38, ?g38,Ev.call H.f118 H.o118 ⟨mB,fun m hm=> ?b38⟩, ?w38⟩
    case b38=>
     have qZ :=eqB m om
     exact SX (dI @a118.eq_1 (Eq.symm hAe) i1 i2 j1 j2 y1 y2 q q2 hc' xA rA eA xB rB (cj3 eB qZ d1))
    case g38=>exact gw3
    case w38=>exact ⟨_,_,_,_,_,_,_,_,_,_,_,rfl,by first|exact .nil|exact hs' |exact hs,by first|exact .nil|exact hs2⟩
   ·have d1:=dF c1
    by_cases c2:op=2
    ·have d2:=dT c2
     refine ⟨?hh39, ?vv39, ?g39,Ev.call H.f118 H.o118 ⟨mB,fun m hm=> ?b39⟩, ?w39⟩
     case b39=>
      have qZ :=eqB m om
      exact SX (dI @a118.eq_1 (Eq.symm hAe) i1 i2 j1 j2 y1 y2 q q2 hc' xA rA eA xB rB (cj4 eB qZ d1 d2))
     case g39=>exact gw3
     case w39=>exact ⟨_,_,_,_,_,_,_,_,_,_,_,rfl,by first|exact .nil|exact hs' |exact hs,by first|exact .nil|exact hs2⟩
    ·have d2:=dF c2
     refine ⟨?hh40, ?vv40, ?g40,Ev.call H.f118 H.o118 ⟨mB,fun m hm=> ?b40⟩, ?w40⟩
     case b40=>
      have qZ :=eqB m om
      exact SX (dI @a118.eq_1 (Eq.symm hAe) i1 i2 j1 j2 y1 y2 q q2 hc' xA rA eA xB rB (cj4 eB qZ d1 d2))
     case g40=>exact gw3
     case w40=>exact ⟨_,_,_,_,_,_,_,_,_,_,_,rfl,by first|exact .nil|exact hs' |exact hs,by first|exact .nil|exact hs2⟩
 by_cases k21:k=21
 ·subst k21
  obtain ⟨hB,va',bA,⟨mB,eqB⟩,nB,cB,eB,vaB,bAe⟩:=wO H hs i1 j1 (w:=2) xA eA om
  have xB:=(aH (cB _ om)).trans xA
  have rB:=(aH (cB _ om)).trans rA
  have gB:aP h hB:=⟨by have:=gA.next;omega,fun i hi=>(cB i om).trans (gA.get i hi)⟩
  have hc' :va'.bX=true:=by rcases vaB with rfl|rfl;exact i1;rfl
  have hs' :∃z,iP va' z:=by rcases vaB with rfl|rfl;exact ⟨_,hs⟩;exact ⟨_,.nil⟩
  obtain ⟨zs,hs'⟩:=hs'
  cases bA
  case false=>
   refine ⟨?hh41, ?vv41, ?g41,Ev.call H.f118 H.o118 ⟨mB,fun m hm=> ?b41⟩, ?w41⟩
   case b41=>
    have qZ :=eqB m om
    exact SX (dI @a118.eq_1 (Eq.symm hAe) i1 i2 j1 j2 y1 y2 q q2 hc' xA rA eA xB rB (cj2 eB qZ))
   case g41=>exact gw3
   case w41=>exact ⟨_,_,_,_,_,_,_,_,_,_,_,rfl,by first|exact .nil|exact hs' |exact hs,by first|exact .nil|exact hs2⟩
  case true=>
   by_cases c1:3≤op
   ·have d1:=dT c1
    by_cases c2:op≤17
    ·have d2:=dT c2
     refine ⟨?hh42, ?vv42, ?g42,Ev.call H.f118 H.o118 ⟨mB,fun m hm=> ?b42⟩, ?w42⟩
     case b42=>
      have qZ :=eqB m om
      exact SX (dI @a118.eq_1 (Eq.symm hAe) i1 i2 j1 j2 y1 y2 q q2 hc' xA rA eA xB rB (cj4 eB qZ d1 d2))
     case g42=>exact gw3
     case w42=>exact ⟨_,_,_,_,_,_,_,_,_,_,_,rfl,by first|exact .nil|exact hs' |exact hs,by first|exact .nil|exact hs2⟩
    ·have d2:=dF c2
     refine ⟨?hh43, ?vv43, ?g43,Ev.call H.f118 H.o118 ⟨mB,fun m hm=> ?b43⟩, ?w43⟩
     case b43=>
      have qZ :=eqB m om
      exact SX (dI @a118.eq_1 (Eq.symm hAe) i1 i2 j1 j2 y1 y2 q q2 hc' xA rA eA xB rB (cj4 eB qZ d1 d2))
     case g43=>exact gw3
     case w43=>exact ⟨_,_,_,_,_,_,_,_,_,_,_,rfl,by first|exact .nil|exact hs' |exact hs,by first|exact .nil|exact hs2⟩
   ·have d1:=dF c1
    refine ⟨?hh44, ?vv44, ?g44,Ev.call H.f118 H.o118 ⟨mB,fun m hm=> ?b44⟩, ?w44⟩
    case b44=>
     have qZ :=eqB m om
     exact SX (dI @a118.eq_1 (Eq.symm hAe) i1 i2 j1 j2 y1 y2 q q2 hc' xA rA eA xB rB (cj3 eB qZ d1))
    case g44=>exact gw3
    case w44=>exact ⟨_,_,_,_,_,_,_,_,_,_,_,rfl,by first|exact .nil|exact hs' |exact hs,by first|exact .nil|exact hs2⟩
 have z1:=dF k1
 have z2:=dF k2
 have z3:=dF k3
 have z4:=dF k4
 have z5:=dF k5
 have z6:=dF k6
 have z7:=dF k7
 have z8:=dF k8
 have z10:=dF k10
 have z9:=dF k9
 have z11:=dF k11
 have z12:=dF k12
 have z13:=dF k13
 have z14:=dF k14
 have z15:=dF k15
 have z16:=dF k16
 have z17:=dF k17
 have z18:=dF k18
 have z19:=dF k19
 have z20:=dF k20
 have z21:=dF k21
 refine ⟨?hh45, ?vv45, ?g45,Ev.call H.f118 H.o118 ⟨0,fun m hm=> ?b45⟩, ?w45⟩
 case b45=>
  exact SX (dI @a118.eq_1 (Eq.symm hAe) i1 i2 j1 j2 y1 y2 q q2 xA rA eA z1 z2 z3 (dI z4 z5 z6 z7 z8 z10 z9 z11 z12 z13 z14 z15 z16 z17 z18 z19 (cj2 z20 z21)))
 case g45=>exact gw3
 case w45=>exact ⟨_,_,_,_,_,_,_,_,_,_,_,rfl,by first|exact .nil|exact hs,by first|exact .nil|exact hs2⟩
end Go.Ly
end
