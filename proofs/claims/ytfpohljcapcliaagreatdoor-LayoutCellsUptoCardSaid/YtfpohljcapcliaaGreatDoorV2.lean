/- Parts of a proof. -/
import Derived.Test.YtfpohljcapcliaaGreatDoorD
import Derived.Test.YtfpohljcapcliaaGreatDoorV
set_option linter.all false
set_option maxHeartbeats 8000000
set_option maxRecDepth 4000
noncomputable section
namespace Go.Ly
open Go Go.Am Go.Fs Go.Gn
variable {fns:Go.Am.F} {orc:Orc}
theorem An (H:Has fns orc) {a:List pO} {va:AV} (hv:RVs (a.map Part.exp) va) (h:aD):
  ∃h' b,aP h h' ∧Ev fns orc (.call 142 [va] .plain h) (.call (.ret (.bool b)) .plain h')∧(b=true→a.length=1):=by
 obtain ⟨xs,hs,hxl,hel⟩:=jZ hv
 rw [List.length_map] at hxl
 have q:=bO hs
 by_cases c1:a.length=1
 ·have d1:decide ((xs.length:Int)=1)=true:=dT om
  obtain ⟨c',f1,f2,h',b,gr,n1,e1⟩:=Bp H hv om true h
  refine ⟨h',b,gr,Ev.call H.f142 H.o142 ⟨n1,fun m hm=> ?b1⟩,fun _=>c1⟩
  have e1' :=e1 m hm
  exact SX (cj6 @a142.eq_1 q d1 f1 f2 e1')
 ·have d1:decide ((xs.length:Int)=1)=false:=dF om
  refine ⟨h,false,.refl _,Ev.call H.f142 H.o142 ⟨0,fun m hm=> ?b2⟩,fun q=>by cases q⟩
  exact SX (cj3 @a142.eq_1 q d1)
theorem Ck (H:Has fns orc) {k:Int} {p:List pO} {d:List pD} {vn vs vp vd:AV} (h2:RVs (p.map Part.exp) vp) (h3:RVs (d.map Part.desc) vd) (h:aD):
  ∃h' b,aP h h' ∧Ev fns orc (.call 141 [.agg [.int .i64 k,vn,vs,vp,vd]] .plain h) (.call (.ret (.bool b)) .plain h')∧(b=true→(d.length=0∧p.length=1)∨(p.length=0∧d.length=1)):=by
 obtain ⟨xp,hs,hxl,_⟩:=jZ h2
 obtain ⟨xd,hs2,hxl2,_⟩:=jZ h3
 rw [List.length_map] at hxl hxl2
 have q:=bO hs
 have q2:=bO hs2
 obtain ⟨hA,hAe⟩:∃x,x=h.push (.cells [.int .i64 k,vn,vs,vp,vd]):=⟨_,rfl⟩
 have gA:aP h hA:=by rw [hAe];exact gw2
 have nA:hA.next=h.next+1:=by rw [hAe];simp
 have xA:cont hA h.next=some [.int .i64 k,vn,vs,vp,vd]:=by rw [hAe];exact aR om om
 obtain ⟨hB,b,gAB,⟨n1,e1⟩,hb⟩:=An H h2 hA
 have gB:=gA.trans gAB
 have nB:=gAB.next
 have xB:=(aF gAB (by omega:h.next<hA.next)).trans xA
 by_cases c1:(xd.length:Int)=0
 ·have d1:=dT c1
  cases b with
  |true=>
   refine ⟨hB,true, ?g3,Ev.call H.f141 H.o141 ⟨n1,fun m hm=> ?b3⟩,fun _=> .inl ⟨by omega,hb rfl⟩⟩
   case b3=>
    have e1' :=e1 m om
    exact SX (cj8 @a141.eq_1 (Eq.symm hAe) xA xB q q2 d1 e1')
   case g3=>exact gw3
  |false=>
   by_cases c2:(xp.length:Int)=0
   ·have d2:=dT c2
    have d3:decide ((xd.length:Int)=1)=false:=dF om
    refine ⟨hB,false, ?g4,Ev.call H.f141 H.o141 ⟨n1,fun m hm=> ?b4⟩,fun q=>by cases q⟩
    case b4=>
     have e1' :=e1 m om
     exact SX (tR @a141.eq_1 (Eq.symm hAe) xA xB q q2 d1 d2 d3 e1')
    case g4=>exact gw3
   ·have d2:=dF c2
    refine ⟨hB,false, ?g5,Ev.call H.f141 H.o141 ⟨n1,fun m hm=> ?b5⟩,fun q=>by cases q⟩
    case b5=>
     have e1' :=e1 m om
     exact SX (cj9 @a141.eq_1 (Eq.symm hAe) xA xB q q2 d1 d2 e1')
    case g5=>exact gw3
 ·have d1:=dF c1
  by_cases c2:(xp.length:Int)=0
  ·have d2:=dT c2
   by_cases c3:(xd.length:Int)=1
   ·have d3:=dT c3
    refine ⟨hA,true, ?g6,Ev.call H.f141 H.o141 ⟨0,fun m hm=> ?b6⟩,fun _=> .inr ⟨by omega,by omega⟩⟩
    case b6=>
     exact SX (cj9 @a141.eq_1 (Eq.symm hAe) xA xB q q2 d1 d2 d3)
    case g6=>exact gw3
   ·have d3:=dF c3
    refine ⟨hA,false, ?g7,Ev.call H.f141 H.o141 ⟨0,fun m hm=> ?b7⟩,fun q=>by cases q⟩
    case b7=>
     exact SX (cj9 @a141.eq_1 (Eq.symm hAe) xA xB q q2 d1 d2 d3)
    case g7=>exact gw3
  ·have d2:=dF c2
   refine ⟨hA,false, ?g8,Ev.call H.f141 H.o141 ⟨0,fun m hm=> ?b8⟩,fun q=>by cases q⟩
   case b8=>
    exact SX (cj8 @a141.eq_1 (Eq.symm hAe) xA xB q q2 d1 d2)
   case g8=>exact gw3
theorem LA (H:Has fns orc) (N:vX fns orc) {s:List UInt8} {p:List pO} {d:List kV} {e:List pO} {bd:Bool} {i:List qN} {x:List pO} {vp vd ve vi vx:AV}
  (h1:RVs (p.map Part.exp) vp) (h2:RVs (d.map Part.decl) vd) (h3:RVs (e.map Part.exp) ve) (h4:RVs (i.map Part.imp) vi) (h5:RVs (x.map Part.exp) vx) (hs:s.length<10000000) (h:aD):
  ∃h' b,aP h h' ∧Ev fns orc (.call 121 [.agg [.str s,vp,vd,ve,.bool bd,vi,vx]] .plain h) (.call (.ret (.bool b)) .plain h'):=by
 obtain ⟨x1,s1,l1,_⟩:=jZ h1
 obtain ⟨x2,s2,l2,_⟩:=jZ h2
 obtain ⟨x3,s3,l3,_⟩:=jZ h3
 obtain ⟨x4,s4,l4,_⟩:=jZ h4
 obtain ⟨x5,s5,l5,_⟩:=jZ h5
 rw [List.length_map] at l1
 have q1:=bO s1
 have q2:=bO s2
 have q3:=bO s3
 have q4:=bO s4
 have q5:=bO s5
 obtain ⟨hA,hAe⟩:∃x,x=h.push (.cells [.str s,vp,vd,ve,.bool bd,vi,vx]):=⟨_,rfl⟩
 have gA:aP h hA:=by rw [hAe];exact gw2
 have nA:hA.next=h.next+1:=by rw [hAe];simp
 have xA:cont hA h.next=some [.str s,vp,vd,ve,.bool bd,vi,vx]:=by rw [hAe];exact aR om om
 by_cases c0:jI s []=true
 case neg=>
  have d0:jI s []=false:=by simpa using c0
  obtain ⟨hB,b,gAB,⟨n1,e1⟩,_⟩:=N s hs hA
  have gB:=gA.trans gAB
  have nB:=gAB.next
  have xB:=(aF gAB (by omega:h.next<hA.next)).trans xA
  cases b with
  |false=>
   refine ⟨hB,false, ?g9,Ev.call H.f121 H.o121 ⟨n1,fun m hm=> ?b9⟩⟩
   case b9=>
    have e1' :=e1 m om
    exact SX (sC @a121.eq_1 (Eq.symm hAe) xA xB d0 q1 q2 q3 q4 q5 e1')
   case g9=>exact gw3
  |true=>
   cases bd with
   |true=>
    refine ⟨hB,false, ?g10,Ev.call H.f121 H.o121 ⟨n1,fun m hm=> ?b10⟩⟩
    case b10=>
     have e1' :=e1 m om
     exact SX (sC @a121.eq_1 (Eq.symm hAe) xA xB d0 q1 q2 q3 q4 q5 e1')
    case g10=>exact gw3
   |false=>
    refine ⟨hB, ?XY, ?g11,Ev.call H.f121 H.o121 ⟨n1,fun m hm=> ?b11⟩⟩
    case b11=>
     have e1' :=e1 m om
     exact SX (sC @a121.eq_1 (Eq.symm hAe) xA xB d0 q1 q2 q3 q4 q5 e1')
    case g11=>exact gw3
 have d0:=c0
 by_cases c1:(x1.length:Int)≤1
 case neg=>
  have dc1:=dF c1
  refine ⟨hA,false, ?g12,Ev.call H.f121 H.o121 ⟨0,fun m hm=> ?b12⟩⟩
  case b12=>
   exact SX (tR @a121.eq_1 (Eq.symm hAe) xA d0 q1 q2 q3 q4 q5 dc1)
  case g12=>exact gw3
 have dc1:=dT c1
 by_cases c2:(x1.length:Int)=0
 ·have d2:=dT c2
  cases bd with
  |true=>
   refine ⟨hA, ?XX, ?g13,Ev.call H.f121 H.o121 ⟨0,fun m hm=> ?b13⟩⟩
   case b13=>
    exact SX (sC @a121.eq_1 (Eq.symm hAe) xA d0 q1 q2 q3 q4 q5 dc1 d2)
   case g13=>exact gw3
  |false=>
   refine ⟨hA, ?XW, ?g14,Ev.call H.f121 H.o121 ⟨0,fun m hm=> ?b14⟩⟩
   case b14=>
    exact SX (sC @a121.eq_1 (Eq.symm hAe) xA d0 q1 q2 q3 q4 q5 dc1 d2)
   case g14=>exact gw3
 ·have d2:=dF c2
  obtain ⟨c',f1,f2,hB,b,gAB,n1,e1⟩:=Bp H h1 om true hA
  have gB:=gA.trans gAB
  have nB:=gAB.next
  have xB:=(aF gAB (by omega:h.next<hA.next)).trans xA
  cases b with
  |false=>
   refine ⟨hB,false, ?g15,Ev.call H.f121 H.o121 ⟨n1,fun m hm=> ?b15⟩⟩
   case b15=>
    have e1' :=e1 m om
    exact SX (xJ @a121.eq_1 (Eq.symm hAe) xA d0 q1 q2 q3 q4 q5 dc1 d2 f1 f2 xB e1')
   case g15=>exact gw3
  |true=>
   cases bd with
   |true=>
    refine ⟨hB, ?XV, ?g16,Ev.call H.f121 H.o121 ⟨n1,fun m hm=> ?b16⟩⟩
    case b16=>
     have e1' :=e1 m om
     exact SX (xJ @a121.eq_1 (Eq.symm hAe) xA d0 q1 q2 q3 q4 q5 dc1 d2 f1 f2 xB e1')
    case g16=>exact gw3
   |false=>
    refine ⟨hB, ?XU, ?g17,Ev.call H.f121 H.o121 ⟨n1,fun m hm=> ?b17⟩⟩
    case b17=>
     have e1' :=e1 m om
     exact SX (xJ @a121.eq_1 (Eq.symm hAe) xA d0 q1 q2 q3 q4 q5 dc1 d2 f1 f2 xB e1')
    case g17=>exact gw3
end Go.Ly
namespace Go.Ly
open Go Go.Am Go.Fs Go.Gn
variable {fns:Go.Am.F} {orc:Orc}
def DQ:AC:=p123x110100
theorem QH (N:vX fns orc) {fn x:Nat} {n:List (List UInt8)} {vn:AV} (hx:iP vn (n.map AV.str)) (hn:n.length<10000000) (hs:∀s∈n,s.length<10000000) (rc:RC):∀(k i:Nat) (h:aD),i+k=n.length→
  ∃h' e s',Ev fns orc (.code fn none (.loop DQ) ⟨[(1,.ptr x 0),(11,vn),(12,.int .i64 (n.length:Nat)),(13,.int .i64 (i:Int))],[],rc,h⟩) (.code e s')∧aP h h' ∧s'.heap=h' ∧s'.defers=[]∧s'.rc=rc∧
   ((e= .exit 0∧cH s'.tmps 1= .ptr x 0∧∀j (hj:j<n.length),i≤j→n[j]≠[])∨(e= .ret∧cH s'.tmps 2= .bool false)):=by
 intro k
 induction k with
 |zero=>
  intro i h hi
  have d:decide ((i:Int)<((n.length:Nat):Int))=false:=dF om
  refine ⟨h,.exit 0, ?ss,Ev.code ⟨0,fun m _=> ?b⟩,.refl _, ?r⟩
  case b=>
   exact SX (cj3 @DQ.eq_1 d @aI)
  case r=>exact ⟨rfl,rfl,rfl,.inl ⟨rfl,rfl,fun j hj hij=>by omega⟩⟩
 |succ k ih=>
  intro i h hi
  have hlt:i<n.length:=om
  have d:decide ((i:Int)<((n.length:Nat):Int))=true:=dT om
  have f1:pT 1 vn (.int .i64 (i:Int))= .ok (.ep [.str n[i]] 0):=oX hx (by simp [hlt]) rfl
  obtain ⟨hB,b,gB,⟨n1,e1⟩,hb⟩:=N n[i] (hs _ (List.getElem_mem hlt)) h
  cases b with
  |false=>
   refine ⟨hB,.ret, ?ss2,Ev.code ⟨n1,fun m hm=> ?b2⟩,gB, ?r2⟩
   case b2=>
    have e1' :=e1 m om
    exact SX (cj6 @DQ.eq_1 d f1 e1' @aI @fO)
   case r2=>exact ⟨rfl,rfl,rfl,.inr ⟨rfl,rfl⟩⟩
  |true=>
   obtain ⟨h',e,s',⟨n2,e2⟩,g2,r1,r2,r3,r4⟩:=ih (i+1) hB om
   refine ⟨h',e,s',Ev.code ⟨max n1 n2,fun m hm=> ?b3⟩,gB.trans g2,r1,r2,r3, ?r⟩
   case b3=>
    have e1' :=e1 m om
    have e2' :=e2 m om
    simp only [DQ] at e2'
    exact SXe (cj7 @DQ.eq_1 d f1 e1' @aI @fO (ER hlt om)) e2'
   case r=>
    rcases r4 with ⟨u1,u2,u3⟩|u
    ·refine .inl ⟨u1,u2,fun j hj hij=> ?_⟩
     by_cases e:j=i
     ·subst e;exact hb rfl
     ·exact u3 j hj om
    ·exact .inr u
structure Og (k:Int) (n:List (List UInt8)) (np nd:Nat):Prop where
 some:n≠[]
 name:∀s∈n,s≠[]
 pat:k=1→np=0∧nd=1
 X1:k=2∨k=3∨k=4∨k=5∨k=7→(nd=0∧np=1)∨(np=0∧nd=1)
 other:¬(k=1∨k=2∨k=3∨k=4∨k=5∨k=7)→nd=0
 lo:1≤k
theorem LB (H:Has fns orc) (N:vX fns orc) {k:Int} {n:List (List UInt8)} {s p:List pO} {d:List pD} {vn vs vp vd:AV} (h0:iP vn (n.map AV.str)) (h1:RVs (s.map Part.exp) vs) (h2:RVs (p.map Part.exp) vp) (h3:RVs (d.map Part.desc) vd)
  (hn:n.length<10000000) (hpl:p.length<10000000) (hdl:d.length<10000000) (hs:∀s∈n,s.length<10000000) (h:aD):
  ∃h' b,aP h h' ∧Ev fns orc (.call 123 [.agg [.int .i64 k,vn,vs,vp,vd]] .plain h) (.call (.ret (.bool b)) .plain h')∧(b=true→Og k n p.length d.length):=by
 obtain ⟨xs,s1,l1,_⟩:=jZ h1
 obtain ⟨xp,s2,l2,_⟩:=jZ h2
 obtain ⟨xd,s3,l3,_⟩:=jZ h3
 rw [List.length_map] at l1 l2 l3
 have q0:=bO h0
 rw [List.length_map] at q0
 have q1:=bO s1
 have q2:=bO s2
 have q3:=bO s3
 have i0:=qL h0
 obtain ⟨hA,hAe⟩:∃x,x=h.push (.cells [.int .i64 k,vn,vs,vp,vd]):=⟨_,rfl⟩
 have gA:aP h hA:=by rw [hAe];exact gw2
 have nA:hA.next=h.next+1:=by rw [hAe];simp
 have xA:cont hA h.next=some [.int .i64 k,vn,vs,vp,vd]:=by rw [hAe];exact aR om om
 by_cases c0:(n.length:Int)=0
 case pos=>
  have d0:=dT c0
  refine ⟨hA,false, ?g1,Ev.call H.f123 H.o123 ⟨0,fun m hm=> ?b1⟩,fun q=>by cases q⟩
  case b1=>
   exact SX (cj5 @a123.eq_1 (Eq.symm hAe) xA q0 d0)
  case g1=>exact gw3
 have d0:=dF c0
 obtain ⟨hB,e,s',⟨n1,e1⟩,gAB,w1,w2,w3,w4⟩:=QH (fns:=fns) (orc:=orc) N (fn:=123) (x:=h.next) h0 hn hs .plain n.length 0 hA om
 obtain ⟨ts,ds,rc,hp⟩:=s'
 cases w1;cases w2;cases w3
 dsimp only at gAB w4
 have gB:aP h hp:=gA.trans gAB
 have nB:=gAB.next
 have xB:=(aF gAB (by omega:h.next<hA.next)).trans xA
 have e2:∀m,n1≤m→cG (eval fns orc m) 123 none (.loop DQ) ⟨[(1,.ptr h.next 0),(11,vn),(12,.int .i64 (n.length:Nat)),(13,.int .i64 0)],[],.plain,hA⟩= .ok (.code e ⟨ts,[],.plain,hp⟩):=fun m hm=>e1 (m+1) om
 simp only [DQ] at e2
 rcases w4 with ⟨rfl,w5,w6⟩|⟨rfl,w5⟩
 case inr=>
  refine ⟨hp,false, ?g2,Ev.call H.f123 H.o123 ⟨n1,fun m hm=> ?b2⟩,fun q=>by cases q⟩
  case b2=>
   have e2' :=e2 m om
   exact SX (cj7 @a123.eq_1 (Eq.symm hAe) xA q0 d0 e2' w5)
  case g2=>exact gw3
 have nn:n≠[]:=fun q=>c0 (by simp [q])
 have nm:∀s∈n,s≠[]:=fun s q=>by
  obtain ⟨j,hj,rfl⟩:=List.mem_iff_getElem.1 q
  exact w6 j hj om
 by_cases k1:k=1
 ·subst k1
  by_cases c1:(xs.length:Int)=0
  case neg=>
   have dc1:=dF c1
   refine ⟨hp,false, ?g3,Ev.call H.f123 H.o123 ⟨n1,fun m hm=> ?b3⟩,fun q=>by cases q⟩
   case b3=>
    have e2' :=e2 m om
    exact SX (qC @a123.eq_1 (Eq.symm hAe) xA xB q0 q1 q2 q3 d0 e2' w5 dc1)
   case g3=>exact gw3
  have dc1:=dT c1
  by_cases c2:(xp.length:Int)=0
  case neg=>
   have dc2:=dF c2
   refine ⟨hp,false, ?g4,Ev.call H.f123 H.o123 ⟨n1,fun m hm=> ?b4⟩,fun q=>by cases q⟩
   case b4=>
    have e2' :=e2 m om
    exact SX (wK @a123.eq_1 (Eq.symm hAe) xA xB q0 q1 q2 q3 d0 e2' w5 dc1 dc2)
   case g4=>exact gw3
  have dc2:=dT c2
  by_cases c9:(xd.length:Int)=1
  ·have d9:=dT c9
   refine ⟨hp,true, ?g5,Ev.call H.f123 H.o123 ⟨n1,fun m hm=> ?b5⟩,fun _=>⟨nn,nm,by omega,by omega,by omega,by omega⟩⟩
   case b5=>
    have e2' :=e2 m om
    exact SX (zZ @a123.eq_1 (Eq.symm hAe) xA xB q0 q1 q2 q3 d0 e2' w5 dc1 dc2 d9)
   case g5=>exact gw3
  ·have d9:=dF c9
   refine ⟨hp,false, ?g6,Ev.call H.f123 H.o123 ⟨n1,fun m hm=> ?b6⟩,fun q=>by cases q⟩
   case b6=>
    have e2' :=e2 m om
    exact SX (zZ @a123.eq_1 (Eq.symm hAe) xA xB q0 q1 q2 q3 d0 e2' w5 dc1 dc2 d9)
   case g6=>exact gw3
 by_cases k2:k=2
 ·subst k2
  by_cases c1:(xs.length:Int)=0
  case neg=>
   have dc1:=dF c1
   refine ⟨hp,false, ?g7,Ev.call H.f123 H.o123 ⟨n1,fun m hm=> ?b7⟩,fun q=>by cases q⟩
   case b7=>
    have e2' :=e2 m om
    exact SX (qC @a123.eq_1 (Eq.symm hAe) xA xB q0 q1 q2 q3 d0 e2' w5 dc1)
   case g7=>exact gw3
  have dc1:=dT c1
  obtain ⟨hC,b,gBC,⟨n2,e3⟩,hb⟩:=Ck H (k:=2) (vn:=vn) (vs:=vs) h2 h3 hp
  have gC:=gB.trans gBC
  refine ⟨hC,b, ?g8,Ev.call H.f123 H.o123 ⟨n1+n2,fun m hm=> ?b8⟩,fun q=>⟨nn,nm,by omega,fun _=>hb q,by omega,by omega⟩⟩
  case b8=>
   have e2' :=e2 m om
   have e3' :=e3 m om
   exact SX (wK @a123.eq_1 (Eq.symm hAe) xA xB q0 q1 q2 q3 d0 e2' w5 dc1 e3')
  case g8=>exact gw3
 by_cases k3:k=3
 ·subst k3
  by_cases c1:(xs.length:Int)=0
  case neg=>
   have dc1:=dF c1
   refine ⟨hp,false, ?g9,Ev.call H.f123 H.o123 ⟨n1,fun m hm=> ?b9⟩,fun q=>by cases q⟩
   case b9=>
    have e2' :=e2 m om
    exact SX (qC @a123.eq_1 (Eq.symm hAe) xA xB q0 q1 q2 q3 d0 e2' w5 dc1)
   case g9=>exact gw3
  have dc1:=dT c1
  obtain ⟨hC,b,gBC,⟨n2,e3⟩,hb⟩:=Ck H (k:=3) (vn:=vn) (vs:=vs) h2 h3 hp
  have gC:=gB.trans gBC
  refine ⟨hC,b, ?g10,Ev.call H.f123 H.o123 ⟨n1+n2,fun m hm=> ?b10⟩,fun q=>⟨nn,nm,by omega,fun _=>hb q,by omega,by omega⟩⟩
  case b10=>
   have e2' :=e2 m om
   have e3' :=e3 m om
   exact SX (wK @a123.eq_1 (Eq.symm hAe) xA xB q0 q1 q2 q3 d0 e2' w5 dc1 e3')
  case g10=>exact gw3
 by_cases k4:k=4
 ·subst k4
  by_cases c1:(xs.length:Int)=0
  case neg=>
   have dc1:=dF c1
   refine ⟨hp,false, ?g11,Ev.call H.f123 H.o123 ⟨n1,fun m hm=> ?b11⟩,fun q=>by cases q⟩
   case b11=>
    have e2' :=e2 m om
    exact SX (qC @a123.eq_1 (Eq.symm hAe) xA xB q0 q1 q2 q3 d0 e2' w5 dc1)
   case g11=>exact gw3
  have dc1:=dT c1
  obtain ⟨hC,b,gBC,⟨n2,e3⟩,hb⟩:=Ck H (k:=4) (vn:=vn) (vs:=vs) h2 h3 hp
  have gC:=gB.trans gBC
  refine ⟨hC,b, ?g12,Ev.call H.f123 H.o123 ⟨n1+n2,fun m hm=> ?b12⟩,fun q=>⟨nn,nm,by omega,fun _=>hb q,by omega,by omega⟩⟩
  case b12=>
   have e2' :=e2 m om
   have e3' :=e3 m om
   exact SX (wK @a123.eq_1 (Eq.symm hAe) xA xB q0 q1 q2 q3 d0 e2' w5 dc1 e3')
  case g12=>exact gw3
 by_cases k7:k=7
 ·subst k7
  by_cases c1:(xs.length:Int)=0
  case neg=>
   have dc1:=dF c1
   refine ⟨hp,false, ?g13,Ev.call H.f123 H.o123 ⟨n1,fun m hm=> ?b13⟩,fun q=>by cases q⟩
   case b13=>
    have e2' :=e2 m om
    exact SX (qC @a123.eq_1 (Eq.symm hAe) xA xB q0 q1 q2 q3 d0 e2' w5 dc1)
   case g13=>exact gw3
  have dc1:=dT c1
  obtain ⟨hC,b,gBC,⟨n2,e3⟩,hb⟩:=Ck H (k:=7) (vn:=vn) (vs:=vs) h2 h3 hp
  have gC:=gB.trans gBC
  refine ⟨hC,b, ?g14,Ev.call H.f123 H.o123 ⟨n1+n2,fun m hm=> ?b14⟩,fun q=>⟨nn,nm,by omega,fun _=>hb q,by omega,by omega⟩⟩
  case b14=>
   have e2' :=e2 m om
   have e3' :=e3 m om
   exact SX (wK @a123.eq_1 (Eq.symm hAe) xA xB q0 q1 q2 q3 d0 e2' w5 dc1 e3')
  case g14=>exact gw3
 by_cases k5:k=5
 ·subst k5
  by_cases c1:(xs.length:Int)≤1
  case neg=>
   have dc1:=dF c1
   refine ⟨hp,false, ?g15,Ev.call H.f123 H.o123 ⟨n1,fun m hm=> ?b15⟩,fun q=>by cases q⟩
   case b15=>
    have e2' :=e2 m om
    exact SX (qC @a123.eq_1 (Eq.symm hAe) xA xB q0 q1 q2 q3 d0 e2' w5 dc1)
   case g15=>exact gw3
  have dc1:=dT c1
  obtain ⟨hC,b,gBC,⟨n2,e3⟩,hb⟩:=Ck H (k:=5) (vn:=vn) (vs:=vs) h2 h3 hp
  have gC:=gB.trans gBC
  refine ⟨hC,b, ?g16,Ev.call H.f123 H.o123 ⟨n1+n2,fun m hm=> ?b16⟩,fun q=>⟨nn,nm,by omega,fun _=>hb q,by omega,by omega⟩⟩
  case b16=>
   have e2' :=e2 m om
   have e3' :=e3 m om
   exact SX (wK @a123.eq_1 (Eq.symm hAe) xA xB q0 q1 q2 q3 d0 e2' w5 dc1 e3')
  case g16=>exact gw3
 by_cases k6:k=6
 ·subst k6
  by_cases c1:(xs.length:Int)≤1
  case neg=>
   have dc1:=dF c1
   refine ⟨hp,false, ?g17,Ev.call H.f123 H.o123 ⟨n1,fun m hm=> ?b17⟩,fun q=>by cases q⟩
   case b17=>
    have e2' :=e2 m om
    exact SX (qC @a123.eq_1 (Eq.symm hAe) xA xB q0 q1 q2 q3 d0 e2' w5 dc1)
   case g17=>exact gw3
  have dc1:=dT c1
  obtain ⟨hC,b,gBC,⟨n2,e3⟩,hb⟩:=An H h2 hp
  have gC:=gB.trans gBC
  have xC:=(aF gBC (by omega:h.next<hp.next)).trans xB
  have nC:=gBC.next
  cases b with
  |false=>
   refine ⟨hC,false, ?g18,Ev.call H.f123 H.o123 ⟨n1+n2,fun m hm=> ?b18⟩,fun q=>by cases q⟩
   case b18=>
    have e2' :=e2 m om
    have e3' :=e3 m om
    exact SX (zZ @a123.eq_1 (Eq.symm hAe) xA xB q0 q1 q2 q3 d0 e2' w5 dc1 xC e3')
   case g18=>exact gw3
  |true=>
   by_cases c9:(xd.length:Int)=0
   ·have d9:=dT c9
    refine ⟨hC,true, ?g19,Ev.call H.f123 H.o123 ⟨n1+n2,fun m hm=> ?b19⟩,fun _=>⟨nn,nm,by omega,by omega,by omega,by omega⟩⟩
    case b19=>
     have e2' :=e2 m om
     have e3' :=e3 m om
     exact SX (xJ @a123.eq_1 (Eq.symm hAe) xA xB q0 q1 q2 q3 d0 e2' w5 dc1 xC e3' d9)
    case g19=>exact gw3
   ·have d9:=dF c9
    refine ⟨hC,false, ?g20,Ev.call H.f123 H.o123 ⟨n1+n2,fun m hm=> ?b20⟩,fun q=>by cases q⟩
    case b20=>
     have e2' :=e2 m om
     have e3' :=e3 m om
     exact SX (xJ @a123.eq_1 (Eq.symm hAe) xA xB q0 q1 q2 q3 d0 e2' w5 dc1 xC e3' d9)
    case g20=>exact gw3
 by_cases k8:k=8
 ·subst k8
  by_cases c1:(xs.length:Int)=0
  case neg=>
   have dc1:=dF c1
   refine ⟨hp,false, ?g21,Ev.call H.f123 H.o123 ⟨n1,fun m hm=> ?b21⟩,fun q=>by cases q⟩
   case b21=>
    have e2' :=e2 m om
    exact SX (qC @a123.eq_1 (Eq.symm hAe) xA xB q0 q1 q2 q3 d0 e2' w5 dc1)
   case g21=>exact gw3
  have dc1:=dT c1
  obtain ⟨hC,b,gBC,⟨n2,e3⟩,hb⟩:=An H h2 hp
  have gC:=gB.trans gBC
  have xC:=(aF gBC (by omega:h.next<hp.next)).trans xB
  have nC:=gBC.next
  cases b with
  |false=>
   refine ⟨hC,false, ?g22,Ev.call H.f123 H.o123 ⟨n1+n2,fun m hm=> ?b22⟩,fun q=>by cases q⟩
   case b22=>
    have e2' :=e2 m om
    have e3' :=e3 m om
    exact SX (zZ @a123.eq_1 (Eq.symm hAe) xA xB q0 q1 q2 q3 d0 e2' w5 dc1 xC e3')
   case g22=>exact gw3
  |true=>
   by_cases c9:(xd.length:Int)=0
   ·have d9:=dT c9
    refine ⟨hC,true, ?g23,Ev.call H.f123 H.o123 ⟨n1+n2,fun m hm=> ?b23⟩,fun _=>⟨nn,nm,by omega,by omega,by omega,by omega⟩⟩
    case b23=>
     have e2' :=e2 m om
     have e3' :=e3 m om
     exact SX (xJ @a123.eq_1 (Eq.symm hAe) xA xB q0 q1 q2 q3 d0 e2' w5 dc1 xC e3' d9)
    case g23=>exact gw3
   ·have d9:=dF c9
    refine ⟨hC,false, ?g24,Ev.call H.f123 H.o123 ⟨n1+n2,fun m hm=> ?b24⟩,fun q=>by cases q⟩
    case b24=>
     have e2' :=e2 m om
     have e3' :=e3 m om
     exact SX (xJ @a123.eq_1 (Eq.symm hAe) xA xB q0 q1 q2 q3 d0 e2' w5 dc1 xC e3' d9)
    case g24=>exact gw3
 by_cases k9:k=9
 ·subst k9
  by_cases c1:(xs.length:Int)=0
  case neg=>
   have dc1:=dF c1
   refine ⟨hp,false, ?g25,Ev.call H.f123 H.o123 ⟨n1,fun m hm=> ?b25⟩,fun q=>by cases q⟩
   case b25=>
    have e2' :=e2 m om
    exact SX (qC @a123.eq_1 (Eq.symm hAe) xA xB q0 q1 q2 q3 d0 e2' w5 dc1)
   case g25=>exact gw3
  have dc1:=dT c1
  obtain ⟨hC,b,gBC,⟨n2,e3⟩,hb⟩:=An H h2 hp
  have gC:=gB.trans gBC
  have xC:=(aF gBC (by omega:h.next<hp.next)).trans xB
  have nC:=gBC.next
  cases b with
  |false=>
   refine ⟨hC,false, ?g26,Ev.call H.f123 H.o123 ⟨n1+n2,fun m hm=> ?b26⟩,fun q=>by cases q⟩
   case b26=>
    have e2' :=e2 m om
    have e3' :=e3 m om
    exact SX (zZ @a123.eq_1 (Eq.symm hAe) xA xB q0 q1 q2 q3 d0 e2' w5 dc1 xC e3')
   case g26=>exact gw3
  |true=>
   by_cases c9:(xd.length:Int)=0
   ·have d9:=dT c9
    refine ⟨hC,true, ?g27,Ev.call H.f123 H.o123 ⟨n1+n2,fun m hm=> ?b27⟩,fun _=>⟨nn,nm,by omega,by omega,by omega,by omega⟩⟩
    case b27=>
     have e2' :=e2 m om
     have e3' :=e3 m om
     exact SX (xJ @a123.eq_1 (Eq.symm hAe) xA xB q0 q1 q2 q3 d0 e2' w5 dc1 xC e3' d9)
    case g27=>exact gw3
   ·have d9:=dF c9
    refine ⟨hC,false, ?g28,Ev.call H.f123 H.o123 ⟨n1+n2,fun m hm=> ?b28⟩,fun q=>by cases q⟩
    case b28=>
     have e2' :=e2 m om
     have e3' :=e3 m om
     exact SX (xJ @a123.eq_1 (Eq.symm hAe) xA xB q0 q1 q2 q3 d0 e2' w5 dc1 xC e3' d9)
    case g28=>exact gw3
 by_cases k10:k=10
 ·subst k10
  by_cases c1:(xs.length:Int)=0
  case neg=>
   have dc1:=dF c1
   refine ⟨hp,false, ?g29,Ev.call H.f123 H.o123 ⟨n1,fun m hm=> ?b29⟩,fun q=>by cases q⟩
   case b29=>
    have e2' :=e2 m om
    exact SX (qC @a123.eq_1 (Eq.symm hAe) xA xB q0 q1 q2 q3 d0 e2' w5 dc1)
   case g29=>exact gw3
  have dc1:=dT c1
  have w:IntKind.wrap .i64 ((xp.length:Int)+(xd.length:Int))=(xp.length:Int)+(xd.length:Int):=pE om om
  by_cases c8:(xp.length:Int)+(xd.length:Int)=0
  case neg=>
   have d8:=dF c8
   refine ⟨hp,false, ?g30,Ev.call H.f123 H.o123 ⟨n1,fun m hm=> ?b30⟩,fun q=>by cases q⟩
   case b30=>
    have e2' :=e2 m om
    exact SX (zZ @a123.eq_1 (Eq.symm hAe) xA xB q0 q1 q2 q3 d0 e2' w5 dc1 w d8)
   case g30=>exact gw3
  have d8:=dT c8
  by_cases c9:(n.length:Int)=1
  ·have d9:=dT c9
   refine ⟨hp,true, ?g31,Ev.call H.f123 H.o123 ⟨n1,fun m hm=> ?b31⟩,fun _=>⟨nn,nm,by omega,by omega,by omega,by omega⟩⟩
   case b31=>
    have e2' :=e2 m om
    exact SX (xJ @a123.eq_1 (Eq.symm hAe) xA xB q0 q1 q2 q3 d0 e2' w5 dc1 w d8 d9)
   case g31=>exact gw3
  ·have d9:=dF c9
   refine ⟨hp,false, ?g32,Ev.call H.f123 H.o123 ⟨n1,fun m hm=> ?b32⟩,fun q=>by cases q⟩
   case b32=>
    have e2' :=e2 m om
    exact SX (xJ @a123.eq_1 (Eq.symm hAe) xA xB q0 q1 q2 q3 d0 e2' w5 dc1 w d8 d9)
   case g32=>exact gw3
 have z1:=dF k1
 have z2:=dF k2
 have z3:=dF k3
 have z4:=dF k4
 have z7:=dF k7
 have z5:=dF k5
 have z6:=dF k6
 have z8:=dF k8
 have z9:=dF k9
 have z10:=dF k10
 by_cases c1:(xs.length:Int)=0
 ·have d1:=dT c1
  refine ⟨hp,false, ?g33,Ev.call H.f123 H.o123 ⟨n1,fun m hm=> ?b33⟩,fun q=>by cases q⟩
  case b33=>
   have e2' :=e2 m om
   exact SX (dI @a123.eq_1 (Eq.symm hAe) xA xB q0 q1 q2 q3 d0 e2' w5 d1 z1 z2 z3 z4 (cj6 z7 z5 z6 z8 z9 z10))
  case g33=>exact gw3
 ·have d1:=dF c1
  refine ⟨hp,false, ?g34,Ev.call H.f123 H.o123 ⟨n1,fun m hm=> ?b34⟩,fun q=>by cases q⟩
  case b34=>
   have e2' :=e2 m om
   exact SX (dI @a123.eq_1 (Eq.symm hAe) xA xB q0 q1 q2 q3 d0 e2' w5 d1 z1 z2 z3 z4 (cj6 z7 z5 z6 z8 z9 z10))
  case g34=>exact gw3
end Go.Ly
end
