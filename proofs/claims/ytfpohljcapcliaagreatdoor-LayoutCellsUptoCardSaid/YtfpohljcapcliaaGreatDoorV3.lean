/- Parts of a proof. -/
import Derived.Test.YtfpohljcapcliaaGreatDoorD
import Derived.Test.YtfpohljcapcliaaGreatDoorV
set_option linter.all false
set_option maxHeartbeats 16000000
set_option maxRecDepth 8000
noncomputable section
namespace Go.Ly
open Go Go.Am Go.Fs Go.Gn
variable {fns:Go.Am.F} {orc:Orc}
theorem Ny (H:Has fns orc) (N:vX fns orc) {k:Int} {s:List UInt8} {e:List pO} {c:List vK} {he:Bool} {b:List qN} {ve vc vb:AV}
  (h1:RVs (e.map Part.exp) ve) (h2:RVs (c.map Part.case) vc) (h3:RVs (b.map Part.imp) vb) (hs:s.length<10000000) (h:aD):
  ∃h' r,aP h h' ∧Ev fns orc (.call 125 [.agg [.int .i64 k,.str s,ve,vc,.bool he,vb]] .plain h) (.call (.ret (.bool r)) .plain h'):=by
 obtain ⟨x1,s1,l1,_⟩:=jZ h1
 obtain ⟨x2,s2,l2,_⟩:=jZ h2
 obtain ⟨x3,s3,l3,_⟩:=jZ h3
 rw [List.length_map] at l1 l2 l3
 have q1:=bO s1
 have q2:=bO s2
 have q3:=bO s3
 have y1:=jS h1
 have y2:=jS h2
 have y3:=jS h3
 obtain ⟨hA,hAe⟩:∃x,x=h.push (.cells [.int .i64 k,.str s,ve,vc,.bool he,vb]):=⟨_,rfl⟩
 have gA:aP h hA:=by rw [hAe];exact gw2
 have nA:hA.next=h.next+1:=by rw [hAe];simp
 have xA:cont hA h.next=some [.int .i64 k,.str s,ve,vc,.bool he,vb]:=by rw [hAe];exact aR om om
 by_cases k1:k=1
 ·subst k1
  by_cases cn:jI s []=true
  case neg=>
   have dcn:jI s []=false:=by simpa using cn
   refine ⟨hA, ?vv1, ?g1,Ev.call H.f125 H.o125 ⟨0,fun m hm=> ?b1⟩⟩
   case b1=>
    exact SX (tR @a125.eq_1 (Eq.symm hAe) xA q1 q2 q3 y1 y2 y3 dcn)
   case g1=>exact gw3
  have dcn:=cn
  by_cases cc:(x2.length:Int)=0
  case neg=>
   have dcc:=dF cc
   refine ⟨hA, ?vv2, ?g2,Ev.call H.f125 H.o125 ⟨0,fun m hm=> ?b2⟩⟩
   case b2=>
    exact SX (sC @a125.eq_1 (Eq.symm hAe) xA q1 q2 q3 y1 y2 y3 dcn dcc)
   case g2=>exact gw3
  have dcc:=dT cc
  cases he with
  |true=>
   refine ⟨hA, ?vv3, ?g3,Ev.call H.f125 H.o125 ⟨0,fun m hm=> ?b3⟩⟩
   case b3=>
    exact SX (sC @a125.eq_1 (Eq.symm hAe) xA q1 q2 q3 y1 y2 y3 dcn dcc)
   case g3=>exact gw3
  |false=>
   by_cases cb:(x3.length:Int)=0
   case neg=>
    have dcb:=dF cb
    refine ⟨hA, ?vv4, ?g4,Ev.call H.f125 H.o125 ⟨0,fun m hm=> ?b4⟩⟩
    case b4=>
     exact SX (qC @a125.eq_1 (Eq.symm hAe) xA q1 q2 q3 y1 y2 y3 dcn dcc dcb)
    case g4=>exact gw3
   have dcb:=dT cb
   refine ⟨hA, ?vv5, ?g5,Ev.call H.f125 H.o125 ⟨0,fun m hm=> ?b5⟩⟩
   case b5=>
    exact SX (qC @a125.eq_1 (Eq.symm hAe) xA q1 q2 q3 y1 y2 y3 dcn dcc dcb)
   case g5=>exact gw3
 by_cases k9:k=9
 ·subst k9
  by_cases cn:jI s []=true
  case neg=>
   have dcn:jI s []=false:=by simpa using cn
   refine ⟨hA, ?vv6, ?g6,Ev.call H.f125 H.o125 ⟨0,fun m hm=> ?b6⟩⟩
   case b6=>
    exact SX (tR @a125.eq_1 (Eq.symm hAe) xA q1 q2 q3 y1 y2 y3 dcn)
   case g6=>exact gw3
  have dcn:=cn
  by_cases cc:(x2.length:Int)=0
  case neg=>
   have dcc:=dF cc
   refine ⟨hA, ?vv7, ?g7,Ev.call H.f125 H.o125 ⟨0,fun m hm=> ?b7⟩⟩
   case b7=>
    exact SX (sC @a125.eq_1 (Eq.symm hAe) xA q1 q2 q3 y1 y2 y3 dcn dcc)
   case g7=>exact gw3
  have dcc:=dT cc
  cases he with
  |true=>
   refine ⟨hA, ?vv8, ?g8,Ev.call H.f125 H.o125 ⟨0,fun m hm=> ?b8⟩⟩
   case b8=>
    exact SX (sC @a125.eq_1 (Eq.symm hAe) xA q1 q2 q3 y1 y2 y3 dcn dcc)
   case g8=>exact gw3
  |false=>
   by_cases cb:(x3.length:Int)=0
   case neg=>
    have dcb:=dF cb
    refine ⟨hA, ?vv9, ?g9,Ev.call H.f125 H.o125 ⟨0,fun m hm=> ?b9⟩⟩
    case b9=>
     exact SX (qC @a125.eq_1 (Eq.symm hAe) xA q1 q2 q3 y1 y2 y3 dcn dcc dcb)
    case g9=>exact gw3
   have dcb:=dT cb
   refine ⟨hA, ?vv10, ?g10,Ev.call H.f125 H.o125 ⟨0,fun m hm=> ?b10⟩⟩
   case b10=>
    exact SX (qC @a125.eq_1 (Eq.symm hAe) xA q1 q2 q3 y1 y2 y3 dcn dcc dcb)
   case g10=>exact gw3
 by_cases k2:k=2
 ·subst k2
  by_cases cn:jI s []=true
  case neg=>
   have dcn:jI s []=false:=by simpa using cn
   refine ⟨hA, ?XY, ?g11,Ev.call H.f125 H.o125 ⟨0,fun m hm=> ?b11⟩⟩
   case b11=>
    exact SX (tR @a125.eq_1 (Eq.symm hAe) xA q1 q2 q3 y1 y2 y3 dcn)
   case g11=>exact gw3
  have dcn:=cn
  by_cases cc:(x2.length:Int)=0
  case neg=>
   have dcc:=dF cc
   refine ⟨hA, ?vv12, ?g12,Ev.call H.f125 H.o125 ⟨0,fun m hm=> ?b12⟩⟩
   case b12=>
    exact SX (sC @a125.eq_1 (Eq.symm hAe) xA q1 q2 q3 y1 y2 y3 dcn dcc)
   case g12=>exact gw3
  have dcc:=dT cc
  cases he with
  |true=>
   refine ⟨hA, ?XX, ?g13,Ev.call H.f125 H.o125 ⟨0,fun m hm=> ?b13⟩⟩
   case b13=>
    exact SX (sC @a125.eq_1 (Eq.symm hAe) xA q1 q2 q3 y1 y2 y3 dcn dcc)
   case g13=>exact gw3
  |false=>
   by_cases cb:(x3.length:Int)=0
   case neg=>
    have dcb:=dF cb
    refine ⟨hA, ?XW, ?g14,Ev.call H.f125 H.o125 ⟨0,fun m hm=> ?b14⟩⟩
    case b14=>
     exact SX (qC @a125.eq_1 (Eq.symm hAe) xA q1 q2 q3 y1 y2 y3 dcn dcc dcb)
    case g14=>exact gw3
   have dcb:=dT cb
   refine ⟨hA, ?vv15, ?g15,Ev.call H.f125 H.o125 ⟨0,fun m hm=> ?b15⟩⟩
   case b15=>
    exact SX (qC @a125.eq_1 (Eq.symm hAe) xA q1 q2 q3 y1 y2 y3 dcn dcc dcb)
   case g15=>exact gw3
 by_cases k5:k=5
 ·subst k5
  by_cases cn:jI s []=true
  case neg=>
   have dcn:jI s []=false:=by simpa using cn
   refine ⟨hA, ?XV, ?g16,Ev.call H.f125 H.o125 ⟨0,fun m hm=> ?b16⟩⟩
   case b16=>
    exact SX (tR @a125.eq_1 (Eq.symm hAe) xA q1 q2 q3 y1 y2 y3 dcn)
   case g16=>exact gw3
  have dcn:=cn
  by_cases cc:(x2.length:Int)=0
  case neg=>
   have dcc:=dF cc
   refine ⟨hA, ?XU, ?g17,Ev.call H.f125 H.o125 ⟨0,fun m hm=> ?b17⟩⟩
   case b17=>
    exact SX (sC @a125.eq_1 (Eq.symm hAe) xA q1 q2 q3 y1 y2 y3 dcn dcc)
   case g17=>exact gw3
  have dcc:=dT cc
  cases he with
  |true=>
   refine ⟨hA, ?vv18, ?g18,Ev.call H.f125 H.o125 ⟨0,fun m hm=> ?b18⟩⟩
   case b18=>
    exact SX (sC @a125.eq_1 (Eq.symm hAe) xA q1 q2 q3 y1 y2 y3 dcn dcc)
   case g18=>exact gw3
  |false=>
   by_cases cb:(x3.length:Int)=0
   case neg=>
    have dcb:=dF cb
    refine ⟨hA, ?vv19, ?g19,Ev.call H.f125 H.o125 ⟨0,fun m hm=> ?b19⟩⟩
    case b19=>
     exact SX (qC @a125.eq_1 (Eq.symm hAe) xA q1 q2 q3 y1 y2 y3 dcn dcc dcb)
    case g19=>exact gw3
   have dcb:=dT cb
   refine ⟨hA, ?vv20, ?g20,Ev.call H.f125 H.o125 ⟨0,fun m hm=> ?b20⟩⟩
   case b20=>
    exact SX (qC @a125.eq_1 (Eq.symm hAe) xA q1 q2 q3 y1 y2 y3 dcn dcc dcb)
   case g20=>exact gw3
 by_cases k10:k=10
 ·subst k10
  by_cases cn:jI s []=true
  case neg=>
   have dcn:jI s []=false:=by simpa using cn
   refine ⟨hA, ?vv21, ?g21,Ev.call H.f125 H.o125 ⟨0,fun m hm=> ?b21⟩⟩
   case b21=>
    exact SX (tR @a125.eq_1 (Eq.symm hAe) xA q1 q2 q3 y1 y2 y3 dcn)
   case g21=>exact gw3
  have dcn:=cn
  by_cases cc:(x2.length:Int)=0
  case neg=>
   have dcc:=dF cc
   refine ⟨hA, ?vv22, ?g22,Ev.call H.f125 H.o125 ⟨0,fun m hm=> ?b22⟩⟩
   case b22=>
    exact SX (sC @a125.eq_1 (Eq.symm hAe) xA q1 q2 q3 y1 y2 y3 dcn dcc)
   case g22=>exact gw3
  have dcc:=dT cc
  cases he with
  |true=>
   refine ⟨hA, ?vv23, ?g23,Ev.call H.f125 H.o125 ⟨0,fun m hm=> ?b23⟩⟩
   case b23=>
    exact SX (sC @a125.eq_1 (Eq.symm hAe) xA q1 q2 q3 y1 y2 y3 dcn dcc)
   case g23=>exact gw3
  |false=>
   by_cases cb:(x3.length:Int)=0
   case neg=>
    have dcb:=dF cb
    refine ⟨hA, ?vv24, ?g24,Ev.call H.f125 H.o125 ⟨0,fun m hm=> ?b24⟩⟩
    case b24=>
     exact SX (qC @a125.eq_1 (Eq.symm hAe) xA q1 q2 q3 y1 y2 y3 dcn dcc dcb)
    case g24=>exact gw3
   have dcb:=dT cb
   refine ⟨hA, ?vv25, ?g25,Ev.call H.f125 H.o125 ⟨0,fun m hm=> ?b25⟩⟩
   case b25=>
    exact SX (qC @a125.eq_1 (Eq.symm hAe) xA q1 q2 q3 y1 y2 y3 dcn dcc dcb)
   case g25=>exact gw3
 by_cases k3:k=3
 ·subst k3
  obtain ⟨hB,b,gAB,⟨n1,e1⟩,_⟩:=N s hs hA
  have gB:=gA.trans gAB
  have nB:=gAB.next
  have xB:=(aF gAB (by omega:h.next<hA.next)).trans xA
  cases b with
  |false=>
   refine ⟨hB, ?vv26, ?g26,Ev.call H.f125 H.o125 ⟨n1,fun m hm=> ?b26⟩⟩
   case b26=>
    have e1' :=e1 m om
    exact SX (sC @a125.eq_1 (Eq.symm hAe) xA q1 q2 q3 y1 y2 y3 xB e1')
   case g26=>exact gw3
  |true=>
   by_cases cc:(x2.length:Int)=0
   case neg=>
    have dcc:=dF cc
    refine ⟨hB, ?vv27, ?g27,Ev.call H.f125 H.o125 ⟨n1,fun m hm=> ?b27⟩⟩
    case b27=>
     have e1' :=e1 m om
     exact SX (qC @a125.eq_1 (Eq.symm hAe) xA q1 q2 q3 y1 y2 y3 xB e1' dcc)
    case g27=>exact gw3
   have dcc:=dT cc
   cases he with
   |true=>
    refine ⟨hB, ?vv28, ?g28,Ev.call H.f125 H.o125 ⟨n1,fun m hm=> ?b28⟩⟩
    case b28=>
     have e1' :=e1 m om
     exact SX (qC @a125.eq_1 (Eq.symm hAe) xA q1 q2 q3 y1 y2 y3 xB e1' dcc)
    case g28=>exact gw3
   |false=>
    by_cases cb:(x3.length:Int)=0
    case neg=>
     have dcb:=dF cb
     refine ⟨hB, ?vv29, ?g29,Ev.call H.f125 H.o125 ⟨n1,fun m hm=> ?b29⟩⟩
     case b29=>
      have e1' :=e1 m om
      exact SX (wK @a125.eq_1 (Eq.symm hAe) xA q1 q2 q3 y1 y2 y3 xB e1' dcc dcb)
     case g29=>exact gw3
    have dcb:=dT cb
    refine ⟨hB, ?vv30, ?g30,Ev.call H.f125 H.o125 ⟨n1,fun m hm=> ?b30⟩⟩
    case b30=>
     have e1' :=e1 m om
     exact SX (wK @a125.eq_1 (Eq.symm hAe) xA q1 q2 q3 y1 y2 y3 xB e1' dcc dcb)
    case g30=>exact gw3
 by_cases k4:k=4
 ·subst k4
  obtain ⟨hB,b,gAB,⟨n1,e1⟩,_⟩:=N s hs hA
  have gB:=gA.trans gAB
  have nB:=gAB.next
  have xB:=(aF gAB (by omega:h.next<hA.next)).trans xA
  cases b with
  |false=>
   refine ⟨hB, ?vv31, ?g31,Ev.call H.f125 H.o125 ⟨n1,fun m hm=> ?b31⟩⟩
   case b31=>
    have e1' :=e1 m om
    exact SX (sC @a125.eq_1 (Eq.symm hAe) xA q1 q2 q3 y1 y2 y3 xB e1')
   case g31=>exact gw3
  |true=>
   by_cases cc:(x2.length:Int)=0
   case neg=>
    have dcc:=dF cc
    refine ⟨hB, ?vv32, ?g32,Ev.call H.f125 H.o125 ⟨n1,fun m hm=> ?b32⟩⟩
    case b32=>
     have e1' :=e1 m om
     exact SX (qC @a125.eq_1 (Eq.symm hAe) xA q1 q2 q3 y1 y2 y3 xB e1' dcc)
    case g32=>exact gw3
   have dcc:=dT cc
   cases he with
   |true=>
    refine ⟨hB, ?vv33, ?g33,Ev.call H.f125 H.o125 ⟨n1,fun m hm=> ?b33⟩⟩
    case b33=>
     have e1' :=e1 m om
     exact SX (qC @a125.eq_1 (Eq.symm hAe) xA q1 q2 q3 y1 y2 y3 xB e1' dcc)
    case g33=>exact gw3
   |false=>
    by_cases cb:(x3.length:Int)=0
    case neg=>
     have dcb:=dF cb
     refine ⟨hB, ?vv34, ?g34,Ev.call H.f125 H.o125 ⟨n1,fun m hm=> ?b34⟩⟩
     case b34=>
      have e1' :=e1 m om
      exact SX (wK @a125.eq_1 (Eq.symm hAe) xA q1 q2 q3 y1 y2 y3 xB e1' dcc dcb)
     case g34=>exact gw3
    have dcb:=dT cb
    refine ⟨hB, ?vv35, ?g35,Ev.call H.f125 H.o125 ⟨n1,fun m hm=> ?b35⟩⟩
    case b35=>
     have e1' :=e1 m om
     exact SX (wK @a125.eq_1 (Eq.symm hAe) xA q1 q2 q3 y1 y2 y3 xB e1' dcc dcb)
    case g35=>exact gw3
 by_cases k13:k=13
 ·subst k13
  obtain ⟨hB,b,gAB,⟨n1,e1⟩,_⟩:=N s hs hA
  have gB:=gA.trans gAB
  have nB:=gAB.next
  have xB:=(aF gAB (by omega:h.next<hA.next)).trans xA
  cases b with
  |false=>
   refine ⟨hB, ?vv36, ?g36,Ev.call H.f125 H.o125 ⟨n1,fun m hm=> ?b36⟩⟩
   case b36=>
    have e1' :=e1 m om
    exact SX (sC @a125.eq_1 (Eq.symm hAe) xA q1 q2 q3 y1 y2 y3 xB e1')
   case g36=>exact gw3
  |true=>
   by_cases cc:(x2.length:Int)=0
   case neg=>
    have dcc:=dF cc
    refine ⟨hB, ?vv37, ?g37,Ev.call H.f125 H.o125 ⟨n1,fun m hm=> ?b37⟩⟩
    case b37=>
     have e1' :=e1 m om
     exact SX (qC @a125.eq_1 (Eq.symm hAe) xA q1 q2 q3 y1 y2 y3 xB e1' dcc)
    case g37=>exact gw3
   have dcc:=dT cc
   cases he with
   |true=>
    refine ⟨hB, ?vv38, ?g38,Ev.call H.f125 H.o125 ⟨n1,fun m hm=> ?b38⟩⟩
    case b38=>
     have e1' :=e1 m om
     exact SX (qC @a125.eq_1 (Eq.symm hAe) xA q1 q2 q3 y1 y2 y3 xB e1' dcc)
    case g38=>exact gw3
   |false=>
    by_cases cb:(x3.length:Int)=0
    case neg=>
     have dcb:=dF cb
     refine ⟨hB, ?vv39, ?g39,Ev.call H.f125 H.o125 ⟨n1,fun m hm=> ?b39⟩⟩
     case b39=>
      have e1' :=e1 m om
      exact SX (wK @a125.eq_1 (Eq.symm hAe) xA q1 q2 q3 y1 y2 y3 xB e1' dcc dcb)
     case g39=>exact gw3
    have dcb:=dT cb
    refine ⟨hB, ?vv40, ?g40,Ev.call H.f125 H.o125 ⟨n1,fun m hm=> ?b40⟩⟩
    case b40=>
     have e1' :=e1 m om
     exact SX (wK @a125.eq_1 (Eq.symm hAe) xA q1 q2 q3 y1 y2 y3 xB e1' dcc dcb)
    case g40=>exact gw3
 by_cases k6:k=6
 ·subst k6
  by_cases cn:jI s []=true
  case neg=>
   have dcn:jI s []=false:=by simpa using cn
   refine ⟨hA, ?vv41, ?g41,Ev.call H.f125 H.o125 ⟨0,fun m hm=> ?b41⟩⟩
   case b41=>
    exact SX (tR @a125.eq_1 (Eq.symm hAe) xA q1 q2 q3 y1 y2 y3 dcn)
   case g41=>exact gw3
  have dcn:=cn
  by_cases c1:(x1.length:Int)=1
  case neg=>
   have dc1:=dF c1
   refine ⟨hA, ?vv42, ?g42,Ev.call H.f125 H.o125 ⟨0,fun m hm=> ?b42⟩⟩
   case b42=>
    exact SX (sC @a125.eq_1 (Eq.symm hAe) xA q1 q2 q3 y1 y2 y3 dcn dc1)
   case g42=>exact gw3
  have dc1:=dT c1
  cases he with
  |true=>
   refine ⟨hA, ?vv43, ?g43,Ev.call H.f125 H.o125 ⟨0,fun m hm=> ?b43⟩⟩
   case b43=>
    exact SX (sC @a125.eq_1 (Eq.symm hAe) xA q1 q2 q3 y1 y2 y3 dcn dc1)
   case g43=>exact gw3
  |false=>
   refine ⟨hA, ?vv44, ?g44,Ev.call H.f125 H.o125 ⟨0,fun m hm=> ?b44⟩⟩
   case b44=>
    exact SX (sC @a125.eq_1 (Eq.symm hAe) xA q1 q2 q3 y1 y2 y3 dcn dc1)
   case g44=>exact gw3
 by_cases k7:k=7
 ·subst k7
  by_cases cn:jI s []=true
  case neg=>
   have dcn:jI s []=false:=by simpa using cn
   refine ⟨hA, ?vv45, ?g45,Ev.call H.f125 H.o125 ⟨0,fun m hm=> ?b45⟩⟩
   case b45=>
    exact SX (tR @a125.eq_1 (Eq.symm hAe) xA q1 q2 q3 y1 y2 y3 dcn)
   case g45=>exact gw3
  have dcn:=cn
  by_cases cc:(x2.length:Int)=0
  case neg=>
   have dcc:=dF cc
   refine ⟨hA, ?vv46, ?g46,Ev.call H.f125 H.o125 ⟨0,fun m hm=> ?b46⟩⟩
   case b46=>
    exact SX (sC @a125.eq_1 (Eq.symm hAe) xA q1 q2 q3 y1 y2 y3 dcn dcc)
   case g46=>exact gw3
  have dcc:=dT cc
  cases he with
  |true=>
   refine ⟨hA, ?vv47, ?g47,Ev.call H.f125 H.o125 ⟨0,fun m hm=> ?b47⟩⟩
   case b47=>
    exact SX (sC @a125.eq_1 (Eq.symm hAe) xA q1 q2 q3 y1 y2 y3 dcn dcc)
   case g47=>exact gw3
  |false=>
   by_cases c2:(x1.length:Int)=2
   case neg=>
    have dc2:=dF c2
    refine ⟨hA, ?vv48, ?g48,Ev.call H.f125 H.o125 ⟨0,fun m hm=> ?b48⟩⟩
    case b48=>
     exact SX (qC @a125.eq_1 (Eq.symm hAe) xA q1 q2 q3 y1 y2 y3 dcn dcc dc2)
    case g48=>exact gw3
   have dc2:=dT c2
   obtain ⟨c',f1,f2,hB,r,gAB,n1,e1⟩:=Bp H h1 om false hA
   have gB:=gA.trans gAB
   refine ⟨hB,r, ?g49,Ev.call H.f125 H.o125 ⟨n1,fun m hm=> ?b49⟩⟩
   case b49=>
    have e1' :=e1 m om
    exact SX (xJ @a125.eq_1 (Eq.symm hAe) xA q1 q2 q3 y1 y2 y3 dcn dcc dc2 f1 f2 e1')
   case g49=>exact gw3
 by_cases k8:k=8
 ·subst k8
  obtain ⟨hB,b,gAB,⟨n1,e1⟩,_⟩:=N s hs hA
  have gB:=gA.trans gAB
  have nB:=gAB.next
  have xB:=(aF gAB (by omega:h.next<hA.next)).trans xA
  cases b with
  |false=>
   refine ⟨hB, ?vv50, ?g50,Ev.call H.f125 H.o125 ⟨n1,fun m hm=> ?b50⟩⟩
   case b50=>
    have e1' :=e1 m om
    exact SX (sC @a125.eq_1 (Eq.symm hAe) xA q1 q2 q3 y1 y2 y3 xB e1')
   case g50=>exact gw3
  |true=>
   by_cases cc:(x2.length:Int)=0
   case neg=>
    have dcc:=dF cc
    refine ⟨hB, ?vv51, ?g51,Ev.call H.f125 H.o125 ⟨n1,fun m hm=> ?b51⟩⟩
    case b51=>
     have e1' :=e1 m om
     exact SX (qC @a125.eq_1 (Eq.symm hAe) xA q1 q2 q3 y1 y2 y3 xB e1' dcc)
    case g51=>exact gw3
   have dcc:=dT cc
   cases he with
   |true=>
    refine ⟨hB, ?vv52, ?g52,Ev.call H.f125 H.o125 ⟨n1,fun m hm=> ?b52⟩⟩
    case b52=>
     have e1' :=e1 m om
     exact SX (qC @a125.eq_1 (Eq.symm hAe) xA q1 q2 q3 y1 y2 y3 xB e1' dcc)
    case g52=>exact gw3
   |false=>
    refine ⟨hB, ?vv53, ?g53,Ev.call H.f125 H.o125 ⟨n1,fun m hm=> ?b53⟩⟩
    case b53=>
     have e1' :=e1 m om
     exact SX (qC @a125.eq_1 (Eq.symm hAe) xA q1 q2 q3 y1 y2 y3 xB e1' dcc)
    case g53=>exact gw3
 by_cases k11:k=11
 ·subst k11
  by_cases cn:jI s []=true
  case neg=>
   have dcn:jI s []=false:=by simpa using cn
   refine ⟨hA, ?vv54, ?g54,Ev.call H.f125 H.o125 ⟨0,fun m hm=> ?b54⟩⟩
   case b54=>
    exact SX (tR @a125.eq_1 (Eq.symm hAe) xA q1 q2 q3 y1 y2 y3 dcn)
   case g54=>exact gw3
  have dcn:=cn
  by_cases cc:(x2.length:Int)=0
  case neg=>
   have dcc:=dF cc
   refine ⟨hA, ?vv55, ?g55,Ev.call H.f125 H.o125 ⟨0,fun m hm=> ?b55⟩⟩
   case b55=>
    exact SX (sC @a125.eq_1 (Eq.symm hAe) xA q1 q2 q3 y1 y2 y3 dcn dcc)
   case g55=>exact gw3
  have dcc:=dT cc
  cases he with
  |true=>
   refine ⟨hA, ?vv56, ?g56,Ev.call H.f125 H.o125 ⟨0,fun m hm=> ?b56⟩⟩
   case b56=>
    exact SX (sC @a125.eq_1 (Eq.symm hAe) xA q1 q2 q3 y1 y2 y3 dcn dcc)
   case g56=>exact gw3
  |false=>
   by_cases cb:(x3.length:Int)=0
   case neg=>
    have dcb:=dF cb
    refine ⟨hA, ?vv57, ?g57,Ev.call H.f125 H.o125 ⟨0,fun m hm=> ?b57⟩⟩
    case b57=>
     exact SX (qC @a125.eq_1 (Eq.symm hAe) xA q1 q2 q3 y1 y2 y3 dcn dcc dcb)
    case g57=>exact gw3
   have dcb:=dT cb
   by_cases c1:(x1.length:Int)=1
   case neg=>
    have dc1:=dF c1
    refine ⟨hA, ?vv58, ?g58,Ev.call H.f125 H.o125 ⟨0,fun m hm=> ?b58⟩⟩
    case b58=>
     exact SX (wK @a125.eq_1 (Eq.symm hAe) xA q1 q2 q3 y1 y2 y3 dcn dcc dcb dc1)
    case g58=>exact gw3
   have dc1:=dT c1
   obtain ⟨c',f1,f2,hB,r,gAB,n1,e1⟩:=Bp H h1 om false hA
   have gB:=gA.trans gAB
   refine ⟨hB,r, ?g59,Ev.call H.f125 H.o125 ⟨n1,fun m hm=> ?b59⟩⟩
   case b59=>
    have e1' :=e1 m om
    exact SX (Bd @a125.eq_1 (Eq.symm hAe) xA q1 q2 q3 y1 y2 y3 dcn dcc dcb dc1 f1 f2 e1')
   case g59=>exact gw3
 by_cases k12:k=12
 ·subst k12
  by_cases cn:jI s []=true
  case neg=>
   have dcn:jI s []=false:=by simpa using cn
   refine ⟨hA, ?vv60, ?g60,Ev.call H.f125 H.o125 ⟨0,fun m hm=> ?b60⟩⟩
   case b60=>
    exact SX (tR @a125.eq_1 (Eq.symm hAe) xA q1 q2 q3 y1 y2 y3 dcn)
   case g60=>exact gw3
  have dcn:=cn
  by_cases cc:(x2.length:Int)=0
  case neg=>
   have dcc:=dF cc
   refine ⟨hA, ?vv61, ?g61,Ev.call H.f125 H.o125 ⟨0,fun m hm=> ?b61⟩⟩
   case b61=>
    exact SX (sC @a125.eq_1 (Eq.symm hAe) xA q1 q2 q3 y1 y2 y3 dcn dcc)
   case g61=>exact gw3
  have dcc:=dT cc
  cases he with
  |true=>
   refine ⟨hA, ?vv62, ?g62,Ev.call H.f125 H.o125 ⟨0,fun m hm=> ?b62⟩⟩
   case b62=>
    exact SX (sC @a125.eq_1 (Eq.symm hAe) xA q1 q2 q3 y1 y2 y3 dcn dcc)
   case g62=>exact gw3
  |false=>
   by_cases cb:(x3.length:Int)=0
   case neg=>
    have dcb:=dF cb
    refine ⟨hA, ?vv63, ?g63,Ev.call H.f125 H.o125 ⟨0,fun m hm=> ?b63⟩⟩
    case b63=>
     exact SX (qC @a125.eq_1 (Eq.symm hAe) xA q1 q2 q3 y1 y2 y3 dcn dcc dcb)
    case g63=>exact gw3
   have dcb:=dT cb
   by_cases c1:(x1.length:Int)=1
   case neg=>
    have dc1:=dF c1
    refine ⟨hA, ?vv64, ?g64,Ev.call H.f125 H.o125 ⟨0,fun m hm=> ?b64⟩⟩
    case b64=>
     exact SX (wK @a125.eq_1 (Eq.symm hAe) xA q1 q2 q3 y1 y2 y3 dcn dcc dcb dc1)
    case g64=>exact gw3
   have dc1:=dT c1
   obtain ⟨c',f1,f2,hB,r,gAB,n1,e1⟩:=Bp H h1 om false hA
   have gB:=gA.trans gAB
   refine ⟨hB,r, ?g65,Ev.call H.f125 H.o125 ⟨n1,fun m hm=> ?b65⟩⟩
   case b65=>
    have e1' :=e1 m om
    exact SX (Bd @a125.eq_1 (Eq.symm hAe) xA q1 q2 q3 y1 y2 y3 dcn dcc dcb dc1 f1 f2 e1')
   case g65=>exact gw3
 have z1:=dF k1
 have z9:=dF k9
 have z2:=dF k2
 have z5:=dF k5
 have z10:=dF k10
 have z3:=dF k3
 have z4:=dF k4
 have z13:=dF k13
 have z6:=dF k6
 have z7:=dF k7
 have z8:=dF k8
 have z11:=dF k11
 have z12:=dF k12
 cases he with
 |true=>
  refine ⟨hA,false, ?g66,Ev.call H.f125 H.o125 ⟨0,fun m hm=> ?b66⟩⟩
  case b66=>
   exact SX (dI @a125.eq_1 (Eq.symm hAe) xA q1 q2 q3 y1 y2 y3 z1 z9 z2 z5 z10 z3 z4 (cj6 z13 z6 z7 z8 z11 z12))
  case g66=>exact gw3
 |false=>
  refine ⟨hA,false, ?g67,Ev.call H.f125 H.o125 ⟨0,fun m hm=> ?b67⟩⟩
  case b67=>
   exact SX (dI @a125.eq_1 (Eq.symm hAe) xA q1 q2 q3 y1 y2 y3 z1 z9 z2 z5 z10 z3 z4 (cj6 z13 z6 z7 z8 z11 z12))
  case g67=>exact gw3
end Go.Ly
end
