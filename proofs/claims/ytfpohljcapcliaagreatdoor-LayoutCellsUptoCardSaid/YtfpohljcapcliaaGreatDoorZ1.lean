/- Parts of a proof. -/
import Derived.Test.YtfpohljcapcliaaGreatDoorD
import Derived.Test.YtfpohljcapcliaaGreatDoorZ
set_option linter.all false
set_option maxHeartbeats 16000000
set_option maxRecDepth 20000
noncomputable section
namespace Go.Ly
open Go Go.Am Go.Fs Go.Gn
variable {fns:Go.Am.F} {orc:Orc}
structure KL (b0:Nat) (h h' :aD) (l:AV) (ps:List Part):Prop where
 next:h.next≤h'.next
 get:∀j,j<b0→h'.get j=h.get j
 tk:∀t,jK l=some t→b0≤t
 ac:∃xs,Acc h' l xs∧RPL ps xs
theorem KL.more {b0:Nat} {h0 h h' :aD} {l l' :AV} {ps:List Part} {qs:List Part} {xs:List AV} (k:KL b0 h0 h l ps) (hb:b0≤h.next) (a:Acc h' l' xs) (r:RPL qs xs) (g:Aj (jK l) h h') (ht:∀t,jK l' =some t→jK l=some t∨h.next≤t):KL b0 h0 h' l' qs:=
 ⟨Nat.le_trans k.next g.next,fun j hj=>(g.get j om (fun q=>by have:=k.tk j q;omega)).trans (k.get j hj),fun t q=>by rcases ht t q with w|w;exact k.tk t w;omega,xs,a,r⟩
def kdD:AC:=p67x101010110100
def kdC:AC:=p67x101011111010100
theorem WN (H:Has fns orc) {dl:List kV} {vd:AV} {xs:List AV} (hvd:iP vd xs) (hxl:xs.length=dl.length) (hg:∀i (hi:i<dl.length),∃c,xs[i]? =some (.agg c)∧RV (.decl dl[i]) (.agg c)) (hn:dl.length<10000000) {b0 b3:Nat} {cc:List AV} (h2:nth cc 2=some vd) (hb3:b3<b0) {h0:aD} (c0:cont h0 b3=some cc):
  ∀(k i:Nat) (h:aD) (l:AV) (ps:List Part),i+k=dl.length→KL b0 h0 h l ps→b0≤h.next→ps.length+k<30000000→
   ∃h' l' ts,(∃n,∀m,n≤m→cG (eval fns orc m) 67 none (.loop kdD) ⟨[(3,.ptr b3 0),(4,l),(5,.int .i64 (i:Nat))],[],.plain,h⟩= .ok (.code (.exit 1) ⟨ts,[],.plain,h'⟩))∧(cH ts 3= .ptr b3 0∧cH ts 4=l')∧KL b0 h0 h' l' (ps++(dl.drop i).map Part.decl):=by
 intro k
 induction k with
 |zero=>
  intro i h l ps hi K hb hp
  have d:decide ((i:Int)<((dl.length:Nat):Int))=false:=dF om
  have cb:cont h b3=some cc:=(aH (K.get b3 hb3)).trans c0
  have ld:∀hp,nJ hp .sl vd= .ok dl.length:=fun hp=>by rw [bO hvd hp,hxl]
  refine ⟨h,l, ?ts0,⟨0,fun m _=> ?b0⟩, ?tt,by rw [List.drop_eq_nil_of_le om];simpa using K⟩
  case b0=>
   rw [aI]
   exact SX (cj5 @kdD.eq_1 cb h2 ld d)
  case tt=>exact ⟨rfl,rfl⟩
 |succ k ih=>
  intro i h l ps hi K hb hp
  have hlt:i<dl.length:=om
  have d:decide ((i:Int)<((dl.length:Nat):Int))=true:=dT om
  have cb:cont h b3=some cc:=(aH (K.get b3 hb3)).trans c0
  have ld:∀hp,nJ hp .sl vd= .ok dl.length:=fun hp=>by rw [bO hvd hp,hxl]
  have w:IntKind.wrap .i64 ((i:Int)+1)=((i+1:Nat):Int):=sH hlt om
  obtain ⟨c,hc,rv⟩:=hg i hlt
  have hcl:=pG rv
  have hia:=kT hvd hc hcl
  have p5:takeN 5 c=some c:=by rw [←hcl];exact aW c
  obtain ⟨h1,v',g1,rp,⟨n1,e1⟩⟩:=Ui H rv h
  have rp' :=rp
  obtain ⟨c',hv',rfl⟩:=rp'
  have vQ:(aX (.decl dl[i]) c').all AV.bX=true:=lF hv'
  obtain ⟨xs1,a1,r1⟩:=K.ac
  obtain ⟨l2,h2',ap,a2,g2,tk2⟩:=sG (a1.grow g1) (n:=29) (v:= .agg (aX (.decl dl[i]) c')) om (Ee r1) (jD hv') (by have:=uH r1;omega)
  have gg:Aj (jK l) h h2' :=⟨Nat.le_trans g1.next g2.next,fun j hj hn=>(g2.get j (Nat.lt_of_lt_of_le hj g1.next) hn).trans (g1.get j hj)⟩
  have K2:=K.more hb a2 (qF r1 (.cons rp .nil)) gg (fun t q=>by rcases tk2 t q with q|q;exact .inl q;exact .inr (Nat.le_trans g1.next q))
  obtain ⟨h3,l3,ts,⟨n3,e3⟩,tt,K3⟩:=ih (i+1) h2' l2 _ om K2 (by have:=gg.next;omega) (by simp;omega)
  refine ⟨h3,l3,ts,⟨n1+n3+1,fun m hm=> ?b1⟩,tt,by rw [List.drop_eq_getElem_cons hlt,List.map_cons];rw [List.append_assoc] at K3;exact K3⟩
  case b1=>
   obtain ⟨j,rfl⟩:∃j,m=j+1:=⟨m -1,by omega⟩
   have e1' :=e1 (j+1) om
   have e3' :eval fns orc (j+1) (.code 67 none (.loop kdD) _)=_:=e3 j om
   simp only [kdD] at e3'
   have hb1:∀ts,jN h1 ((30,.agg (aX (.decl dl[i]) c'))::ts) 29 [.t 30]= .ok (.val (.sl .full [.agg (aX (.decl dl[i]) c')]) h1):=fun ts=>Hr h1 _ 30 rfl rfl (jD hv') vQ
   rw [aI]
   exact SUe (qC @kdD.eq_1 cb h2 ld d hia @ldS p5 e1' hb1 ap w) e3'
theorem WO (H:Has fns orc) {dl:List vK} {vd:AV} {xs:List AV} (hvd:iP vd xs) (hxl:xs.length=dl.length) (hg:∀i (hi:i<dl.length),∃c,xs[i]? =some (.agg c)∧RV (.case dl[i]) (.agg c)) (hn:dl.length<10000000) {b0 b1:Nat} {cc:List AV} (h2:nth cc 24=some vd) (hb3:b1<b0) {h0:aD} (c0:cont h0 b1=some cc):
  ∀(k i:Nat) (h:aD) (l:AV) (ps:List Part),i+k=dl.length→KL b0 h0 h l ps→b0≤h.next→ps.length+k<30000000→
   ∃h' l' ts,(∃n,∀m,n≤m→cG (eval fns orc m) 67 none (.loop kdC) ⟨[(1,.ptr b1 0),(6,l),(7,.int .i64 (i:Nat))],[],.plain,h⟩= .ok (.code (.exit 3) ⟨ts,[],.plain,h'⟩))∧(cH ts 1= .ptr b1 0∧cH ts 6=l')∧KL b0 h0 h' l' (ps++(dl.drop i).map Part.case):=by
 intro k
 induction k with
 |zero=>
  intro i h l ps hi K hb hp
  have d:decide ((i:Int)<((dl.length:Nat):Int))=false:=dF om
  have cb:cont h b1=some cc:=(aH (K.get b1 hb3)).trans c0
  have ld:∀hp,nJ hp .sl vd= .ok dl.length:=fun hp=>by rw [bO hvd hp,hxl]
  refine ⟨h,l, ?ts0,⟨0,fun m _=> ?b0⟩, ?tt,by rw [List.drop_eq_nil_of_le om];simpa using K⟩
  case b0=>
   rw [aI]
   exact SX (cj5 @kdC.eq_1 cb h2 ld d)
  case tt=>exact ⟨rfl,rfl⟩
 |succ k ih=>
  intro i h l ps hi K hb hp
  have hlt:i<dl.length:=om
  have d:decide ((i:Int)<((dl.length:Nat):Int))=true:=dT om
  have cb:cont h b1=some cc:=(aH (K.get b1 hb3)).trans c0
  have ld:∀hp,nJ hp .sl vd= .ok dl.length:=fun hp=>by rw [bO hvd hp,hxl]
  have w:IntKind.wrap .i64 ((i:Int)+1)=((i+1:Nat):Int):=sH hlt om
  obtain ⟨c,hc,rv⟩:=hg i hlt
  have hia:=kT hvd hc (xL rv)
  have rp:RP (.case dl[i]) (.agg (aX (.case dl[i]) c)):=⟨c,rv,rfl⟩
  have hpl:=jD rv
  have vQ:(aX (.case dl[i]) c).all AV.bX=true:=lF rv
  obtain ⟨xs1,a1,r1⟩:=K.ac
  obtain ⟨l2,h2',ap,a2,g2,tk2⟩:=sG a1 (n:=29) (v:= .agg (aX (.case dl[i]) c)) om (Ee r1) hpl (by have:=uH r1;omega)
  have K2:=K.more hb a2 (qF r1 (.cons rp .nil)) g2 tk2
  obtain ⟨h3,l3,ts,⟨n3,e3⟩,tt,K3⟩:=ih (i+1) h2' l2 _ om K2 (by have:=g2.next;omega) (by simp;omega)
  refine ⟨h3,l3,ts,⟨n3+1,fun m hm=> ?b1⟩,tt,by rw [List.drop_eq_getElem_cons hlt,List.map_cons];rw [List.append_assoc] at K3;exact K3⟩
  case b1=>
   obtain ⟨j,rfl⟩:∃j,m=j+1:=⟨m -1,by omega⟩
   have e3' :eval fns orc (j+1) (.code 67 none (.loop kdC) _)=_:=e3 j om
   simp only [kdC] at e3'
   rw [aI]
   generalize hdl:dl[i]=pc at rv ap hpl vQ
   cases rv with| @case v b vv vi q1 q2=>
   have s1:=aS q1
   have s2:=aS q2
   have k1:=pZ q1
   have k2:=pZ q2
   simp only [aX,pY,kD,kF,pX,List.cons_append,List.nil_append] at ap
   exact SXe (qC @kdC.eq_1 cb h2 ld d hia s1 s2 k1 k2 ap w) e3'
theorem AW (H:Has fns orc) {b0:Nat} {h0 h:aD} {l x:AV} {ps:List Part} {a:List pO} (K:KL b0 h0 h l ps) (hb:b0≤h.next) (hx:RVs (a.map Part.exp) x) (hn:ps.length+a.length<30000000):
  ∃h' l',Ev fns orc (.call 78 [l,x] .plain h) (.call (.ret l') .plain h')∧KL b0 h0 h' l' (ps++a.map Part.exp)∧b0≤h'.next:=by
 obtain ⟨xs,a1,r1⟩:=K.ac
 obtain ⟨h',l',xs',ev,a2,r2,g,tk⟩:=Q8 H hx a1 r1 hn
 exact ⟨h',l',ev,K.more hb a2 r2 g tk,by have:=g.next;omega⟩
theorem Jr (H:Has fns orc) {b0:Nat} {h0 h:aD} {l x:AV} {ps:List Part} {a:List qN} (K:KL b0 h0 h l ps) (hb:b0≤h.next) (hx:RVs (a.map Part.imp) x) (hn:ps.length+a.length<30000000):
  ∃h' l',Ev fns orc (.call 80 [l,x] .plain h) (.call (.ret l') .plain h')∧KL b0 h0 h' l' (ps++a.map Part.imp)∧b0≤h'.next:=by
 obtain ⟨xs,a1,r1⟩:=K.ac
 obtain ⟨h',l',xs',ev,a2,r2,g,tk⟩:=Q7 H hx a1 r1 hn
 exact ⟨h',l',ev,K.more hb a2 r2 g tk,by have:=g.next;omega⟩
theorem Ln (H:Has fns orc) {b0:Nat} {h0 h:aD} {l x:AV} {ps:List Part} {a:List pD} (K:KL b0 h0 h l ps) (hb:b0≤h.next) (hx:RVs (a.map Part.desc) x) (hn:ps.length+a.length<30000000):
  ∃h' l',Ev fns orc (.call 81 [l,x] .plain h) (.call (.ret l') .plain h')∧KL b0 h0 h' l' (ps++a.map Part.desc)∧b0≤h'.next:=by
 obtain ⟨xs,a1,r1⟩:=K.ac
 obtain ⟨h',l',xs',ev,a2,r2,g,tk⟩:=Oc H hx a1 r1 hn
 exact ⟨h',l',ev,K.more hb a2 r2 g tk,by have:=g.next;omega⟩
theorem GQ (H:Has fns orc) {p:Part} {v:AV} (hp:RP p v) (hn:p.nodes<10000000) (h:aD):
  ∃h' l xs,aP h h' ∧Ev fns orc (.call 67 [v] .plain h) (.call (.ret l) .plain h')∧iP l xs∧RPL p.kids xs:=by
 have hkl:=uR p
 obtain ⟨c,hv,rfl⟩:=hp
 have hpl:=jD hv
 have p29:takeN 29 (aX p c)=some (aX p c):=by rw [←hpl];exact aW _
 obtain ⟨h1,h1e⟩:∃x,x=h.push (.cells (aX p c)):=⟨_,rfl⟩
 have g1:aP h h1:=by rw [h1e];exact gw2
 have n1:h1.next=h.next+1:=by rw [h1e];simp
 have x1:cont h1 h.next=some (aX p c):=by rw [h1e];exact aR om om
 have start:∀(b:Nat) (hh:aD),KL b hh hh .aC []:=fun b hh=>⟨Nat.le_refl _,fun _ _=>rfl,fun t w=>(by cases w),[],.nil,.nil⟩
 have fin:∀{b0:Nat} {h0 h' :aD} {l:AV} {ps:List Part},h0.next=b0→aP h h0→KL b0 h0 h' l ps→aP h h' ∧∃xs,iP l xs∧RPL ps xs:=fun {b0 h0 h' l ps} hb g K=>by
  obtain ⟨xs,a,r⟩:=K.ac
  exact ⟨⟨Nat.le_trans g.next K.next,fun j hj=>(K.get j (by have:=g.next;omega)).trans (g.get j hj)⟩,xs,(show uU h' l xs from .inl a).E6,r⟩
 cases hv with
 | @desc s pl dl el b il xl vp vd ve vi vx r1 r2 r3 r4 r5=>
  simp only [Part.kids,List.length_append,List.length_map] at hkl
  simp only [aX,pY,kF,pX,lG,List.cons_append,List.nil_append] at h1e x1
  have k1:=aS r1;have k2:=aS r2;have k3:=aS r3;have k4:=aS r4;have k5:=aS r5
  obtain ⟨h2,h2e⟩:∃x,x=(h1.push (.cells [.str [],.aC,.aC,.aC,.bool false,.aC,.aC])).set h1.next (.cells [.str s,vp,vd,ve,.bool b,vi,vx]):=⟨_,rfl⟩
  have g2:aP h1 h2:=by rw [h2e];exact gw2
  have n2:h2.next=h1.next+1:=by rw [h2e];simp
  have x3:cont h2 h1.next=some [.str s,vp,vd,ve,.bool b,vi,vx]:=by rw [h2e];exact aG (by simp)
  obtain ⟨h3,l3,⟨m3,e3⟩,K3,b3⟩:=AW H (start h2.next h2) (Nat.le_refl _) r1 (by simp;omega)
  have y3:=(aH (K3.get h1.next om)).trans x3
  obtain ⟨ys,hy,hyl,hyg⟩:=jZ r2
  simp only [List.length_map,List.getElem_map] at hyl hyg
  obtain ⟨h4,l4,ts,⟨m4,e4⟩,⟨t3,t4⟩,K4⟩:=WN H hy hyl hyg om (b0:=h2.next) (b3:=h1.next) (cc:=[.str s,vp,vd,ve,.bool b,vi,vx]) rfl om x3 dl.length 0 h3 l3 _ om K3 b3 (by simp;omega)
  rw [List.drop_zero] at K4
  have y4:=(aH (K4.get h1.next om)).trans x3
  obtain ⟨h5,l5,⟨m5,e5⟩,K5,b5⟩:=AW H K4 (by have:=K4.next;omega) r3 (by simp;omega)
  have y5:=(aH (K5.get h1.next om)).trans x3
  obtain ⟨h6,l6,⟨m6,e6⟩,K6,b6⟩:=Jr H K5 b5 r4 (by simp;omega)
  have y6:=(aH (K6.get h1.next om)).trans x3
  obtain ⟨h7,l7,⟨m7,e7⟩,K7,b7⟩:=AW H K6 b6 r5 (by simp;omega)
  obtain ⟨gf,xs,i1,i2⟩:=fin rfl (g1.trans g2) K7
  refine ⟨h7,l7,xs,gf,Ev.call H.f67 H.o67 ⟨m3+m4+m5+m6+m7,fun m hm=> ?b1⟩,i1,by simpa [Part.kids] using i2⟩
  case b1=>
   have e3' :=e3 m om;have e4' :=e4 m om;have e5' :=e5 m om;have e6' :=e6 m om;have e7' :=e7 m om
   simp only [kdD,Int.ofNat_zero] at e4'
   exact SX (dI @a67.eq_1 @aX.eq_1 @aX.eq_2 @aX.eq_3 @aX.eq_4 @aX.eq_5 @pY.eq_1 @kF.eq_1 @pX.eq_1 @lG.eq_1 (Eq.symm h1e) x1 k1 k2 k3 k4 (wK k5 (Eq.symm h2e) x3 e3' e4' t3 t4 y4 e5' y5 e6' y6 e7'))
 | @decl k n sz pl dl vn vs vp vd r0 r1 r2 r3=>
  simp only [Part.kids,List.length_append,List.length_map] at hkl
  simp only [aX,pY,kD,pX,lG,List.cons_append,List.nil_append] at h1e x1
  obtain ⟨h3,l3,⟨m3,e3⟩,K3,b3⟩:=AW H (start h1.next h1) (Nat.le_refl _) r1 (by simp;omega)
  have y3:=(aH (K3.get h.next om)).trans x1
  obtain ⟨h4,l4,⟨m4,e4⟩,K4,b4⟩:=AW H K3 b3 r2 (by simp;omega)
  have y4:=(aH (K4.get h.next om)).trans x1
  obtain ⟨h5,l5,⟨m5,e5⟩,K5,b5⟩:=Ln H K4 b4 r3 (by simp;omega)
  have q1:=jS r1;have q2:=jS r2;have q3:=jS r3
  obtain ⟨gf,xs,i1,i2⟩:=fin rfl g1 K5
  refine ⟨h5,l5,xs,gf,Ev.call H.f67 H.o67 ⟨m3+m4+m5,fun m hm=> ?b2⟩,i1,by simpa [Part.kids] using i2⟩
  case b2=>
   have e3' :=e3 m om;have e4' :=e4 m om;have e5' :=e5 m om
   exact SX (dI @a67.eq_1 @aX.eq_1 @aX.eq_2 @aX.eq_3 @aX.eq_4 @aX.eq_5 @pY.eq_1 @kD.eq_1 @pX.eq_1 @lG.eq_1 (Eq.symm h1e) x1 q1 q2 q3 e3' (cj5 y3 e4' y4 e5' @qG))
 | @imp k n el cl b il ve vc vi r1 r2 r3=>
  simp only [Part.kids,List.length_append,List.length_map] at hkl
  simp only [aX,pY,kD,kF,lG,List.cons_append,List.nil_append] at h1e x1
  obtain ⟨h3,l3,⟨m3,e3⟩,K3,b3⟩:=AW H (start h1.next h1) (Nat.le_refl _) r1 (by simp;omega)
  have y3:=(aH (K3.get h.next om)).trans x1
  obtain ⟨ys,hy,hyl,hyg⟩:=jZ r2
  simp only [List.length_map,List.getElem_map] at hyl hyg
  obtain ⟨h4,l4,ts,⟨m4,e4⟩,⟨t3,t4⟩,K4⟩:=WO (orc:=orc) H hy hyl hyg om (b0:=h1.next) (b1:=h.next) rfl om x1 cl.length 0 h3 l3 _ om K3 b3 (by simp;omega)
  rw [List.drop_zero] at K4
  have y4:=(aH (K4.get h.next om)).trans x1
  obtain ⟨h5,l5,⟨m5,e5⟩,K5,b5⟩:=Jr H K4 (by have:=K4.next;omega) r3 (by simp;omega)
  obtain ⟨gf,xs,i1,i2⟩:=fin rfl g1 K5
  refine ⟨h5,l5,xs,gf,Ev.call H.f67 H.o67 ⟨m3+m4+m5,fun m hm=> ?b3⟩,i1,by simpa [Part.kids] using i2⟩
  case b3=>
   have e3' :=e3 m om;have e4' :=e4 m om;have e5' :=e5 m om
   simp only [kdC,Int.ofNat_zero] at e4'
   exact SX (dI @a67.eq_1 @aX.eq_1 @aX.eq_2 @aX.eq_3 @aX.eq_4 @aX.eq_5 @pY.eq_1 @kD.eq_1 @kF.eq_1 @lG.eq_1 (Eq.symm h1e) x1 e3' e4' t3 t4 (cj2 y4 e5'))
 | @case vl' il vv vi r1 r2=>
  simp only [Part.kids,List.length_append,List.length_map] at hkl
  simp only [aX,pY,kD,kF,pX,List.cons_append,List.nil_append] at h1e x1
  obtain ⟨h3,l3,⟨m3,e3⟩,K3,b3⟩:=AW H (start h1.next h1) (Nat.le_refl _) r1 (by simp;omega)
  have y3:=(aH (K3.get h.next om)).trans x1
  obtain ⟨h4,l4,⟨m4,e4⟩,K4,b4⟩:=Jr H K3 b3 r2 (by simp;omega)
  have q1:=jS r1;have q2:=jS r2
  obtain ⟨gf,xs,i1,i2⟩:=fin rfl g1 K4
  refine ⟨h4,l4,xs,gf,Ev.call H.f67 H.o67 ⟨m3+m4,fun m hm=> ?b4⟩,i1,by simpa [Part.kids] using i2⟩
  case b4=>
   have e3' :=e3 m om;have e4' :=e4 m om
   exact SX (dI @a67.eq_1 @aX.eq_1 @aX.eq_2 @aX.eq_3 @aX.eq_4 @aX.eq_5 @pY.eq_1 @kD.eq_1 @kF.eq_1 @pX.eq_1 (Eq.symm h1e) x1 q1 q2 e3' y3 (cj2 e4' @qG))
 | @exp k op n man ex t al dl va vd r1 r2=>
  simp only [Part.kids,List.length_append,List.length_map] at hkl
  simp only [aX,kD,kF,pX,lG,List.cons_append,List.nil_append] at h1e x1
  obtain ⟨h3,l3,⟨m3,e3⟩,K3,b3⟩:=AW H (start h1.next h1) (Nat.le_refl _) r1 (by simp;omega)
  have y3:=(aH (K3.get h.next om)).trans x1
  obtain ⟨h4,l4,⟨m4,e4⟩,K4,b4⟩:=Ln H K3 b3 r2 (by simp;omega)
  have q1:=jS r1;have q2:=jS r2
  obtain ⟨gf,xs,i1,i2⟩:=fin rfl g1 K4
  refine ⟨h4,l4,xs,gf,Ev.call H.f67 H.o67 ⟨m3+m4,fun m hm=> ?b5⟩,i1,by simpa [Part.kids] using i2⟩
  case b5=>
   have e3' :=e3 m om;have e4' :=e4 m om
   exact SX (dI @a67.eq_1 @aX.eq_1 @aX.eq_2 @aX.eq_3 @aX.eq_4 @aX.eq_5 @kD.eq_1 @kF.eq_1 @pX.eq_1 @lG.eq_1 (Eq.symm h1e) x1 q1 q2 e3' y3 (cj2 e4' @qG))
end Go.Ly
namespace Go.Ly
open Go Go.Am Go.Fs Go.Gn
variable {fns:Go.Am.F} {orc:Orc}
theorem Co:∀{l:List Part} {xs:List AV},RPL l xs→∀(i:Nat) (hi:i<l.length),∃c,xs[i]? =some (.agg c)∧RP l[i] (.agg c)∧c.length=29
 |_,_,.nil,i,hi=>by cases hi
 |_,_,.cons hp h,0,_=>by
  obtain ⟨c,h1,rfl⟩:=hp
  exact ⟨_,rfl,⟨c,h1,rfl⟩,jD h1⟩
 |_,_,.cons _ h,i+1,hi=>by
  obtain ⟨c,h1,h2⟩:=Co h i (Nat.lt_of_succ_lt_succ hi)
  exact ⟨c,by simpa using h1,by simpa using h2⟩
def lfB:AC:=p49x11110100
def Od (fns:Go.Am.F) (orc:Orc) (p:Part):Prop:=∀v,RP p v→p.nodes<10000000→∀(n:Int) (h:aD),∃h' z,aP h h' ∧Ev fns orc (.call 49 [v,.int .i64 n] .plain h) (.call (.ret (.int .i64 z)) .plain h')
theorem Qd {l0:List Part} {l:AV} {xs:List AV} (hl:iP l xs) (hr:RPL l0 xs) (hn:l0.length<10000000) (C:∀p∈l0,Od fns orc p∧p.nodes<10000000):∀(k i:Nat) (n:Int) (h:aD),i+k=l0.length→
  ∃h' z ts,aP h h' ∧(∃N,∀m,N≤m→cG (eval fns orc m) 49 none (.loop lfB) ⟨[(1,.int .i64 n),(5,l),(6,.int .i64 (i:Nat))],[],.plain,h⟩= .ok (.code (.exit 0) ⟨ts,[],.plain,h'⟩))∧cH ts 1= .int .i64 z:=by
 have hlen:∀hp,nJ hp .sl l= .ok l0.length:=fun hp=>by rw [bO hl hp,uH hr]
 intro k
 induction k with
 |zero=>
  intro i n h hi
  have d:decide ((i:Int)<((l0.length:Nat):Int))=false:=dF om
  refine ⟨h,n, ?ts0,.refl _,⟨0,fun m _=> ?b0⟩, ?t0⟩
  case b0=>
   rw [aI]
   exact SX (cj3 @lfB.eq_1 hlen d)
  case t0=>rfl
 |succ k ih=>
  intro i n h hi
  have hlt:i<l0.length:=om
  have d:decide ((i:Int)<((l0.length:Nat):Int))=true:=dT om
  by_cases c0:0≤n
  case neg=>
   have d0:=dF c0
   refine ⟨h,n, ?ts1,.refl _,⟨0,fun m _=> ?b1⟩, ?t1⟩
   case b1=>
    rw [aI]
    exact SX (cj4 @lfB.eq_1 hlen d d0)
   case t1=>rfl
  have d0:=dT c0
  have w:IntKind.wrap .i64 ((i:Int)+1)=((i+1:Nat):Int):=sH hlt om
  obtain ⟨c,hc,rp,hcl⟩:=Co hr i hlt
  have hia:=kT hl hc hcl
  have p29:takeN 29 c=some c:=by rw [←hcl];exact aW c
  obtain ⟨C1,C2⟩:=C _ (List.getElem_mem hlt)
  obtain ⟨h1,z,g1,⟨n1,e1⟩⟩:=C1 _ rp C2 n h
  obtain ⟨h',z',ts,g2,⟨n2,e2⟩,t⟩:=ih (i+1) z h1 om
  refine ⟨h',z',ts,g1.trans g2,⟨n1+n2+1,fun m hm=> ?b2⟩,t⟩
  case b2=>
   obtain ⟨j,rfl⟩:∃j,m=j+1:=⟨m -1,by omega⟩
   have e1' :=e1 (j+1) om
   have e2' :eval fns orc (j+1) (.code 49 none (.loop lfB) _)=_:=e2 j om
   simp only [lfB] at e2'
   rw [aI]
   exact SVe (cj9 @lfB.eq_1 hlen d d0 hia @ldS p29 e1' w) e2'
theorem OL (H:Has fns orc):∀p,Od fns orc p:=by
 refine Part.ind fun p ih=> ?_
 intro v hv hn n h
 have hkl:=uR p
 have ck:∀q∈p.kids,Od fns orc q∧q.nodes<10000000:=fun q hq=>⟨ih q hq,by have:=tW hq;omega⟩
 have Vf:p.own<10000000:=by
  have:=Part.qH p
  omega
 have rq:=Oo hv
 obtain ⟨c,hc,hcl⟩:∃c,v= .agg c∧c.length=29:=by obtain ⟨c,h1,rfl⟩:=hv;exact ⟨_,rfl,jD h1⟩
 subst hc
 have p29:takeN 29 c=some c:=by rw [←hcl];exact aW c
 obtain ⟨h1,h1e⟩:∃x,x=h.push (.cells c):=⟨_,rfl⟩
 have g1:aP h h1:=by rw [h1e];exact gw2
 have x1:cont h1 h.next=some c:=by rw [h1e];exact aR om om
 obtain ⟨h2,g2,⟨m2,e2⟩⟩:=Mj H hv om h1
 have x2:=(aF g2 (aO x1)).trans x1
 obtain ⟨h3,g3,⟨m3,e3⟩⟩:=Q6 H hv om h2
 have x3:=(aF g3 (aO x2)).trans x2
 by_cases cg:n<IntKind.wrap .i64 ((p.own:Int)+(p.kids.length:Int))
 ·have d:=dT cg
  refine ⟨h3, -1,g1.trans (g2.trans g3),Ev.call H.f49 H.o49 ⟨m2+m3,fun m hm=> ?b1⟩⟩
  case b1=>
   have e2' :=e2 m om
   have e3' :=e3 m om
   exact SV (sC @a49.eq_1 (Eq.symm h1e) x1 x2 @ldS p29 rq e2' e3' d @qG)
 ·have d:=dF cg
  obtain ⟨h4,g4,⟨m4,e4⟩⟩:=Mj H hv om h3
  have x4:=(aF g4 (aO x3)).trans x3
  obtain ⟨h5,l,xs,g5,⟨m5,e5⟩,hl,hr⟩:=GQ H hv hn h4
  obtain ⟨h6,z,ts,g6,⟨m6,e6⟩,t⟩:=Qd hl hr om ck p.kids.length 0 (IntKind.wrap .i64 (n -p.own)) h5 om
  refine ⟨h6,z,(g1.trans (g2.trans g3)).trans (g4.trans (g5.trans g6)),Ev.call H.f49 H.o49 ⟨m2+m3+m4+m5+m6,fun m hm=> ?b2⟩⟩
  case b2=>
   have e2' :=e2 m om
   have e3' :=e3 m om
   have e4' :=e4 m om
   have e5' :=e5 m om
   have e6' :=e6 m om
   simp only [lfB,Int.ofNat_zero] at e6'
   exact SV (dI @a49.eq_1 (Eq.symm h1e) x1 x2 x3 x4 @ldS p29 rq e2' e3' d e4' e5' e6' t @qG)
def dpB:AC:=p50x1110100
def J5 (fns:Go.Am.F) (orc:Orc) (p:Part):Prop:=∀v,RP p v→p.nodes<10000000→∀(h:aD),∃h' z,aP h h' ∧Ev fns orc (.call 50 [v] .plain h) (.call (.ret (.int .i64 z)) .plain h')
theorem QQ {l0:List Part} {l:AV} {xs:List AV} (hl:iP l xs) (hr:RPL l0 xs) (hn:l0.length<10000000) (C:∀p∈l0,J5 fns orc p∧p.nodes<10000000):∀(k i:Nat) (n:Int) (h:aD),i+k=l0.length→
  ∃h' z ts,aP h h' ∧(∃N,∀m,N≤m→cG (eval fns orc m) 50 none (.loop dpB) ⟨[(3,.int .i64 n),(4,l),(5,.int .i64 (i:Nat))],[],.plain,h⟩= .ok (.code (.exit 0) ⟨ts,[],.plain,h'⟩))∧cH ts 3= .int .i64 z:=by
 have hlen:∀hp,nJ hp .sl l= .ok l0.length:=fun hp=>by rw [bO hl hp,uH hr]
 intro k
 induction k with
 |zero=>
  intro i n h hi
  have d:decide ((i:Int)<((l0.length:Nat):Int))=false:=dF om
  refine ⟨h,n, ?ts0,.refl _,⟨0,fun m _=> ?b0⟩, ?t0⟩
  case b0=>
   rw [aI]
   exact SX (cj3 @dpB.eq_1 hlen d)
  case t0=>rfl
 |succ k ih=>
  intro i n h hi
  have hlt:i<l0.length:=om
  have d:decide ((i:Int)<((l0.length:Nat):Int))=true:=dT om
  have w:IntKind.wrap .i64 ((i:Int)+1)=((i+1:Nat):Int):=sH hlt om
  obtain ⟨c,hc,rp,hcl⟩:=Co hr i hlt
  have hia:=kT hl hc hcl
  have p29:takeN 29 c=some c:=by rw [←hcl];exact aW c
  obtain ⟨C1,C2⟩:=C _ (List.getElem_mem hlt)
  obtain ⟨h1,z,g1,⟨n1,e1⟩⟩:=C1 _ rp C2 h
  obtain ⟨h',z',ts,g2,⟨n2,e2⟩,t⟩:=ih (i+1) (if z>n then z else n) h1 om
  refine ⟨h',z',ts,g1.trans g2,⟨n1+n2+1,fun m hm=> ?b2⟩,t⟩
  case b2=>
   obtain ⟨j,rfl⟩:∃j,m=j+1:=⟨m -1,by omega⟩
   have e1' :=e1 (j+1) om
   have e2' :eval fns orc (j+1) (.code 50 none (.loop dpB) _)=_:=e2 j om
   simp only [dpB] at e2'
   rw [aI]
   exact SVe (sC @dpB.eq_1 hlen d hia @ldS p29 e1' w @EZ.eq_1 @EZ.eq_2 @EZ.eq_3) e2'
theorem TC (H:Has fns orc):∀p,J5 fns orc p:=by
 refine Part.ind fun p ih=> ?_
 intro v hv hn h
 have hkl:=uR p
 have ck:∀q∈p.kids,J5 fns orc q∧q.nodes<10000000:=fun q hq=>⟨ih q hq,by have:=tW hq;omega⟩
 obtain ⟨c,hc,hcl⟩:∃c,v= .agg c∧c.length=29:=by obtain ⟨c,h1,rfl⟩:=hv;exact ⟨_,rfl,jD h1⟩
 subst hc
 have p29:takeN 29 c=some c:=by rw [←hcl];exact aW c
 obtain ⟨h1,h1e⟩:∃x,x=h.push (.cells c):=⟨_,rfl⟩
 have g1:aP h h1:=by rw [h1e];exact gw2
 have x1:cont h1 h.next=some c:=by rw [h1e];exact aR om om
 obtain ⟨h5,l,xs,g5,⟨m5,e5⟩,hl,hr⟩:=GQ H hv hn h1
 obtain ⟨h6,z,ts,g6,⟨m6,e6⟩,t⟩:=QQ hl hr om ck p.kids.length 0 0 h5 om
 refine ⟨h6,IntKind.wrap .i64 (1+z),g1.trans (g5.trans g6),Ev.call H.f50 H.o50 ⟨m5+m6,fun m hm=> ?b2⟩⟩
 case b2=>
  have e5' :=e5 m om
  have e6' :=e6 m om
  simp only [dpB,Int.ofNat_zero] at e6'
  exact SV (cj8 @a50.eq_1 (Eq.symm h1e) x1 @ldS p29 e5' e6' t)
theorem Gi (H:Has fns orc) {p:Part} {v:AV} (hv:RP p v) (hn:p.nodes<10000000) (h:aD):
  ∃h' b,aP h h' ∧Ev fns orc (.call 32 [v] .plain h) (.call (.ret (.bool b)) .plain h'):=by
 have hv' :=hv
 obtain ⟨c,hc,hcl⟩:∃c,v= .agg c∧c.length=29:=by obtain ⟨c,h1,rfl⟩:=hv;exact ⟨_,rfl,jD h1⟩
 subst hc
 have p29:takeN 29 c=some c:=by rw [←hcl];exact aW c
 obtain ⟨h1,h1e⟩:∃x,x=h.push (.cells c):=⟨_,rfl⟩
 have g1:aP h h1:=by rw [h1e];exact gw2
 have x1:cont h1 h.next=some c:=by rw [h1e];exact aR om om
 obtain ⟨h2,z,g2,⟨m2,e2⟩⟩:=OL H p _ hv' hn 2000 h1
 have x2:=(aF g2 (aO x1)).trans x1
 by_cases c0:0≤z
 ·have d:=dT c0
  obtain ⟨h3,y,g3,⟨m3,e3⟩⟩:=TC H p _ hv' hn h2
  refine ⟨h3,decide (y≤60),g1.trans (g2.trans g3),Ev.call H.f32 H.o32 ⟨m2+m3,fun m hm=> ?b1⟩⟩
  case b1=>
   have e2' :=e2 m om
   have e3' :=e3 m om
   exact SV (cj9 @a32.eq_1 (Eq.symm h1e) x1 x2 @ldS p29 e2' d e3')
 ·have d:=dF c0
  refine ⟨h2,false,g1.trans g2,Ev.call H.f32 H.o32 ⟨m2,fun m hm=> ?b2⟩⟩
  case b2=>
   have e2' :=e2 m om
   exact SV (cj8 @a32.eq_1 (Eq.symm h1e) x1 x2 @ldS p29 e2' d)
theorem UB (H:Has fns orc) {p:Part} {v:AV} (hv:RP p v) (hn:p.nodes<10000000) (h:aD):
  ∃h' z,aP h h' ∧Ev fns orc (.call 51 [v] .plain h) (.call (.ret (.int .i64 z)) .plain h'):=by
 have hv' :=hv
 obtain ⟨c,hc,hcl⟩:∃c,v= .agg c∧c.length=29:=by obtain ⟨c,h1,rfl⟩:=hv;exact ⟨_,rfl,jD h1⟩
 subst hc
 have p29:takeN 29 c=some c:=by rw [←hcl];exact aW c
 obtain ⟨h1,h1e⟩:∃x,x=h.push (.cells c):=⟨_,rfl⟩
 have g1:aP h h1:=by rw [h1e];exact gw2
 have x1:cont h1 h.next=some c:=by rw [h1e];exact aR om om
 obtain ⟨h2,b,g2,⟨m2,e2⟩⟩:=Gi H hv' hn h1
 have x2:=(aF g2 (aO x1)).trans x1
 cases b with
 |false=>
  refine ⟨h2,0,g1.trans g2,Ev.call H.f51 H.o51 ⟨m2,fun m hm=> ?b1⟩⟩
  case b1=>
   have e2' :=e2 m om
   exact SV (cj7 @a51.eq_1 (Eq.symm h1e) x1 x2 @ldS p29 e2')
 |true=>
  obtain ⟨h3,z,g3,⟨m3,e3⟩⟩:=OL H p _ hv' hn 2000 h2
  refine ⟨h3,IntKind.wrap .i64 (2000 -z),g1.trans (g2.trans g3),Ev.call H.f51 H.o51 ⟨m2+m3,fun m hm=> ?b2⟩⟩
  case b2=>
   have e2' :=e2 m om
   have e3' :=e3 m om
   exact SV (cj8 @a51.eq_1 (Eq.symm h1e) x1 x2 @ldS p29 e2' e3')
theorem Sr (H:Has fns orc) {d:pD} {c:List AV} (hv:RV (.desc d) (.agg c)) (hn:(Part.desc d).nodes<10000000) (h:aD):
  ∃h' b,aP h h' ∧Ev fns orc (.call 14 [.agg c] .plain h) (.call (.ret (.bool b)) .plain h'):=by
 have hcl:=kW hv
 have p7:takeN 7 c=some c:=by rw [←hcl];exact aW c
 obtain ⟨h1,h1e⟩:∃x,x=h.push (.cells c):=⟨_,rfl⟩
 have g1:aP h h1:=by rw [h1e];exact gw2
 have x1:cont h1 h.next=some c:=by rw [h1e];exact aR om om
 obtain ⟨h2,v2,g2,r2,⟨m2,e2⟩⟩:=Gg H hv h1
 obtain ⟨h3,b,g3,⟨m3,e3⟩⟩:=Gi H r2 hn h2
 have x3:=(aF (g2.trans g3) (aO x1)).trans x1
 cases b with
 |false=>
  refine ⟨h3,false,g1.trans (g2.trans g3),Ev.call H.f14 H.o14 ⟨m2+m3,fun m hm=> ?b1⟩⟩
  case b1=>
   have e2' :=e2 m om
   have e3' :=e3 m om
   exact SV (cj8 @a14.eq_1 (Eq.symm h1e) x1 x3 @ldS p7 e2' e3')
 |true=>
  obtain ⟨h4,h4e⟩:∃x,x=h3.push (.cells c):=⟨_,rfl⟩
  have g4:aP h3 h4:=by rw [h4e];exact gw2
  have x4:cont h4 h3.next=some c:=by rw [h4e];exact aR om om
  obtain ⟨h5,v5,g5,r5,⟨m5,e5⟩⟩:=Gg H hv h4
  obtain ⟨h6,z,g6,⟨m6,e6⟩⟩:=UB H r5 hn h5
  have sz:Ev fns orc (.call 33 [.agg c] .plain h3) (.call (.ret (.int .i64 z)) .plain h6):=by
   refine Ev.call H.f33 H.o33 ⟨m5+m6,fun m hm=> ?b2⟩
   case b2=>
    have e5' :=e5 m om
    have e6' :=e6 m om
    exact SV (cj7 @a33.eq_1 (Eq.symm h4e) x4 @ldS p7 e5' e6')
  obtain ⟨m7,e7⟩:=sz
  refine ⟨h6,decide (z≤300),g1.trans ((g2.trans g3).trans (g4.trans (g5.trans g6))),Ev.call H.f14 H.o14 ⟨m2+m3+m7,fun m hm=> ?b3⟩⟩
  case b3=>
   have e2' :=e2 m om
   have e3' :=e3 m om
   have e7' :=e7 m om
   exact SV (cj9 @a14.eq_1 (Eq.symm h1e) x1 x3 @ldS p7 e2' e3' e7')
end Go.Ly
namespace Go.Ly
open Go Go.Am Go.Fs Go.Gn
variable {fns:Go.Am.F} {orc:Orc}
theorem Pt (H:Has fns orc) {v:AV} {vs:List VR} (hv:iP v (vs.map vA)) (hl:vs.length≤200000000) (h:aD):
  ∃h' v',aP h h' ∧(∀m,2≤m→eval fns orc m (.call 22 [v] .plain h)= .ok (.call (.ret v') .plain h'))∧iP v' (vs.map vA):=by
 generalize hxs:vs.map vA=xs at hv
 have hw:Ab 5 xs:=hxs▸Oj vs
 have hln:xs.length=vs.length:=by rw [←hxs,List.length_map]
 cases hv with
 |nil=>
  refine ⟨h,.aC,.refl _,fun m hm=>fW (n:=0) H.f22 H.o22 (fun m _=> ?b1) m hm,.nil⟩
  exact SX @a22.eq_1
 |sl tk xs=>
  cases xs with
  |nil=>
   refine ⟨h,.sl .full [],.refl _,fun m hm=>fW (n:=0) H.f22 H.o22 (fun m _=> ?b2) m hm,.sl _ _⟩
   exact SX (tR @a22.eq_1 @mT.eq_1 @oO.eq_1 @oO.eq_2 @oO.eq_3 @oO.eq_4 @uE.eq_1 @uE.eq_2 @uE.eq_3 @uE.eq_4)
  |cons x xs=>
   have e1:qK 5 (x::xs)=true:=B1 hw
   have e2:(Nat.ble 1 5 && qK 5 (x::xs))=true:=by rw [e1];rfl
   have e3:(Nat.ble ((([]:List AV).length+(x::xs).length)*5) lX && mR 5 [])=true:=by
    simp only [mR,Bool.and_true]
    rw [Nat.ble_eq]
    simp [lX] at hln⊢
    omega
   have ap:mT h 5 (.sl .full []) (.sl tk (x::xs))= .ok (.sl (.opn h.next (([]:List AV).length+(x::xs).length)) ([]++(x::xs)),h.push (.tok (([]:List AV).length+(x::xs).length))):=by
    simp only [mT,oO,aM,e2,wD,yN,e3]
   refine ⟨h.push (.tok (([]:List AV).length+(x::xs).length)),.sl (.opn h.next (([]:List AV).length+(x::xs).length)) ([]++(x::xs)),.push _ _,fun m hm=>fW (n:=0) H.f22 H.o22 (fun m _=> ?b3) m hm,.sl _ _⟩
   exact SX (cj2 @a22.eq_1 ap)
theorem yW {l:List AV} {v:AV} (h:iP v l):v.known=true:=by cases h<;>rfl
theorem Va {v:AV} {xs:List AV} (h:iP v xs) (hx:∀x∈xs,dX x x=true):dX v v=true:=by
 have:kQ xs xs=true:=by
  clear h
  induction xs with
  |nil=>simp [kQ]
  |cons v vL ih=>simp only [eM,hx v (by simp),ih (fun s hs=>hx s (by simp [hs])),Bool.and_self]
 cases h with
 |nil=>rfl
 |sl tk xs=>simp only [dX,vN,this,Bool.and_self]
def Um (Γ:Tb) (S:Nat→DY) (i:Nat) (r:AV):Prop:=∃vc vu vv c u vs,r= .agg [.int .i64 (Γ.D i).num,.int .i64 (Γ.D i).ar,vc,vu,.int .i64 (S i).off,.int .i64 (S i).cl,vv]∧(S i).ch=some (c,u)∧iP vc (ints c)∧iP vu (ints u)∧iP vv (vs.map vA)∧Q9 Γ S c vs
def dsB:AC:=p7x1110100
theorem OY {Γ:Tb} (O:Γ.Ok) {S:Nat→DY} (W:WF Γ S) {a:Nat} (ha:a<Γ.n) {c u:List Nat} (hcu:(S a).ch=some (c,u)) {vs:List VR} (f:Q9 Γ S c vs):vs.length≤200000000:=by
 have h1:=IJ O (Γ:=Γ) c 0 (fun d hd=>by
  obtain ⟨q,hq⟩:=tX hd
  exact (W.part c.length a c u (Nat.le_refl _) ha hcu q d hq).1)
 have h2:=congrArg List.length f.1
 have h3:=(W a ha c u hcu).max
 simp at h2
 omega
theorem QP (H:Has fns orc) {Γ:Tb} {S:Nat→DY} {tk0:Tk} {b0:Nat}:∀(k i:Nat) (h:aD) (l:AV) (rs:List AV),i+k=Γ.n→Made Γ S h→b0≤h.next→(Γ.tb<b0∧Γ.mb<b0∧∀j,pJ Γ j→j<b0)→Acc h l rs→(∀t,jK l=some t→b0≤t)→rs.length=i→(∀(j:Nat) r,rs[j]? =some r→Um Γ S j r)→(∃v2 vL,cont h Γ.tb=some [.sl tk0 Γ.xs,.map Γ.mb,v2]∧iP v2 vL∧VT Γ S Γ.n vL)→
  ∃h' ts l' rs',(∃n,∀m,n≤m→cG (eval fns orc m) 7 none (.loop dsB) ⟨[(0,.ptr Γ.tb 0),(3,l),(12,.sl tk0 Γ.xs),(13,.int .i64 (Γ.n:Nat)),(14,.int .i64 (i:Nat))],[],.plain,h⟩= .ok (.code (.exit 0) ⟨ts,[],.plain,h'⟩))∧cH ts 3=l' ∧(h.next≤h'.next∧∀j,j<b0→h'.get j=h.get j)∧iP l' rs' ∧rs'.length=Γ.n∧∀(j:Nat) r,rs'[j]? =some r→Um Γ S j r:=by
 intro k
 induction k with
 |zero=>
  intro i h l rs hi M hb hlt ac htk hrl hr ht
  have d:decide ((i:Int)<((Γ.n:Nat):Int))=false:=dF om
  refine ⟨h, ?ts0,l,rs,⟨0,fun m _=> ?b0⟩, ?t0,⟨Nat.le_refl _,fun _ _=>rfl⟩,(show uU h l rs from .inl ac).E6,by omega,hr⟩
  case b0=>
   rw [aI]
   exact SX (cj2 @dsB.eq_1 d)
  case t0=>rfl
 |succ k ih=>
  intro i h l rs hi M hb hlt ac htk hrl hr ht
  have hO:=M.ok.lt
  have d:decide ((i:Int)<((Γ.n:Nat):Int))=true:=dT om
  have w:IntKind.wrap .i64 ((i:Int)+1)=((i+1:Nat):Int):=by rw [pE om om];rfl
  have hin:i<Γ.n:=om
  have hia:=Γ.at tk0 hin
  obtain ⟨⟨c,u⟩,hcu⟩:=Option.ne_none_iff_exists'.1 (M.all i)
  have F:=M.wf i hin c u hcu
  obtain ⟨vc,vu,bc0,hcv⟩:=M.tb.d_ i hin
  have kk:=M.ok.ok i hin
  have y7:=nbx7 kk (S i).busy vc vu (S i).off (S i).cl
  have y8:=HU kk (S i).busy vc vu (S i).off (S i).cl
  have y15:=Fz kk (S i).busy vc vu (S i).off (S i).cl
  have y16:=V1 kk (S i).busy vc vu (S i).off (S i).cl
  have y17:=Sh kk (S i).busy vc vu (S i).off (S i).cl
  have y18:=V0 kk (S i).busy vc vu (S i).off (S i).cl
  obtain ⟨cc,hcc⟩:∃cc,cc=bx (Γ.D i) (S i).busy vc vu (S i).off (S i).cl:=⟨_,rfl⟩
  rw [←hcc] at bc0 y7 y8 y15 y16 y17 y18
  rw [hcu] at hcv
  obtain ⟨hcne,hic,hiu⟩:=hcv
  have qc:=yG hic
  have qu:=yG hiu
  obtain ⟨v2,vL,ht0,hv2,hV⟩:=ht
  obtain ⟨sv,hsv⟩:∃sv,vL[i]? =some sv:=⟨vL[i]'(by rw [hV.1];exact hin),List.getElem?_eq_getElem _⟩
  obtain ⟨vs,c',u',hsl,Vm,fr⟩:=hV.2 i sv hsv
  rw [hcu] at Vm
  cases Vm
  have ivs:=oX hv2 hsv (uJ hsl)
  have qv:=Rc hsl
  have qv2:dX v2 v2=true:=Va hv2 (fun x hx=>by
   obtain ⟨j,hj⟩:=tX hx
   obtain ⟨vs,_,_,q,_⟩:=hV.2 j x hj
   exact Rc q)
  have qe:dX (.ep [sv] 0) (.ep [sv] 0)=true:=by simp [dX,kQ,qv]
  obtain ⟨h1,v1,g1,e1,a1,_⟩:=E7 H hic (by have:=F.max;omega) h
  obtain ⟨h2,vu2,g2,e2,a2,_⟩:=E7 H hiu (by have:=F.max;have:=F.len;omega) h1
  obtain ⟨h3,vv3,g3,e3,a3⟩:=Pt H hsl (OY M.ok M.wf hin hcu fr) h2
  have ltb:=aO bc0
  have ltt:=aO ht0
  have bc1:=(aF g1 ltb).trans bc0
  have bc2:=(aF g2 (aO bc1)).trans bc1
  have bc3:=(aF g3 (aO bc2)).trans bc2
  have ht1:=(aF g1 ltt).trans ht0
  have ht2:=(aF g2 (aO ht1)).trans ht1
  have ht3:=(aF g3 (aO ht2)).trans ht2
  have i1:=a1.E6
  have i2:=a2.E6
  have k1:=qL i1
  have k2:=qL i2
  have k3:=qL a3
  have kn1:=yW i1
  have kn2:=yW i2
  have kn3:=yW a3
  have cs1:=uJ i1
  have cs2:=uJ i2
  have cs3:=uJ a3
  obtain ⟨r,hre⟩:∃r,r=AV.agg [.int .i64 (Γ.D i).num,.int .i64 (Γ.D i).ar,v1,vu2,.int .i64 (S i).off,.int .i64 (S i).cl,vv3]:=⟨_,rfl⟩
  have Xh:=(g1.trans g2).trans g3
  have wr7:Ab 7 rs:=fun x hx=>by
   obtain ⟨j,hj⟩:=tX hx
   obtain ⟨_,_,_,_,_,_,q,_⟩:=hr j x hj
   rw [q];rfl
  obtain ⟨l2,h4,ap,a4,g4,tk4⟩:=sG (ac.grow Xh) (n:=7) (v:=r) om wr7 (by rw [hre];rfl) om
  rw [hre] at ap
  have n3:=Xh.next
  have n4:=g4.next
  have OO:h.next≤h4.next∧∀j,j<b0→h4.get j=h.get j:=⟨by omega,fun j hj=>by rw [g4.get j om (fun q=>by have:=htk j q;omega),Xh.get j om]⟩
  have M4:Made Γ S h4:=by
   have cg:∀j,j<b0→cont h4 j=cont h j:=fun j hj=>aH (OO.2 j hj)
   refine ⟨M.ok,M.all,M.wf,M.tb.wH fun j hj q=>OO.2 j (by rcases q with q|q|q;omega;omega;exact hlt.2.2 j q),M.ck, ?_⟩
   exact ⟨tk0,v2,vL,(cg _ hlt.1).trans ht0,hv2,hV⟩
  have hr' :∀(j:Nat) r',(rs++[r])[j]? =some r' →Um Γ S j r' :=fun j r' hj=>by
   by_cases q:j<rs.length
   ·rw [List.getElem?_append_left q] at hj;exact hr j r' hj
   ·have:j=rs.length:=by have:=(List.getElem?_eq_some_iff.1 hj).1;simp at this;omega
    subst this
    simp at hj
    subst hj
    rw [hrl]
    exact ⟨v1,vu2,vv3,c,u,vs,hre,hcu,i1,i2,a3,fr⟩
  obtain ⟨h5,ts,l5,rs5,⟨n5,e5⟩,t5,k5,s5,U9,all5⟩:=ih (i+1) h4 l2 (rs++[r]) om M4 om hlt a4 (fun t q=>by rcases tk4 t q with q|q;exact htk t q;omega) (by simp;omega) hr' ⟨v2,vL,(aH (OO.2 _ hlt.1)).trans ht0,hv2,hV⟩
  refine ⟨h5,ts,l5,rs5,⟨n5+3,fun m hm=> ?b1⟩,t5,⟨by omega,fun j hj=>(k5.2 j hj).trans (OO.2 j hj)⟩,s5,U9,all5⟩
  case b1=>
   obtain ⟨j,rfl⟩:∃j,m=j+1:=⟨m -1,by omega⟩
   have e1' :=e1 (j+1) om
   have e2' :=e2 (j+1) om
   have e3' :=e3 (j+1) om
   have e5' :eval fns orc (j+1) (.code 7 none (.loop dsB) _)=_:=e5 j om
   simp only [dsB] at e5'
   rw [aI]
   exact SXe (dI @dsB.eq_1 d hia bc0 bc1 bc2 bc3 ht0 ht1 ht2 ht3 y7 y8 y15 y16 y17 (dI y18 qc qu qv qv2 qe ivs e1' e2' e3' k1 k2 k3 kn1 kn2 kn3 (cj6 cs1 cs2 cs3 ap w @qG))) e5'
theorem LO (H:Has fns orc) {Γ:Tb} {S:Nat→DY} {h:aD} (M:Made Γ S h):
  ∃h' v rs,aP h h' ∧Ev fns orc (.call 7 [.ptr Γ.tb 0] .plain h) (.call (.ret v) .plain h')∧iP v rs∧rs.length=Γ.n∧∀(j:Nat) r,rs[j]? =some r→Um Γ S j r:=by
 obtain ⟨tk,v2,vL,ht,hv,hV⟩:=M.vt
 have lx:∀hp,nJ hp .sl (.sl tk Γ.xs)= .ok Γ.n:=fun hp=>by rw [iI];simp [Tb.xs]
 obtain ⟨h',ts,l,rs,⟨n,e⟩,t3,k,s,len,all⟩:=QP H (Γ:=Γ) (S:=S) (tk0:=tk) (b0:=h.next) Γ.n 0 h .aC [] om M (Nat.le_refl _) M.tb.lt .nil (fun t w=>by cases w) rfl (fun j r w=>by simp at w) ⟨v2,vL,ht,hv,hV⟩
 refine ⟨h',l,rs,⟨k.1,k.2⟩,Ev.call H.f7 H.o7 ⟨n,fun m hm=> ?b⟩,s,len,all⟩
 case b=>
  have e' :=e m hm
  simp only [dsB,Int.ofNat_zero] at e'
  exact SX (cj5 @a7.eq_1 ht lx e' t3)
end Go.Ly
namespace Go.Ly
open Go Go.Am Go.Fs Go.Gn
variable {fns:Go.Am.F} {orc:Orc}
theorem Made.grow {Γ:Tb} {S:Nat→DY} {h h' :aD} (M:Made Γ S h) (g:aP h h'):Made Γ S h' :=by
 obtain ⟨tk,v2,vL,h1,h2,h3⟩:=M.vt
 exact ⟨M.ok,M.all,M.wf,M.tb.grow g,M.ck,tk,v2,vL,(aF g (aO h1)).trans h1,h2,h3⟩
def inT (Γ:Tb) (x:Int):Bool:=decide (0≤x) && decide (x<(Γ.n:Int))
theorem G4 (H:Has fns orc) {Γ:Tb} {S:Nat→DY} {h:aD} (M:Made Γ S h) (x:Int) (m:Nat) (hm:2≤m):
  eval fns orc m (.call 28 [.ptr Γ.tb 0,.int .i64 x] .plain h)= .ok (.call (.ret (.bool (inT Γ x))) .plain h):=by
 obtain ⟨tk,v2,vL,ht,hv,hV⟩:=M.vt
 have lx:∀hp,nJ hp .sl (.sl tk Γ.xs)= .ok Γ.n:=fun hp=>by rw [iI];simp [Tb.xs]
 refine fW (n:=0) H.f28 H.o28 (fun m _=> ?b) m hm
 case b=>
  unfold inT
  cases c1:decide (0≤x) with
  |false=>
   exact SX (cj5 @a28.eq_1 c1 ht lx @Bool.false_and)
  |true=>
   exact SX (cj5 @a28.eq_1 c1 ht lx @Bool.true_and)
theorem ON (H:Has fns orc) (N:vX fns orc) {d:pD} {c:List AV} (hv:RV (.desc d) (.agg c)) (hs:wP (.desc d)) (hn:(Part.desc d).nodes<5000000) (h:aD):
  ∃h',aP h h' ∧(Ev fns orc (.call 5 [.agg c] .plain h) (.call (.ret .pI) .plain h')∨
   ∃Γ S,Ev fns orc (.call 5 [.agg c] .plain h) (.call (.ret (.ptr Γ.tb 0)) .plain h')∧Made Γ S h' ∧VH Γ d):=by
 have hcl:=kW hv
 have p7:takeN 7 c=some c:=by rw [←hcl];exact aW c
 obtain ⟨h1,h1e⟩:∃x,x=h.push (.cells c):=⟨_,rfl⟩
 have g1:aP h h1:=by rw [h1e];exact gw2
 have x1:cont h1 h.next=some c:=by rw [h1e];exact ctp
 have b1:=aO x1
 obtain ⟨h2,b,g2,⟨n2,e2⟩⟩:=Sr H hv om h1
 have x2:=(aF g2 b1).trans x1
 cases b with
 |false=>
  refine ⟨h2,g1.trans g2,.inl (Ev.call H.f5 H.o5 ⟨n2,fun m hm=> ?b1⟩)⟩
  case b1=>
   have e2' :=e2 m hm
   exact SX (cj6 @a5.eq_1 hcl p7 (Eq.symm h1e) x1 e2')
 |true=>
  obtain ⟨h3,g3,⟨e,he,⟨n3,e3⟩⟩|⟨Γ,S,⟨n3,e3⟩,M,hlt⟩⟩:=WG H N hv hs hn h2
  ·have de:=dF he
   refine ⟨h3,(g1.trans g2).trans g3,.inl (Ev.call H.f5 H.o5 ⟨n2+n3,fun m hm=> ?b2⟩)⟩
   case b2=>
    have e2' :=e2 m om
    have e3' :=e3 m om
    exact SX (cj9 @a5.eq_1 hcl p7 (Eq.symm h1e) x1 x2 e2' e3' de)
  ·refine ⟨h3,(g1.trans g2).trans g3,.inr ⟨Γ,S,Ev.call H.f5 H.o5 ⟨n2+n3,fun m hm=> ?b3⟩,M,hlt⟩⟩
   case b3=>
    have e2' :=e2 m om
    have e3' :=e3 m om
    exact SX (cj8 @a5.eq_1 hcl p7 (Eq.symm h1e) x1 x2 e2' e3')
theorem X7 (H:Has fns orc) {va vb:AV} {a b:List Nat} (ha:iP va (ints a)) (hb:iP vb (ints b)) (hn:a.length<10000000) (h:aD):
  Ev fns orc (.call 17 [va,vb] .plain h) (.call (.ret (.bool (decide (a=b)))) .plain h):=by
 have la:∀hp,nJ hp .sl va= .ok a.length:=fun hp=>by rw [bO ha hp,mQ]
 have lb:∀hp,nJ hp .sl vb= .ok b.length:=fun hp=>by rw [bO hb hp,mQ]
 by_cases hl:a.length=b.length
 case neg=>
  have d:decide (((a.length:Nat):Int)=((b.length:Nat):Int))=false:=dF om
  have e:decide (a=b)=false:=dF (fun q=>hl (by rw [q]))
  refine Ev.call H.f17 H.o17 ⟨0,fun m _=> ?b⟩
  case b=>
   exact SX (cj5 @a17.eq_1 la lb d e)
 have key:∀k i,i+k=a.length→∃n ts,∀m,n≤m→(cG (eval fns orc m) 17 none (.loop p17x110100) ⟨[(0,va),(1,vb),(5,.int .i64 (i:Nat))],[],.plain,h⟩=
   match decide (a.drop i=b.drop i) with
   |true=> .ok (.code (.exit 0) ⟨ts,[],.plain,h⟩)
   |false=> .ok (.code .ret ⟨[(4,.bool false)],[],.plain,h⟩)):=by
  intro k
  induction k with
  |zero=>
   intro i hi
   refine ⟨0, ?ts0,fun m _=> ?z0⟩
   case z0=>
    have d:decide ((i:Int)<((a.length:Nat):Int))=false:=dF om
    have e:decide (a.drop i=b.drop i)=true:=dT (by rw [List.drop_eq_nil_of_le om,List.drop_eq_nil_of_le om])
    rw [e,aI]
    exact SX (cj2 d la)
  |succ k ih=>
   intro i hi
   obtain ⟨n,ts,ih⟩:=ih (i+1) om
   refine ⟨n+1,ts,fun m hm=> ?_⟩
   obtain ⟨m,rfl⟩:∃j,m=j+1:=⟨m -1,by omega⟩
   have h1:i<a.length:=om
   have h2:i<b.length:=om
   have d:decide ((i:Int)<((a.length:Nat):Int))=true:=dT om
   have ia:=rN ha (List.getElem?_eq_getElem h1)
   have ib:=rN hb (List.getElem?_eq_getElem h2)
   have ih' :=ih m om
   rw [List.drop_eq_getElem_cons h1,List.drop_eq_getElem_cons h2,aI]
   by_cases c:a[i]=b[i]
   ·have e:decide (((a[i]:Nat):Int)=((b[i]:Nat):Int))=true:=dT (by rw [c])
    have e2:decide (a[i]::a.drop (i+1)=b[i]::b.drop (i+1))=decide (a.drop (i+1)=b.drop (i+1)):=by simp only [c,List.cons.injEq,true_and]
    have w:IntKind.wrap .i64 ((i:Int)+1)=((i+1:Nat):Int):=by rw [pE om om];rfl
    rw [e2]
    exact SXe (cj6 d la ia ib e w) ih'
   ·have e:decide (((a[i]:Nat):Int)=((b[i]:Nat):Int))=false:=dF om
    have e2:decide (a[i]::a.drop (i+1)=b[i]::b.drop (i+1))=false:=dF (fun q=>c (List.cons.inj q).1)
    rw [e2]
    exact SX (cj5 d la ia ib e)
 obtain ⟨n,ts,e⟩:=key a.length 0 om
 have d:decide (((a.length:Nat):Int)=((b.length:Nat):Int))=true:=dT om
 refine Ev.call H.f17 H.o17 ⟨n,fun m hm=> ?b2⟩
 case b2=>
  have e1:=e m hm
  simp only [List.drop_zero,Int.ofNat_zero] at e1
  cases c:decide (a=b) with
  |true=>
   rw [c] at e1
   exact SX (cj5 @a17.eq_1 la lb d e1)
  |false=>
   rw [c] at e1
   exact SX (cj5 @a17.eq_1 la lb d e1)
def AN (orc:Orc):Prop:=∃g,orc 6=some g∧g []=some (.bool true)
end Go.Ly
namespace Go.Ly
open Go Go.Am Go.Fs Go.Gn
variable {fns:Go.Am.F} {orc:Orc}
def wA (S:Nat→DY) (c:List Nat):Int:=(c.map fun k=>(S k).cl).sum
theorem EX (S:Nat→DY) (c:List Nat) (k:Nat):wA S (c++[k])=wA S c+(S k).cl:=by simp [wA]
theorem WF.wA {Γ:Tb} {S:Nat→DY} (W:WF Γ S):∀(n i:Nat) (c u:List Nat),c.length≤n→i<Γ.n→(S i).ch=some (c,u)→(S i).off=wA S c.dropLast:=by
 intro n
 induction n with
 |zero=>
  intro i c u hn hi hc
  obtain ⟨c0,rfl,_⟩:=W.last hi hc
  simp at hn
 |succ n ih=>
  intro i c u hn hi hc
  obtain ⟨t,_,⟨_,rfl,rfl,ho⟩|⟨x,lv,pt,cx,ux,u0,_,h1,h2,rfl,rfl,_,ho,_⟩⟩:=(W i hi c u hc).shape
  ·rw [ho];rfl
  ·have h3:=ih x cx ux (by simp at hn;omega) h1 h2
   obtain ⟨c0,rfl,_⟩:=W.last h1 h2
   rw [ho,h3,List.dropLast_concat,List.dropLast_concat,EX]
theorem HJ {α:Type} {c:List α} {q:Nat} (hq:q<c.length):(c.take (q+1)).dropLast=c.take q:=by
 rw [List.dropLast_eq_take,List.length_take,List.take_take]
 congr 1
 omega
theorem vZ {α:Type} {c:List α} {q:Nat} {k:α} (hq:c[q]? =some k):c.take (q+1)=c.take q++[k]:=by
 rw [List.take_add_one,hq];rfl
theorem WF.Yb {Γ:Tb} {S:Nat→DY} (W:WF Γ S) {i:Nat} {c u:List Nat} (hi:i<Γ.n) (hc:(S i).ch=some (c,u)) {q k:Nat} (hq:c[q]? =some k):(S k).off=Go.Ly.wA S (c.take q):=by
 obtain ⟨h1,u',h2⟩:=W.part c.length i c u (Nat.le_refl _) hi hc q k hq
 have:=W.wA _ k _ u' (Nat.le_refl _) h1 h2
 rw [HJ (List.getElem?_eq_some_iff.1 hq).1] at this
 exact this
theorem WF.lastU {Γ:Tb} {S:Nat→DY} (W:WF Γ S) {i:Nat} {c u:List Nat} (hi:i<Γ.n) (hc:(S i).ch=some (c,u)):c[c.length -1]? =some i∧u[c.length -1]? =some 0:=by
 obtain ⟨t,_,⟨_,rfl,rfl,ho⟩|⟨x,lv,pt,cx,ux,u0,_,h1,h2,rfl,rfl,_,ho,hl,_⟩⟩:=(W i hi c u hc).shape
 ·exact ⟨rfl,rfl⟩
 ·constructor
  ·simp
  ·simp [←hl]
def Q5 (Γ:Tb) (S:Nat→DY) (rs:List AV):Prop:=rs.length=Γ.n∧∀(j:Nat) r,rs[j]? =some r→Um Γ S j r
theorem Q5.get {Γ:Tb} {S:Nat→DY} {rs:List AV} (R:Q5 Γ S rs) {j:Nat} (hj:j<Γ.n):∃vc vu vv c u vs,rs[j]? =some (.agg [.int .i64 (Γ.D j).num,.int .i64 (Γ.D j).ar,vc,vu,.int .i64 (S j).off,.int .i64 (S j).cl,vv])∧(S j).ch=some (c,u)∧iP vc (ints c)∧iP vu (ints u)∧iP vv (vs.map vA)∧Q9 Γ S c vs:=by
 have hj' :j<rs.length:=by rw [R.1];exact hj
 obtain ⟨vc,vu,vv,c,u,vs,h1,h2⟩:=R.2 j _ (List.getElem?_eq_getElem hj')
 exact ⟨vc,vu,vv,c,u,vs,by rw [List.getElem?_eq_getElem hj',h1],h2⟩
theorem isSl_ne {v:AV} {xs:List AV} (h:iP v xs) (hn:xs≠[]):∃tk,v= .sl tk xs:=by
 cases h with
 |nil=>exact absurd rfl hn
 |sl tk xs=>exact ⟨tk,rfl⟩
theorem UY {S:Nat→DY}:∀(c:List Nat),(∀k∈c,0≤(S k).cl∧(S k).cl<10000000)→0≤wA S c∧wA S c≤10000000*(c.length:Int)
 |[],_=>by simp [wA]
 |k::c,h=>by
  have h1:=UY c (fun k hk=>h k (by simp [hk]))
  have h2:=h k (by simp)
  have:wA S (k::c)=(S k).cl+wA S c:=by simp [wA]
  rw [this,List.length_cons]
  omega
theorem WF.clb {Γ:Tb} (O:Γ.Ok) {S:Nat→DY} (W:WF Γ S) (K:Cg S) {k:Nat} (hk:k<Γ.n):0≤(S k).cl∧(S k).cl<10000000:=by
 obtain ⟨⟨c,u⟩,h⟩:=Option.ne_none_iff_exists'.1 (K k)
 rw [(W k hk c u h).cl]
 have:=yZ (O.ok k hk)
 omega
theorem EG {a b:List Nat}:Bf a b=true↔b.length≤a.length∧a.take b.length=b:=by unfold Bf;simp
theorem XE {a b c:List Nat} (h1:Bf a b=true) (h2:Bf b c=true):Bf a c=true:=by
 rw [EG] at*
 refine ⟨by omega, ?_⟩
 have:=h2.2
 rw [←h1.2,List.take_take,Nat.min_eq_left h2.1] at this
 exact this
theorem XQ {a b:List Nat} (h1:Bf a b=true) (h2:Bf b a=true):a=b:=by
 rw [EG] at*
 have:=h1.2
 rw [List.take_of_length_le om] at this
 exact this
theorem XP (a:List Nat):Bf a a=true:=by rw [EG];simp
theorem ch_inj {Γ:Tb} {S:Nat→DY} (W:WF Γ S) {i j:Nat} (hi:i<Γ.n) (hj:j<Γ.n) {c u u' :List Nat} (h1:(S i).ch=some (c,u)) (h2:(S j).ch=some (c,u')):i=j:=by
 obtain ⟨c1,e1,_⟩:=W.last hi h1
 obtain ⟨c2,e2,_⟩:=W.last hj h2
 rw [e1] at e2
 have:=List.append_inj_right' e2 rfl
 simpa using this
end Go.Ly
end
