/- Parts of a proof. -/
import Derived.Test.YtfpohljcapcliaaGreatDoorD
import Derived.Test.YtfpohljcapcliaaGreatDoorZ1
import Derived.Test.YtfpohljcapcliaaGreatDoorM
set_option linter.all false
set_option maxHeartbeats 16000000
set_option maxRecDepth 20000
noncomputable section
namespace Go.Ly
open Go Go.Am Go.Fs Go.Gn
variable {fns:Go.Am.F} {orc:Orc}
def CfR (Γ:Tb) (S:Nat→DY) (a b:Int) (r:Bool) (e:Int):Prop:=
 (¬(inT Γ a=true∧inT Γ b=true)∧r=false∧e=1)∨∃(i j:Nat) (ci ui cj uj:List Nat),a=(i:Int)∧b=(j:Int)∧i<Γ.n∧j<Γ.n∧(S i).ch=some (ci,ui)∧(S j).ch=some (cj,uj)∧r=Bf ci cj∧e=0
theorem Vu (H:Has fns orc) {Γ:Tb} {S:Nat→DY} {h:aD} (M:Made Γ S h) (a b:Int):
  ∃r e,Ev fns orc (.call 12 [.ptr Γ.tb 0,.int .i64 a,.int .i64 b] .plain h) (.call (.ret (.tup [.bool r,.int .i64 e])) .plain h)∧CfR Γ S a b r e:=by
 have ha:=G4 H M a
 have hb:=G4 H M b
 cases ca:inT Γ a with
 |false=>
  rw [ca] at ha
  refine ⟨false,1,Ev.call H.f12 H.o12 ⟨2,fun m hm=> ?b1⟩,.inl ⟨by rw [ca];simp,rfl,rfl⟩⟩
  case b1=>
   have ha' :=ha m hm
   exact SX (cj2 @a12.eq_1 ha')
 |true=>
  rw [ca] at ha
  cases cb:inT Γ b with
  |false=>
   rw [cb] at hb
   refine ⟨false,1,Ev.call H.f12 H.o12 ⟨2,fun m hm=> ?b2⟩,.inl ⟨by rw [cb];simp,rfl,rfl⟩⟩
   case b2=>
    have ha' :=ha m hm
    have hb' :=hb m hm
    exact SX (cj3 @a12.eq_1 ha' hb')
  |true=>
   rw [cb] at hb
   simp only [inT,Bool.and_eq_true,decide_eq_true_eq] at ca cb
   obtain ⟨i,rfl⟩:∃i:Nat,a=(i:Int):=⟨a.toNat,by omega⟩
   obtain ⟨j,rfl⟩:∃j:Nat,b=(j:Int):=⟨b.toNat,by omega⟩
   have hi:i<Γ.n:=om
   have hj:j<Γ.n:=om
   obtain ⟨⟨ci,ui⟩,hci⟩:=Option.ne_none_iff_exists'.1 (M.all i)
   obtain ⟨⟨cj,uj⟩,hcj⟩:=Option.ne_none_iff_exists'.1 (M.all j)
   obtain ⟨n,e⟩:=N1 H M.ok M.wf M.tb hi hj hci hcj
   refine ⟨Bf ci cj,0,Ev.call H.f12 H.o12 ⟨n+2,fun m hm=> ?b3⟩,.inr ⟨i,j,ci,ui,cj,uj,rfl,rfl,hi,hj,hci,hcj,rfl,rfl⟩⟩
   case b3=>
    have ha' :=ha m om
    have hb' :=hb m om
    have e' :=e m om
    exact SX (cj4 @a12.eq_1 ha' hb' e')
end Go.Ly
namespace Go.Ly
open Go Go.Am Go.Fs Go.Gn
variable {fns:Go.Am.F} {orc:Orc}
theorem Q1 (H:Has fns orc) {Γ:Tb} {S:Nat→DY} (O:Γ.Ok) {l:AV} {rs:List AV} (hl:iP l rs) (R:Q5 Γ S rs) {i:Nat} (hi:i<Γ.n) {L:Nat} (hL:L<1000000000) (h:aD):
  Ev fns orc (.call 11 [l,.int .i64 (i:Nat),.int .i64 (L:Nat)] .plain h) (.call (.ret (.int .i64 (upF Γ L (i:Int)))) .plain h):=by
 have hO:=O.lt
 have key:∀(k j:Nat) (a:Int),j+k=L→ -1≤a∧a<(Γ.n:Int)→∃n ts,cH ts 1= .int .i64 (upF Γ k a)∧∀m,n≤m→cG (eval fns orc m) 11 none (.loop p11x10100) ⟨[(0,l),(1,.int .i64 a),(2,.int .i64 (L:Nat)),(7,.int .i64 (j:Nat))],[],.plain,h⟩= .ok (.code (.exit 0) ⟨ts,[],.plain,h⟩):=by
  intro k
  induction k with
  |zero=>
   intro j a hj ha
   have d:decide ((j:Int)<((L:Nat):Int))=false:=dF om
   refine ⟨0, ?ts0, ?t0,fun m _=> ?b0⟩
   case b0=>
    rw [aI]
    exact SX d
   case t0=>rfl
  |succ k ih=>
   intro j a hj ha
   have d:decide ((j:Int)<((L:Nat):Int))=true:=dT om
   by_cases c:0≤a
   ·have dc:=dT c
    obtain ⟨b,rfl⟩:∃b:Nat,a=(b:Int):=⟨a.toNat,by omega⟩
    have hb:b<Γ.n:=om
    obtain ⟨vc,vu,vv,c2,u2,vs2,rj,_⟩:=R.get hb
    have ia:=kT hl rj (sz:=7) rfl
    have ar:=O.ar b hb
    obtain ⟨n,ts,t1,e⟩:=ih (j+1) (Γ.D b).ar om om
    have wr:IntKind.wrap .i64 ((j:Int)+1)=((j+1:Nat):Int):=by rw [pE om om];rfl
    have eu:upF Γ (k+1) (b:Int)=upF Γ k (Γ.D b).ar:=by
     have:¬((b:Int)<0):=om
     simp only [upF,this,if_false,Int.toNat_natCast]
    refine ⟨n+1,ts,by rw [eu];exact t1,fun m hm=> ?b1⟩
    case b1=>
     obtain ⟨m,rfl⟩:∃z,m=z+1:=⟨m -1,by omega⟩
     have e' :eval fns orc (m+1) (.code 11 none (.loop p11x10100) _)=_:=e m om
     rw [aI]
     exact SXe (cj4 d dc ia wr) e'
   ·have dc:=dF c
    refine ⟨0, ?ts2, ?t2,fun m _=> ?b2⟩
    case b2=>
     rw [aI]
     exact SX (cj2 d dc)
    case t2=>rw [D5 Γ _ om];rfl
 obtain ⟨n,ts,t1,e⟩:=key L 0 (i:Int) om om
 refine Ev.call H.f11 H.o11 ⟨n,fun m hm=> ?b⟩
 case b=>
  have e' :=e m hm
  simp only [Int.ofNat_zero] at e'
  exact SX (cj3 @a11.eq_1 e' t1)
end Go.Ly
namespace Go.Ly
open Go Go.Am Go.Fs Go.Gn
variable {fns:Go.Am.F} {orc:Orc}
theorem KU {Γ:Tb} (O:Γ.Ok) {c:List Nat} (G:Oh Γ c) {s:List UInt8} {n:Nat} {x:Nat×Nat×Nat} (hx:uW Γ s (c.take n)=some x):
  ∀k,n+k≤c.length→(uW Γ s (c.take (n+k))=some x∧rE Γ s (c.take (n+k))=rE Γ s (c.take n))∨(uW Γ s (c.take (n+k))≠none∧Mi Γ s (c.take n))
 |0,_=> .inl ⟨hx,rfl⟩
 |k+1,hk=>by
  obtain ⟨d,hd⟩:∃d,c[n+k]? =some d:=⟨c[n+k],List.getElem?_eq_getElem om⟩
  have ih:=KU O G hx k om
  obtain ⟨hn,D⟩:=G (n+k) d hd
  have km:=GP O G s n om
  rw [←Nat.add_assoc,vZ hd,CQ]
  have ek:rE Γ s (c.take (n+k)++[d])=_:=AD 0
  rw [ek]
  cases e:pN (aU (Γ.D d).pd) s with
  |none=>exact ih
  |some y=>
   obtain ⟨i,k'⟩:=y
   obtain ⟨x',g1,g2,g3,g4⟩:=NG D e
   refine .inr ⟨by simp, ?_⟩
   rcases ih with ⟨h1,h2⟩|⟨_,h2⟩
   ·rw [h2] at g3 g4
    cases b:xX (iR x') with
    |true=>exact km.2.2 (by have:=g3 b;omega)
    |false=>exact absurd (g4 b) (km.2.1 (by rw [hx];simp))
   ·exact h2
theorem WC {Γ:Tb} {S:Nat→DY} {h:aD} (M:Made Γ S h) {a:Nat} (ha:a<Γ.n) {c r u:List Nat} (hc:(S a).ch=some (c++r,u)) {s:List UInt8} {x:Nat×Nat×Nat} (hx:uW Γ s c=some x):
  uW Γ s (c++r)=some x∨(uW Γ s (c++r)≠none∧Mi Γ s c):=by
 have t:(c++r).take c.length=c:=by simp
 have k:=KU M.ok (JO M ha hc) (s:=s) (n:=c.length) (x:=x) (by rw [t];exact hx) r.length (by simp)
 rw [t,List.take_of_length_le (by simp)] at k
 exact k.imp (fun h=>h.1) id
theorem Oi {Γ:Tb} {s:List UInt8}:∀{c:List Nat} (q:Nat),Mi Γ s c→∃p,(p,s)∈HI Γ c q
 |[],_,⟨_,h,_⟩=>by cases h
 |d::c,q,⟨e,h1,h2⟩=>by
  rw [HI]
  rcases List.mem_cons.1 h1 with rfl|h1
  ·exact ⟨q,List.mem_append_left _ (List.mem_map.2 ⟨s,h2,rfl⟩)⟩
  ·obtain ⟨p,hp⟩:=Oi (q+1) ⟨e,h1,h2⟩
   exact ⟨p,List.mem_append_right _ hp⟩
theorem Ut {Γ:Tb} {S:Nat→DY} {c:List Nat} {vs:List VR} (f:Q9 Γ S c vs) {s:List UInt8} (v:Mi Γ s c):∃i,vJ (fun v:VR=>decide (v.s=s)) vs=some i:=by
 obtain ⟨p,hp⟩:=Oi 0 v
 rw [←f.1] at hp
 obtain ⟨v,hv,e⟩:=List.mem_map.1 hp
 cases hf:vJ (fun v:VR=>decide (v.s=s)) vs with
 |some i=>exact ⟨i,rfl⟩
 |none=>
  have:=CW hf v hv
  simp only [Uv,Prod.mk.injEq] at e
  exact absurd e.2 (of_decide_eq_false this)
theorem QG (H:Has fns orc) {Γ:Tb} {S:Nat→DY} {h:aD} (M:Made Γ S h) {a:Nat} (ha:a<Γ.n) (s:List UInt8):
  ∃h' v,aP h h' ∧Ev fns orc (.call 27 [.ptr Γ.tb 0,.int .i64 (a:Nat),.str s] .plain h) (.call (.ret v) .plain h')∧(v=Ao 0 none∨∃lv q i k,v=Ao lv (some (q,i,k))∧B9 Γ S s (a:Int) lv q i k):=by
 have hO:=M.ok.lt
 rcases O1 H M.ok (IA H M.ok) (fun e k=>by rw [JD k e];exact k) M.tb M.wf M.all (a:=(a:Int)) om s with ⟨v,h',ev,ch,S',ext,T',W',hv⟩|⟨e,h',f,_⟩
 ·obtain rfl:=JD M.all ext
  exact ⟨h',v,OW M.tb T' ch,ev,hv.imp (fun q=>q.1) id⟩
 ·exact f.elim
theorem VK (H:Has fns orc) {Γ:Tb} {S:Nat→DY} {h:aD} (M:Made Γ S h) (x:Int) (s:List UInt8):
  ∃h' v,aP h h' ∧Ev fns orc (.call 10 [.ptr Γ.tb 0,.int .i64 x,.str s] .plain h) (.call (.ret v) .plain h')∧
   ((inT Γ x=false∧v= .tup [.agg z6,.int .i64 1])∨∃a:Nat,x=(a:Int)∧a<Γ.n∧(v=sA Γ S none∨∃(lv q o i k w:Nat) (c u:List Nat),upF Γ lv (a:Int)=(w:Int)∧w<Γ.n∧(S w).ch=some (c,u)∧uW Γ s c=some (q,i,k)∧c[q]? =some o∧v=sA Γ S (some (lv,q,o,i,k)))):=by
 have HB:Has fns orc:=H
 obtain ⟨hA,hAe⟩:∃x,x=h.push (.cells z6):=⟨_,rfl⟩
 have gA:aP h hA:=by rw [hAe];exact gw2
 have nA:hA.next=h.next+1:=by rw [hAe];simp
 have a6:cont hA h.next=some z6:=by rw [hAe];exact aR om om
 have MA:=M.grow gA
 have fin:∀{v0:List AV} {e:Int} {h1:aD},v0.length=6→v0.all AV.bX=true→aP hA h1→Ev fns orc (.call 25 [.ptr Γ.tb 0,.int .i64 x,.str s,.fn 27 [.ptr Γ.tb 0] []] .plain hA) (.call (.ret (.tup [.agg v0,.int .i64 e])) .plain h1)→
   ∃h',aP h h' ∧Ev fns orc (.call 10 [.ptr Γ.tb 0,.int .i64 x,.str s] .plain h) (.call (.ret (.tup [.agg v0,.int .i64 e])) .plain h'):=by
  rintro v0 e h1 hl hcl g1 ⟨n1,e1⟩
  have nn1:=g1.next
  have x6:=(aF g1 (aO a6)).trans a6
  obtain ⟨hC,hCe⟩:∃x,x=h1.set h.next (.cells v0):=⟨_,rfl⟩
  have c6:cont hC h.next=some v0:=by rw [hCe];exact aG om
  have st:kG h1 6 (.ptr h.next 0) (.agg v0)= .ok hC:=by
   rw [hCe]
   simp only [iS,x6,iO,AV.cells,List.length_cons,List.length_nil,hl,hcl]
   match v0,hl with
   |[_,_,_,_,_,_],_=>rfl
  have p6:takeN 6 v0=some v0:=by rw [←hl];exact aW v0
  refine ⟨hC,by rw [hCe];exact (gA.trans g1).set om om _,Ev.call H.f10 H.o10 ⟨n1+2,fun m hm=> ?b⟩⟩
  case b=>
   have e1' :=e1 m om
   exact SS (cj6 @a10.eq_1 (Eq.symm hAe) e1' st c6 p6)
 cases q:inT Γ x with
 |false=>
  obtain ⟨h1,g1,e1⟩:=Gt H MA q (.str s) (.fn 27 [.ptr Γ.tb 0] []) rfl rfl
  obtain ⟨h',g,ev⟩:=fin (v0:=z6) (e:=1) (h1:=h1) rfl rfl g1 ⟨4,e1⟩
  exact ⟨h',_,g,ev,.inl ⟨rfl,rfl⟩⟩
 |true=>
  simp only [inT,Bool.and_eq_true,decide_eq_true_eq] at q
  obtain ⟨a,rfl⟩:∃a:Nat,x=(a:Int):=⟨x.toNat,by omega⟩
  have ha:a<Γ.n:=om
  obtain ⟨h1,v1,g1,ev1,hv1⟩:=QG HB (MA.grow (.push hA (.cells z6))) ha s
  obtain ⟨r,hr,R⟩:∃r,v1=KZ r∧∀lv q i k,r=some (lv,q,i,k)→∃(w:Nat) (c u:List Nat),upF Γ lv (a:Int)=(w:Int)∧w<Γ.n∧(S w).ch=some (c,u)∧uW Γ s c=some (q,i,k):=by
   rcases hv1 with rfl|⟨lv,q,i,k,rfl,hf⟩
   ·exact ⟨none,rfl,fun _ _ _ _ h=>by cases h⟩
   ·exact ⟨some (lv,q,i,k),rfl,fun _ _ _ _ h=>by cases h;exact hf.1⟩
  subst hr
  obtain ⟨h2,v,g2,ev2,hv⟩:=Ig H MA ha s ⟨h1,g1,ev1⟩ R
  have hv' :v=sA Γ S none∨∃(lv q o i k w:Nat) (c u:List Nat),upF Γ lv (a:Int)=(w:Int)∧w<Γ.n∧(S w).ch=some (c,u)∧uW Γ s c=some (q,i,k)∧c[q]? =some o∧v=sA Γ S (some (lv,q,o,i,k)):=
   hv.imp (fun h=>h.2) (fun ⟨lv,q,o,i,k,w,c,u,_,h⟩=>⟨lv,q,o,i,k,w,c,u,h⟩)
  have both:∃v0 e,v= .tup [.agg v0,.int .i64 e]∧v0.length=6∧v0.all AV.bX=true:=by
   rcases hv' with rfl|⟨lv,q,o,i,k,w,c,u,_,_,_,_,_,rfl⟩
   ·exact ⟨_,_,rfl,rfl,rfl⟩
   ·exact ⟨_,_,rfl,rfl,rfl⟩
  obtain ⟨v0,e,rfl,hl,hcl⟩:=both
  obtain ⟨h',g,ev⟩:=fin hl hcl g2 ev2
  exact ⟨h',_,g,ev,.inr ⟨a,rfl,ha,hv'⟩⟩
end Go.Ly
namespace Go.Ly
open Go Go.Am Go.Fs Go.Gn
variable {fns:Go.Am.F} {orc:Orc}
theorem Rf (H:Has fns orc) {v:VR} {s:List UInt8} {b:Nat} {h:aD} (hb:cont h b=some [.str s]):
  ∃h',aP h h' ∧Ev fns orc (.call 31 [vA v,.ptr b 0] .plain h) (.call (.ret (.bool (decide (v.s=s)))) .plain h'):=by
 obtain ⟨hA,hAe⟩:∃x,x=h.push (.cells [.str v.s,.int .i64 (v.q:Nat),.int .i64 (v.part:Nat),.int .i64 (tLv v.t),.int .i64 (tDs v.t)]):=⟨_,rfl⟩
 have gA:aP h hA:=by rw [hAe];exact gw2
 have a2:cont hA h.next=some [.str v.s,.int .i64 (v.q:Nat),.int .i64 (v.part:Nat),.int .i64 (tLv v.t),.int .i64 (tDs v.t)]:=by rw [hAe];exact aR om om
 have a1:=(aF gA (aO hb)).trans hb
 refine ⟨hA,gA,Ev.call H.f31 H.o31 ⟨0,fun m _=> ?b⟩⟩
 case b=>
  have e:jI v.s s=decide (v.s=s):=by rw [jV,Bool.eq_iff_iff];simp
  exact SX (cj6 @a31.eq_1 @vA.eq_1 (Eq.symm hAe) a2 a1 e)
theorem Uu (H:Has fns orc) {sv:AV} {vs:List VR} (hv:iP sv (vs.map vA)) (hn:vs.length<1000000000) {s:List UInt8} {b:Nat} {h:aD} (hb:cont h b=some [.str s]):
  ∃h',aP h h' ∧Ev fns orc (.call 30 [sv,.fn 31 [] [.ptr b 0]] .plain h) (.call (.ret (A8 (vJ (fun v:VR=>decide (v.s=s)) vs))) .plain h'):=by
 have key:∀k i h,i+k=vs.length→cont h b=some [.str s]→∃h' n,aP h h' ∧∀m,n≤m→(cG (eval fns orc m) 30 none (.loop p30x10100) ⟨[(0,sv),(1,.fn 31 [] [.ptr b 0]),(7,.int .i64 (vs.length:Nat)),(8,.int .i64 (i:Nat))],[],.plain,h⟩=
   match vJ (fun v:VR=>decide (v.s=s)) (vs.drop i) with
   |some k=> .ok (.code .ret ⟨[(4,.int .i64 ((i+k:Nat):Int))],[],.plain,h'⟩)
   |none=> .ok (.code (.exit 0) ⟨[(0,sv),(1,.fn 31 [] [.ptr b 0]),(7,.int .i64 (vs.length:Nat)),(8,.int .i64 (vs.length:Nat)),(9,.bool false)],[],.plain,h'⟩)):=by
  intro k
  induction k with
  |zero=>
   intro i h hi hb
   refine ⟨h,0,.refl _,fun m _=> ?_⟩
   have d:decide ((i:Int)<((vs.length:Nat):Int))=false:=dF om
   rw [show i=vs.length by omega] at d⊢
   rw [List.drop_length]
   exact SX (cj4 d @aI @vJ.eq_1 @vJ.eq_2)
  |succ k ih=>
   intro i h hi hb
   have hlt:i<vs.length:=om
   obtain ⟨h1,g1,⟨n1,e1⟩⟩:=Rf H (v:=vs[i]) hb
   obtain ⟨h',n,g,ih⟩:=ih (i+1) h1 om ((aF g1 (aO hb)).trans hb)
   have d:decide ((i:Int)<((vs.length:Nat):Int))=true:=dT om
   have hia:=kT hv (i:=i) (sz:=5) (c:=[.str vs[i].s,.int .i64 (vs[i].q:Nat),.int .i64 (vs[i].part:Nat),.int .i64 (tLv vs[i].t),.int .i64 (tDs vs[i].t)]) (by simp [hlt,vA]) rfl
   simp only [vA] at e1
   cases c:decide (vs[i].s=s) with
   |true=>
    refine ⟨h1,n1,g1,fun m hm=> ?_⟩
    rw [List.drop_eq_getElem_cons hlt,vJ,aI]
    have e1' :=e1 m om
    rw [c] at e1' ⊢
    exact SX (cj3 d hia e1')
   |false=>
    refine ⟨h',n+n1+1,g1.trans g,fun m hm=> ?_⟩
    obtain ⟨m,rfl⟩:∃j,m=j+1:=⟨m -1,by omega⟩
    have ih' :=ih m om
    rw [List.drop_eq_getElem_cons hlt,vJ,aI]
    have e1' :=e1 (m+1) om
    have w:IntKind.wrap .i64 ((i:Int)+1)=((i+1:Nat):Int):=by rw [pE om om];rfl
    rw [c] at e1' ⊢
    simp -implicitDefEqProofs (disch:=(first|omega|(simp only [aD.aJ,aD.aL];try omega)|skip)) only [d,hia,e1',w,fE,fG,dV,cT,dU,cS,fF,dR,gV,eQ,aM,dJ,iJ,opA,qS,kE,qT,pL,rJ,sB,dG,gU,fP,qM,mC,iZ,gJ,mK,dM,eZ,Nat.beq,lS,mH,eE,vl,rH,eY,eW,dW,fK,fH,fI,bY,iG,iD,cV,fL,fJ,bZ,iE,cU,cX,dA,cW,fM,dL,eT,eU,bP,iB,gZ,cK,eX,eV,bQ,iA,cJ,cP,cQ,cM,eS,dO,aY,dH,aZ,fB,bV,bR,bW,bT,dP,fD,kE,eN,kL,aT,aV,fO,gX,List.drop_zero,List.drop_succ_cons,rS,oEq,eqA,pR,ki,eP,eH,oneOf,iC,jH,mU,called,List.append_eq,List.nil_append,List.cons_append,List.append_assoc,Nat.zero_add,Nat.add_zero,kN,lK,aQ,aE,aD.aJ,aD.aL,List.length_cons,List.length_nil,Bool.and_true,Bool.true_and,List.all_cons,List.all_nil,bJ,cF,bK,bI,fA,Nat.reduceAdd,Nat.reduceEqDiff,Nat.reduceBEq,ite_true,ite_false,if_true,if_false,iQ,kH,jE,iK,iN,dK,iI,decide_eq_true_eq,decide_true,decide_false,qV,intArith,Int.ofNat_zero,reduceCtorEq,Bool.not_true,Bool.not_false,Bool.false_eq_true,Int.reduceEq,Int.reduceAdd,Int.zero_add,Int.add_zero,lZ,dQ,cR,oG,oI,oJ,oK,kR,iM,qE,iL,jA,qD,iW,jO,iY,pH,fU,eJ,eK,eL,fS,kK,lT,pK,mJ,jU,iV,List.reverse_cons,List.reverse_nil,oS,dD,dZ,dC,eD,bM,jB,jN,kZ,eO,qO,oMx,lE,jT,vF,lD,jN,kZ,kE,eN,evO,mZ,jL,mX,lH,lQ,oF,oE,gH,fX,dY,iU,uF,dD,dZ,dC,eD,bM,vG,tP,bound,vl,eqA,jC,Int.reduceLE,Int.reduceLT,kJ,jM,iS,aG,aK,dB,aR,kO,iO,jP,kM,lU,takeN,cI,jJ,jQ,iX,eM,gS,fQ,jR,kU,gN,KF,KG]
    show cG (eval fns orc m) 30 none (.loop p30x10100) _=_
    rw [ih']
    cases vJ (fun v:VR=>decide (v.s=s)) (vs.drop (i+1)) with
    |none=>rfl
    |some k=>simp only [Option.map];rw [show i+1+k=i+(k+1) by omega]
 obtain ⟨h',n,g,e⟩:=key vs.length 0 h om hb
 refine ⟨h',g,Ev.call H.f30 H.o30 ⟨n,fun m hm=> ?bIx⟩⟩
 case bIx=>
  have e1:=e m hm
  simp only [List.drop_zero,Int.ofNat_zero,Nat.zero_add] at e1
  have q:∀hp,nJ hp .sl sv= .ok vs.length:=fun hp=>by rw [bO hv hp];simp
  cases c:vJ (fun v:VR=>decide (v.s=s)) vs with
  |none=>
   rw [c] at e1
   exact SX (cj5 @a30.eq_1 q e1 @A8.eq_1 @A8.eq_2)
  |some k=>
   rw [c] at e1
   exact SX (cj5 @a30.eq_1 q e1 @A8.eq_1 @A8.eq_2)
theorem Mq (H:Has fns orc) {Γ:Tb} {S:Nat→DY} {h:aD} (M:Made Γ S h) {a:Nat} (ha:a<Γ.n) {c u:List Nat} (hc:(S a).ch=some (c,u)) (s:List UInt8):
  ∃h' r e,aP h h' ∧Ev fns orc (.call 13 [.ptr Γ.tb 0,.int .i64 (a:Nat),.str s] .plain h) (.call (.ret (.tup [.agg r,.int .i64 e])) .plain h')∧r.length=5∧(∀x∈r,x.bX=true)∧(Mi Γ s c→e=0):=by
 have HB:Has fns orc:=H
 obtain ⟨hA,hAe⟩:∃x,x=(h.push (.cells [.str s])).push (.cells [.str [],.int .i64 0,.int .i64 0,.int .i64 0,.int .i64 0]):=⟨_,rfl⟩
 have gA:aP h hA:=by rw [hAe];exact gw2
 have nA:hA.next=h.next+2:=by rw [hAe];simp
 have a5:cont hA h.next=some [.str s]:=by rw [hAe];exact ctp
 have a6:cont hA (h.next+1)=some [.str [],.int .i64 0,.int .i64 0,.int .i64 0,.int .i64 0]:=by rw [hAe];exact ctp
 have MA:=M.grow gA
 have hh:=G4 HB MA (a:Int)
 have q:inT Γ (a:Int)=true:=by simp [inT];omega
 rw [q] at hh
 obtain ⟨tk,v2,vL,tT,sL,VV⟩:=MA.vt
 have hal:a<vL.length:=by rw [VV.1];exact ha
 obtain ⟨vs,c',u',hs,hc',fr⟩:=VV.2 a vL[a] (List.getElem?_eq_getElem hal)
 rw [hc] at hc'
 cases hc'
 have i1:=oX sL (i:=a) (List.getElem?_eq_getElem hal) (uJ hs)
 have kn:=yW hs
 have fl:=OY M.ok M.wf ha hc fr
 obtain ⟨hB,gB,⟨n1,e1⟩⟩:=Uu H hs om a5
 have tB:=(aF gB (aO tT)).trans tT
 have b6:=(aF gB (aO a6)).trans a6
 have nB:=gB.next
 cases cf:vJ (fun v:VR=>decide (v.s=s)) vs with
 |none=>
  rw [cf] at e1
  obtain ⟨hC,hCe⟩:∃x,x=hB.set (h.next+1) (.cells [.str [],.int .i64 0,.int .i64 0,.int .i64 0,.int .i64 0]):=⟨_,rfl⟩
  have c6:cont hC (h.next+1)=some [.str [],.int .i64 0,.int .i64 0,.int .i64 0,.int .i64 0]:=by rw [hCe];exact aG om
  refine ⟨hC,[.str [],.int .i64 0,.int .i64 0,.int .i64 0,.int .i64 0],5,by rw [hCe];exact (gA.trans gB).set om om _,Ev.call H.f13 H.o13 ⟨n1+2,fun m hm=> ?b1⟩,rfl,List.all_eq_true.1 rfl,fun v=> ?nv⟩
  case nv=>
   obtain ⟨i,hi⟩:=Ut fr v
   rw [cf] at hi
   cases hi
  case b1=>
   have hh' :=hh m om
   have e1' :=e1 m om
   simp only [A8] at e1'
   exact SX (tR @a13.eq_1 (Eq.symm hAe) hh' tT i1 kn e1' b6 (Eq.symm hCe) c6)
 |some i=>
  rw [cf] at e1
  have hil:=O4 cf
  have i5:=kT hs (i:=i) (sz:=5) (c:=[AV.str vs[i].s,.int .i64 (vs[i].q:Nat),.int .i64 (vs[i].part:Nat),.int .i64 (tLv vs[i].t),.int .i64 (tDs vs[i].t)]) (by simp [hil,vA]) rfl
  obtain ⟨hC,hCe⟩:∃x,x=hB.set (h.next+1) (.cells [AV.str vs[i].s,.int .i64 (vs[i].q:Nat),.int .i64 (vs[i].part:Nat),.int .i64 (tLv vs[i].t),.int .i64 (tDs vs[i].t)]):=⟨_,rfl⟩
  have c6:cont hC (h.next+1)=some [AV.str vs[i].s,.int .i64 (vs[i].q:Nat),.int .i64 (vs[i].part:Nat),.int .i64 (tLv vs[i].t),.int .i64 (tDs vs[i].t)]:=by rw [hCe];exact aG om
  have d:decide (((i:Nat):Int)<0)=false:=dF om
  refine ⟨hC,[AV.str vs[i].s,.int .i64 (vs[i].q:Nat),.int .i64 (vs[i].part:Nat),.int .i64 (tLv vs[i].t),.int .i64 (tDs vs[i].t)],0,by rw [hCe];exact (gA.trans gB).set om om _,Ev.call H.f13 H.o13 ⟨n1+2,fun m hm=> ?b2⟩, ?l2, ?c2,fun _=>rfl⟩
  case b2=>
   have hh' :=hh m om
   have e1' :=e1 m om
   simp only [A8] at e1'
   exact SX (wK @a13.eq_1 (Eq.symm hAe) hh' tT tB i1 kn e1' d i5 b6 (Eq.symm hCe) c6)
  case l2=>rfl
  case c2=>exact List.all_eq_true.1 rfl
end Go.Ly
namespace Go.Ly
open Go Go.Am Go.Fs Go.Gn
variable {fns:Go.Am.F} {orc:Orc}
def U7:AC:=p4x11111
def Sf:AC:=p4x111111
def U6:AC:=p4x11111111
theorem OF:a4.body= .seq p4x0 (.seq p4x10 (.seq p4x110 (.seq p4x1110 (.seq p4x11110 U7)))):=rfl
theorem OG:U7= .seq p4x111110 Sf:=rfl
theorem Ek:Sf= .seq p4x1111110 (.seq p4x11111110 U6):=rfl
theorem Se:a4.results=[.tmp 8]:=rfl
theorem Y5 (a b c d e f:Int):Ai [.int,.int,.int,.int,.int,.int] (.agg [.int .i64 a,.int .i64 b,.int .i64 c,.int .i64 d,.int .i64 e,.int .i64 f]) (.agg [.int .i64 a,.int .i64 b,.int .i64 c,.int .i64 d,.int .i64 e,.int .i64 f])= .ok true:=by
 have k:Nat.beq (ki .i64) (ki .i64)=true:=rfl
 have i:∀x:Int,ieq x x=true:=fun x=>by rw [iQ];exact dT rfl
 simp only [Ai,lW,pR,k,i,aM,List.length_cons,List.length_nil,Nat.beq_refl,Bool.and_self]
abbrev fZ (Γ:Tb) (S:Nat→DY) (q o i k:Nat):List AV:=[.int .i64 0,.int .i64 (q:Nat),.int .i64 (o:Nat),.int .i64 (i:Nat),.int .i64 (k:Nat),.int .i64 (AZ Γ S o i k)]
def FdR (Γ:Tb) (S:Nat→DY) (x:Int) (s:List UInt8) (v:AV):Prop:=(inT Γ x=false∧v= .tup [.agg z6,.int .i64 1])∨∃a:Nat,x=(a:Int)∧a<Γ.n∧(v=sA Γ S none∨∃(lv q o i k w:Nat) (c u:List Nat),upF Γ lv (a:Int)=(w:Int)∧w<Γ.n∧(S w).ch=some (c,u)∧uW Γ s c=some (q,i,k)∧c[q]? =some o∧v=sA Γ S (some (lv,q,o,i,k)))
theorem WE (H:Has fns orc) {Γ:Tb} {S:Nat→DY} {h:aD} (M:Made Γ S h) {l:AV} {rs:List AV} (hl:iP l rs) (R:Q5 Γ S rs) {x:Int} {b:AV} {s:List UInt8} {v0:List AV} {e:Int} (F:FdR Γ S x s (.tup [.agg v0,.int .i64 e])) {bx:Nat} (hb:cont h bx=some v0):
  ∃h' ts,aP h h' ∧(cH ts 1= .int .i64 x∧cH ts 2=b∧cH ts 3= .str s∧cH ts 9= .ptr Γ.tb 0)∧∃n,∀m,n≤m→cG (eval fns orc m) 4 none U7 ⟨[(1,.int .i64 x),(2,b),(3,.str s),(9,.ptr Γ.tb 0),(10,l),(11,.ptr bx 0),(12,.int .i64 e)],[],.plain,h⟩=cG (eval fns orc m) 4 none Sf ⟨ts,[],.plain,h'⟩:=by
 have HB:Has fns orc:=H
 have hO:=M.ok.lt
 have no:decide (e=0)=false→∃h' ts,aP h h' ∧(cH ts 1= .int .i64 x∧cH ts 2=b∧cH ts 3= .str s∧cH ts 9= .ptr Γ.tb 0)∧∃n,∀m,n≤m→cG (eval fns orc m) 4 none U7 ⟨[(1,.int .i64 x),(2,b),(3,.str s),(9,.ptr Γ.tb 0),(10,l),(11,.ptr bx 0),(12,.int .i64 e)],[],.plain,h⟩=cG (eval fns orc m) 4 none Sf ⟨ts,[],.plain,h'⟩:=by
  intro d
  refine ⟨h,[(1,.int .i64 x),(2,b),(3,.str s),(9,.ptr Γ.tb 0),(10,l),(11,.ptr bx 0),(38,.bool false)],.refl _,⟨rfl,rfl,rfl,rfl⟩,0,fun m _=> ?b0⟩
  case b0=>
   exact SX (cj2 @OG d)
 rcases F with ⟨_,ev⟩|⟨a,rfl,ha,ev|⟨lv,q,o,i,k,w,c,u,r1,r2,r3,r4,r5,ev⟩⟩
 ·injection ev with ev
  injection ev with _ ev
  injection ev with ev _
  injection ev with _ ev
  subst ev
  exact no rfl
 ·simp only [sA] at ev
  injection ev with ev
  injection ev with _ ev
  injection ev with ev _
  injection ev with _ ev
  subst ev
  exact no rfl
 ·simp only [sA] at ev
  injection ev with ev
  injection ev with e1 ev
  injection ev with ev _
  injection ev with _ ev
  injection e1 with e1
  subst ev e1
  have hlv:=BD M.ok lv (a:=(a:Int)) om om
  obtain ⟨n1,e1⟩:=Q1 HB M.ok hl R ha (L:=lv) om h
  rw [r1] at e1
  obtain ⟨h2,v,g2,⟨n2,e2⟩,hv⟩:=IH H M (w:Int) s
  have hv' :v= .tup [.agg (fZ Γ S q o i k),.int .i64 0]:=by
   rcases hv with ⟨hw,_⟩|⟨w',c',u',hw,_,hc,rfl⟩
   ·have:inT Γ (w:Int)=true:=by simp [inT];omega
    rw [this] at hw
    cases hw
   ·obtain rfl:w=w' :=om
    rw [r3] at hc
    cases hc
    simp only [Az,r4,Option.map,List.getD_eq_getElem?_getD,r5,Option.getD_some,sA]
    rfl
  subst hv'
  have nn2:=g2.next
  obtain ⟨hA,hAe⟩:∃x,x=(h2.push (.cells z6)).set h2.next (.cells (fZ Γ S q o i k)):=⟨_,rfl⟩
  have nA:hA.next=h2.next+1:=by rw [hAe];simp
  have gA:aP h2 hA:=by rw [hAe];exact gw2
  have a14:cont hA h2.next=some (fZ Γ S q o i k):=by rw [hAe];exact aG (by simp)
  have lb:=aO hb
  have a11:=(aF gA om).trans ((aF g2 lb).trans hb)
  obtain ⟨hB,hBe⟩:∃x,x=hA.set h2.next (.cells (fC Γ S lv q o i k)):=⟨_,rfl⟩
  have gB:aP h2 hB:=by rw [hBe];exact gA.set om om _
  have b14:cont hB h2.next=some (fC Γ S lv q o i k):=by rw [hBe];exact aG om
  have b11:cont hB bx=some (fC Γ S lv q o i k):=by rw [hBe,aK om om];exact a11
  obtain ⟨vc,vu,vv,c',u',vs2,ri,hc,hvc,hvu,_⟩:=R.get r2
  rw [r3] at hc
  cases hc
  have hql:q<c.length:=(List.getElem?_eq_some_iff.1 r5).1
  have iw:=kT hl ri (sz:=7) rfl
  have lc:∀hp,nJ hp .sl vc= .ok c.length:=fun hp=>by rw [bO hvc hp,mQ]
  have iq:=rN hvc r5
  have dl:decide (((c.length:Nat):Int)≤(q:Int))=false:=dF om
  have kv:=yG hvc
  have d0:decide ((0:Int)=0)=true:=rfl
  have do' :decide (((o:Nat):Int)=((o:Nat):Int))=true:=dT rfl
  refine ⟨hB, ?ts,g2.trans gB, ?tt,n1+n2+2,fun m hm=> ?b1⟩
  case b1=>
   have e1' :=e1 m om
   have e2' :=e2 m om
   exact SX (dI @OG d0 hb e1' e2' (Eq.symm hAe) a14 a11 (Eq.symm hBe) b14 b11 iw lc dl iq do' (cj2 kv @Y5))
  case tt=>exact ⟨rfl,rfl,rfl,rfl⟩
end Go.Ly
namespace Go.Ly
open Go Go.Am Go.Fs Go.Gn
variable {fns:Go.Am.F} {orc:Orc}
theorem Kt (Γ:Tb) (S:Nat→DY) (r:Option (Nat×Nat×Nat×Nat×Nat)):∃v0 e,sA Γ S r= .tup [.agg v0,.int .i64 e]∧v0.length=6∧v0.all AV.bX=true∧(r≠none→e=0):=by
 cases r with
 |none=>exact ⟨_,_,rfl,rfl,rfl,fun h=>absurd rfl h⟩
 |some y=>exact ⟨_,_,rfl,rfl,rfl,fun _=>rfl⟩
theorem WD (H:Has fns orc) (X:AN orc) {Γ:Tb} {S:Nat→DY} {h:aD} (M:Made Γ S h) {a b:Int} {s:List UInt8} {ts:fN} (t1:cH ts 1= .int .i64 a) (t2:cH ts 2= .int .i64 b) (t3:cH ts 3= .str s) (t9:cH ts 9= .ptr Γ.tb 0):
  ∃h' n,∀m,n≤m→cG (eval fns orc m) 4 none Sf ⟨ts,[],.plain,h⟩= .ok (.code .ret ⟨[(8,.bool true)],[],.plain,h'⟩):=by
 have HB:Has fns orc:=H
 obtain ⟨g,s1,s2⟩:=id X
 obtain ⟨r,z,⟨n1,e1⟩,cf⟩:=Vu HB M a b
 rcases cf with ⟨_,rfl,rfl⟩|⟨i,j,ci,ui,cj,uj,rfl,rfl,hi,hj,hci,hcj,rfl,rfl⟩
 ·have os:=vT (fns:=fns) s1 s2 h
  refine ⟨h,n1+2,fun m hm=> ?b1⟩
  case b1=>
   have os' :=os m om
   have e1' :=e1 m om
   exact SX (cj7 @Ek t1 t2 t3 t9 e1' os')
 cases bg:Bf ci cj with
 |false=>
  rw [bg] at e1
  have os:=vT (fns:=fns) s1 s2 h
  refine ⟨h,n1+2,fun m hm=> ?b2⟩
  case b2=>
   have os' :=os m om
   have e1' :=e1 m om
   exact SX (cj7 @Ek t1 t2 t3 t9 e1' os')
 |true=>
 rw [bg] at e1
 obtain ⟨_,p2⟩:=EG.1 bg
 obtain ⟨rr,rfl⟩:∃r,ci=cj++r:=⟨ci.drop cj.length,by
  have:=List.take_append_drop cj.length ci
  rw [p2] at this
  exact this.symm⟩
 obtain ⟨h1,g1,⟨n2,e2⟩⟩:=Ft H M hj hcj s
 obtain ⟨v1,z1,sv1,l1,c1,y1⟩:=Kt Γ S (Az Γ s cj)
 rw [sv1] at e2
 have st1:=mW h1 (sz:=6) (z:=z6) (c:=v1) rfl l1 c1
 obtain ⟨hP,hPe⟩:∃x,x=(h1.push (.cells z6)).set h1.next (.cells v1):=⟨_,rfl⟩
 rw [←hPe] at st1
 have gP:aP h1 hP:=by rw [hPe];exact gw2
 have P17:cont hP h1.next=some v1:=by rw [hPe];exact aG (by simp)
 obtain ⟨h2,g2,⟨n3,e3⟩⟩:=Ft H ((M.grow g1).grow gP) hi hci s
 obtain ⟨v2,z2,sv2,l2,c2,y2⟩:=Kt Γ S (Az Γ s (cj++rr))
 rw [sv2] at e3
 have st2:=mW h2 (sz:=6) (z:=z6) (c:=v2) rfl l2 c2
 obtain ⟨hQ,hQe⟩:∃x,x=(h2.push (.cells z6)).set h2.next (.cells v2):=⟨_,rfl⟩
 rw [←hQe] at st2
 have gQ:aP h2 hQ:=by rw [hQe];exact gw2
 have Q19:cont hQ h2.next=some v2:=by rw [hQe];exact aG (by simp)
 have Q17:=(aF (g2.trans gQ) (aO P17)).trans P17
 cases hm:uW Γ s cj with
 |none=>
  have:sA Γ S (Az Γ s cj)= .tup [.agg z6,.int .i64 5]:=by simp only [Az,hm];rfl
  rw [this] at sv1
  injection sv1 with sv1
  injection sv1 with _ sv1
  injection sv1 with sv1 _
  injection sv1 with _ sv1
  subst sv1
  have os:=vT (fns:=fns) s1 s2 hQ
  refine ⟨hQ,n1+n2+n3+2,fun m hm=> ?b3⟩
  case b3=>
   have os' :=os m om
   have e1' :=e1 m om
   have e2' :=e2 m om
   have e3' :=e3 m om
   exact SS (qC @Ek @U6.eq_1 t1 t2 t3 t9 e1' e2' st1 e3' st2 os')
 |some y=>
  have ne1:Az Γ s cj≠none:=by simp [Az,hm]
  have q1:=y1 ne1
  subst q1
  have nl:=WC M hi hci (s:=s) hm
  have ne2:Az Γ s (cj++rr)≠none:=by
   rcases nl with q|⟨q,_⟩
   ·simp [Az,q]
   ·cases w:uW Γ s (cj++rr) with
    |none=>exact absurd w q
    |some _=>simp [Az,w]
  have q2:=y2 ne2
  subst q2
  obtain ⟨h3,r3,z3,g3,⟨n4,e4⟩,l3,c3,vz⟩:=Mq H ((((M.grow g1).grow gP).grow g2).grow gQ) hj hcj s
  have st3:=mW h3 (sz:=5) (z:=[.str [],.int .i64 0,.int .i64 0,.int .i64 0,.int .i64 0]) (c:=r3) rfl l3 (List.all_eq_true.2 c3)
  obtain ⟨hR,hRe⟩:∃x,x=(h3.push (.cells [.str [],.int .i64 0,.int .i64 0,.int .i64 0,.int .i64 0])).set h3.next (.cells r3):=⟨_,rfl⟩
  rw [←hRe] at st3
  have gR:aP h3 hR:=by rw [hRe];exact gw2
  have R17:=(aF (g3.trans gR) (aO Q17)).trans Q17
  have R19:=(aF (g3.trans gR) (aO Q19)).trans Q19
  have os:=vT (fns:=fns) s1 s2 hR
  have d0:decide ((0:Int)=0)=true:=rfl
  cases dz:decide (z3=0) with
  |true=>
   refine ⟨hR,n1+n2+n3+n4+2,fun m hm=> ?b4⟩
   case b4=>
    have os' :=os m om
    have e1' :=e1 m om
    have e2' :=e2 m om
    have e3' :=e3 m om
    have e4' :=e4 m om
    exact SS (Bd @Ek @U6.eq_1 t1 t2 t3 t9 e1' e2' st1 e3' st2 e4' st3 os' d0 dz)
  |false=>
   have same:v2=v1:=by
    rcases nl with q|⟨_,q⟩
    ·obtain ⟨p,i',k'⟩:=y
     obtain ⟨o,x,r5,_⟩:=M9 hm
     have hp:p<cj.length:=(List.getElem?_eq_some_iff.1 r5).1
     have er:Az Γ s (cj++rr)=Az Γ s cj:=by
      simp only [Az,q,hm,Option.map,List.getD_eq_getElem?_getD]
      rw [List.getElem?_append_left hp]
     rw [er,sv1] at sv2
     injection sv2 with sv2
     injection sv2 with sv2 _
     injection sv2 with sv2
     exact sv2.symm
    ·have:=vz q
     rw [this] at dz
     cases dz
   subst same
   obtain ⟨x,hx⟩:=Option.ne_none_iff_exists'.1 ne1
   obtain ⟨x0,x1,x2,x3,x4⟩:=x
   rw [hx] at sv1
   simp only [sA] at sv1
   injection sv1 with sv1
   injection sv1 with sv1 _
   injection sv1 with sv1
   subst sv1
   refine ⟨hR,n1+n2+n3+n4+2,fun m hm=> ?b5⟩
   case b5=>
    have os' :=os m om
    have e1' :=e1 m om
    have e2' :=e2 m om
    have e3' :=e3 m om
    have e4' :=e4 m om
    exact SS (dI @Ek @U6.eq_1 t1 t2 t3 t9 e1' e2' st1 e3' st2 e4' st3 os' d0 dz (cj3 R17 R19 @Y5))
theorem Sj (H:Has fns orc) (N:vX fns orc) (X:AN orc) {d:pD} {cs:List AV} (hv:RV (.desc d) (.agg cs)) (hs:wP (.desc d)) (hn:(Part.desc d).nodes<5000000) (a b:Int) (s:List UInt8) (h:aD):
  ∃h',Ev fns orc (.call 4 [.agg cs,.int .i64 a,.int .i64 b,.str s] .plain h) (.call (.ret (.bool true)) .plain h'):=by
 have HB:Has fns orc:=H
 have hcl:=kW hv
 have p7:takeN 7 cs=some cs:=by rw [←hcl];exact aW cs
 obtain ⟨g,s1,s2⟩:=id X
 obtain ⟨h1,h1e⟩:∃x,x=h.push (.cells cs):=⟨_,rfl⟩
 have x1:cont h1 h.next=some cs:=by rw [h1e];exact aR om om
 obtain ⟨h2,g2,⟨n2,e2⟩|⟨Γ,S,⟨n2,e2⟩,M,_⟩⟩:=ON HB N hv hs hn h1
 ·have os:=vT (fns:=fns) s1 s2 h2
  refine ⟨h2,Ev.call H.f4 H.o4 ⟨n2+2,fun m hm=> ?b1⟩⟩
  case b1=>
   have os' :=os m om
   have e2' :=e2 m om
   exact SX (cj8 @OF @Se hcl p7 (Eq.symm h1e) x1 e2' os')
 ·obtain ⟨h3,l,rs,g3,⟨n3,e3⟩,hl,hlen,zV⟩:=LO HB M
  have R:Q5 Γ S rs:=⟨hlen,zV⟩
  have M3:=M.grow g3
  obtain ⟨h4,v,g4,⟨n4,e4⟩,hF⟩:=VK H M3 a s
  have both:∃v0 e,v= .tup [.agg v0,.int .i64 e]∧v0.length=6∧v0.all AV.bX=true:=by
   rcases hF with ⟨_,rfl⟩|⟨a',_,_,rfl|⟨lv,q,o,i,k,w,c,u,_,_,_,_,_,rfl⟩⟩
   ·exact ⟨_,_,rfl,rfl,rfl⟩
   ·exact ⟨_,_,rfl,rfl,rfl⟩
   ·exact ⟨_,_,rfl,rfl,rfl⟩
  obtain ⟨v0,e,rfl,hl0,hc0⟩:=both
  have st:=mW h4 (sz:=6) (z:=z6) (c:=v0) rfl hl0 hc0
  obtain ⟨h5,h5e⟩:∃x,x=(h4.push (.cells z6)).set h4.next (.cells v0):=⟨_,rfl⟩
  rw [←h5e] at st
  have g5:aP h4 h5:=by rw [h5e];exact gw2
  have x11:cont h5 h4.next=some v0:=by rw [h5e];exact aG (by simp)
  have M5:=(M3.grow g4).grow g5
  obtain ⟨h6,ts,g6,⟨t1,t2,t3,t9⟩,n6,e6⟩:=WE H M5 hl R (b:= .int .i64 b) hF x11
  obtain ⟨h7,n7,e7⟩:=WD H X (M5.grow g6) t1 t2 t3 t9
  refine ⟨h7,Ev.call H.f4 H.o4 ⟨n2+n3+n4+n6+n7+2,fun m hm=> ?b2⟩⟩
  case b2=>
   have e2' :=e2 m om
   have e3' :=e3 m om
   have e4' :=e4 m om
   have e6' :=(e6 m om).trans (e7 m om)
   exact SS (sC @OF @Se hcl p7 (Eq.symm h1e) x1 e2' e3' e4' st e6')
end Go.Ly
end
