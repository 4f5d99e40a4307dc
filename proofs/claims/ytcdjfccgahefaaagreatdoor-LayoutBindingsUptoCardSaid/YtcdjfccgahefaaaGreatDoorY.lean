/- Parts of a proof. -/
import Derived.Test.YtcdjfccgahefaaaGreatDoorD
import Derived.Test.YtcdjfccgahefaaaGreatDoorX
set_option linter.all false
set_option maxHeartbeats 8000000
noncomputable section
namespace Go.Ly
open Go Go.Am Go.Fs Go.Gn
variable {fns:Go.Am.F} {orc:Orc}
def uV (h:aD) (l:AV) (xs:List AV):Prop:=Acc h l xs∨l= .sl .full xs
theorem uV.GC {h:aD} {l:AV} {xs:List AV} (a:uV h l xs):iK l xs:=by
 rcases a with a|rfl
 ·cases a with
  |nil=>exact .nil
  |opn t xs h1 h2=>exact .sl _ _
 ·exact .sl _ _
theorem uV.grow {h h' :aD} {l:AV} {xs:List AV} (a:uV h l xs) (g:aR h h'):uV h' l xs:=a.imp (fun a=>a.grow g) id
theorem AQ {h:aD} {l:AV} {xs:List AV} (a:uV h l xs) {v:AV} (hw:Bp 1 xs) (hv:v.cells.length=1) (hs:xs.length+1≤1073741824):
  ∃l' h',oP h 1 l (.sl .full [v])= .ok (l',h')∧Acc h' l' (xs++[v])∧AE (jE l) h h' ∧(∀t,jE l' =some t→jE l=some t∨h.next≤t):=by
 rcases a with a|rfl
 ·exact tD a om hw hv om
 ·have h1:(Nat.ble 1 1 && rQ 1 [v])=true:=by simp [rQ,hv]
  have h2:(Nat.ble ((xs.length+[v].length)*1) oO && oW 1 xs)=true:=by
   have h3:oW 1 xs=true:=by
    cases xs with
    |nil=>rfl
    |cons x xs=>simp only [oW];rw [hw x (by simp)];rfl
   rw [h3,Bool.and_true,Nat.ble_eq]
   simp [oO]
   omega
  refine ⟨.sl (.opn h.next (xs.length+[v].length)) (xs++[v]),h.push (.tok (xs.length+[v].length)),by simp only [oP,oJ,aM,h1,yD,yM,h2], ?_,KW (.push _ _) _,fun t w=> ?_⟩
  ·have e:xs.length+[v].length=(xs++[v]).length:=by simp
   rw [e]
   exact .opn _ _ (C9 _ _) (by simp)
  ·simp only [jE,Option.some.injEq] at w
   omega
theorem wX (c:List Nat):Bp 1 (ints c):=fun x hx=>by obtain ⟨n,_,rfl⟩:=List.mem_map.1 hx;rfl
theorem kV (c:List Nat):(ints c).length=c.length:=by simp [ints]
theorem Cx (c:List Nat) (q:Nat):ints (c++[q])=ints c++[.int .i64 (q:Nat)]:=by simp [ints]
theorem FN {D:DS} (k:D.Ok) (b:Bool) (vc vu:AV) (off cl:Int) {vd:AV} (hv:nth (bx D b vc vu off cl) 2=some vd) {i:Nat} {d:lH} (hd:(aV D.pd)[i]? =some d):∃vn vs vp vy,oG 5 vd (.int .i64 (i:Nat))= .ok (.ep [.int .i64 (iO d),vn,vs,vp,vy] 0)∧
  iK vn ((iJ d).map AV.str)∧RVs ((wC d).map Part.exp) vp∧RVs ((pY d).map Part.desc) vy∧dS (.agg [.int .i64 (iO d),vn,vs,vp,vy]) (.agg [.int .i64 (iO d),vn,vs,vp,vy])=true∧vn.cF=true∧vs.cF=true∧vp.cF=true∧vy.cF=true:=by
 obtain ⟨vd',hv',rvd⟩:=Gm k b vc vu off cl
 rw [hv] at hv'
 cases hv'
 obtain ⟨ys,hy,hyl,hyg⟩:=jX rvd
 simp only [List.length_map,List.getElem_map] at hyl hyg
 obtain ⟨hi,rfl⟩:=List.getElem?_eq_some_iff.1 hd
 obtain ⟨c,hc,rv⟩:=hyg i hi
 have hl:=pJ rv
 have he:=A7 rv
 have hck:=tX rv
 generalize (aV D.pd)[i]=d at rv⊢
 cases rv with| @decl k n s p ds vn vs vp vy r0 r1 r2 r3=>
 exact ⟨vn,vs,vp,vy,jZ hy hc hl,r0,r2,r3,he,qC r0,aP r1,aP r2,aP r3⟩
theorem LC (H:Has fns orc) {Γ:Tb} (O:Γ.Ok) {S:Nat→DY} (s:List UInt8) {vc:AV} {c:List Nat} (hx:iK vc (ints c)) (hc:∀d∈c,d<Γ.n) (hn:c.length<10000000) {b0:Nat} (hb0:Γ.tb<b0∧Γ.mb<b0∧∀j,pE Γ j→j<b0):
  ∀(k i:Nat) (l:AV) (acc:List Nat) (h:aD),i+k=c.length→TB Γ S h→uV h l (ints acc)→(∀t,jE l=some t→b0≤t)→b0≤h.next→acc.length≤i→
   ∃h' l' ts,Ev fns orc (.code 59 none (.loop p59x110100) ⟨[(0,.ptr Γ.tb 0),(2,.str s),(7,l),(12,vc),(13,.int .i64 (c.length:Nat)),(14,.int .i64 (i:Nat))],[],.plain,h⟩) (.code (.exit 0) ⟨ts,[],.plain,h'⟩)∧cX ts 7=l' ∧
    iK l' (ints (yB Γ s (c.drop i) i acc))∧h.next≤h'.next∧(∀j,j<b0→h'.get j=h.get j):=by
 intro k
 induction k with
 |zero=>
  intro i l acc h hi T ha ht hb hl
  have e:i=c.length:=om
  have d:decide ((i:Int)<((c.length:Nat):Int))=false:=dF om
  refine ⟨h,l, ?ts0,Ev.code ⟨0,fun m _=> ?b0⟩, ?t0,by rw [e,List.drop_length];exact ha.GC,Nat.le_refl _,fun _ _=>rfl⟩
  case b0=>
   exact SX (cj2 d @aI)
  case t0=>rfl
 |succ k ih=>
  intro i l acc h hi T ha ht hb hl
  have hlt:i<c.length:=om
  have d:decide ((i:Int)<((c.length:Nat):Int))=true:=dT om
  have hdd:=hc _ (List.getElem_mem hlt)
  have hia:=pN hx (i:=i) (v:= .int .i64 (c[i]:Nat)) (by simp [ints,hlt]) rfl
  rw [List.drop_eq_getElem_cons hlt,yB]
  generalize c[i]=dd at hdd hia
  obtain ⟨tk,v2,tT⟩:=T.t_
  obtain ⟨vc',vu,hbb,hv⟩:=T.d_ dd hdd
  obtain ⟨vd,n2,rvd⟩:=Gm (O.ok dd hdd) (S dd).busy vc' vu (S dd).off (S dd).cl
  have hib:=Γ.at tk hdd
  obtain ⟨bn1,bn2⟩:=qF (O.ok dd hdd)
  obtain ⟨h1,g1,n1,e1⟩:=zK H rvd bn1 bn2 s hbb n2
  have nn:=g1.next
  have w:IntKind.wrap .i64 ((i:Int)+1)=((i+1:Nat):Int):=tM hlt om
  cases cf:pL (aV (Γ.D dd).pd) s with
  |none=>
   rw [cf] at e1
   obtain ⟨h2,h2e⟩:∃x,x=(h1.push (.cells [.int .i64 0,.int .i64 0,.int .i64 0,.int .i64 0])).set h1.next (.cells [.int .i64 0,.int .i64 0,.int .i64 0,.int .i64 0]):=⟨_,rfl⟩
   have g2:aR h1 h2:=by rw [h2e];exact gw2
   have gg:=g1.trans g2
   obtain ⟨h',l',ts,⟨n3,e3⟩,t3,r3,x3,o3⟩:=ih (i+1) l acc h2 om (T.grow gg) (ha.grow gg) ht (by have:=gg.next;omega) om
   refine ⟨h',l',ts,Ev.code ⟨n1+n3,fun m hm=> ?b1⟩,t3,r3,by have:=gg.next;omega,fun j hj=>(o3 j hj).trans (gg.get j om)⟩
   case b1=>
    have e1' :=e1 m om
    have e3' :=e3 m om
    simp only [AG] at e1'
    exact SXe (cj8 d hia tT hib e1' (Eq.symm h2e) w @aI) e3'
  |some x=>
   obtain ⟨i',k'⟩:=x
   rw [cf] at e1
   obtain ⟨dc,hdc,hfx,_⟩:=Ay cf
   obtain ⟨vn,vs,vp,vy,hie,_⟩:=FN (O.ok dd hdd) (S dd).busy vc' vu (S dd).off (S dd).cl n2 hdc
   obtain ⟨h2,h2e⟩:∃x,x=(h1.push (.cells [.int .i64 0,.int .i64 0,.int .i64 0,.int .i64 0])).set h1.next (.cells [.int .i64 0,.int .i64 0,.int .i64 (i' :Nat),.int .i64 (k' :Nat)]):=⟨_,rfl⟩
   have g2:aR h1 h2:=by rw [h2e];exact gw2
   have gg:=g1.trans g2
   have x2:cont h2 h1.next=some [.int .i64 0,.int .i64 0,.int .i64 (i' :Nat),.int .i64 (k' :Nat)]:=by rw [h2e];exact aH (by simp)
   have t2:=(aF gg (aT tT)).trans tT
   have b2:=(aF gg (aT hbb)).trans hbb
   have xe:=Γ.CU tk
   have ve:=jK rvd
   simp only [hdc]
   have stay:∀l2 SQ h3,aR h2 h3∨(AE (jE l) h2 h3)→TB Γ S h3→uV h3 l2 (ints SQ)→(∀t,jE l2=some t→b0≤t)→SQ.length≤i+1→
     (∀ans,(∃n,∀m,n≤m→eval fns orc m (.code 59 none (.loop p59x110100) ⟨[(0,.ptr Γ.tb 0),(2,.str s),(7,l2),(12,vc),(13,.int .i64 (c.length:Nat)),(14,.int .i64 ((i+1:Nat):Int))],[],.plain,h3⟩)= .ok ans)→
      Ev fns orc (.code 59 none (.loop p59x110100) ⟨[(0,.ptr Γ.tb 0),(2,.str s),(7,l),(12,vc),(13,.int .i64 (c.length:Nat)),(14,.int .i64 (i:Nat))],[],.plain,h⟩) ans)→
     ∃h' l' ts,Ev fns orc (.code 59 none (.loop p59x110100) ⟨[(0,.ptr Γ.tb 0),(2,.str s),(7,l),(12,vc),(13,.int .i64 (c.length:Nat)),(14,.int .i64 (i:Nat))],[],.plain,h⟩) (.code (.exit 0) ⟨ts,[],.plain,h'⟩)∧cX ts 7=l' ∧
      iK l' (ints (yB Γ s (c.drop (i+1)) (i+1) SQ))∧h.next≤h'.next∧(∀j,j<b0→h'.get j=h.get j):=by
    intro l2 SQ h3 hg T3 a3 ht3 hl3 hst
    have gn:h2.next≤h3.next:=by rcases hg with g|g;exact g.next;exact g.next
    have gx:∀j,j<b0→h3.get j=h2.get j:=fun j hj=>by
     rcases hg with g|g
     ·exact g.get j (by have:=gg.next;omega)
     ·exact g.get j (by have:=gg.next;omega) (fun w=>by have:=ht j w;omega)
    obtain ⟨h',l',ts,ev,t3,r3,x3,o3⟩:=ih (i+1) l2 SQ h3 om T3 a3 ht3 (by have:=gg.next;omega) hl3
    exact ⟨h',l',ts,hst _ ev,t3,r3,by have:=gg.next;omega,fun j hj=>(o3 j hj).trans ((gx j hj).trans (gg.get j om))⟩
   by_cases c2:iO dc=2
   ·have dk:=dT c2
    rw [if_pos c2]
    refine stay _ [i] h2 (.inl (.refl _)) (T.grow gg) (.inr rfl) (fun t w=>by cases w) (by simp) ?_
    rintro ans ⟨n3,e3⟩
    refine Ev.code ⟨n1+n3,fun m hm=> ?b2⟩
    case b2=>
     have e1' :=e1 m om
     have e3' :=e3 m om
     simp only [AG] at e1'
     exact SXe (Bl d hia tT hib e1' (Eq.symm h2e) x2 t2 b2 n2 hie xe ve dk w @aI) e3'
   have dk:=dF c2
   rw [if_neg c2]
   by_cases c3:iO dc=3∨iO dc=4
   case neg=>
    have d3:=dF (fun q=>c3 (.inl q))
    have d4:=dF (fun q=>c3 (.inr q))
    rw [if_neg (fun q=>c3 q.1)]
    refine stay l acc h2 (.inl (.refl _)) (T.grow gg) (ha.grow gg) ht om ?_
    rintro ans ⟨n3,e3⟩
    refine Ev.code ⟨n1+n3,fun m hm=> ?b3⟩
    case b3=>
     have e1' :=e1 m om
     have e3' :=e3 m om
     simp only [AG] at e1'
     exact SXe (dD d hia tT hib e1' (Eq.symm h2e) x2 t2 b2 n2 hie xe ve dk d3 d4 (cj2 w @aI)) e3'
   have hlen:∀hp,mK hp .sl l= .ok acc.length:=fun hp=>by rw [bJ ha.GC hp,kV]
   have eor:decide (iO dc=3)=true∨(decide (iO dc=3)=false∧decide (iO dc=4)=true):=by
    by_cases q:iO dc=3
    ·exact .inl (dT q)
    ·exact .inr ⟨dF q,dT (c3.resolve_left q)⟩
   by_cases c0:acc=[]
   ·rw [if_neg (fun q=>q.2 c0)]
    have dl:decide ((0:Int)<((acc.length:Nat):Int))=false:=dF (by rw [c0];simp)
    refine stay l acc h2 (.inl (.refl _)) (T.grow gg) (ha.grow gg) ht om ?_
    rintro ans ⟨n3,e3⟩
    refine Ev.code ⟨n1+n3,fun m hm=> ?b4⟩
    case b4=>
     have e1' :=e1 m om
     have e3' :=e3 m om
     simp only [AG] at e1'
     rcases eor with d3|⟨d3,d4⟩
     ·exact SXe (dD d hia tT hib e1' (Eq.symm h2e) x2 t2 b2 n2 hie xe ve dk d3 hlen (cj3 dl w @aI)) e3'
     ·exact SXe (dD d hia tT hib e1' (Eq.symm h2e) x2 t2 b2 n2 hie xe ve dk d3 d4 (cj4 hlen dl w @aI)) e3'
   ·rw [if_pos ⟨c3,c0⟩]
    have dl:decide ((0:Int)<((acc.length:Nat):Int))=true:=dT (by have:=List.length_pos_iff.2 c0;omega)
    obtain ⟨l2,h3,ap,a3,g3,tk3⟩:=AQ (ha.grow gg) (v:= .int .i64 (i:Nat)) (wX acc) rfl (by rw [kV];omega)
    have hT3:TB Γ S h3:=by
     refine (T.grow gg).vT fun j hj w=>g3.get j hj (fun q=> ?_)
     have:=ht j q
     rcases w with w|w|w
     ·omega
     ·omega
     ·have:=hb0.2.2 j w;omega
    refine stay l2 (acc++[i]) h3 (.inr g3) hT3 (by rw [Cx];exact .inl a3) (fun t w=>by rcases tk3 t w with q|q;exact ht t q;have:=gg.next;omega) (by simp;omega) ?_
    rintro ans ⟨n3,e3⟩
    refine Ev.code ⟨n1+n3,fun m hm=> ?b5⟩
    case b5=>
     have e1' :=e1 m om
     have e3' :=e3 m om
     simp only [AG] at e1'
     rcases eor with d3|⟨d3,d4⟩
     ·exact SXe (dD d hia tT hib e1' (Eq.symm h2e) x2 t2 b2 n2 hie xe ve dk d3 hlen (cj4 dl ap w @aI)) e3'
     ·exact SXe (dD d hia tT hib e1' (Eq.symm h2e) x2 t2 b2 n2 hie xe ve dk d3 d4 (cj5 hlen dl ap w @aI)) e3'
theorem Cp (H:Has fns orc) {Γ:Tb} (O:Γ.Ok) {S:Nat→DY} (s:List UInt8) {vc:AV} {c:List Nat} (hx:iK vc (ints c)) (hc:∀d∈c,d<Γ.n) (hn:c.length<10000000) {h:aD} (T:TB Γ S h):
  ∃h' v,aR h h' ∧Ev fns orc (.call 59 [.ptr Γ.tb 0,vc,.str s] .plain h) (.call (.ret v) .plain h')∧iK v (ints (lT Γ s c)):=by
 obtain ⟨h',l',ts,⟨n,e⟩,t7,r,g,o⟩:=LC H O (S:=S) s hx hc hn T.lt c.length 0 .aC [] h om T (.inl .nil) (fun t w=>by cases w) (Nat.le_refl _) (Nat.le_refl _)
 refine ⟨h',l',⟨g,o⟩,Ev.call H.f59 H.o59 ⟨n,fun m hm=> ?b⟩,r⟩
 case b=>
  have q:∀hp,mK hp .sl vc= .ok c.length:=fun hp=>by rw [bJ hx hp,kV]
  have e1' :bZ (eval fns orc m) 59 none (.loop p59x110100) _=_:=e (m+1) om
  simp only [Int.ofNat_zero] at e1'
  exact SX (cj4 @a59.eq_1 q e1' t7)
end Go.Ly
namespace Go.Ly
open Go Go.Am Go.Fs Go.Gn
variable {fns:Go.Am.F} {orc:Orc}
def PlK (Γ:Tb) (S:Nat→DY) (a:Int) (lv pt k:Nat):Prop:=∃w c u,upF Γ lv a=((w:Nat):Int)∧w<Γ.n∧(S w).ch=some (c,u)∧c[pt]? =some k
theorem PlK.le {Γ:Tb} {S S' :Nat→DY} (e:Le S S') {a:Int} {lv pt k:Nat} (p:PlK Γ S a lv pt k):PlK Γ S' a lv pt k:=by
 obtain ⟨w,c,u,h1,h2,h3,h4⟩:=p
 exact ⟨w,c,u,h1,h2,e.ch h3,h4⟩
theorem Wi {c u:List Nat} {vc vu:AV} (h:ChV (some (c,u)) vc vu):(∃tk,vc= .sl tk (ints c))∧iK vu (ints u):=⟨Cm h,h.2.2⟩
theorem uS {v:AV} {c:List Nat} (h:iK v (ints c)):dS v v=true:=by
 generalize e:ints c=xs at h
 cases h with
 |nil=>rfl
 |sl tk xs=>rw [←e];exact uJ tk c
theorem pX {v:AV} {c:List Nat} (h:iK v (ints c)) {q k:Nat} (hq:c[q]? =some k):oG 1 v (.int .i64 (q:Nat))= .ok (.ep [.int .i64 (k:Nat)] 0):=
 pN h (by simp [ints,hq]) rfl
theorem rY {Γ:Tb} (O:Γ.Ok) {S:Nat→DY} {h:aD} (T:TB Γ S h) {w:Nat} (hw:w<Γ.n) {c u:List Nat} (hc:(S w).ch=some (c,u)):
  ∃cc tk vu,cont h (Γ.loc w)=some cc∧nth cc 15=some (.sl tk (ints c))∧nth cc 16=some vu∧iK vu (ints u)∧nth cc 8=some (.int .i64 (Γ.D w).ar)∧nth cc 14=some (.bool (S w).busy)∧nth cc 17=some (.int .i64 (S w).off)∧nth cc 18=some (.int .i64 (S w).cl):=by
 obtain ⟨vc,vu,hb,hv⟩:=T.d_ w hw
 rw [hc] at hv
 obtain ⟨⟨tk,rfl⟩,hu⟩:=Wi hv
 have k:=O.ok w hw
 exact ⟨_,tk,vu,hb,Fa k _ _ _ _ _,UT k _ _ _ _ _,hu,FA k _ _ _ _ _,Rp k _ _ _ _ _,US k _ _ _ _ _,UR k _ _ _ _ _⟩
def AbQ (Γ:Tb) (S:Nat→DY) (a:Int) (lv pt k:Nat) (v:AV) (h' :aD):Prop:=
 ∃S' lv' pt' r,v= .agg [.int .i64 (lv' :Nat),.int .i64 (pt' :Nat)]∧Ext S S' ∧TB Γ S' h' ∧WF Γ S' ∧Hm Γ S' a lv pt lv' pt' ∧PlK Γ S' a lv' pt' r∧(Γ.D k).ar=((r:Nat):Int)
theorem SU (H:Has fns orc) {Γ:Tb} (O:Γ.Ok) {N:Nat} (C:Ez fns orc Γ N) {S:Nat→DY} {h:aD} (T:TB Γ S h) (W:WF Γ S) (hN:opn S Γ.n≤N) {a:Int} (ha: -1≤a∧a<(Γ.n:Int)) {lv pt k:Nat} (hp:PlK Γ S a lv pt k):
  Out fns orc (pE Γ) (.call 25 [.ptr Γ.tb 0,.int .i64 a,.agg [.int .i64 (lv:Nat),.int .i64 (pt:Nat)]] .plain h) h (AbQ Γ S a lv pt k):=by
 obtain ⟨w,c,u,hw,hwn,hcu,hk⟩:=hp
 have hO:=O.lt
 have hlv:=Bu O lv ha om
 have F:=W w hwn c u hcu
 have hkn:=(W.part c.length w c u (Nat.le_refl _) hwn hcu pt k hk).1
 obtain ⟨hpt,_⟩:=List.getElem?_eq_some_iff.1 hk
 obtain ⟨t,ht⟩:∃t,u[pt]? =some t:=⟨u[pt]'(by rw [F.len];exact hpt),List.getElem?_eq_getElem (by rw [F.len];exact hpt)⟩
 have htb:=F.ub t (List.mem_of_getElem? ht)
 obtain ⟨hA,hAe⟩:∃x,x=(h.push (.cells [.int .i64 (lv:Nat),.int .i64 (pt:Nat)])).push (.cells [.int .i64 0,.int .i64 0]):=⟨_,rfl⟩
 have gA:aR h hA:=by rw [hAe];exact gw2
 have nA:hA.next=h.next+2:=by rw [hAe];simp
 have a5:cont hA h.next=some [.int .i64 (lv:Nat),.int .i64 (pt:Nat)]:=by rw [hAe];exact ctp
 have a6:cont hA (h.next+1)=some [.int .i64 0,.int .i64 0]:=by rw [hAe];exact ctp
 have TA:=T.grow gA
 obtain ⟨n1,e1⟩:=HP H O TA ha (k:=lv) om
 rw [hw] at e1
 obtain ⟨n2,e2⟩:=vO H O TA hwn (by rw [hcu];simp)
 obtain ⟨cw,tkw,vu,cwA,w15,w16,wu,_⟩:=rY O TA hwn hcu
 have iu:=pX wu ht
 have ic:oG 1 (.sl tkw (ints c)) (.int .i64 (pt:Nat))= .ok (.ep [.int .i64 (k:Nat)] 0):=pX (.sl _ _) hk
 obtain ⟨tk,v2,tT⟩:=TA.t_
 have ik:=Γ.at tk hkn
 obtain ⟨vc',vu',bk,_⟩:=TA.d_ k hkn
 have k8:=FA (O.ok k hkn) (S k).busy vc' vu' (S k).off (S k).cl
 have xe:=Γ.CU tk
 have eu:=uS wu
 have ec:=uJ tkw c
 have ar:=O.ar k hkn
 have w1:IntKind.wrap .i64 ((lv:Int)+1)=((lv+1:Nat):Int):=by rw [mW om om];rfl
 have w2:IntKind.wrap .i64 (((lv+1:Nat):Int)+(t:Int))=((lv+1+t:Nat):Int):=by rw [mW om om];rfl
 obtain ⟨n3,e3⟩:=HP H O TA ha (k:=lv+1+t) om
 have rg:=Cu O (lv+1+t) ha
 by_cases c0:0≤upF Γ (lv+1+t) a
 case neg=>
  have d:=dF c0
  obtain ⟨n4,e4⟩:=uQ H 11 hA
  refine Out.pan 11 hA om (Ev.call H.f25 H.o25 ⟨n1+n2+n3+n4,fun m hm=> ?b1⟩) (fM gA)
  case b1=>
   have e1' :=e1 m om
   have e2' :=e2 m om
   have e3' :=e3 m om
   have e4' :=e4 m om
   exact SX (dD @a25.eq_1 (Eq.symm hAe) a5 e1' e2' cwA w16 w15 iu ic tT ik bk k8 xe eu (cj6 ec w1 w2 e3' d e4'))
 have d:=dT c0
 obtain ⟨n4,e4⟩:=tN H 11 hA
 obtain ⟨b,hb⟩:∃b:Nat,upF Γ (lv+1+t) a=(b:Int):=⟨(upF Γ (lv+1+t) a).toNat,by omega⟩
 rw [hb] at e3 d rg
 have hbn:b<Γ.n:=om
 rcases C S hA b TA W hN hbn with ⟨v,h1,⟨n5,e5⟩,ch1,rfl,S',ext,T1,W1,hch⟩|⟨e,h1,he,⟨n5,e5⟩,ch1⟩
 case inr=>
  refine Out.pan e h1 he (Ev.call H.f25 H.o25 ⟨n1+n2+n3+n4+n5,fun m hm=> ?b2⟩) (jV (fM gA) ch1)
  case b2=>
   have e1' :=e1 m om
   have e2' :=e2 m om
   have e3' :=e3 m om
   have e4' :=e4 m om
   have e5' :=e5 m om
   exact SX (dD @a25.eq_1 (Eq.symm hAe) a5 e1' e2' cwA w16 w15 iu ic tT ik bk k8 xe eu (cj7 ec w1 w2 e3' d e4' e5'))
 obtain ⟨⟨cb,ub⟩,hcb⟩:=Option.ne_none_iff_exists'.1 hch
 obtain ⟨c1b,tkb,vub,cB,b15,_⟩:=rY O T1 hbn hcb
 have lcb:=(W1 b hbn cb ub hcb).max
 obtain ⟨n6,e6⟩:=H2 H (v:= .sl tkb (ints cb)) (.sl _ _) om (Γ.D k).ar h1
 have nn:=ch1.next
 have ltT:=T.lt
 have h6:cont h1 (h.next+1)=some [.int .i64 0,.int .i64 0]:=(qB ch1 om (fun q=>by have:=ltT.2.2 _ q;omega)).trans a6
 cases cf:wQ (fun x:Nat=>decide ((Γ.D k).ar=(x:Int))) cb with
 |none=>
  rw [cf] at e6
  obtain ⟨n7,e7⟩:=uQ H 11 h1
  refine Out.pan 11 h1 om (Ev.call H.f25 H.o25 ⟨n1+n2+n3+n4+n5+n6+n7,fun m hm=> ?b3⟩) (jV (fM gA) ch1)
  case b3=>
   have e1' :=e1 m om
   have e2' :=e2 m om
   have e3' :=e3 m om
   have e4' :=e4 m om
   have e5' :=e5 m om
   have e6' :=e6 m om
   have e7' :=e7 m om
   have dn:decide (0≤(-1:Int))=false:=rfl
   simp only [DA] at e6'
   exact SX (dD @a25.eq_1 (Eq.symm hAe) a5 e1' e2' cwA w16 w15 iu ic tT ik bk k8 xe eu (qD ec w1 w2 e3' d e4' e5' cB b15 e6' dn e7'))
 |some p=>
  rw [cf] at e6
  obtain ⟨n7,e7⟩:=tN H 11 h1
  have dn:decide (0≤((p:Nat):Int))=true:=dT om
  obtain ⟨r,hr1,hr2,_⟩:=Ah cf
  obtain ⟨h2,h2e⟩:∃x,x=h1.set (h.next+1) (.cells [.int .i64 ((lv+1+t:Nat):Int),.int .i64 (p:Nat)]):=⟨_,rfl⟩
  have x2:cont h2 (h.next+1)=some [.int .i64 ((lv+1+t:Nat):Int),.int .i64 (p:Nat)]:=by rw [h2e];exact aH om
  refine Out.ret (.agg [.int .i64 ((lv+1+t:Nat):Int),.int .i64 (p:Nat)]) h2 (Ev.call H.f25 H.o25 ⟨n1+n2+n3+n4+n5+n6+n7,fun m hm=> ?b4⟩) ?c4
   ⟨S',_,p,r,rfl,ext, ?T4,W1,⟨w,c,u,k,t,b,cb,ub,hw,ext.le.ch hcu,hk,ht,rfl,hb,hcb,cf⟩,⟨b,cb,ub,hb,hbn,hcb,hr1⟩,by simpa using hr2⟩
  case c4=>rw [h2e];exact qV (jV (fM gA) ch1) om (.inr om) _
  case T4=>
   refine T1.vT fun j hj w=> ?_
   have:j<h.next:=by rcases w with rfl|rfl|w;omega;omega;exact ltT.2.2 j w
   rw [h2e,aE _ _ _ _ om om]
  case b4=>
   have e1' :=e1 m om
   have e2' :=e2 m om
   have e3' :=e3 m om
   have e4' :=e4 m om
   have e5' :=e5 m om
   have e6' :=e6 m om
   have e7' :=e7 m om
   simp only [DA] at e6'
   exact SX (dD @a25.eq_1 (Eq.symm hAe) a5 e1' e2' cwA w16 w15 iu ic tT ik bk k8 xe eu (vU ec w1 w2 e3' d e4' e5' cB b15 e6' dn e7' h6 (Eq.symm h2e) x2))
end Go.Ly
namespace Go.Ly
open Go Go.Am Go.Fs Go.Gn
variable {fns:Go.Am.F} {orc:Orc}
def ClQ (Γ:Tb) (S:Nat→DY) (a:Int) (n lv pt k:Nat) (v:AV) (h' :aD):Prop:=
 ∃S' lv' pt' k',v= .agg [.int .i64 (lv' :Nat),.int .i64 (pt' :Nat)]∧Ext S S' ∧TB Γ S' h' ∧WF Γ S' ∧vQ Γ S' a n lv pt lv' pt' ∧PlK Γ S' a lv' pt' k' ∧upF Γ n (k:Int)=((k' :Nat):Int)
theorem Qe {Γ:Tb} {S:Nat→DY} {a:Int}:∀{n lv pt lv' pt' :Nat},vQ Γ S a n lv pt lv' pt' →lv≤lv'
 |0,_,_,_,_,h=>by have:=h.1;omega
 |n+1,_,_,_,_,⟨l,p,h1,h2⟩=>by
  obtain ⟨_,_,_,_,t,_,_,_,_,_,_,_,e,_⟩:=h1
  have:=Qe h2
  omega
theorem Jq (H:Has fns orc) {Γ:Tb} (O:Γ.Ok) {N:Nat} (C:Ez fns orc Γ N) {a:Int} (ha: -1≤a∧a<(Γ.n:Int)) {n b6 b8:Nat} (hn:n<1000000000) (nb:¬pE Γ b6) (nt:b6≠Γ.tb) (nm:b6≠Γ.mb):
  ∀(j i:Nat) (S:Nat→DY) (h:aD) (lv pt k:Nat),i+j=n→TB Γ S h→WF Γ S→opn S Γ.n≤N→cont h b6=some [.int .i64 (lv:Nat),.int .i64 (pt:Nat)]→PlK Γ S a lv pt k→
   (∃h' S' lv' pt' k' ts,Ev fns orc (.code 54 none (.loop p54x10100) ⟨[(0,.ptr Γ.tb 0),(1,.int .i64 a),(6,.ptr b6 0),(8,.ptr b8 0),(9,.int .i64 (n:Nat)),(10,.int .i64 (i:Nat))],[],.plain,h⟩) (.code (.exit 0) ⟨ts,[],.plain,h'⟩)∧cX ts 6= .ptr b6 0∧cX ts 8= .ptr b8 0∧
    Chg (fun x=>pE Γ x∨x=b6) h h' ∧Ext S S' ∧TB Γ S' h' ∧WF Γ S' ∧cont h' b6=some [.int .i64 (lv' :Nat),.int .i64 (pt' :Nat)]∧vQ Γ S' a j lv pt lv' pt' ∧PlK Γ S' a lv' pt' k' ∧upF Γ j (k:Int)=((k' :Nat):Int))∨
   (∃h' e ts,0<e∧Ev fns orc (.code 54 none (.loop p54x10100) ⟨[(0,.ptr Γ.tb 0),(1,.int .i64 a),(6,.ptr b6 0),(8,.ptr b8 0),(9,.int .i64 (n:Nat)),(10,.int .i64 (i:Nat))],[],.plain,h⟩) (.code (.panic (irr e)) ⟨ts,[],.plain,h'⟩)∧Chg (fun x=>pE Γ x∨x=b6) h h'):=by
 intro j
 induction j with
 |zero=>
  intro i S h lv pt k hi T W hN hb hp
  have d:decide ((i:Int)<((n:Nat):Int))=false:=dF om
  refine .inl ⟨h,S,lv,pt,k, ?ts,Ev.code ⟨0,fun m _=> ?b0⟩, ?t6, ?t8,.refl _ _,.refl _,T,W,hb,⟨rfl,rfl⟩,hp,rfl⟩
  case b0=>
   exact SX (cj2 d @aI)
  case t6=>rfl
  case t8=>rfl
 |succ j ih=>
  intro i S h lv pt k hi T W hN hb hp
  have d:decide ((i:Int)<((n:Nat):Int))=true:=dT om
  have lb:=aT hb
  rcases SU H O C T W hN ha hp with ⟨v,h1,⟨n1,e1⟩,ch1,S',lv1,pt1,r,rfl,ext,T1,W1,ab,pl,har⟩|⟨e,h1,he,⟨n1,e1⟩,ch1⟩
  case inr=>
   refine .inr ⟨h1,e, ?tsp,he,Ev.code ⟨n1,fun m hm=> ?bp⟩,⟨ch1.next,fun i hi hn=>ch1.get i hi (fun w=>hn (.inl w))⟩⟩
   case bp=>
    have e1' :=e1 m hm
    exact SX (cj4 d hb e1' @aI)
  have nn:=ch1.next
  have b1:cont h1 b6=some [.int .i64 (lv:Nat),.int .i64 (pt:Nat)]:=(qB ch1 lb nb).trans hb
  obtain ⟨h2,h2e⟩:∃x,x=h1.set b6 (.cells [.int .i64 (lv1:Nat),.int .i64 (pt1:Nat)]):=⟨_,rfl⟩
  have x2:cont h2 b6=some [.int .i64 (lv1:Nat),.int .i64 (pt1:Nat)]:=by rw [h2e];exact aH om
  have C2:Chg (fun x=>pE Γ x∨x=b6) h h2:=by rw [h2e];exact qV ⟨ch1.next,fun i hi hn=>ch1.get i hi (fun w=>hn (.inl w))⟩ om (.inl (.inr rfl)) _
  have T2:TB Γ S' h2:=T1.vT fun j hj w=>by
   rw [h2e,aE _ _ _ _ om ?_]
   rintro rfl
   rcases w with w|w|w
   ·exact nt w
   ·exact nm w
   ·exact nb w
  have w:IntKind.wrap .i64 ((i:Int)+1)=((i+1:Nat):Int):=by rw [mW om om];rfl
  have step:∀ans,Ev fns orc (.code 54 none (.loop p54x10100) ⟨[(0,.ptr Γ.tb 0),(1,.int .i64 a),(6,.ptr b6 0),(8,.ptr b8 0),(9,.int .i64 (n:Nat)),(10,.int .i64 ((i+1:Nat):Int))],[],.plain,h2⟩) ans→
    Ev fns orc (.code 54 none (.loop p54x10100) ⟨[(0,.ptr Γ.tb 0),(1,.int .i64 a),(6,.ptr b6 0),(8,.ptr b8 0),(9,.int .i64 (n:Nat)),(10,.int .i64 (i:Nat))],[],.plain,h⟩) ans:=by
   rintro ans ⟨n2,e2⟩
   refine Ev.code ⟨n1+n2,fun m hm=> ?bt⟩
   case bt=>
    have e1' :=e1 m om
    have e2' :=e2 m om
    exact SXe (cj7 d hb e1' b1 (Eq.symm h2e) w @aI) e2'
  have hk1:upF Γ (j+1) (k:Int)=upF Γ j (r:Int):=by
   simp only [upF]
   rw [if_neg om]
   show upF Γ j (Γ.D k).ar=_
   rw [har]
  rcases ih (i+1) S' h2 lv1 pt1 r om T2 W1 (by have:=yU ext Γ.n;omega) x2 pl with ⟨h',S2,lv',pt',k',ts,ev,t6,t8,ch,ex,T3,W3,c6,cl,pk,uk⟩|⟨h',e,ts,he,ev,ch⟩
  ·exact .inl ⟨h',S2,lv',pt',k',ts,step _ ev,t6,t8,jV C2 ch,ext.trans ex,T3,W3,c6,⟨lv1,pt1,ab.le ex.le,cl⟩,pk,hk1.trans uk⟩
  ·exact .inr ⟨h',e,ts,he,step _ ev,jV C2 ch⟩
theorem DE (H:Has fns orc) {Γ:Tb} (O:Γ.Ok) {N:Nat} (C:Ez fns orc Γ N) {S:Nat→DY} {h:aD} (T:TB Γ S h) (W:WF Γ S) (hN:opn S Γ.n≤N) {a:Int} (ha: -1≤a∧a<(Γ.n:Int)) {n lv pt k:Nat} (hn:n<1000000000) (hp:PlK Γ S a lv pt k):
  Out fns orc (pE Γ) (.call 54 [.ptr Γ.tb 0,.int .i64 a,.agg [.int .i64 (lv:Nat),.int .i64 (pt:Nat)],.int .i64 (n:Nat)] .plain h) h (ClQ Γ S a n lv pt k):=by
 obtain ⟨hA,hAe⟩:∃x,x=(h.push (.cells [.int .i64 (lv:Nat),.int .i64 (pt:Nat)])).push (.cells [.int .i64 0,.int .i64 0]):=⟨_,rfl⟩
 have gA:aR h hA:=by rw [hAe];exact gw2
 have nA:hA.next=h.next+2:=by rw [hAe];simp
 have a6:cont hA h.next=some [.int .i64 (lv:Nat),.int .i64 (pt:Nat)]:=by rw [hAe];exact ctp
 have a8:cont hA (h.next+1)=some [.int .i64 0,.int .i64 0]:=by rw [hAe];exact ctp
 have ltT:=T.lt
 have mk:∀{h' :aD},Chg (fun i=>pE Γ i∨i=h.next) hA h' →Chg (pE Γ) h h' :=fun ch=>⟨by have:=ch.next;omega,fun i hi hn=>by rw [ch.get i om (fun w=>by rcases w with w|w;exact hn w;omega),gA.get i hi]⟩
 rcases Jq H O C ha hn (b6:=h.next) (b8:=h.next+1) (pE.not T (Nat.le_refl _)) om om n 0 S hA lv pt k om (T.grow gA) W hN a6 hp with ⟨h',S2,lv',pt',k',ts,⟨n1,e1⟩,t6,t8,ch,ex,T2,W2,c6,cl,pk,uk⟩|⟨h',e,ts,he,⟨n1,e1⟩,ch⟩
 ·have c8:cont h' (h.next+1)=some [.int .i64 0,.int .i64 0]:=(qB ch om (fun w=>by rcases w with w|w;have:=ltT.2.2 _ w;omega;omega)).trans a8
  have nn:=ch.next
  obtain ⟨h2,h2e⟩:∃x,x=h'.set (h.next+1) (.cells [.int .i64 (lv' :Nat),.int .i64 (pt' :Nat)]):=⟨_,rfl⟩
  have x2:cont h2 (h.next+1)=some [.int .i64 (lv' :Nat),.int .i64 (pt' :Nat)]:=by rw [h2e];exact aH om
  refine Out.ret _ h2 (Ev.call H.f54 H.o54 ⟨n1,fun m hm=> ?b1⟩) ?c1 ⟨S2,lv',pt',k',rfl,ex, ?T,W2,cl,pk,uk⟩
  case c1=>rw [h2e];exact qV (mk ch) om (.inr om) _
  case T=>
   refine T2.vT fun j hj w=> ?_
   have:j<h.next:=by rcases w with rfl|rfl|w;omega;omega;exact ltT.2.2 j w
   rw [h2e,aE _ _ _ _ om om]
  case b1=>
   have e1' :bZ (eval fns orc m) 54 none (.loop p54x10100) _=_:=e1 (m+1) om
   simp only [Int.ofNat_zero] at e1'
   exact SX (cj9 @a54.eq_1 (Eq.symm hAe) e1' t6 t8 c6 c8 (Eq.symm h2e) x2)
 ·refine Out.pan e h' he (Ev.call H.f54 H.o54 ⟨n1,fun m hm=> ?b2⟩) (mk ch)
  case b2=>
   have e1' :bZ (eval fns orc m) 54 none (.loop p54x10100) _=_:=e1 (m+1) om
   simp only [Int.ofNat_zero] at e1'
   exact SX (cj3 @a54.eq_1 (Eq.symm hAe) e1')
end Go.Ly
namespace Go.Ly
open Go Go.Am Go.Fs Go.Gn
variable {fns:Go.Am.F} {orc:Orc}
theorem G0 {D:DS} (k:D.Ok) {d:lH} (hd:d∈aV D.pd):ND (iO d) (iJ d) (wC d).length (pY d).length:=by
 have h:=k.vd
 cases hp:D.pd with|mk s pl dl el b il xl=>
 rw [hp] at h hd
 have:=(h.kid (q:= .decl d) (by simp only [Part.kids,List.mem_append,List.mem_map];exact .inl (.inl (.inl (.inr ⟨d,hd,rfl⟩))))).own
 cases d with|mk k n s p y=>exact this
theorem JR {Γ:Tb} (O:Γ.Ok) {S:Nat→DY} {h:aD} (T:TB Γ S h) {o i:Nat} (ho:o<Γ.n) {d:lH} (hd:(aV (Γ.D o).pd)[i]? =some d) (hn:pY d≠[]):
  ∃v,ThR Γ o i v∧(Γ.D v).ar=(o:Int)∧(Γ.D v).ow=d∧mU h (.cells [.int,.int]) (.int .i64 0) false (.map Γ.mb) (.agg [.int .i64 (o:Nat),.int .i64 (i:Nat)])= .ok (.val (.int .i64 (v:Nat)) h):=by
 obtain ⟨clk,hm⟩:=T.m_
 rcases BI o i Γ.es 0 (fun e he=>by obtain ⟨p,j,v,_,_,q,_⟩:=O.es e he;exact ⟨p,j,q⟩) with ⟨_,h2⟩|⟨j,v,b,h1,h2⟩
 ·obtain ⟨e,he,hk⟩:=O.th o ho i d hd hn
  exact absurd hk (h2 e he)
 ·have Jc:=List.mem_of_getElem? h2
  obtain ⟨o',i',v',g1,g2,g3,g4,g5,g6,g7⟩:=O.es _ Jc
  obtain ⟨rfl,rfl⟩:=key_inj g3
  simp only at g4
  subst g4
  rw [hd] at g6
  refine ⟨v',⟨g2,_,h1⟩,g5,(Option.some.inj g6).symm, ?_⟩
  have ke:eqA (.cells [.int,.int]) (key o i) (key o i)= .ok true:=by rw [ki2];simp
  rw [show AV.agg [.int .i64 (o:Nat),.int .i64 (i:Nat)]=key o i from rfl]
  simp only [mU,ke,aM,lG,hm,h1]
def tgA:Tg→AV
 |none=> .agg [.int .i64 (-1),.int .i64 0,.int .i64 0]
 |some (v,lv,pt)=> .agg [.int .i64 (v:Nat),.int .i64 (lv:Nat),.int .i64 (pt:Nat)]
def BS (Γ:Tb) (S:Nat→DY) (a:Int) (t:Tg):Prop:=∀v lv pt,t=some (v,lv,pt)→v<Γ.n∧∃r:Nat,(Γ.D v).ar=(r:Int)∧PlK Γ S a lv pt r
def MnQ (Γ:Tb) (S:Nat→DY) (a:Int) (e:pD) (v:AV) (h' :aD):Prop:=∃S' t,v=tgA t∧Ext S S' ∧TB Γ S' h' ∧WF Γ S' ∧AD Γ S' a e t∧BS Γ S' a t
theorem Gp (H:Has fns orc) {Γ:Tb} (O:Γ.Ok) {N:Nat} (C:Ez fns orc Γ N) {S:Nat→DY} {h:aD} (T:TB Γ S h) (W:WF Γ S) (hN:opn S Γ.n≤N) {a:Int} (ha: -1≤a∧a<(Γ.n:Int)) {e:pD} {ce:List AV} (hr:RV (.exp e) (.agg ce)):
  Out fns orc (pE Γ) (.call 58 [.ptr Γ.tb 0,.int .i64 a,.agg ce] .plain h) h (MnQ Γ S a e):=by
 have hO:=O.lt
 cases hr with| @exp k op n man ex t al dl va vd r1 r2=>
 obtain ⟨pc,hpc⟩:∃pc:List AV,pc=[.int .i64 k,.int .i64 op,.int .i64 n,.int .i64 man,.int .i64 ex,.str t,va,vd]:=⟨_,rfl⟩
 have n0:nth pc 0=some (.int .i64 k):=by rw [hpc];rfl
 have n5:nth pc 5=some (.str t):=by rw [hpc];rfl
 have kn:(AV.agg pc).known=true:=rfl
 rw [←hpc]
 obtain ⟨hA,hAe⟩:∃x,x=(h.push (.cells pc)).push (.cells [.int .i64 0,.int .i64 0,.int .i64 0]):=⟨_,rfl⟩
 have gA:aR h hA:=by rw [hAe];exact gw2
 have nA:hA.next=h.next+2:=by rw [hAe];simp
 have a5:cont hA h.next=some pc:=by rw [hAe];exact ctp
 have a6:cont hA (h.next+1)=some [.int .i64 0,.int .i64 0,.int .i64 0]:=by rw [hAe];exact ctp
 have TA:=T.grow gA
 have ltT:=T.lt
 by_cases c8:k=8
 case neg=>
  have d:=dF c8
  obtain ⟨m1,x1⟩:=uQ H 11 hA
  refine Out.pan 11 hA om (Ev.call H.f58 H.o58 ⟨m1,fun m hm=> ?b1⟩) (fM gA)
  case b1=>
   have x1' :=x1 m hm
   exact SX (cj6 @a58.eq_1 (Eq.symm hAe) a5 n0 d x1')
 have d8:=dT c8
 obtain ⟨m1,x1⟩:=tN H 11 hA
 rcases Us H O C TA W hN ha t with ⟨v,h1,⟨m2,x2⟩,ch1,S',ext,T1,W1,hv⟩|⟨e',h1,he,⟨m2,x2⟩,ch1⟩
 case inr=>
  refine Out.pan e' h1 he (Ev.call H.f58 H.o58 ⟨m1+m2,fun m hm=> ?b2⟩) (jV (fM gA) ch1)
  case b2=>
   have x1' :=x1 m om
   have x2' :=x2 m om
   exact SX (cj8 @a58.eq_1 (Eq.symm hAe) a5 n0 n5 d8 x1' x2')
 have nn:=ch1.next
 have CA:Chg (pE Γ) h h1:=jV (fM gA) ch1
 have b5:cont h1 h.next=some pc:=(qB ch1 om (fun q=>by have:=ltT.2.2 _ q;omega)).trans a5
 have b6:cont h1 (h.next+1)=some [.int .i64 0,.int .i64 0,.int .i64 0]:=(qB ch1 om (fun q=>by have:=ltT.2.2 _ q;omega)).trans a6
 rcases hv with ⟨rfl,GK⟩|⟨lv,q,i,kk,rfl,fa⟩
 ·obtain ⟨h2,h2e⟩:∃x,x=(h1.push (.cells [.int .i64 0,.int .i64 0,.int .i64 0,.int .i64 0])).set h1.next (.cells [.int .i64 0,.int .i64 0,.int .i64 0,.int .i64 0]):=⟨_,rfl⟩
  have g2:aR h1 h2:=by rw [h2e];exact gw2
  have n2:h2.next=h1.next+1:=by rw [h2e];simp
  have c5:=(aF g2 om).trans b5
  have c6:=(aF g2 om).trans b6
  by_cases co:t=Hx
  case neg=>
   have be:jD t [111,98,106,101,99,116]=false:=by rw [jT];simpa [Hx] using co
   obtain ⟨m3,x3⟩:=uQ H 11 h2
   refine Out.pan 11 h2 om (Ev.call H.f58 H.o58 ⟨m1+m2+m3,fun m hm=> ?b3⟩) (sA CA g2)
   case b3=>
    have x1' :=x1 m om
    have x2' :=x2 m om
    have x3' :=x3 m om
    simp only [CP] at x2'
    exact SX (qD @a58.eq_1 (Eq.symm hAe) a5 n0 n5 d8 x1' x2' (Eq.symm h2e) c5 be x3')
  have be:jD t [111,98,106,101,99,116]=true:=by rw [jT];simpa [Hx] using co
  obtain ⟨m3,x3⟩:=tN H 11 h2
  obtain ⟨h3,h3e⟩:∃x,x=h2.set (h.next+1) (.cells [.int .i64 (-1),.int .i64 0,.int .i64 0]):=⟨_,rfl⟩
  have z6:cont h3 (h.next+1)=some [.int .i64 (-1),.int .i64 0,.int .i64 0]:=by rw [h3e];exact aH om
  refine Out.ret (tgA none) h3 (Ev.call H.f58 H.o58 ⟨m1+m2+m3,fun m hm=> ?b4⟩) (by rw [h3e];exact qV (sA CA g2) om (.inr om) _)
   ⟨S',none,rfl,ext,(T1.grow g2).vT fun j hj w=> ?T4,W1,⟨by simpa [NN] using c8,.inl ⟨rfl,by simpa [Gi] using co,GK⟩⟩,fun v lv pt w=>by cases w⟩
  case T4=>
   have:j<h.next:=by rcases w with rfl|rfl|w;omega;omega;exact ltT.2.2 j w
   rw [h3e,aE _ _ _ _ om om]
  case b4=>
   have x1' :=x1 m om
   have x2' :=x2 m om
   have x3' :=x3 m om
   simp only [CP] at x2'
   exact SX (dD @a58.eq_1 (Eq.symm hAe) a5 n0 n5 d8 x1' x2' (Eq.symm h2e) c5 c6 be x3' (Eq.symm h3e) z6 @tgA.eq_1 @tgA.eq_2)
 ·obtain ⟨⟨w,c,u,hw,hwn,hcu,hm⟩,hno⟩:=fa
  obtain ⟨hq,⟨o,hco,hdf⟩,_⟩:=HY hm
  obtain ⟨dd,hdd,hfx,_⟩:=Ay hdf
  have hon:=(W1.part c.length w c u (Nat.le_refl _) hwn hcu q o hco).1
  have hlv:=Bu O lv ha om
  obtain ⟨h2,h2e⟩:∃x,x=(h1.push (.cells [.int .i64 0,.int .i64 0,.int .i64 0,.int .i64 0])).set h1.next (.cells [.int .i64 (lv:Nat),.int .i64 (q:Nat),.int .i64 (i:Nat),.int .i64 (kk:Nat)]):=⟨_,rfl⟩
  have g2:aR h1 h2:=by rw [h2e];exact gw2
  have n2:h2.next=h1.next+1:=by rw [h2e];simp
  have c6:=(aF g2 om).trans b6
  have c7:cont h2 h1.next=some [.int .i64 (lv:Nat),.int .i64 (q:Nat),.int .i64 (i:Nat),.int .i64 (kk:Nat)]:=by rw [h2e];exact aH (by simp)
  have T2:=T1.grow g2
  obtain ⟨m3,x3⟩:=HP H O T2 ha (k:=lv) om
  rw [hw] at x3
  obtain ⟨m4,x4⟩:=vO H O T2 hwn (by rw [hcu];simp)
  obtain ⟨cw,tkw,vu,cwA,w15,w16,wu,_⟩:=rY O T2 hwn hcu
  have ic:oG 1 (.sl tkw (ints c)) (.int .i64 (q:Nat))= .ok (.ep [.int .i64 (o:Nat)] 0):=pX (.sl _ _) hco
  obtain ⟨tk,v2,tT⟩:=T2.t_
  have ik:=Γ.at tk hon
  obtain ⟨vc',vu',bk,_⟩:=T2.d_ o hon
  obtain ⟨vd',k2,rvd⟩:=Gm (O.ok o hon) (S' o).busy vc' vu' (S' o).off (S' o).cl
  obtain ⟨vn,vs,vp,vy,hie,_⟩:=FN (O.ok o hon) (S' o).busy vc' vu' (S' o).off (S' o).cl k2 hdd
  have xe:=Γ.CU tk
  have ec:=uJ tkw c
  have ve:=jK rvd
  by_cases c1:iO dd=1
  case neg=>
   have d1:=dF c1
   obtain ⟨m5,x5⟩:=uQ H 11 h2
   refine Out.pan 11 h2 om (Ev.call H.f58 H.o58 ⟨m1+m2+m3+m4+m5,fun m hm=> ?b5⟩) (sA CA g2)
   case b5=>
    have x1' :=x1 m om
    have x2' :=x2 m om
    have x3' :=x3 m om
    have x4' :=x4 m om
    have x5' :=x5 m om
    simp only [CP] at x2'
    exact SX (dD @a58.eq_1 (Eq.symm hAe) a5 n0 n5 d8 x1' x2' (Eq.symm h2e) c7 x3' x4' cwA w15 ic tT (cj9 ik bk k2 hie xe ec ve d1 x5'))
  have d1:=dT c1
  obtain ⟨m5,x5⟩:=tN H 11 h2
  have hnd:=(G0 (O.ok o hon) (List.mem_of_getElem? hdd)).pat c1
  obtain ⟨v,th,har,how,lk⟩:=JR O T2 hon hdd (by intro w;rw [w] at hnd;simp at hnd)
  obtain ⟨h3,h3e⟩:∃x,x=h2.set (h.next+1) (.cells [.int .i64 (v:Nat),.int .i64 (lv:Nat),.int .i64 (q:Nat)]):=⟨_,rfl⟩
  have z6:cont h3 (h.next+1)=some [.int .i64 (v:Nat),.int .i64 (lv:Nat),.int .i64 (q:Nat)]:=by rw [h3e];exact aH om
  refine Out.ret (tgA (some (v,lv,q))) h3 (Ev.call H.f58 H.o58 ⟨m1+m2+m3+m4+m5,fun m hm=> ?b6⟩) (by rw [h3e];exact qV (sA CA g2) om (.inr om) _)
   ⟨S',some (v,lv,q),rfl,ext,T2.vT fun j hj w=> ?T6,W1,⟨by simpa [NN] using c8,.inr ⟨lv,q,i,kk,w,c,u,o,dd,v,⟨⟨w,c,u,hw,hwn,hcu,hm⟩,hno⟩,hw,hcu,hco,hon,hdd,c1,th,rfl⟩⟩,fun v' lv' pt' w' => ?st⟩
  case T6=>
   have:j<h.next:=by rcases w with rfl|rfl|w;omega;omega;exact ltT.2.2 j w
   rw [h3e,aE _ _ _ _ om om]
  case st=>
   cases w'
   exact ⟨th.1,o,har,w,c,u,hw,hwn,hcu,hco⟩
  case b6=>
   have x1' :=x1 m om
   have x2' :=x2 m om
   have x3' :=x3 m om
   have x4' :=x4 m om
   have x5' :=x5 m om
   simp only [CP] at x2'
   exact SK (dD @a58.eq_1 (Eq.symm hAe) a5 n0 n5 d8 x1' x2' (Eq.symm h2e) c7 c6 x3' x4' cwA w15 ic (vU tT ik bk k2 hie xe ec ve d1 x5' lk (Eq.symm h3e) z6 @tgA.eq_1 @tgA.eq_2))
end Go.Ly
namespace Go.Ly
open Go Go.Am Go.Fs Go.Gn
variable {fns:Go.Am.F} {orc:Orc}
def BdQ (Γ:Tb) (S:Nat→DY) (c:List Nat) (q:Nat) (s:List UInt8) (o:Nat) (v:AV) (h' :aD):Prop:=∃S' t,v=tgA t∧Ext S S' ∧TB Γ S' h' ∧WF Γ S' ∧rL Γ S' c q s t∧BS Γ S' (o:Int) t
theorem LA (H:Has fns orc) {Γ:Tb} (O:Γ.Ok) {N:Nat} (C:Ez fns orc Γ N) {S:Nat→DY} {h:aD} (T:TB Γ S h) (W:WF Γ S) (hN:opn S Γ.n≤N) {w0:Nat} (hw0:w0<Γ.n) {c u0:List Nat} (hcu:(S w0).ch=some (c,u0)) {vc:AV} (hx:iK vc (ints c)) {q o:Nat} (hq:c[q]? =some o)
  {s:List UInt8} {i k:Nat} (hdf:pL (aV (Γ.D o).pd) s=some (i,k)) {dd:lH} (hdd:(aV (Γ.D o).pd)[i]? =some dd) (hb:(pY dd).length=1∨(wC dd).length=1):
  Out fns orc (pE Γ) (.call 60 [.ptr Γ.tb 0,vc,.int .i64 (q:Nat),.str s] .plain h) h (BdQ Γ S c q s o):=by
 have hO:=O.lt
 obtain ⟨hon,uo,hch⟩:=W.part c.length w0 c u0 (Nat.le_refl _) hw0 hcu q o hq
 have iq:=pX hx hq
 have ltT:=T.lt
 obtain ⟨hA,hAe⟩:∃x,x=h.push (.cells [.int .i64 0,.int .i64 0,.int .i64 0]):=⟨_,rfl⟩
 have gA:aR h hA:=by rw [hAe];exact gw2
 have nA:hA.next=h.next+1:=by rw [hAe];simp
 have a8:cont hA h.next=some [.int .i64 0,.int .i64 0,.int .i64 0]:=by rw [hAe];exact ctp
 obtain ⟨hB,hBe⟩:∃x,x=hA.push (.cells [.int .i64 0,.int .i64 0,.int .i64 0,.int .i64 0]):=⟨_,rfl⟩
 have gB:aR hA hB:=by rw [hBe];exact gw2
 have nB:hB.next=h.next+2:=by rw [hBe];simp [nA]
 have b9:hB.get (h.next+1)=some (.cells [.int .i64 0,.int .i64 0,.int .i64 0,.int .i64 0]):=by rw [hBe];exact aQ _ _ _ om om
 have TB' :=T.grow (gA.trans gB)
 obtain ⟨tk,v2,tT⟩:=TB'.t_
 obtain ⟨vc',vu',bk,_⟩:=TB'.d_ o hon
 have ik:=Γ.at tk hon
 obtain ⟨vd',k2,rvd⟩:=Gm (O.ok o hon) (S o).busy vc' vu' (S o).off (S o).cl
 obtain ⟨bn1,bn2⟩:=qF (O.ok o hon)
 obtain ⟨hC,gC,m1,x1⟩:=zK H rvd bn1 bn2 s bk k2
 rw [hdf] at x1
 have nC:=gC.next
 have c9:hC.get (h.next+1)=some (.cells [.int .i64 0,.int .i64 0,.int .i64 0,.int .i64 0]):=(gC.get _ om).trans b9
 have c9' :=AN c9
 have tC:=(aF gC (aT tT)).trans tT
 have bC:=(aF gC (aT bk)).trans bk
 have z2:allEq (LG CG) [.int .i64 0,.int .i64 0,.int .i64 0,.int .i64 0] [.int .i64 0,.int .i64 0,.int .i64 0,.int .i64 0]=true:=rfl
 have z3:allEq (LG CG) [.int .i64 0,.aC,.aC,.aC,.aC] [.int .i64 0,.aC,.aC,.aC,.aC]=true:=rfl
 have xe:=Γ.CU tk
 have ve:=jK rvd
 obtain ⟨hD,hDe⟩:∃x,x=hC.set (h.next+1) (.cells [.int .i64 0,.int .i64 0,.int .i64 (i:Nat),.int .i64 (k:Nat)]):=⟨_,rfl⟩
 have nD:hD.next=hC.next:=by rw [hDe];simp
 have d9:cont hD (h.next+1)=some [.int .i64 0,.int .i64 0,.int .i64 (i:Nat),.int .i64 (k:Nat)]:=by rw [hDe];exact aH om
 have gD:aR hA hD:=by rw [hDe];exact (gB.trans gC).set om om _
 obtain ⟨vn,vs,vp,vy,hie,rn,rp,ry,deq,kn,ks,kp,ky⟩:=FN (O.ok o hon) (S o).busy vc' vu' (S o).off (S o).cl k2 hdd
 obtain ⟨hE,hEe⟩:∃x,x=hD.push (.cells [.int .i64 0,.aC,.aC,.aC,.aC]):=⟨_,rfl⟩
 have gE:aR hD hE:=by rw [hEe];exact gw2
 have nE:hE.next=hC.next+1:=by rw [hEe];simp [nD]
 have e11:hE.get hC.next=some (.cells [.int .i64 0,.aC,.aC,.aC,.aC]):=by rw [hEe];exact aQ _ _ _ om om
 have e11' :=AN e11
 have e9:=(aF gE om).trans d9
 have gAE:=gD.trans gE
 have tE:=(aF gAE (by rw [nA];omega)).trans ((aF gB (by rw [nA];omega)).symm.trans tT)
 have bE:=(aF gAE (by have:=ltT.2.2 _ ⟨o,hon,rfl⟩;omega:Γ.loc o<hA.next)).trans ((aF gB (by have:=ltT.2.2 _ ⟨o,hon,rfl⟩;omega)).symm.trans bk)
 obtain ⟨hF,hFe⟩:∃x,x=hE.set hC.next (.cells [.int .i64 (iO dd),vn,vs,vp,vy]):=⟨_,rfl⟩
 have nF:hF.next=hC.next+1:=by rw [hFe];simp [nE]
 have sF:stC hE 5 hC.next 0 (.agg [.int .i64 (iO dd),vn,vs,vp,vy]) (cont hE hC.next)= .ok hF:=by
  rw [hFe]
  simp only [e11',iS,AV.cells,List.length_cons,List.length_nil,List.all_cons,List.all_nil,bI,kn,ks,kp,ky,cW]
  rfl
 have f11:cont hF hC.next=some [.int .i64 (iO dd),vn,vs,vp,vy]:=by rw [hFe];exact aH om
 have gF:aR hA hF:=by rw [hFe];exact gAE.set om om _
 have f8:=(aF gF om).trans a8
 have f9:cont hF (h.next+1)=some [.int .i64 0,.int .i64 0,.int .i64 (i:Nat),.int .i64 (k:Nat)]:=by rw [hFe];exact (aK om om).trans e9
 have TF:=T.grow (gA.trans gF)
 have tF:=(aF gF (by rw [nA];omega)).trans ((aF gAE (by rw [nA];omega)).symm.trans tE)
 have ly:∀hp,mK hp .sl vy= .ok (pY dd).length:=fun hp=>by have:=ry.len hp;simpa using this
 have ey:=jK ry
 have ep:=jK rp
 by_cases c1:(pY dd).length=1
 ·have d1:decide ((((pY dd).length:Nat):Int)=1)=true:=dT om
  obtain ⟨v,th,har,how,lk⟩:=JR O TF hon hdd (by intro w;rw [w] at c1;simp at c1)
  obtain ⟨hG,hGe⟩:∃x,x=hF.set h.next (.cells [.int .i64 (v:Nat),.int .i64 0,.int .i64 (q:Nat)]):=⟨_,rfl⟩
  have g8:cont hG h.next=some [.int .i64 (v:Nat),.int .i64 0,.int .i64 (q:Nat)]:=by rw [hGe];exact aH om
  refine Out.ret (tgA (some (v,0,q))) hG (Ev.call H.f60 H.o60 ⟨m1,fun m hm=> ?b1⟩) (by rw [hGe];exact qV (fM (gA.trans gF)) om (.inr om) _)
   ⟨S,some (v,0,q),rfl,.refl _,TF.vT fun j hj w=> ?T1,W,⟨o,i,k,dd,hq,hon,hdf,hdd,.inl ⟨c1,v,th,rfl⟩⟩,fun v' lv' pt' w' => ?st⟩
  case T1=>
   have:j<h.next:=by rcases w with rfl|rfl|w;omega;omega;exact ltT.2.2 j w
   rw [hGe,aE _ _ _ _ om om]
  case st=>
   cases w'
   refine ⟨th.1,o,har,o,_,uo,rfl,hon,hch, ?_⟩
   rw [List.getElem?_take]
   simpa using hq
  case b1=>
   have x1' :=x1 m om
   simp only [AG] at x1'
   exact SK (dD @a60.eq_1 (Eq.symm hAe) nA (Eq.symm hBe) iq tT ik bk x1' b9 c9 c9' z2 z3 @iQ.eq_1 @iQ.eq_2 (dD (Eq.symm hDe) nD tC bC k2 hie xe ve deq (Eq.symm hEe) d9 e9 tE bE e11 sF (qD f11 ly d1 ey tF f9 lk f8 (Eq.symm hGe) g8 @tgA.eq_1 @tgA.eq_2)))
 ·have d1:decide ((((pY dd).length:Nat):Int)=1)=false:=dF om
  have hp1:=hb.resolve_left c1
  obtain ⟨e,he⟩:=List.length_eq_one_iff.1 hp1
  rw [he] at rp
  obtain ⟨ys,hys,hyl,hyg⟩:=jX rp
  obtain ⟨ce,hce,rve⟩:=hyg 0 (by simp)
  have ipe:oG 8 vp (.int .i64 0)= .ok (.ep ce 0):=jZ (i:=0) hys hce (pS rve)
  have l8:bK (some 8) ce 0= .ok (.agg ce):=vZ (pS rve)
  have ee:=A7 rve
  rcases Gp H O C TF W hN (a:=(o:Int)) ⟨by omega,by omega⟩ rve with ⟨v,h1,⟨m2,x2⟩,ch1,S',t,rfl,ext,T1,W1,mr,st⟩|⟨e',h1,hpe,⟨m2,x2⟩,ch1⟩
  case inr=>
   refine Out.pan e' h1 hpe (Ev.call H.f60 H.o60 ⟨m1+m2,fun m hm=> ?b2⟩) (jV (fM (gA.trans gF)) ch1)
   case b2=>
    have x1' :=x1 m om
    have x2' :=x2 m om
    simp only [AG] at x1'
    exact SR (dD @a60.eq_1 (Eq.symm hAe) nA (Eq.symm hBe) iq tT ik bk x1' b9 c9 c9' z2 z3 @iQ.eq_1 @iQ.eq_2 (dD (Eq.symm hDe) nD tC bC k2 hie xe ve deq (Eq.symm hEe) d9 e9 tE bE e11 sF (uK f11 ly d1 ey ep ipe l8 ee x2' @ldS)))
  have nn:=ch1.next
  have y8:cont h1 h.next=some [.int .i64 0,.int .i64 0,.int .i64 0]:=(qB ch1 om (fun w=>by have:=ltT.2.2 _ w;omega)).trans f8
  obtain ⟨x,y,z,HA⟩:∃x y z:Int,tgA t= .agg [.int .i64 x,.int .i64 y,.int .i64 z]:=by
   cases t with
   |none=>exact ⟨_,_,_,rfl⟩
   |some p=>obtain ⟨p1,p2,p3⟩:=p;exact ⟨_,_,_,rfl⟩
  obtain ⟨hG,hGe⟩:∃w,w=h1.set h.next (.cells [.int .i64 x,.int .i64 y,.int .i64 z]):=⟨_,rfl⟩
  have g8:cont hG h.next=some [.int .i64 x,.int .i64 y,.int .i64 z]:=by rw [hGe];exact aH om
  refine Out.ret (tgA t) hG (Ev.call H.f60 H.o60 ⟨m1+m2,fun m hm=> ?b3⟩) (by rw [hGe];exact qV (jV (fM (gA.trans gF)) ch1) om (.inr om) _)
   ⟨S',t,rfl,ext,T1.vT fun j hj w=> ?T3,W1,⟨o,i,k,dd,hq,hon,hdf,hdd,.inr ⟨c1,e,by rw [he];rfl,mr⟩⟩,st⟩
  case T3=>
   have:j<h.next:=by rcases w with rfl|rfl|w;omega;omega;exact ltT.2.2 j w
   rw [hGe,aE _ _ _ _ om om]
  case b3=>
   have x1' :=x1 m om
   have x2' :=x2 m om
   simp only [AG] at x1'
   rw [HA] at x2'
   rw [HA]
   exact SR (dD @a60.eq_1 (Eq.symm hAe) nA (Eq.symm hBe) iq tT ik bk x1' b9 c9 c9' z2 z3 @iQ.eq_1 @iQ.eq_2 (dD (Eq.symm hDe) nD tC bC k2 hie xe ve deq (Eq.symm hEe) d9 e9 tE bE e11 sF (wB f11 ly d1 ey ep ipe l8 ee x2' y8 (Eq.symm hGe) g8 @ldS)))
end Go.Ly
namespace Go.Ly
open Go Go.Am Go.Fs Go.Gn
variable {fns:Go.Am.F} {orc:Orc}
theorem F7 {tk:Tk} {xs:List AV} (hw:Bp 1 xs) {n:Nat} (hn:n≤xs.length):∃tk',uH false 1 (.sl tk xs) none (some (.int .i64 (n:Int))) none= .ok (.sl tk' (xs.take n)):=by
 have h3:oW 1 xs=true:=by
  cases xs with
  |nil=>rfl
  |cons x xs=>simp only [oW];rw [hw x (by simp)];rfl
 have e:ile (n:Int) ((xs.length:Nat):Int)=true:=by rw [jI];exact dT om
 refine ⟨ED tk none xs.length n 0 xs.length, ?_⟩
 simp only [uH,QE,h3,Go.Am.bound,uA,aM,AL,e,wS,Bool.true_and,if_true,List.drop_zero]
theorem EU {c:List Nat} (hc:0<c.length) (tk:Tk):∃tk',uH false 1 (.sl tk (ints c)) none (some (.int .i64 ((c.length:Int) -1))) none= .ok (.sl tk' (ints c.dropLast)):=by
 obtain ⟨tk',h⟩:=F7 (tk:=tk) (wX c) (n:=c.length -1) (by rw [kV];omega)
 refine ⟨tk', ?_⟩
 rw [show ((c.length:Int) -1)=((c.length -1:Nat):Int) by omega,h,List.dropLast_eq_take]
 simp [ints,List.map_take]
theorem Ig {Γ:Tb} {s:List UInt8}:∀(c:List Nat) (i:Nat) (acc:List Nat) (q:Nat),q∈yB Γ s c i acc→q∈acc∨∃d i' k x,i≤q∧c[q -i]? =some d∧pL (aV (Γ.D d).pd) s=some (i',k)∧(aV (Γ.D d).pd)[i']? =some x∧(iO x=2∨iO x=3∨iO x=4)
 |[],i,acc,q,h=> .inl h
 |d::r,i,acc,q,h=>by
  simp only [yB] at h
  rcases Ig r (i+1) _ q h with h|⟨d',i',k,x,h1,h2,h3⟩
  ·have here:∀i' k x,pL (aV (Γ.D d).pd) s=some (i',k)→(aV (Γ.D d).pd)[i']? =some x→(iO x=2∨iO x=3∨iO x=4)→q=i→q∈acc∨∃d' i' k x,i≤q∧(d::r)[q -i]? =some d' ∧pL (aV (Γ.D d').pd) s=some (i',k)∧(aV (Γ.D d').pd)[i']? =some x∧(iO x=2∨iO x=3∨iO x=4):=by
    rintro i' k x g1 g2 g3 rfl
    exact .inr ⟨d,i',k,x,Nat.le_refl _,by simp,g1,g2,g3⟩
   split at h
   ·exact .inl h
   ·rename_i i' k hf
    split at h
    ·exact .inl h
    ·rename_i x hx
     split at h
     ·rename_i c2
      exact here i' k x hf hx (.inl c2) (by simpa using h)
     ·split at h
      ·rename_i c3
       rcases List.mem_append.1 h with h|h
       ·exact .inl h
       ·exact here i' k x hf hx (.inr c3.1) (by simpa using h)
      ·exact .inl h
  ·refine .inr ⟨d',i',k,x,by omega, ?_,h3⟩
   rw [show q -i=(q -(i+1))+1 by omega,List.getElem?_cons_succ]
   exact h2
theorem EZ {Γ:Tb} {s:List UInt8} {c:List Nat} {q:Nat} (h:q∈lT Γ s c):∃d i' k x,c[q]? =some d∧pL (aV (Γ.D d).pd) s=some (i',k)∧(aV (Γ.D d).pd)[i']? =some x∧(iO x=2∨iO x=3∨iO x=4):=by
 rcases Ig c 0 [] q h with h|⟨d,i',k,x,_,h⟩
 ·cases h
 ·exact ⟨d,i',k,x,by simpa using h⟩
theorem El {D:DS} (k:D.Ok) {d:lH} (hd:d∈aV D.pd) (hk:iO d=2∨iO d=3∨iO d=4):(pY d).length=1∨(wC d).length=1:=by
 rcases (G0 k hd).WU om with h|h
 ·exact .inr h.2
 ·exact .inl h.2
theorem Bx {Γ:Tb} {S:Nat→DY} (W:WF Γ S) {a:Int} {l p k pt r:Nat} (h:PlK Γ S a l p k) {ck uk:List Nat} (hk:(S k).ch=some (ck,uk)) (hr:ck[pt]? =some r):PlK Γ S a l pt r:=by
 obtain ⟨w,c,u,h1,h2,h3,h4⟩:=h
 obtain ⟨_,u',h5⟩:=W.part c.length w c u (Nat.le_refl _) h2 h3 p k h4
 rw [hk] at h5
 cases h5
 refine ⟨w,c,u,h1,h2,h3, ?_⟩
 rw [List.getElem?_take] at hr
 split at hr
 ·exact hr
 ·cases hr
def AhQ (Γ:Tb) (S:Nat→DY) (i:Nat) (v:AV) (h' :aD):Prop:=∃S' t,v=tgA t∧Ext S S' ∧TB Γ S' h' ∧WF Γ S' ∧DN Γ S' i t∧BS Γ S' (Γ.D i).ar t∧(t≠none→0≤(Γ.D i).ar)
theorem Qn (H:Has fns orc) {Γ:Tb} (O:Γ.Ok) {N:Nat} (C:Ez fns orc Γ N) {S:Nat→DY} {h:aD} (T:TB Γ S h) (W:WF Γ S) (hN:opn S Γ.n≤N) {i:Nat} (hi:i<Γ.n) {e:pD} (hp:A1 (Γ.D i).pd=[e]):
  Out fns orc (pE Γ) (.call 53 [.ptr Γ.tb 0,.ptr (Γ.loc i) 0] .plain h) h (AhQ Γ S i):=by
 have hO:=O.lt
 have ar:=O.ar i hi
 have ltT:=T.lt
 obtain ⟨hA,hAe⟩:∃x,x=h.push (.cells [.int .i64 0,.int .i64 0,.int .i64 0]):=⟨_,rfl⟩
 have gA:aR h hA:=by rw [hAe];exact gw2
 have nA:hA.next=h.next+1:=by rw [hAe];simp
 have a4:cont hA h.next=some [.int .i64 0,.int .i64 0,.int .i64 0]:=by rw [hAe];exact ctp
 have TA:=T.grow gA
 obtain ⟨vc,vu,bk,_⟩:=TA.d_ i hi
 obtain ⟨vp,k1,rvp⟩:=Xb (O.ok i hi) (S i).busy vc vu (S i).off (S i).cl
 have k8:=FA (O.ok i hi) (S i).busy vc vu (S i).off (S i).cl
 rw [hp] at rvp
 have lp:∀hp,mK hp .sl vp= .ok 1:=fun hp=>by have:=rvp.len hp;simpa using this
 have ep:=jK rvp
 obtain ⟨ys,hys,hyl,hyg⟩:=jX rvp
 obtain ⟨ce,hce,rve⟩:=hyg 0 (by simp)
 have ipe:oG 8 vp (.int .i64 0)= .ok (.ep ce 0):=jZ (i:=0) hys hce (pS rve)
 have l8:bK (some 8) ce 0= .ok (.agg ce):=vZ (pS rve)
 have ee:=A7 rve
 have o1:decide (((1:Nat):Int)=1)=true:=rfl
 by_cases c0:(Γ.D i).ar<0
 ·have d0:=dT c0
  simp only [List.map_cons,List.map_nil,List.getElem_cons_zero] at rve
  generalize hbx:bx (Γ.D i) (S i).busy vc vu (S i).off (S i).cl=cc at bk k1 k8
  cases rve with| @exp k op n man ex t al dl va vd r1 r2=>
  have j0:nth [AV.int .i64 k,.int .i64 op,.int .i64 n,.int .i64 man,.int .i64 ex,.str t,va,vd] 0=some (.int .i64 k):=rfl
  have XN:k=8∧t=Hx→Out fns orc (pE Γ) (.call 53 [.ptr Γ.tb 0,.ptr (Γ.loc i) 0] .plain h) h (AhQ Γ S i):=by
   rintro ⟨c8,co⟩
   have d8:=dT c8
   have be:jD t [111,98,106,101,99,116]=true:=by rw [jT];simpa [Hx] using co
   obtain ⟨m1,x1⟩:=tN H 11 hA
   obtain ⟨hG,hGe⟩:∃x,x=hA.set h.next (.cells [.int .i64 (-1),.int .i64 0,.int .i64 0]):=⟨_,rfl⟩
   have g4:cont hG h.next=some [.int .i64 (-1),.int .i64 0,.int .i64 0]:=by rw [hGe];exact aH om
   refine Out.ret (tgA none) hG (Ev.call H.f53 H.o53 ⟨m1,fun m hm=> ?b1⟩) (by rw [hGe];exact qV (fM gA) om (.inr om) _)
    ⟨S,none,rfl,.refl _,TA.vT fun j hj w=> ?T1,W,.inl ⟨_,hp,.inl ⟨c0,c8,co,rfl⟩⟩,(by intro v lv pt w;cases w),fun w=>absurd rfl w⟩
   case T1=>
    have:j<h.next:=by rcases w with rfl|rfl|w;omega;omega;exact ltT.2.2 j w
    rw [hGe,aE _ _ _ _ om om]
   case b1=>
    have x1' :=x1 m hm
    exact SX (dD @a53.eq_1 (Eq.symm hAe) bk k1 k8 lp o1 d0 ipe d8 be x1' a4 (Eq.symm hGe) g4 @tgA.eq_1 @tgA.eq_2)
  have bad:(¬k=8)∨(k=8∧¬t=Hx)→Out fns orc (pE Γ) (.call 53 [.ptr Γ.tb 0,.ptr (Γ.loc i) 0] .plain h) h (AhQ Γ S i):=by
   intro cc
   obtain ⟨m1,x1⟩:=uQ H 11 hA
   refine Out.pan 11 hA om (Ev.call H.f53 H.o53 ⟨m1,fun m hm=> ?b2⟩) (fM gA)
   case b2=>
    have x1' :=x1 m hm
    rcases cc with c8|⟨c8,co⟩
    ·have d8:=dF c8
     exact SX (sH @a53.eq_1 (Eq.symm hAe) bk k1 k8 lp o1 d0 ipe d8 x1')
    ·have d8:=dT c8
     have be:jD t [111,98,106,101,99,116]=false:=by rw [jT];simpa [Hx] using co
     exact SX (qD @a53.eq_1 (Eq.symm hAe) bk k1 k8 lp o1 d0 ipe d8 be x1')
  by_cases c8:k=8
  ·by_cases co:t=Hx
   ·exact XN ⟨c8,co⟩
   ·exact bad (.inr ⟨c8,co⟩)
  ·exact bad (.inl c8)
 ·have d0:=dF c0
  rcases Gp H O C TA W hN (a:=(Γ.D i).ar) ⟨by omega,by omega⟩ rve with ⟨v,h1,⟨m2,x2⟩,ch1,S',t,rfl,ext,T1,W1,mr,st⟩|⟨e',h1,hpe,⟨m2,x2⟩,ch1⟩
  case inr=>
   refine Out.pan e' h1 hpe (Ev.call H.f53 H.o53 ⟨m2,fun m hm=> ?b3⟩) (jV (fM gA) ch1)
   case b3=>
    have x2' :=x2 m hm
    exact SR (yL @a53.eq_1 (Eq.symm hAe) bk k1 k8 lp o1 d0 ipe l8 ep ee x2' @ldS)
  have nn:=ch1.next
  have y4:cont h1 h.next=some [.int .i64 0,.int .i64 0,.int .i64 0]:=(qB ch1 om (fun w=>by have:=ltT.2.2 _ w;omega)).trans a4
  obtain ⟨x,y,z,HA⟩:∃x y z:Int,tgA t= .agg [.int .i64 x,.int .i64 y,.int .i64 z]:=by
   cases t with
   |none=>exact ⟨_,_,_,rfl⟩
   |some p=>obtain ⟨p1,p2,p3⟩:=p;exact ⟨_,_,_,rfl⟩
  obtain ⟨hG,hGe⟩:∃w,w=h1.set h.next (.cells [.int .i64 x,.int .i64 y,.int .i64 z]):=⟨_,rfl⟩
  have g4:cont hG h.next=some [.int .i64 x,.int .i64 y,.int .i64 z]:=by rw [hGe];exact aH om
  refine Out.ret (tgA t) hG (Ev.call H.f53 H.o53 ⟨m2,fun m hm=> ?b4⟩) (by rw [hGe];exact qV (jV (fM gA) ch1) om (.inr om) _)
   ⟨S',t,rfl,ext,T1.vT fun j hj w=> ?T3,W1,.inl ⟨e,hp,.inr ⟨by omega,mr⟩⟩,st,fun _=>by omega⟩
  case T3=>
   have:j<h.next:=by rcases w with rfl|rfl|w;omega;omega;exact ltT.2.2 j w
   rw [hGe,aE _ _ _ _ om om]
  case b4=>
   have x2' :=x2 m hm
   rw [HA] at x2'
   rw [HA]
   exact SR (dD @a53.eq_1 (Eq.symm hAe) bk k1 k8 lp o1 d0 ipe l8 ep ee x2' y4 (Eq.symm hGe) g4 @ldS)
end Go.Ly
namespace Go.Ly
open Go Go.Am Go.Fs Go.Gn
variable {fns:Go.Am.F} {orc:Orc}
theorem A5 (t:Tg):∃x y z:Int,tgA t= .agg [.int .i64 x,.int .i64 y,.int .i64 z]:=by
 cases t with
 |none=>exact ⟨_,_,_,rfl⟩
 |some p=>obtain ⟨p1,p2,p3⟩:=p;exact ⟨_,_,_,rfl⟩
theorem xJ {Γ:Tb} {s:List UInt8}:∀(c:List Nat) (i:Nat) (acc:List Nat),(yB Γ s c i acc).length≤acc.length+c.length+1
 |[],i,acc=>by simp only [yB];omega
 |d::r,i,acc=>by
  simp only [yB]
  split
  ·have:=xJ (Γ:=Γ) (s:=s) r (i+1) acc;simp at*;omega
  ·split
   ·have:=xJ (Γ:=Γ) (s:=s) r (i+1) acc;simp at*;omega
   ·split
    ·have:=xJ (Γ:=Γ) (s:=s) r (i+1) [i];simp at*;omega
    ·split
     ·have:=xJ (Γ:=Γ) (s:=s) r (i+1) (acc++[i]);simp at*;omega
     ·have:=xJ (Γ:=Γ) (s:=s) r (i+1) acc;simp at*;omega
theorem Qo (H:Has fns orc) {Γ:Tb} (O:Γ.Ok) {N:Nat} (C:Ez fns orc Γ N) {S:Nat→DY} {h:aD} (T:TB Γ S h) (W:WF Γ S) (hN:opn S Γ.n≤N) {i:Nat} (hi:i<Γ.n) (hp:(A1 (Γ.D i).pd).length≠1):
  Out fns orc (pE Γ) (.call 53 [.ptr Γ.tb 0,.ptr (Γ.loc i) 0] .plain h) h (AhQ Γ S i):=by
 have hO:=O.lt
 have ar:=O.ar i hi
 have ltT:=T.lt
 obtain ⟨hA,hAe⟩:∃x,x=h.push (.cells [.int .i64 0,.int .i64 0,.int .i64 0]):=⟨_,rfl⟩
 have gA:aR h hA:=by rw [hAe];exact gw2
 have nA:hA.next=h.next+1:=by rw [hAe];simp
 have a4:cont hA h.next=some [.int .i64 0,.int .i64 0,.int .i64 0]:=by rw [hAe];exact ctp
 have TA:=T.grow gA
 obtain ⟨vc,vu,bk,_⟩:=TA.d_ i hi
 obtain ⟨vp,k1,rvp⟩:=Xb (O.ok i hi) (S i).busy vc vu (S i).off (S i).cl
 have k8:=FA (O.ok i hi) (S i).busy vc vu (S i).off (S i).cl
 have k9:=nbx9 (O.ok i hi) (S i).busy vc vu (S i).off (S i).cl
 obtain ⟨vn,k10,rn⟩:=UU (O.ok i hi) (S i).busy vc vu (S i).off (S i).cl
 have lp:∀hp,mK hp .sl vp= .ok (A1 (Γ.D i).pd).length:=fun hp=>by have:=rvp.len hp;simpa using this
 have o1:decide ((((A1 (Γ.D i).pd).length:Nat):Int)=1)=false:=dF om
 by_cases ck:iO (Γ.D i).ow=3∨iO (Γ.D i).ow=4
 case neg=>
  have d3:=dF (fun q=>ck (.inl q))
  have d4:=dF (fun q=>ck (.inr q))
  obtain ⟨hG,hGe⟩:∃x,x=hA.set h.next (.cells [.int .i64 (-1),.int .i64 0,.int .i64 0]):=⟨_,rfl⟩
  have g4:cont hG h.next=some [.int .i64 (-1),.int .i64 0,.int .i64 0]:=by rw [hGe];exact aH om
  refine Out.ret (tgA none) hG (Ev.call H.f53 H.o53 ⟨0,fun m hm=> ?b1⟩) (by rw [hGe];exact qV (fM gA) om (.inr om) _)
   ⟨S,none,rfl,.refl _,TA.vT fun j hj w=> ?T1,W,.inr (.inl ⟨hp,ck,rfl⟩),(by intro v lv pt w;cases w),fun w=>absurd rfl w⟩
  case T1=>
   have:j<h.next:=by rcases w with rfl|rfl|w;omega;omega;exact ltT.2.2 j w
   rw [hGe,aE _ _ _ _ om om]
  case b1=>
   exact SX (yL @a53.eq_1 (Eq.symm hAe) bk k1 lp o1 k9 d3 d4 a4 (Eq.symm hGe) g4 @tgA.eq_1 @tgA.eq_2)
 have eor:(decide (iO (Γ.D i).ow=3)=true∧∃b,decide (iO (Γ.D i).ow=4)=b)∨(decide (iO (Γ.D i).ow=3)=false∧decide (iO (Γ.D i).ow=4)=true):=by
  by_cases q:iO (Γ.D i).ow=3
  ·exact .inl ⟨dT q,_,rfl⟩
  ·exact .inr ⟨dF q,dT (ck.resolve_left q)⟩
 have XK:0≤(Γ.D i).ar:=by
  rcases (O.ok i hi).ow with q|q
  ·rw [q] at ck;simp [Aj,iO] at ck
  ·exact q
 obtain ⟨a,ha⟩:∃a:Nat,(Γ.D i).ar=(a:Int):=⟨(Γ.D i).ar.toNat,by omega⟩
 rw [ha] at k8
 have han:a<Γ.n:=om
 have lnm:∀hp,mK hp .sl vn= .ok (iJ (Γ.D i).ow).length:=fun hp=>by rw [bJ rn hp,List.length_map]
 by_cases cn:(iJ (Γ.D i).ow).length=1
 case neg=>
  have dn:decide ((((iJ (Γ.D i).ow).length:Nat):Int)=1)=false:=dF om
  obtain ⟨m1,x1⟩:=uQ H 11 hA
  refine Out.pan 11 hA om (Ev.call H.f53 H.o53 ⟨m1,fun m hm=> ?b2⟩) (fM gA)
  case b2=>
   have x1' :=x1 m hm
   rcases eor with ⟨d3,b,d4⟩|⟨d3,d4⟩<;>exact SX (wB @a53.eq_1 (Eq.symm hAe) bk k1 lp o1 k9 d3 d4 k10 lnm dn x1')
 obtain ⟨s,hs⟩:=List.length_eq_one_iff.1 cn
 have dn:decide ((((iJ (Γ.D i).ow).length:Nat):Int)=1)=true:=dT om
 have in0:oG 1 vn (.int .i64 0)= .ok (.ep [.str s] 0):=pN (i:=0) rn (by rw [hs];rfl) rfl
 have vne:=uR rn
 obtain ⟨m1,x1⟩:=tN H 11 hA
 rcases C S hA a TA W hN han with ⟨v,h1,⟨m2,x2⟩,ch1,rfl,S1,Se,T1,W1,hch⟩|⟨e',h1,hpe,⟨m2,x2⟩,ch1⟩
 case inr=>
  refine Out.pan e' h1 hpe (Ev.call H.f53 H.o53 ⟨m1+m2,fun m hm=> ?b3⟩) (jV (fM gA) ch1)
  case b3=>
   have x1' :=x1 m om
   have x2' :=x2 m om
   rcases eor with ⟨d3,b,d4⟩|⟨d3,d4⟩<;>exact SX (vU @a53.eq_1 (Eq.symm hAe) bk k1 k8 lp o1 k9 d3 d4 k10 lnm dn x1' x2')
 have CA:=jV (fM gA:Chg (pE Γ) h hA) ch1
 obtain ⟨⟨c,u⟩,hcu⟩:=Option.ne_none_iff_exists'.1 hch
 obtain ⟨cw,tkw,vuw,cwA,w15,w16,wu,_⟩:=rY O T1 han hcu
 have F1:=W1 a han c u hcu
 obtain ⟨c0,hc0,hnc0⟩:=W1.last han hcu
 have hcl:0<c.length:=by rw [hc0];simp
 have hcn:∀d∈c,d<Γ.n:=fun d hd=>by
  obtain ⟨q,hq⟩:=tO hd
  exact (W1.part c.length a c u (Nat.le_refl _) han hcu q d hq).1
 obtain ⟨tk',dl⟩:=EU hcl tkw
 have w1:IntKind.wrap .i64 ((c.length:Int) -1)=(c.length:Int) -1:=mW (by have:=F1.max;omega) (by have:=F1.max;omega)
 have lc:∀hp,mK hp .sl (.sl tkw (ints c))= .ok c.length:=fun hp=>by rw [fW,kV]
 have ec:=uJ tkw c
 obtain ⟨vc1,vu1,bk1,_⟩:=T1.d_ i hi
 obtain ⟨vn1,RE,rn1⟩:=UU (O.ok i hi) (S1 i).busy vc1 vu1 (S1 i).off (S1 i).cl
 have k8' :=FA (O.ok i hi) (S1 i).busy vc1 vu1 (S1 i).off (S1 i).cl
 rw [ha] at k8'
 have in1:oG 1 vn1 (.int .i64 0)= .ok (.ep [.str s] 0):=pN (i:=0) rn1 (by rw [hs];rfl) rfl
 have Qw:=uR rn1
 obtain ⟨h2,vL,g2,⟨m3,x3⟩,rl⟩:=Cp H O (S:=S1) s (.sl tk' (ints c.dropLast)) (fun d hd=>hcn d (List.dropLast_subset c hd)) (by have:=F1.max;simp;omega) T1
 have T2:=T1.grow g2
 have ll:∀hp,mK hp .sl vL= .ok (lT Γ s c.dropLast).length:=fun hp=>by rw [bJ rl hp,kV]
 have nn1:=ch1.next
 have nn2:=g2.next
 by_cases cl:lT Γ s c.dropLast=[]
 ·have dl0:decide ((0:Int)<(((lT Γ s c.dropLast).length:Nat):Int))=false:=dF (by rw [cl];simp)
  obtain ⟨m4,x4⟩:=uQ H 11 h2
  refine Out.pan 11 h2 om (Ev.call H.f53 H.o53 ⟨m1+m2+m3+m4,fun m hm=> ?b4⟩) (sA CA g2)
  case b4=>
   have x1' :=x1 m om
   have x2' :=x2 m om
   have x3' :=x3 m om
   have x4' :=x4 m om
   rcases eor with ⟨d3,b,d4⟩|⟨d3,d4⟩<;>exact SX (dD @a53.eq_1 (Eq.symm hAe) bk k1 k8 lp o1 k9 d3 d4 k10 lnm dn x1' x2' cwA (wB w15 lc w1 dl bk1 RE in1 Qw ec x3' ll dl0 x4'))
 have pl:0<(lT Γ s c.dropLast).length:=List.length_pos_iff.2 cl
 have dl0:decide ((0:Int)<(((lT Γ s c.dropLast).length:Nat):Int))=true:=dT om
 obtain ⟨m4,x4⟩:=tN H 11 h2
 obtain ⟨q,hq⟩:∃q,(lT Γ s c.dropLast).getLast? =some q:=⟨_,List.getLast?_eq_some_getLast cl⟩
 have hq' :(lT Γ s c.dropLast)[(lT Γ s c.dropLast).length -1]? =some q:=by rw [←List.getLast?_eq_getElem?];exact hq
 have hqm:q∈lT Γ s c.dropLast:=List.mem_of_getElem? hq'
 obtain ⟨o,i',kk,x,g1,gf,gx,gk⟩:=EZ hqm
 have hco:c[q]? =some o:=by
  rw [List.getElem?_dropLast] at g1
  split at g1
  ·exact g1
  ·cases g1
 have hon:=hcn o (List.mem_of_getElem? hco)
 have llb:(lT Γ s c.dropLast).length<10000000:=by
  have:=xJ (Γ:=Γ) (s:=s) c.dropLast 0 []
  have:=F1.max
  simp only [lT]
  simp at*
  omega
 have w2:IntKind.wrap .i64 ((((lT Γ s c.dropLast).length:Nat):Int) -1)=(((lT Γ s c.dropLast).length -1:Nat):Int):=by rw [mW om om];omega
 have iq:=pX rl hq'
 rcases LA H O C T2 W1 (by have:=yU Se Γ.n;omega) han hcu (.sl tkw (ints c)) hco gf gx (El (O.ok o hon) (List.mem_of_getElem? gx) gk) with ⟨v,h3,⟨m5,x5⟩,ch3,S3,t0,rfl,ES,T3,W3,br,st⟩|⟨e',h3,hpe,⟨m5,x5⟩,ch3⟩
 case inr=>
  refine Out.pan e' h3 hpe (Ev.call H.f53 H.o53 ⟨m1+m2+m3+m4+m5,fun m hm=> ?b5⟩) (jV (sA CA g2) ch3)
  case b5=>
   have x1' :=x1 m om
   have x2' :=x2 m om
   have x3' :=x3 m om
   have x4' :=x4 m om
   have x5' :=x5 m om
   have bk2:=(aF g2 (aT bk1)).trans bk1
   rcases eor with ⟨d3,b,d4⟩|⟨d3,d4⟩<;>exact SX (dD @a53.eq_1 (Eq.symm hAe) bk k1 k8 lp o1 k9 d3 d4 k10 lnm dn x1' x2' cwA (dD w15 lc w1 dl bk1 RE in1 Qw ec x3' ll dl0 x4' w2 iq bk2 x5'))
 have nn3:=ch3.next
 have C3:=jV (sA CA g2) ch3
 have y4:cont h3 h.next=some [.int .i64 0,.int .i64 0,.int .i64 0]:=(qB ch3 om (fun w=>by have:=ltT.2.2 _ w;omega)).trans ((aF g2 om).trans ((qB ch1 om (fun w=>by have:=ltT.2.2 _ w;omega)).trans a4))
 have cu3:=(Se.trans ES).le
 have opn3:opn S3 Γ.n≤N:=by have:=yU Se Γ.n;have:=yU ES Γ.n;omega
 have ahR:∀S' t,Ext S3 S' →((t0=none∧t=none)∨(∃v pt,t0=some (v,0,pt)∧t=t0)∨∃v lv pt lv' p,t0=some (v,lv,pt)∧0<lv∧vQ Γ S' (Γ.D i).ar lv 0 q lv' p∧t=some (v,lv',pt))→DN Γ S' i t:=fun S' t ex hh=>
  .inr (.inr ⟨hp,ck,s,a,c,u,q,t0,hs,ha,(ES.trans ex).le.ch hcu,hq,br.le ex.le,hh⟩)
 have plq:PlK Γ S3 (Γ.D i).ar 0 q o:=⟨a,c,u,ha,han,ES.le.ch hcu,hco⟩
 by_cases cz:∃v lv pt,t0=some (v,lv,pt)∧0<lv
 ·obtain ⟨v,lv,pt,rfl,hlv⟩:=cz
  obtain ⟨hvn,r,hvr,w,cw2,uw2,z1,z2,z3,z4⟩:=st v lv pt rfl
  have hlvb:=Bu O lv (a:=(o:Int)) ⟨by omega,by omega⟩ om
  obtain ⟨hB,hBe⟩:∃x,x=(h3.push (.cells [.int .i64 0,.int .i64 0,.int .i64 0])).set h3.next (.cells [.int .i64 (v:Nat),.int .i64 (lv:Nat),.int .i64 (pt:Nat)]):=⟨_,rfl⟩
  have gB:aR h3 hB:=by rw [hBe];exact gw2
  have nB:hB.next=h3.next+1:=by rw [hBe];simp
  have b8:cont hB h3.next=some [.int .i64 (v:Nat),.int .i64 (lv:Nat),.int .i64 (pt:Nat)]:=by rw [hBe];exact aH (by simp)
  have b4:=(aF gB om).trans y4
  have TB' :=T3.grow gB
  obtain ⟨vc3,vu3,bk3,_⟩:=TB'.d_ i hi
  have k83:=FA (O.ok i hi) (S3 i).busy vc3 vu3 (S3 i).off (S3 i).cl
  have dv:decide (0≤((v:Nat):Int))=true:=dT om
  have dlv:decide ((0:Int)<((lv:Nat):Int))=true:=dT om
  rcases DE H O C TB' W3 opn3 (a:=(Γ.D i).ar) ⟨by omega,by omega⟩ (n:=lv) om plq with ⟨_,h5,⟨m6,x6⟩,ch5,S5,lv',p',k',rfl,Wd,T5,W5,cl5,pk,uk⟩|⟨e',h5,hpe,⟨m6,x6⟩,ch5⟩
  case inr=>
   refine Out.pan e' h5 hpe (Ev.call H.f53 H.o53 ⟨m1+m2+m3+m4+m5+m6,fun m hm=> ?b6⟩) (jV (sA C3 gB) ch5)
   case b6=>
    have x1' :=x1 m om
    have x2' :=x2 m om
    have x3' :=x3 m om
    have x4' :=x4 m om
    have x5' :=x5 m om
    have x6' :=x6 m om
    simp only [Int.ofNat_zero] at x6'
    have bk2:=(aF g2 (aT bk1)).trans bk1
    simp only [tgA] at x5'
    rcases eor with ⟨d3,b,d4⟩|⟨d3,d4⟩<;>exact SX (dD @a53.eq_1 (Eq.symm hAe) bk k1 k8 lp o1 k9 d3 d4 k10 lnm dn x1' x2' cwA (dD w15 lc w1 dl bk1 RE in1 Qw ec x3' ll dl0 x4' w2 iq bk2 (cj8 x5' (Eq.symm hBe) b8 bk3 k83 dv dlv x6')))
  have nn5:=ch5.next
  have C5:=jV (sA C3 gB) ch5
  have f8:cont h5 h3.next=some [.int .i64 (v:Nat),.int .i64 (lv:Nat),.int .i64 (pt:Nat)]:=(qB ch5 om (fun w=>by have:=ltT.2.2 _ w;omega)).trans b8
  have f4:cont h5 h.next=some [.int .i64 0,.int .i64 0,.int .i64 0]:=(qB ch5 om (fun w=>by have:=ltT.2.2 _ w;omega)).trans b4
  obtain ⟨h6,h6e⟩:∃x,x=h5.set h3.next (.cells [.int .i64 (v:Nat),.int .i64 (lv' :Nat),.int .i64 (pt:Nat)]):=⟨_,rfl⟩
  have n6:h6.next=h5.next:=by rw [h6e];simp
  have x8:cont h6 h3.next=some [.int .i64 (v:Nat),.int .i64 (lv' :Nat),.int .i64 (pt:Nat)]:=by rw [h6e];exact aH om
  have x44:cont h6 h.next=some [.int .i64 0,.int .i64 0,.int .i64 0]:=by rw [h6e];exact (aK om om).trans f4
  obtain ⟨h7,h7e⟩:∃x,x=h6.set h.next (.cells [.int .i64 (v:Nat),.int .i64 (lv' :Nat),.int .i64 (pt:Nat)]):=⟨_,rfl⟩
  have z4' :cont h7 h.next=some [.int .i64 (v:Nat),.int .i64 (lv' :Nat),.int .i64 (pt:Nat)]:=by rw [h7e];exact aH om
  have hkw:k' =w:=om
  subst hkw
  refine Out.ret (tgA (some (v,lv',pt))) h7 (Ev.call H.f53 H.o53 ⟨m1+m2+m3+m4+m5+m6,fun m hm=> ?b7⟩) (by rw [h7e,h6e];exact qV (qV C5 om (.inr om) _) (by simp;omega) (.inr om) _)
   ⟨S5,some (v,lv',pt),rfl,(Se.trans ES).trans Wd,T5.vT fun j hj w=> ?T7,W5,ahR S5 _ Wd (.inr (.inr ⟨v,lv,pt,lv',p',rfl,hlv,cl5,rfl⟩)), ?st7,fun _=>XK⟩
  case T7=>
   have:j<h.next:=by rcases w with rfl|rfl|w;omega;omega;exact ltT.2.2 j w
   rw [h7e,aE _ _ _ _ om om,h6e,aE _ _ _ _ om om]
  case st7=>
   rintro v1 lv1 pt1 w1
   cases w1
   exact ⟨hvn,r,hvr,Bx W5 pk (Wd.le.ch z3) z4⟩
  case b7=>
   have x1' :=x1 m om
   have x2' :=x2 m om
   have x3' :=x3 m om
   have x4' :=x4 m om
   have x5' :=x5 m om
   have x6' :=x6 m om
   simp only [Int.ofNat_zero] at x6'
   have bk2:=(aF g2 (aT bk1)).trans bk1
   simp only [tgA] at x5'
   rcases eor with ⟨d3,b,d4⟩|⟨d3,d4⟩<;>exact SX (dD @a53.eq_1 (Eq.symm hAe) bk k1 k8 lp o1 k9 d3 d4 k10 lnm dn x1' x2' cwA (dD w15 lc w1 dl bk1 RE in1 Qw ec x3' ll dl0 x4' w2 iq bk2 (Bl x5' (Eq.symm hBe) b8 bk3 k83 dv dlv x6' f8 (Eq.symm h6e) x8 x44 (Eq.symm h7e) z4' @tgA.eq_1 @tgA.eq_2)))
 ·obtain ⟨x,y,z,HA⟩:=A5 t0
  obtain ⟨hB,hBe⟩:∃w,w=(h3.push (.cells [.int .i64 0,.int .i64 0,.int .i64 0])).set h3.next (.cells [.int .i64 x,.int .i64 y,.int .i64 z]):=⟨_,rfl⟩
  have gB:aR h3 hB:=by rw [hBe];exact gw2
  have nB:hB.next=h3.next+1:=by rw [hBe];simp
  have b8:cont hB h3.next=some [.int .i64 x,.int .i64 y,.int .i64 z]:=by rw [hBe];exact aH (by simp)
  have b4:=(aF gB om).trans y4
  obtain ⟨h7,h7e⟩:∃w,w=hB.set h.next (.cells [.int .i64 x,.int .i64 y,.int .i64 z]):=⟨_,rfl⟩
  have z4' :cont h7 h.next=some [.int .i64 x,.int .i64 y,.int .i64 z]:=by rw [h7e];exact aH om
  have cond:(decide (0≤x)=false∧∃b,decide (0<y)=b)∨(decide (0≤x)=true∧decide (0<y)=false):=by
   cases t0 with
   |none=>cases HA;exact .inl ⟨rfl,_,rfl⟩
   |some p=>
    obtain ⟨v,lv,pt⟩:=p
    cases HA
    exact .inr ⟨dT om,dF (fun w=>cz ⟨v,lv,pt,rfl,by omega⟩)⟩
  refine Out.ret (tgA t0) h7 (Ev.call H.f53 H.o53 ⟨m1+m2+m3+m4+m5,fun m hm=> ?b8⟩) (by rw [h7e];exact qV (sA C3 gB) om (.inr om) _)
   ⟨S3,t0,rfl,Se.trans ES,(T3.grow gB).vT fun j hj w=> ?T8,W3,ahR S3 _ (.refl _) ?hh, ?st8,fun _=>XK⟩
  case T8=>
   have:j<h.next:=by rcases w with rfl|rfl|w;omega;omega;exact ltT.2.2 j w
   rw [h7e,aE _ _ _ _ om om]
  case hh=>
   cases t0 with
   |none=>exact .inl ⟨rfl,rfl⟩
   |some p=>
    obtain ⟨v,lv,pt⟩:=p
    obtain rfl:lv=0:=Nat.eq_zero_of_not_pos fun w=>cz ⟨v,lv,pt,rfl,w⟩
    exact .inr (.inl ⟨v,pt,rfl,rfl⟩)
  case st8=>
   rintro v lv pt rfl
   obtain rfl:lv=0:=Nat.eq_zero_of_not_pos fun w=>cz ⟨v,lv,pt,rfl,w⟩
   obtain ⟨hvn,r,hvr,w,cw2,uw2,z1,z2,z3,z4⟩:=st v 0 pt rfl
   have:w=o:=by simp only [upF] at z1;omega
   subst this
   exact ⟨hvn,r,hvr,Bx W3 plq z3 z4⟩
  case b8=>
   have x1' :=x1 m om
   have x2' :=x2 m om
   have x3' :=x3 m om
   have x4' :=x4 m om
   have x5' :=x5 m om
   have bk2:=(aF g2 (aT bk1)).trans bk1
   rw [HA] at x5'
   rw [HA]
   rcases cond with ⟨dv,bb,dlv⟩|⟨dv,dlv⟩<;>rcases eor with ⟨d3,b,d4⟩|⟨d3,d4⟩<;>exact SX (dD @a53.eq_1 (Eq.symm hAe) bk k1 k8 lp o1 k9 d3 d4 k10 lnm dn x1' x2' cwA (dD w15 lc w1 dl bk1 RE in1 Qw ec x3' ll dl0 x4' w2 iq bk2 (cj8 x5' (Eq.symm hBe) b8 dv dlv b4 (Eq.symm h7e) z4')))
theorem SL (H:Has fns orc) {Γ:Tb} (O:Γ.Ok) {N:Nat} (C:Ez fns orc Γ N) {S:Nat→DY} {h:aD} (T:TB Γ S h) (W:WF Γ S) (hN:opn S Γ.n≤N) {i:Nat} (hi:i<Γ.n):
  Out fns orc (pE Γ) (.call 53 [.ptr Γ.tb 0,.ptr (Γ.loc i) 0] .plain h) h (AhQ Γ S i):=by
 by_cases c:(A1 (Γ.D i).pd).length=1
 ·obtain ⟨e,he⟩:=List.length_eq_one_iff.1 c
  exact Qn H O C T W hN hi he
 ·exact Qo H O C T W hN hi c
end Go.Ly
namespace Go.Ly
open Go Go.Am Go.Fs Go.Gn
variable {fns:Go.Am.F} {orc:Orc}
theorem KU (H:Has fns orc) {k:Int} {vn vs vp vy:AV} (h:aD):
  ∃h',aR h h' ∧∀m,2≤m→eval fns orc m (.call 70 [.agg [.int .i64 k,vn,vs,vp,vy]] .plain h)= .ok (.call (.ret (.bool (Cn k))) .plain h'):=by
 refine ⟨h.push (.cells [.int .i64 k,vn,vs,vp,vy]),.push _ _,fP (n:=0) H.f70 H.o70 fun m _=> ?b⟩
 case b=>
  by_cases c5:k=5
  ·have d5:=dT c5
   have e:Cn k=true:=dT (.inl c5)
   exact SX (cj3 @a70.eq_1 d5 e)
  ·by_cases c6:k=6
   ·have d5:=dF c5
    have d6:=dT c6
    have e:Cn k=true:=dT (.inr (.inl c6))
    exact SX (cj4 @a70.eq_1 d5 d6 e)
   ·by_cases c7:k=7
    ·have d5:=dF c5
     have d6:=dF c6
     have d7:=dT c7
     have e:Cn k=true:=dT (.inr (.inr (.inl c7)))
     exact SX (cj5 @a70.eq_1 d5 d6 d7 e)
    ·by_cases c8:k=8
     ·have d5:=dF c5
      have d6:=dF c6
      have d7:=dF c7
      have d8:=dT c8
      have e:Cn k=true:=dT (.inr (.inr (.inr (.inl c8))))
      exact SX (cj6 @a70.eq_1 d5 d6 d7 d8 e)
     ·have d5:=dF c5
      have d6:=dF c6
      have d7:=dF c7
      have d8:=dF c8
      by_cases c9:k=9
      ·have d9:=dT c9
       have e:Cn k=true:=dT (.inr (.inr (.inr (.inr c9))))
       exact SX (cj7 @a70.eq_1 d5 d6 d7 d8 d9 e)
      ·have d9:=dF c9
       have e:Cn k=false:=dF om
       exact SX (cj7 @a70.eq_1 d5 d6 d7 d8 d9 e)
theorem Fl (d:lH) (l:List lH):sG (d::l)=(if Cn (iO d) then (iJ d).length else 0)+sG l:=rfl
theorem Ln {l:List lH} {i:Nat} (hi:i<l.length):sG (l.drop i)=(if Cn (iO l[i]) then (iJ l[i]).length else 0)+sG (l.drop (i+1)):=by rw [List.drop_eq_getElem_cons hi,Fl]
theorem Jn (H:Has fns orc) {l:List lH} {v:AV} {xs:List AV} (hx:iK v xs) (hxl:xs.length=l.length) (hg:∀i (hi:i<l.length),∃c,xs[i]? =some (.agg c)∧RV (.decl l[i]) (.agg c)) (hn:l.length<10000000) (hc:sG l<10000000):
  ∀(k i z:Nat) (h:aD),i+k=l.length→z+sG (l.drop i)=sG l→∃h' ts,aR h h' ∧Ev fns orc (.code 55 none (.loop p55x110100) ⟨[(3,.int .i64 (z:Nat)),(6,v),(7,.int .i64 (l.length:Nat)),(8,.int .i64 (i:Nat))],[],.plain,h⟩) (.code (.exit 0) ⟨ts,[],.plain,h'⟩)∧cX ts 3= .int .i64 (sG l:Nat):=by
 intro k
 induction k with
 |zero=>
  intro i z h hi hz
  have e:i=l.length:=om
  rw [e,List.drop_length] at hz
  have hz:z=sG l:=by simpa [sG] using hz
  have d:decide ((i:Int)<((l.length:Nat):Int))=false:=dF om
  refine ⟨h, ?ts,.refl _,Ev.code ⟨0,fun m _=> ?b0⟩, ?t⟩
  case b0=>
   exact SX (cj2 d @aI)
  case t=>rw [←hz];rfl
 |succ k ih=>
  intro i z h hi hz
  have hlt:i<l.length:=om
  have d:decide ((i:Int)<((l.length:Nat):Int))=true:=dT om
  obtain ⟨c,hcc,rv⟩:=hg i hlt
  rw [Ln hlt] at hz
  have hcl:=pJ rv
  have hck:=tX rv
  have hia:=jZ hx hcc hcl
  generalize l[i]=dd at rv hz
  cases rv with| @decl kk n s p ds vn vs vp vy r0 r1 r2 r3=>
  simp only [iO,iJ] at hz
  have q:∀hp,mK hp .sl vn= .ok n.length:=fun hp=>by rw [bJ r0 hp,List.length_map]
  have kn:=qC r0
  have ks:=aP r1
  have kp:=aP r2
  have ky:=aP r3
  obtain ⟨hA,hAe⟩:∃x,x=(h.push (.cells [.int .i64 0,.aC,.aC,.aC,.aC])).set h.next (.cells [.int .i64 kk,vn,vs,vp,vy]):=⟨_,rfl⟩
  have gA:aR h hA:=by rw [hAe];exact gw2
  have cA:cont hA h.next=some [.int .i64 kk,vn,vs,vp,vy]:=by rw [hAe];exact aH (by simp)
  obtain ⟨hB,gB,e1⟩:=KU (k:=kk) (vn:=vn) (vs:=vs) (vp:=vp) (vy:=vy) H hA
  have cB:=(aF gB (aT cA)).trans cA
  have w:IntKind.wrap .i64 ((i:Int)+1)=((i+1:Nat):Int):=tM hlt om
  cases ck:Cn kk with
  |true=>
   rw [ck] at e1
   simp only [ck,if_true] at hz
   have w2:IntKind.wrap .i64 ((z:Int)+(n.length:Int))=((z+n.length:Nat):Int):=by rw [mW om om];rfl
   obtain ⟨h',ts,g,⟨n3,e3⟩,t3⟩:=ih (i+1) (z+n.length) hB om om
   refine ⟨h',ts,(gA.trans gB).trans g,Ev.code ⟨n3+2,fun m hm=> ?b1⟩,t3⟩
   case b1=>
    have e1' :=e1 m om
    have e3' :=e3 m om
    exact SXe (yL d hia kn ks kp ky (Eq.symm hAe) cA e1' cB q w w2 @aI) e3'
  |false=>
   rw [ck] at e1
   simp only [ck] at hz
   obtain ⟨h',ts,g,⟨n3,e3⟩,t3⟩:=ih (i+1) z hB om (by simpa using hz)
   refine ⟨h',ts,(gA.trans gB).trans g,Ev.code ⟨n3+2,fun m hm=> ?b2⟩,t3⟩
   case b2=>
    have e1' :=e1 m om
    have e3' :=e3 m om
    exact SXe (wB d hia kn ks kp ky (Eq.symm hAe) cA e1' cB q w @aI) e3'
theorem M0 (H:Has fns orc) {l:List lH} {v:AV} (hv:RVs (l.map Part.decl) v) (hn:l.length<10000000) (hc:sG l<10000000) (h:aD):
  ∃h',aR h h' ∧Ev fns orc (.call 55 [v] .plain h) (.call (.ret (.int .i64 (sG l:Nat))) .plain h'):=by
 obtain ⟨ys,hy,hyl,hyg⟩:=jX hv
 simp only [List.length_map,List.getElem_map] at hyl hyg
 obtain ⟨h',ts,g,⟨n,e⟩,t⟩:=Jn H hy hyl hyg hn hc l.length 0 0 h om (by simp)
 refine ⟨h',g,Ev.call H.f55 H.o55 ⟨n,fun m hm=> ?b⟩⟩
 case b=>
  have q:∀hp,mK hp .sl v= .ok l.length:=fun hp=>by have:=hv.len hp;simpa using this
  have e1' :bZ (eval fns orc m) 55 none (.loop p55x110100) _=_:=e (m+1) om
  simp only [Int.ofNat_zero] at e1'
  exact SX (cj4 @a55.eq_1 q e1' t)
theorem Bi {D:DS} (k:D.Ok):sG (aV D.pd)<10000000:=by
 have h:=k.nd
 cases hp:D.pd with|mk s pl dl el b il xl=>
 rw [hp,wO] at h
 simp only [aV]
 have:∀dl:List lH,sG dl≤tot (dl.map Part.decl):=by
  intro dl
  induction dl with
  |nil=>exact Nat.le_refl _
  |cons d dl ih=>
   rw [Fl,List.map_cons,FY]
   have:=Cc (p:=d)
   split<;>omega
 have:=this dl
 omega
theorem EM (H:Has fns orc) {v:AV} {c:List Nat} (hv:iK v (ints c)) (hl:c.length<10000000) (h:aD):
  ∃h' v',aR h h' ∧(∀m,2≤m→eval fns orc m (.call 20 [v] .plain h)= .ok (.call (.ret v') .plain h'))∧uV h' v' (ints c)∧∀t,jE v' =some t→h.next≤t:=by
 generalize hxs:ints c=xs at hv
 have hw:Bp 1 xs:=hxs▸wX c
 have hln:xs.length=c.length:=by rw [←hxs,kV]
 cases hv with
 |nil=>
  refine ⟨h,.aC,.refl _,fun m hm=>fP (n:=0) H.f20 H.o20 (fun m _=> ?b1) m hm,.inl .nil,fun t w=>by cases w⟩
  exact SX @a20.eq_1
 |sl tk xs=>
  cases xs with
  |nil=>
   refine ⟨h,.sl .full [],.refl _,fun m hm=>fP (n:=0) H.f20 H.o20 (fun m _=> ?b2) m hm,.inr rfl,fun t w=>by cases w⟩
   exact SX (uK @a20.eq_1 @oP.eq_1 @oJ.eq_1 @oJ.eq_2 @oJ.eq_3 @oJ.eq_4 @tW.eq_1 @tW.eq_2 @tW.eq_3 @tW.eq_4)
  |cons x xs=>
   have e1:rQ 1 (x::xs)=true:=BQ hw
   have e2:(Nat.ble 1 1 && rQ 1 (x::xs))=true:=by rw [e1];rfl
   have e3:(Nat.ble ((([]:List AV).length+(x::xs).length)*1) oO && oW 1 [])=true:=by
    simp only [oW,Bool.and_true]
    rw [Nat.ble_eq]
    simp [oO] at hln⊢
    omega
   have ap:oP h 1 (.sl .full []) (.sl tk (x::xs))= .ok (.sl (.opn h.next (x::xs).length) (x::xs),h.push (.tok (x::xs).length)):=by
    have e4:([]:List AV).length+(x::xs).length=(x::xs).length:=by simp
    rw [e4] at e3
    simp only [oP,oJ,aM,e2,yD,yM,List.nil_append,e4,e3]
   refine ⟨h.push (.tok (x::xs).length),.sl (.opn h.next (x::xs).length) (x::xs),.push _ _,fun m hm=>fP (n:=0) H.f20 H.o20 (fun m _=> ?b3) m hm,.inl (.opn _ _ (C9 _ _) (by simp)),fun t w=>by simp only [jE,Option.some.injEq] at w;omega⟩
   exact SX (cj2 @a20.eq_1 ap)
section
variable {D:DS} (k:D.Ok) (b:Bool) (vc vu:AV) (off cl:Int)
include k
theorem WZ (b' :Bool):cW 14 [.bool b'] (bx D b vc vu off cl)=some (bx D b' vc vu off cl):=by
 obtain ⟨s,vp,vd,ve,hb,vi,vx,kk,vn,vs,vq,vy,h1,h2,_⟩:=sB k
 simp only [bx,h1,h2,List.cons_append,List.nil_append,cW]
theorem ov15 (v:AV):cW 15 [v] (bx D b vc vu off cl)=some (bx D b v vu off cl):=by
 obtain ⟨s,vp,vd,ve,hb,vi,vx,kk,vn,vs,vq,vy,h1,h2,_⟩:=sB k
 simp only [bx,h1,h2,List.cons_append,List.nil_append,cW]
theorem ov16 (v:AV):cW 16 [v] (bx D b vc vu off cl)=some (bx D b vc v off cl):=by
 obtain ⟨s,vp,vd,ve,hb,vi,vx,kk,vn,vs,vq,vy,h1,h2,_⟩:=sB k
 simp only [bx,h1,h2,List.cons_append,List.nil_append,cW]
theorem ov17 (z:Int):cW 17 [.int .i64 z] (bx D b vc vu off cl)=some (bx D b vc vu z cl):=by
 obtain ⟨s,vp,vd,ve,hb,vi,vx,kk,vn,vs,vq,vy,h1,h2,_⟩:=sB k
 simp only [bx,h1,h2,List.cons_append,List.nil_append,cW]
theorem ov18 (z:Int):cW 18 [.int .i64 z] (bx D b vc vu off cl)=some (bx D b vc vu off z):=by
 obtain ⟨s,vp,vd,ve,hb,vi,vx,kk,vn,vs,vq,vy,h1,h2,_⟩:=sB k
 simp only [bx,h1,h2,List.cons_append,List.nil_append,cW]
end
def upd (S:Nat→DY) (i:Nat) (d:DY):Nat→DY:=fun j=>if j=i then d else S j
theorem yG (S:Nat→DY) (i:Nat) (d:DY):upd S i d i=d:=by simp [upd]
theorem AR (S:Nat→DY) {i j:Nat} (d:DY) (h:j≠i):upd S i d j=S j:=by simp [upd,h]
theorem TB.upd {Γ:Tb} (O:Γ.Ok) {S:Nat→DY} {h h' :aD} (T:TB Γ S h) {i:Nat} (hi:i<Γ.n) (d:DY) {vc vu:AV} (hc:cont h' (Γ.loc i)=some (bx (Γ.D i) d.busy vc vu d.off d.cl)) (he:d.cc=bx (Γ.D i) d.busy vc vu d.off d.cl) (hv:ChV d.ch vc vu)
  (ho:∀j,j<h.next→j≠Γ.loc i→(j=Γ.tb∨j=Γ.mb∨pE Γ j)→h'.get j=h.get j) (hne:Γ.tb≠Γ.loc i∧Γ.mb≠Γ.loc i):TB Γ (upd S i d) h' :=by
 obtain ⟨l1,l2,l3⟩:=T.lt
 refine ⟨?_,T.m_.imp fun c w=>(ho _ l2 hne.2 (.inr (.inl rfl))).trans w,fun j hj=> ?_,fun j hj=> ?_⟩
 ·obtain ⟨tk,v2,w⟩:=T.t_
  exact ⟨tk,v2,(aG (ho _ l1 hne.1 (.inl rfl))).trans w⟩
 ·by_cases e:j=i
  ·subst e
   rw [yG]
   exact ⟨vc,vu,hc,hv⟩
  ·rw [AR _ _ e]
   obtain ⟨vc',vu',w,kk⟩:=T.d_ j hj
   exact ⟨vc',vu',(aG (ho _ (aT w) (fun q=>e (O.inj j i hj hi q)) (.inr (.inr ⟨j,hj,rfl⟩)))).trans w,kk⟩
 ·by_cases e:j=i
  ·subst e
   rw [yG,he]
   exact hc
  ·rw [AR _ _ e]
   exact (aG (ho _ (aT (T.e_ j hj)) (fun q=>e (O.inj j i hj hi q)) (.inr (.inr ⟨j,hj,rfl⟩)))).trans (T.e_ j hj)
theorem TB.ne {Γ:Tb} (O:Γ.Ok) {S:Nat→DY} {h:aD} (T:TB Γ S h) {i:Nat} (hi:i<Γ.n):Γ.tb≠Γ.loc i∧Γ.mb≠Γ.loc i:=by
 obtain ⟨vc,vu,w,_⟩:=T.d_ i hi
 obtain ⟨tk,v2,w2⟩:=T.t_
 obtain ⟨c,w3⟩:=T.m_
 have hl:=CI (O.ok i hi) (S i).busy vc vu (S i).off (S i).cl
 refine ⟨fun e=> ?_,fun e=> ?_⟩
 ·rw [e,w] at w2
  have:=Option.some.inj w2
  rw [this] at hl
  simp at hl
 ·rw [e,iG w] at w3
  cases w3
end Go.Ly
end
