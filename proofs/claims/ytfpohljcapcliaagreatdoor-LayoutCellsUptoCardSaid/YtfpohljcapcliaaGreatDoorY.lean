/- Parts of a proof. -/
import Derived.Test.YtfpohljcapcliaaGreatDoorD
import Derived.Test.YtfpohljcapcliaaGreatDoorX
set_option linter.all false
set_option maxHeartbeats 8000000
noncomputable section
namespace Go.Ly
open Go Go.Am Go.Fs Go.Gn
variable {fns:Go.Am.F} {orc:Orc}
def uU (h:aD) (l:AV) (xs:List AV):Prop:=Acc h l xs∨l= .sl .full xs
theorem uU.E6 {h:aD} {l:AV} {xs:List AV} (a:uU h l xs):iP l xs:=by
 rcases a with a|rfl
 ·cases a with
  |nil=>exact .nil
  |opn t xs h1 h2=>exact .sl _ _
 ·exact .sl _ _
theorem uU.grow {h h' :aD} {l:AV} {xs:List AV} (a:uU h l xs) (g:aP h h'):uU h' l xs:=a.imp (fun a=>a.grow g) id
theorem A2 {h:aD} {l:AV} {xs:List AV} (a:uU h l xs) {v:AV} (hw:Ab 1 xs) (hv:v.cells.length=1) (hs:xs.length+1≤1073741824):
  ∃l' h',mT h 1 l (.sl .full [v])= .ok (l',h')∧Acc h' l' (xs++[v])∧Aj (jK l) h h' ∧(∀t,jK l' =some t→jK l=some t∨h.next≤t):=by
 rcases a with a|rfl
 ·exact sG a om hw hv om
 ·have h1:(Nat.ble 1 1 && qK 1 [v])=true:=by simp [qK,hv]
  have h2:(Nat.ble ((xs.length+[v].length)*1) lX && mR 1 xs)=true:=by
   have h3:mR 1 xs=true:=by
    cases xs with
    |nil=>rfl
    |cons x xs=>simp only [mR];rw [hw x (by simp)];rfl
   rw [h3,Bool.and_true,Nat.ble_eq]
   simp [lX]
   omega
  refine ⟨.sl (.opn h.next (xs.length+[v].length)) (xs++[v]),h.push (.tok (xs.length+[v].length)),by simp only [mT,oO,aM,h1,wD,yN,h2], ?_,Et (.push _ _) _,fun t w=> ?_⟩
  ·have e:xs.length+[v].length=(xs++[v]).length:=by simp
   rw [e]
   exact .opn _ _ (Dp _ _) (by simp)
  ·simp only [jK,Option.some.injEq] at w
   omega
theorem yV (c:List Nat):Ab 1 (ints c):=fun x hx=>by obtain ⟨n,_,rfl⟩:=List.mem_map.1 hx;rfl
theorem mQ (c:List Nat):(ints c).length=c.length:=by simp [ints]
theorem CO (c:List Nat) (q:Nat):ints (c++[q])=ints c++[.int .i64 (q:Nat)]:=by simp [ints]
theorem Ey {D:DS} (k:D.Ok) (b:Bool) (vc vu:AV) (off cl:Int) {vd:AV} (hv:nth (bx D b vc vu off cl) 2=some vd) {i:Nat} {d:kV} (hd:(aU D.pd)[i]? =some d):∃vn vs vp vy,pT 5 vd (.int .i64 (i:Nat))= .ok (.ep [.int .i64 (iR d),vn,vs,vp,vy] 0)∧
  iP vn ((fR d).map AV.str)∧RVs ((wM d).map Part.exp) vp∧RVs ((qP d).map Part.desc) vy∧dX (.agg [.int .i64 (iR d),vn,vs,vp,vy]) (.agg [.int .i64 (iR d),vn,vs,vp,vy])=true∧vn.bX=true∧vs.bX=true∧vp.bX=true∧vy.bX=true:=by
 obtain ⟨vd',hv',rvd⟩:=FU k b vc vu off cl
 rw [hv] at hv'
 cases hv'
 obtain ⟨ys,hy,hyl,hyg⟩:=jZ rvd
 simp only [List.length_map,List.getElem_map] at hyl hyg
 obtain ⟨hi,rfl⟩:=List.getElem?_eq_some_iff.1 hd
 obtain ⟨c,hc,rv⟩:=hyg i hi
 have hl:=pG rv
 have he:=AR rv
 have hck:=uG rv
 generalize (aU D.pd)[i]=d at rv⊢
 cases rv with| @decl k n s p ds vn vs vp vy r0 r1 r2 r3=>
 exact ⟨vn,vs,vp,vy,kT hy hc hl,r0,r2,r3,he,qL r0,aS r1,aS r2,aS r3⟩
theorem Mc (H:Has fns orc) {Γ:Tb} (O:Γ.Ok) {S:Nat→DY} (s:List UInt8) {vc:AV} {c:List Nat} (hx:iP vc (ints c)) (hc:∀d∈c,d<Γ.n) (hn:c.length<10000000) {b0:Nat} (hb0:Γ.tb<b0∧Γ.mb<b0∧∀j,pJ Γ j→j<b0):
  ∀(k i:Nat) (l:AV) (acc:List Nat) (h:aD),i+k=c.length→TB Γ S h→uU h l (ints acc)→(∀t,jK l=some t→b0≤t)→b0≤h.next→acc.length≤i→
   ∃h' l' ts,Ev fns orc (.code 65 none (.loop p65x110100) ⟨[(0,.ptr Γ.tb 0),(2,.str s),(7,l),(12,vc),(13,.int .i64 (c.length:Nat)),(14,.int .i64 (i:Nat))],[],.plain,h⟩) (.code (.exit 0) ⟨ts,[],.plain,h'⟩)∧cH ts 7=l' ∧
    iP l' (ints (A1 Γ s (c.drop i) i acc))∧h.next≤h'.next∧(∀j,j<b0→h'.get j=h.get j):=by
 intro k
 induction k with
 |zero=>
  intro i l acc h hi T ha ht hb hl
  have e:i=c.length:=om
  have d:decide ((i:Int)<((c.length:Nat):Int))=false:=dF om
  refine ⟨h,l, ?ts0,Ev.code ⟨0,fun m _=> ?b0⟩, ?t0,by rw [e,List.drop_length];exact ha.E6,Nat.le_refl _,fun _ _=>rfl⟩
  case b0=>
   exact SX (cj2 d @aI)
  case t0=>rfl
 |succ k ih=>
  intro i l acc h hi T ha ht hb hl
  have hlt:i<c.length:=om
  have d:decide ((i:Int)<((c.length:Nat):Int))=true:=dT om
  have hdd:=hc _ (List.getElem_mem hlt)
  have hia:=oX hx (i:=i) (v:= .int .i64 (c[i]:Nat)) (by simp [ints,hlt]) rfl
  rw [List.drop_eq_getElem_cons hlt,A1]
  generalize c[i]=dd at hdd hia
  obtain ⟨tk,v2,tT⟩:=T.t_
  obtain ⟨vc',vu,hbb,hv⟩:=T.d_ dd hdd
  obtain ⟨vd,n2,rvd⟩:=FU (O.ok dd hdd) (S dd).busy vc' vu (S dd).off (S dd).cl
  have hib:=Γ.at tk hdd
  obtain ⟨bn1,bn2⟩:=qB (O.ok dd hdd)
  obtain ⟨h1,g1,n1,e1⟩:=zW H rvd bn1 bn2 s hbb n2
  have nn:=g1.next
  have w:IntKind.wrap .i64 ((i:Int)+1)=((i+1:Nat):Int):=sH hlt om
  cases cf:pN (aU (Γ.D dd).pd) s with
  |none=>
   rw [cf] at e1
   obtain ⟨h2,h2e⟩:∃x,x=(h1.push (.cells [.int .i64 0,.int .i64 0,.int .i64 0,.int .i64 0])).set h1.next (.cells [.int .i64 0,.int .i64 0,.int .i64 0,.int .i64 0]):=⟨_,rfl⟩
   have g2:aP h1 h2:=by rw [h2e];exact gw2
   have gg:=g1.trans g2
   obtain ⟨h',l',ts,⟨n3,e3⟩,t3,r3,x3,o3⟩:=ih (i+1) l acc h2 om (T.grow gg) (ha.grow gg) ht (by have:=gg.next;omega) om
   refine ⟨h',l',ts,Ev.code ⟨n1+n3,fun m hm=> ?b1⟩,t3,r3,by have:=gg.next;omega,fun j hj=>(o3 j hj).trans (gg.get j om)⟩
   case b1=>
    have e1' :=e1 m om
    have e3' :=e3 m om
    simp only [AQ] at e1'
    exact SXe (cj8 d hia tT hib e1' (Eq.symm h2e) w @aI) e3'
  |some x=>
   obtain ⟨i',k'⟩:=x
   rw [cf] at e1
   obtain ⟨dc,hdc,hfx,_⟩:=xH cf
   obtain ⟨vn,vs,vp,vy,hie,_⟩:=Ey (O.ok dd hdd) (S dd).busy vc' vu (S dd).off (S dd).cl n2 hdc
   obtain ⟨h2,h2e⟩:∃x,x=(h1.push (.cells [.int .i64 0,.int .i64 0,.int .i64 0,.int .i64 0])).set h1.next (.cells [.int .i64 0,.int .i64 0,.int .i64 (i' :Nat),.int .i64 (k' :Nat)]):=⟨_,rfl⟩
   have g2:aP h1 h2:=by rw [h2e];exact gw2
   have gg:=g1.trans g2
   have x2:cont h2 h1.next=some [.int .i64 0,.int .i64 0,.int .i64 (i' :Nat),.int .i64 (k' :Nat)]:=by rw [h2e];exact aG (by simp)
   have t2:=(aF gg (aO tT)).trans tT
   have b2:=(aF gg (aO hbb)).trans hbb
   have xe:=Γ.D3 tk
   have ve:=jS rvd
   simp only [hdc]
   have stay:∀l2 Ud h3,aP h2 h3∨(Aj (jK l) h2 h3)→TB Γ S h3→uU h3 l2 (ints Ud)→(∀t,jK l2=some t→b0≤t)→Ud.length≤i+1→
     (∀ans,(∃n,∀m,n≤m→eval fns orc m (.code 65 none (.loop p65x110100) ⟨[(0,.ptr Γ.tb 0),(2,.str s),(7,l2),(12,vc),(13,.int .i64 (c.length:Nat)),(14,.int .i64 ((i+1:Nat):Int))],[],.plain,h3⟩)= .ok ans)→
      Ev fns orc (.code 65 none (.loop p65x110100) ⟨[(0,.ptr Γ.tb 0),(2,.str s),(7,l),(12,vc),(13,.int .i64 (c.length:Nat)),(14,.int .i64 (i:Nat))],[],.plain,h⟩) ans)→
     ∃h' l' ts,Ev fns orc (.code 65 none (.loop p65x110100) ⟨[(0,.ptr Γ.tb 0),(2,.str s),(7,l),(12,vc),(13,.int .i64 (c.length:Nat)),(14,.int .i64 (i:Nat))],[],.plain,h⟩) (.code (.exit 0) ⟨ts,[],.plain,h'⟩)∧cH ts 7=l' ∧
      iP l' (ints (A1 Γ s (c.drop (i+1)) (i+1) Ud))∧h.next≤h'.next∧(∀j,j<b0→h'.get j=h.get j):=by
    intro l2 Ud h3 hg T3 a3 ht3 hl3 hst
    have gn:h2.next≤h3.next:=by rcases hg with g|g;exact g.next;exact g.next
    have gx:∀j,j<b0→h3.get j=h2.get j:=fun j hj=>by
     rcases hg with g|g
     ·exact g.get j (by have:=gg.next;omega)
     ·exact g.get j (by have:=gg.next;omega) (fun w=>by have:=ht j w;omega)
    obtain ⟨h',l',ts,ev,t3,r3,x3,o3⟩:=ih (i+1) l2 Ud h3 om T3 a3 ht3 (by have:=gg.next;omega) hl3
    exact ⟨h',l',ts,hst _ ev,t3,r3,by have:=gg.next;omega,fun j hj=>(o3 j hj).trans ((gx j hj).trans (gg.get j om))⟩
   by_cases c2:iR dc=2
   ·have dk:=dT c2
    rw [if_pos c2]
    refine stay _ [i] h2 (.inl (.refl _)) (T.grow gg) (.inr rfl) (fun t w=>by cases w) (by simp) ?_
    rintro ans ⟨n3,e3⟩
    refine Ev.code ⟨n1+n3,fun m hm=> ?b2⟩
    case b2=>
     have e1' :=e1 m om
     have e3' :=e3 m om
     simp only [AQ] at e1'
     exact SXe (Bd d hia tT hib e1' (Eq.symm h2e) x2 t2 b2 n2 hie xe ve dk w @aI) e3'
   have dk:=dF c2
   rw [if_neg c2]
   by_cases c3:iR dc=3∨iR dc=4
   case neg=>
    have d3:=dF (fun q=>c3 (.inl q))
    have d4:=dF (fun q=>c3 (.inr q))
    rw [if_neg (fun q=>c3 q.1)]
    refine stay l acc h2 (.inl (.refl _)) (T.grow gg) (ha.grow gg) ht om ?_
    rintro ans ⟨n3,e3⟩
    refine Ev.code ⟨n1+n3,fun m hm=> ?b3⟩
    case b3=>
     have e1' :=e1 m om
     have e3' :=e3 m om
     simp only [AQ] at e1'
     exact SXe (dI d hia tT hib e1' (Eq.symm h2e) x2 t2 b2 n2 hie xe ve dk d3 d4 (cj2 w @aI)) e3'
   have hlen:∀hp,nJ hp .sl l= .ok acc.length:=fun hp=>by rw [bO ha.E6 hp,mQ]
   have eor:decide (iR dc=3)=true∨(decide (iR dc=3)=false∧decide (iR dc=4)=true):=by
    by_cases q:iR dc=3
    ·exact .inl (dT q)
    ·exact .inr ⟨dF q,dT (c3.resolve_left q)⟩
   by_cases c0:acc=[]
   ·rw [if_neg (fun q=>q.2 c0)]
    have dl:decide ((0:Int)<((acc.length:Nat):Int))=false:=dF (by rw [c0];simp)
    refine stay l acc h2 (.inl (.refl _)) (T.grow gg) (ha.grow gg) ht om ?_
    rintro ans ⟨n3,e3⟩
    refine Ev.code ⟨n1+n3,fun m hm=> ?b4⟩
    case b4=>
     have e1' :=e1 m om
     have e3' :=e3 m om
     simp only [AQ] at e1'
     rcases eor with d3|⟨d3,d4⟩
     ·exact SXe (dI d hia tT hib e1' (Eq.symm h2e) x2 t2 b2 n2 hie xe ve dk d3 hlen (cj3 dl w @aI)) e3'
     ·exact SXe (dI d hia tT hib e1' (Eq.symm h2e) x2 t2 b2 n2 hie xe ve dk d3 d4 (cj4 hlen dl w @aI)) e3'
   ·rw [if_pos ⟨c3,c0⟩]
    have dl:decide ((0:Int)<((acc.length:Nat):Int))=true:=dT (by have:=List.length_pos_iff.2 c0;omega)
    obtain ⟨l2,h3,ap,a3,g3,tk3⟩:=A2 (ha.grow gg) (v:= .int .i64 (i:Nat)) (yV acc) rfl (by rw [mQ];omega)
    have hT3:TB Γ S h3:=by
     refine (T.grow gg).wH fun j hj w=>g3.get j hj (fun q=> ?_)
     have:=ht j q
     rcases w with w|w|w
     ·omega
     ·omega
     ·have:=hb0.2.2 j w;omega
    refine stay l2 (acc++[i]) h3 (.inr g3) hT3 (by rw [CO];exact .inl a3) (fun t w=>by rcases tk3 t w with q|q;exact ht t q;have:=gg.next;omega) (by simp;omega) ?_
    rintro ans ⟨n3,e3⟩
    refine Ev.code ⟨n1+n3,fun m hm=> ?b5⟩
    case b5=>
     have e1' :=e1 m om
     have e3' :=e3 m om
     simp only [AQ] at e1'
     rcases eor with d3|⟨d3,d4⟩
     ·exact SXe (dI d hia tT hib e1' (Eq.symm h2e) x2 t2 b2 n2 hie xe ve dk d3 hlen (cj4 dl ap w @aI)) e3'
     ·exact SXe (dI d hia tT hib e1' (Eq.symm h2e) x2 t2 b2 n2 hie xe ve dk d3 d4 (cj5 hlen dl ap w @aI)) e3'
theorem CE (H:Has fns orc) {Γ:Tb} (O:Γ.Ok) {S:Nat→DY} (s:List UInt8) {vc:AV} {c:List Nat} (hx:iP vc (ints c)) (hc:∀d∈c,d<Γ.n) (hn:c.length<10000000) {h:aD} (T:TB Γ S h):
  ∃h' v,aP h h' ∧Ev fns orc (.call 65 [.ptr Γ.tb 0,vc,.str s] .plain h) (.call (.ret v) .plain h')∧iP v (ints (pV Γ s c)):=by
 obtain ⟨h',l',ts,⟨n,e⟩,t7,r,g,o⟩:=Mc H O (S:=S) s hx hc hn T.lt c.length 0 .aC [] h om T (.inl .nil) (fun t w=>by cases w) (Nat.le_refl _) (Nat.le_refl _)
 refine ⟨h',l',⟨g,o⟩,Ev.call H.f65 H.o65 ⟨n,fun m hm=> ?b⟩,r⟩
 case b=>
  have q:∀hp,nJ hp .sl vc= .ok c.length:=fun hp=>by rw [bO hx hp,mQ]
  have e1' :cG (eval fns orc m) 65 none (.loop p65x110100) _=_:=e (m+1) om
  simp only [Int.ofNat_zero] at e1'
  exact SX (cj4 @a65.eq_1 q e1' t7)
end Go.Ly
namespace Go.Ly
open Go Go.Am Go.Fs Go.Gn
variable {fns:Go.Am.F} {orc:Orc}
def PlK (Γ:Tb) (S:Nat→DY) (a:Int) (lv pt k:Nat):Prop:=∃w c u,upF Γ lv a=((w:Nat):Int)∧w<Γ.n∧(S w).ch=some (c,u)∧c[pt]? =some k
theorem PlK.le {Γ:Tb} {S S' :Nat→DY} (e:Le S S') {a:Int} {lv pt k:Nat} (p:PlK Γ S a lv pt k):PlK Γ S' a lv pt k:=by
 obtain ⟨w,c,u,h1,h2,h3,h4⟩:=p
 exact ⟨w,c,u,h1,h2,e.ch h3,h4⟩
theorem Xu {c u:List Nat} {vc vu:AV} (h:ChV (some (c,u)) vc vu):(∃tk,vc= .sl tk (ints c))∧iP vu (ints u):=⟨CC h,h.2.2⟩
theorem yG {v:AV} {c:List Nat} (h:iP v (ints c)):dX v v=true:=by
 generalize e:ints c=xs at h
 cases h with
 |nil=>rfl
 |sl tk xs=>rw [←e];exact vH tk c
theorem rN {v:AV} {c:List Nat} (h:iP v (ints c)) {q k:Nat} (hq:c[q]? =some k):pT 1 v (.int .i64 (q:Nat))= .ok (.ep [.int .i64 (k:Nat)] 0):=
 oX h (by simp [ints,hq]) rfl
theorem uQ {Γ:Tb} (O:Γ.Ok) {S:Nat→DY} {h:aD} (T:TB Γ S h) {w:Nat} (hw:w<Γ.n) {c u:List Nat} (hc:(S w).ch=some (c,u)):
  ∃cc tk vu,cont h (Γ.loc w)=some cc∧nth cc 15=some (.sl tk (ints c))∧nth cc 16=some vu∧iP vu (ints u)∧nth cc 8=some (.int .i64 (Γ.D w).ar)∧nth cc 14=some (.bool (S w).busy)∧nth cc 17=some (.int .i64 (S w).off)∧nth cc 18=some (.int .i64 (S w).cl):=by
 obtain ⟨vc,vu,hb,hv⟩:=T.d_ w hw
 rw [hc] at hv
 obtain ⟨⟨tk,rfl⟩,hu⟩:=Xu hv
 have k:=O.ok w hw
 exact ⟨_,tk,vu,hb,Fz k _ _ _ _ _,V1 k _ _ _ _ _,hu,HU k _ _ _ _ _,Si k _ _ _ _ _,Sh k _ _ _ _ _,V0 k _ _ _ _ _⟩
def AbQ (Γ:Tb) (S:Nat→DY) (a:Int) (lv pt k:Nat) (v:AV) (h' :aD):Prop:=
 ∃S' lv' pt' r,v= .agg [.int .i64 (lv' :Nat),.int .i64 (pt' :Nat)]∧Ext S S' ∧TB Γ S' h' ∧WF Γ S' ∧HH Γ S' a lv pt lv' pt' ∧PlK Γ S' a lv' pt' r∧(Γ.D k).ar=((r:Nat):Int)
theorem Ue (H:Has fns orc) {Γ:Tb} (O:Γ.Ok) {N:Nat} (C:HF fns orc Γ N) {S:Nat→DY} {h:aD} (T:TB Γ S h) (W:WF Γ S) (hN:opn S Γ.n≤N) {a:Int} (ha: -1≤a∧a<(Γ.n:Int)) {lv pt k:Nat} (hp:PlK Γ S a lv pt k):
  Out fns orc (pJ Γ) (.call 77 [.ptr Γ.tb 0,.int .i64 a,.agg [.int .i64 (lv:Nat),.int .i64 (pt:Nat)]] .plain h) h (AbQ Γ S a lv pt k):=by
 obtain ⟨w,c,u,hw,hwn,hcu,hk⟩:=hp
 have hO:=O.lt
 have hlv:=BD O lv ha om
 have F:=W w hwn c u hcu
 have hkn:=(W.part c.length w c u (Nat.le_refl _) hwn hcu pt k hk).1
 obtain ⟨hpt,_⟩:=List.getElem?_eq_some_iff.1 hk
 obtain ⟨t,ht⟩:∃t,u[pt]? =some t:=⟨u[pt]'(by rw [F.len];exact hpt),List.getElem?_eq_getElem (by rw [F.len];exact hpt)⟩
 have htb:=F.ub t (List.mem_of_getElem? ht)
 obtain ⟨hA,hAe⟩:∃x,x=(h.push (.cells [.int .i64 (lv:Nat),.int .i64 (pt:Nat)])).push (.cells [.int .i64 0,.int .i64 0]):=⟨_,rfl⟩
 have gA:aP h hA:=by rw [hAe];exact gw2
 have nA:hA.next=h.next+2:=by rw [hAe];simp
 have a5:cont hA h.next=some [.int .i64 (lv:Nat),.int .i64 (pt:Nat)]:=by rw [hAe];exact ctp
 have a6:cont hA (h.next+1)=some [.int .i64 0,.int .i64 0]:=by rw [hAe];exact ctp
 have TA:=T.grow gA
 obtain ⟨n1,e1⟩:=Om H O TA ha (k:=lv) om
 rw [hw] at e1
 obtain ⟨n2,e2⟩:=xV H O TA hwn (by rw [hcu];simp)
 obtain ⟨cw,tkw,vu,cwA,w15,w16,wu,_⟩:=uQ O TA hwn hcu
 have iu:=rN wu ht
 have ic:pT 1 (.sl tkw (ints c)) (.int .i64 (pt:Nat))= .ok (.ep [.int .i64 (k:Nat)] 0):=rN (.sl _ _) hk
 obtain ⟨tk,v2,tT⟩:=TA.t_
 have ik:=Γ.at tk hkn
 obtain ⟨vc',vu',bk,_⟩:=TA.d_ k hkn
 have k8:=HU (O.ok k hkn) (S k).busy vc' vu' (S k).off (S k).cl
 have xe:=Γ.D3 tk
 have eu:=yG wu
 have ec:=vH tkw c
 have ar:=O.ar k hkn
 have w1:IntKind.wrap .i64 ((lv:Int)+1)=((lv+1:Nat):Int):=by rw [pE om om];rfl
 have w2:IntKind.wrap .i64 (((lv+1:Nat):Int)+(t:Int))=((lv+1+t:Nat):Int):=by rw [pE om om];rfl
 obtain ⟨n3,e3⟩:=Om H O TA ha (k:=lv+1+t) om
 have rg:=CL O (lv+1+t) ha
 by_cases c0:0≤upF Γ (lv+1+t) a
 case neg=>
  have d:=dF c0
  obtain ⟨n4,e4⟩:=vB H 11 hA
  refine Out.pan 11 hA om (Ev.call H.f77 H.o77 ⟨n1+n2+n3+n4,fun m hm=> ?b1⟩) (fV gA)
  case b1=>
   have e1' :=e1 m om
   have e2' :=e2 m om
   have e3' :=e3 m om
   have e4' :=e4 m om
   exact SX (dI @a77.eq_1 (Eq.symm hAe) a5 e1' e2' cwA w16 w15 iu ic tT ik bk k8 xe eu (cj6 ec w1 w2 e3' d e4'))
 have d:=dT c0
 obtain ⟨n4,e4⟩:=uZ H 11 hA
 obtain ⟨b,hb⟩:∃b:Nat,upF Γ (lv+1+t) a=(b:Int):=⟨(upF Γ (lv+1+t) a).toNat,by omega⟩
 rw [hb] at e3 d rg
 have hbn:b<Γ.n:=om
 rcases C S hA b TA W hN hbn with ⟨v,h1,⟨n5,e5⟩,ch1,rfl,S',ext,T1,W1,hch⟩|⟨e,h1,he,⟨n5,e5⟩,ch1⟩
 case inr=>
  refine Out.pan e h1 he (Ev.call H.f77 H.o77 ⟨n1+n2+n3+n4+n5,fun m hm=> ?b2⟩) (kI (fV gA) ch1)
  case b2=>
   have e1' :=e1 m om
   have e2' :=e2 m om
   have e3' :=e3 m om
   have e4' :=e4 m om
   have e5' :=e5 m om
   exact SX (dI @a77.eq_1 (Eq.symm hAe) a5 e1' e2' cwA w16 w15 iu ic tT ik bk k8 xe eu (cj7 ec w1 w2 e3' d e4' e5'))
 obtain ⟨⟨cb,ub⟩,hcb⟩:=Option.ne_none_iff_exists'.1 hch
 obtain ⟨c1b,tkb,vub,cB,b15,_⟩:=uQ O T1 hbn hcb
 have lcb:=(W1 b hbn cb ub hcb).max
 obtain ⟨n6,e6⟩:=Qs H (v:= .sl tkb (ints cb)) (.sl _ _) om (Γ.D k).ar h1
 have nn:=ch1.next
 have ltT:=T.lt
 have h6:cont h1 (h.next+1)=some [.int .i64 0,.int .i64 0]:=(qJ ch1 om (fun q=>by have:=ltT.2.2 _ q;omega)).trans a6
 cases cf:vJ (fun x:Nat=>decide ((Γ.D k).ar=(x:Int))) cb with
 |none=>
  rw [cf] at e6
  obtain ⟨n7,e7⟩:=vB H 11 h1
  refine Out.pan 11 h1 om (Ev.call H.f77 H.o77 ⟨n1+n2+n3+n4+n5+n6+n7,fun m hm=> ?b3⟩) (kI (fV gA) ch1)
  case b3=>
   have e1' :=e1 m om
   have e2' :=e2 m om
   have e3' :=e3 m om
   have e4' :=e4 m om
   have e5' :=e5 m om
   have e6' :=e6 m om
   have e7' :=e7 m om
   have dn:decide (0≤(-1:Int))=false:=rfl
   simp only [A8] at e6'
   exact SX (dI @a77.eq_1 (Eq.symm hAe) a5 e1' e2' cwA w16 w15 iu ic tT ik bk k8 xe eu (qC ec w1 w2 e3' d e4' e5' cB b15 e6' dn e7'))
 |some p=>
  rw [cf] at e6
  obtain ⟨n7,e7⟩:=uZ H 11 h1
  have dn:decide (0≤((p:Nat):Int))=true:=dT om
  obtain ⟨r,hr1,hr2,_⟩:=Bu cf
  obtain ⟨h2,h2e⟩:∃x,x=h1.set (h.next+1) (.cells [.int .i64 ((lv+1+t:Nat):Int),.int .i64 (p:Nat)]):=⟨_,rfl⟩
  have x2:cont h2 (h.next+1)=some [.int .i64 ((lv+1+t:Nat):Int),.int .i64 (p:Nat)]:=by rw [h2e];exact aG om
  refine Out.ret (.agg [.int .i64 ((lv+1+t:Nat):Int),.int .i64 (p:Nat)]) h2 (Ev.call H.f77 H.o77 ⟨n1+n2+n3+n4+n5+n6+n7,fun m hm=> ?b4⟩) ?c4
   ⟨S',_,p,r,rfl,ext, ?T4,W1,⟨w,c,u,k,t,b,cb,ub,hw,ext.le.ch hcu,hk,ht,rfl,hb,hcb,cf⟩,⟨b,cb,ub,hb,hbn,hcb,hr1⟩,by simpa using hr2⟩
  case c4=>rw [h2e];exact rX (kI (fV gA) ch1) om (.inr om) _
  case T4=>
   refine T1.wH fun j hj w=> ?_
   have:j<h.next:=by rcases w with rfl|rfl|w;omega;omega;exact ltT.2.2 j w
   rw [h2e,aE _ _ _ _ om om]
  case b4=>
   have e1' :=e1 m om
   have e2' :=e2 m om
   have e3' :=e3 m om
   have e4' :=e4 m om
   have e5' :=e5 m om
   have e6' :=e6 m om
   have e7' :=e7 m om
   simp only [A8] at e6'
   exact SX (dI @a77.eq_1 (Eq.symm hAe) a5 e1' e2' cwA w16 w15 iu ic tT ik bk k8 xe eu (xJ ec w1 w2 e3' d e4' e5' cB b15 e6' dn e7' h6 (Eq.symm h2e) x2))
end Go.Ly
namespace Go.Ly
open Go Go.Am Go.Fs Go.Gn
variable {fns:Go.Am.F} {orc:Orc}
def ClQ (Γ:Tb) (S:Nat→DY) (a:Int) (n lv pt k:Nat) (v:AV) (h' :aD):Prop:=
 ∃S' lv' pt' k',v= .agg [.int .i64 (lv' :Nat),.int .i64 (pt' :Nat)]∧Ext S S' ∧TB Γ S' h' ∧WF Γ S' ∧vY Γ S' a n lv pt lv' pt' ∧PlK Γ S' a lv' pt' k' ∧upF Γ n (k:Int)=((k' :Nat):Int)
theorem QW {Γ:Tb} {S:Nat→DY} {a:Int}:∀{n lv pt lv' pt' :Nat},vY Γ S a n lv pt lv' pt' →lv≤lv'
 |0,_,_,_,_,h=>by have:=h.1;omega
 |n+1,_,_,_,_,⟨l,p,h1,h2⟩=>by
  obtain ⟨_,_,_,_,t,_,_,_,_,_,_,_,e,_⟩:=h1
  have:=QW h2
  omega
theorem JL (H:Has fns orc) {Γ:Tb} (O:Γ.Ok) {N:Nat} (C:HF fns orc Γ N) {a:Int} (ha: -1≤a∧a<(Γ.n:Int)) {n b6 b8:Nat} (hn:n<1000000000) (nb:¬pJ Γ b6) (nt:b6≠Γ.tb) (nm:b6≠Γ.mb):
  ∀(j i:Nat) (S:Nat→DY) (h:aD) (lv pt k:Nat),i+j=n→TB Γ S h→WF Γ S→opn S Γ.n≤N→cont h b6=some [.int .i64 (lv:Nat),.int .i64 (pt:Nat)]→PlK Γ S a lv pt k→
   (∃h' S' lv' pt' k' ts,Ev fns orc (.code 61 none (.loop p61x10100) ⟨[(0,.ptr Γ.tb 0),(1,.int .i64 a),(6,.ptr b6 0),(8,.ptr b8 0),(9,.int .i64 (n:Nat)),(10,.int .i64 (i:Nat))],[],.plain,h⟩) (.code (.exit 0) ⟨ts,[],.plain,h'⟩)∧cH ts 6= .ptr b6 0∧cH ts 8= .ptr b8 0∧
    Chg (fun x=>pJ Γ x∨x=b6) h h' ∧Ext S S' ∧TB Γ S' h' ∧WF Γ S' ∧cont h' b6=some [.int .i64 (lv' :Nat),.int .i64 (pt' :Nat)]∧vY Γ S' a j lv pt lv' pt' ∧PlK Γ S' a lv' pt' k' ∧upF Γ j (k:Int)=((k' :Nat):Int))∨
   (∃h' e ts,0<e∧Ev fns orc (.code 61 none (.loop p61x10100) ⟨[(0,.ptr Γ.tb 0),(1,.int .i64 a),(6,.ptr b6 0),(8,.ptr b8 0),(9,.int .i64 (n:Nat)),(10,.int .i64 (i:Nat))],[],.plain,h⟩) (.code (.panic (irr e)) ⟨ts,[],.plain,h'⟩)∧Chg (fun x=>pJ Γ x∨x=b6) h h'):=by
 intro j
 induction j with
 |zero=>
  intro i S h lv pt k hi T W hN hb hp
  have d:decide ((i:Int)<((n:Nat):Int))=false:=dF om
  refine .inl ⟨h,S,lv,pt,k, ?ts,Ev.code ⟨0,fun m _=> ?b0⟩, ?t6, ?t8,.refl _ _,.refl _,T,W,hb,⟨rfl,rfl⟩,hp,rfl⟩
  case b0=>
   exact SX (cj2 d @aI)
  case t6=>rfl
  case t8=>rfl
 |succ j ih=>
  intro i S h lv pt k hi T W hN hb hp
  have d:decide ((i:Int)<((n:Nat):Int))=true:=dT om
  have lb:=aO hb
  rcases Ue H O C T W hN ha hp with ⟨v,h1,⟨n1,e1⟩,ch1,S',lv1,pt1,r,rfl,ext,T1,W1,ab,pl,har⟩|⟨e,h1,he,⟨n1,e1⟩,ch1⟩
  case inr=>
   refine .inr ⟨h1,e, ?tsp,he,Ev.code ⟨n1,fun m hm=> ?bp⟩,⟨ch1.next,fun i hi hn=>ch1.get i hi (fun w=>hn (.inl w))⟩⟩
   case bp=>
    have e1' :=e1 m hm
    exact SX (cj4 d hb e1' @aI)
  have nn:=ch1.next
  have b1:cont h1 b6=some [.int .i64 (lv:Nat),.int .i64 (pt:Nat)]:=(qJ ch1 lb nb).trans hb
  obtain ⟨h2,h2e⟩:∃x,x=h1.set b6 (.cells [.int .i64 (lv1:Nat),.int .i64 (pt1:Nat)]):=⟨_,rfl⟩
  have x2:cont h2 b6=some [.int .i64 (lv1:Nat),.int .i64 (pt1:Nat)]:=by rw [h2e];exact aG om
  have C2:Chg (fun x=>pJ Γ x∨x=b6) h h2:=by rw [h2e];exact rX ⟨ch1.next,fun i hi hn=>ch1.get i hi (fun w=>hn (.inl w))⟩ om (.inl (.inr rfl)) _
  have T2:TB Γ S' h2:=T1.wH fun j hj w=>by
   rw [h2e,aE _ _ _ _ om ?_]
   rintro rfl
   rcases w with w|w|w
   ·exact nt w
   ·exact nm w
   ·exact nb w
  have w:IntKind.wrap .i64 ((i:Int)+1)=((i+1:Nat):Int):=by rw [pE om om];rfl
  have step:∀ans,Ev fns orc (.code 61 none (.loop p61x10100) ⟨[(0,.ptr Γ.tb 0),(1,.int .i64 a),(6,.ptr b6 0),(8,.ptr b8 0),(9,.int .i64 (n:Nat)),(10,.int .i64 ((i+1:Nat):Int))],[],.plain,h2⟩) ans→
    Ev fns orc (.code 61 none (.loop p61x10100) ⟨[(0,.ptr Γ.tb 0),(1,.int .i64 a),(6,.ptr b6 0),(8,.ptr b8 0),(9,.int .i64 (n:Nat)),(10,.int .i64 (i:Nat))],[],.plain,h⟩) ans:=by
   rintro ans ⟨n2,e2⟩
   refine Ev.code ⟨n1+n2,fun m hm=> ?bt⟩
   case bt=>
    have e1' :=e1 m om
    have e2' :=e2 m om
    exact SXe (cj7 d hb e1' b1 (Eq.symm h2e) w @aI) e2'
  have hk1:upF Γ (j+1) (k:Int)=upF Γ j (r:Int):=by
   simp only [upF]
   rw [if_neg om]
   show upF Γ j (Γ.D k).ar=_
   rw [har]
  rcases ih (i+1) S' h2 lv1 pt1 r om T2 W1 (by have:=zG ext Γ.n;omega) x2 pl with ⟨h',S2,lv',pt',k',ts,ev,t6,t8,ch,ex,T3,W3,c6,cl,pk,uk⟩|⟨h',e,ts,he,ev,ch⟩
  ·exact .inl ⟨h',S2,lv',pt',k',ts,step _ ev,t6,t8,kI C2 ch,ext.trans ex,T3,W3,c6,⟨lv1,pt1,ab.le ex.le,cl⟩,pk,hk1.trans uk⟩
  ·exact .inr ⟨h',e,ts,he,step _ ev,kI C2 ch⟩
theorem DV (H:Has fns orc) {Γ:Tb} (O:Γ.Ok) {N:Nat} (C:HF fns orc Γ N) {S:Nat→DY} {h:aD} (T:TB Γ S h) (W:WF Γ S) (hN:opn S Γ.n≤N) {a:Int} (ha: -1≤a∧a<(Γ.n:Int)) {n lv pt k:Nat} (hn:n<1000000000) (hp:PlK Γ S a lv pt k):
  Out fns orc (pJ Γ) (.call 61 [.ptr Γ.tb 0,.int .i64 a,.agg [.int .i64 (lv:Nat),.int .i64 (pt:Nat)],.int .i64 (n:Nat)] .plain h) h (ClQ Γ S a n lv pt k):=by
 obtain ⟨hA,hAe⟩:∃x,x=(h.push (.cells [.int .i64 (lv:Nat),.int .i64 (pt:Nat)])).push (.cells [.int .i64 0,.int .i64 0]):=⟨_,rfl⟩
 have gA:aP h hA:=by rw [hAe];exact gw2
 have nA:hA.next=h.next+2:=by rw [hAe];simp
 have a6:cont hA h.next=some [.int .i64 (lv:Nat),.int .i64 (pt:Nat)]:=by rw [hAe];exact ctp
 have a8:cont hA (h.next+1)=some [.int .i64 0,.int .i64 0]:=by rw [hAe];exact ctp
 have ltT:=T.lt
 have mk:∀{h' :aD},Chg (fun i=>pJ Γ i∨i=h.next) hA h' →Chg (pJ Γ) h h' :=fun ch=>⟨by have:=ch.next;omega,fun i hi hn=>by rw [ch.get i om (fun w=>by rcases w with w|w;exact hn w;omega),gA.get i hi]⟩
 rcases JL H O C ha hn (b6:=h.next) (b8:=h.next+1) (pJ.not T (Nat.le_refl _)) om om n 0 S hA lv pt k om (T.grow gA) W hN a6 hp with ⟨h',S2,lv',pt',k',ts,⟨n1,e1⟩,t6,t8,ch,ex,T2,W2,c6,cl,pk,uk⟩|⟨h',e,ts,he,⟨n1,e1⟩,ch⟩
 ·have c8:cont h' (h.next+1)=some [.int .i64 0,.int .i64 0]:=(qJ ch om (fun w=>by rcases w with w|w;have:=ltT.2.2 _ w;omega;omega)).trans a8
  have nn:=ch.next
  obtain ⟨h2,h2e⟩:∃x,x=h'.set (h.next+1) (.cells [.int .i64 (lv' :Nat),.int .i64 (pt' :Nat)]):=⟨_,rfl⟩
  have x2:cont h2 (h.next+1)=some [.int .i64 (lv' :Nat),.int .i64 (pt' :Nat)]:=by rw [h2e];exact aG om
  refine Out.ret _ h2 (Ev.call H.f61 H.o61 ⟨n1,fun m hm=> ?b1⟩) ?c1 ⟨S2,lv',pt',k',rfl,ex, ?T,W2,cl,pk,uk⟩
  case c1=>rw [h2e];exact rX (mk ch) om (.inr om) _
  case T=>
   refine T2.wH fun j hj w=> ?_
   have:j<h.next:=by rcases w with rfl|rfl|w;omega;omega;exact ltT.2.2 j w
   rw [h2e,aE _ _ _ _ om om]
  case b1=>
   have e1' :cG (eval fns orc m) 61 none (.loop p61x10100) _=_:=e1 (m+1) om
   simp only [Int.ofNat_zero] at e1'
   exact SX (cj9 @a61.eq_1 (Eq.symm hAe) e1' t6 t8 c6 c8 (Eq.symm h2e) x2)
 ·refine Out.pan e h' he (Ev.call H.f61 H.o61 ⟨n1,fun m hm=> ?b2⟩) (mk ch)
  case b2=>
   have e1' :cG (eval fns orc m) 61 none (.loop p61x10100) _=_:=e1 (m+1) om
   simp only [Int.ofNat_zero] at e1'
   exact SX (cj3 @a61.eq_1 (Eq.symm hAe) e1')
end Go.Ly
namespace Go.Ly
open Go Go.Am Go.Fs Go.Gn
variable {fns:Go.Am.F} {orc:Orc}
theorem BS {D:DS} (k:D.Ok) {d:kV} (hd:d∈aU D.pd):Og (iR d) (fR d) (wM d).length (qP d).length:=by
 have h:=k.vd
 cases hp:D.pd with|mk s pl dl el b il xl=>
 rw [hp] at h hd
 have:=(h.kid (q:= .decl d) (by simp only [Part.kids,List.mem_append,List.mem_map];exact .inl (.inl (.inl (.inr ⟨d,hd,rfl⟩))))).own
 cases d with|mk k n s p y=>exact this
theorem Ka {Γ:Tb} (O:Γ.Ok) {S:Nat→DY} {h:aD} (T:TB Γ S h) {o i:Nat} (ho:o<Γ.n) {d:kV} (hd:(aU (Γ.D o).pd)[i]? =some d) (hn:qP d≠[]):
  ∃v,ThR Γ o i v∧(Γ.D v).ar=(o:Int)∧(Γ.D v).ow=d∧mX h (.cells [.int,.int]) (.int .i64 0) false (.map Γ.mb) (.agg [.int .i64 (o:Nat),.int .i64 (i:Nat)])= .ok (.val (.int .i64 (v:Nat)) h):=by
 obtain ⟨clk,hm⟩:=T.m_
 rcases Ha o i Γ.es 0 (fun e he=>by obtain ⟨p,j,v,_,_,q,_⟩:=O.es e he;exact ⟨p,j,q⟩) with ⟨_,h2⟩|⟨j,v,b,h1,h2⟩
 ·obtain ⟨e,he,hk⟩:=O.th o ho i d hd hn
  exact absurd hk (h2 e he)
 ·have Jx:=List.mem_of_getElem? h2
  obtain ⟨o',i',v',g1,g2,g3,g4,g5,g6,g7⟩:=O.es _ Jx
  obtain ⟨rfl,rfl⟩:=key_inj g3
  simp only at g4
  subst g4
  rw [hd] at g6
  refine ⟨v',⟨g2,_,h1⟩,g5,(Option.some.inj g6).symm, ?_⟩
  have ke:eqA (.cells [.int,.int]) (key o i) (key o i)= .ok true:=by rw [ki2];simp
  rw [show AV.agg [.int .i64 (o:Nat),.int .i64 (i:Nat)]=key o i from rfl]
  simp only [mX,ke,aM,lH,hm,h1]
def tgA:Tg→AV
 |none=> .agg [.int .i64 (-1),.int .i64 0,.int .i64 0]
 |some (v,lv,pt)=> .agg [.int .i64 (v:Nat),.int .i64 (lv:Nat),.int .i64 (pt:Nat)]
def B4 (Γ:Tb) (S:Nat→DY) (a:Int) (t:Tg):Prop:=∀v lv pt,t=some (v,lv,pt)→v<Γ.n∧∃r:Nat,(Γ.D v).ar=(r:Int)∧PlK Γ S a lv pt r
def MnQ (Γ:Tb) (S:Nat→DY) (a:Int) (e:pO) (v:AV) (h' :aD):Prop:=∃S' t,v=tgA t∧Ext S S' ∧TB Γ S' h' ∧WF Γ S' ∧CH Γ S' a e t∧B4 Γ S' a t
theorem GH (H:Has fns orc) {Γ:Tb} (O:Γ.Ok) {N:Nat} (C:HF fns orc Γ N) {S:Nat→DY} {h:aD} (T:TB Γ S h) (W:WF Γ S) (hN:opn S Γ.n≤N) {a:Int} (ha: -1≤a∧a<(Γ.n:Int)) {e:pO} {ce:List AV} (hr:RV (.exp e) (.agg ce)):
  Out fns orc (pJ Γ) (.call 64 [.ptr Γ.tb 0,.int .i64 a,.agg ce] .plain h) h (MnQ Γ S a e):=by
 have hO:=O.lt
 cases hr with| @exp k op n man ex t al dl va vd r1 r2=>
 obtain ⟨pc,hpc⟩:∃pc:List AV,pc=[.int .i64 k,.int .i64 op,.int .i64 n,.int .i64 man,.int .i64 ex,.str t,va,vd]:=⟨_,rfl⟩
 have n0:nth pc 0=some (.int .i64 k):=by rw [hpc];rfl
 have n5:nth pc 5=some (.str t):=by rw [hpc];rfl
 have kn:(AV.agg pc).known=true:=rfl
 rw [←hpc]
 obtain ⟨hA,hAe⟩:∃x,x=(h.push (.cells pc)).push (.cells [.int .i64 0,.int .i64 0,.int .i64 0]):=⟨_,rfl⟩
 have gA:aP h hA:=by rw [hAe];exact gw2
 have nA:hA.next=h.next+2:=by rw [hAe];simp
 have a5:cont hA h.next=some pc:=by rw [hAe];exact ctp
 have a6:cont hA (h.next+1)=some [.int .i64 0,.int .i64 0,.int .i64 0]:=by rw [hAe];exact ctp
 have TA:=T.grow gA
 have ltT:=T.lt
 by_cases c8:k=8
 case neg=>
  have d:=dF c8
  obtain ⟨m1,x1⟩:=vB H 11 hA
  refine Out.pan 11 hA om (Ev.call H.f64 H.o64 ⟨m1,fun m hm=> ?b1⟩) (fV gA)
  case b1=>
   have x1' :=x1 m hm
   exact SX (cj6 @a64.eq_1 (Eq.symm hAe) a5 n0 d x1')
 have d8:=dT c8
 obtain ⟨m1,x1⟩:=uZ H 11 hA
 rcases O1 (E:=fun e=>0<e) (I:=fun S=>opn S Γ.n≤N) H O C (fun x k=>Nat.le_trans (zG x Γ.n) k) TA W hN ha t with ⟨v,h1,⟨m2,x2⟩,ch1,S',ext,T1,W1,hv⟩|⟨e',h1,he,⟨m2,x2⟩,ch1⟩
 case inr=>
  refine Out.pan e' h1 he (Ev.call H.f64 H.o64 ⟨m1+m2,fun m hm=> ?b2⟩) (kI (fV gA) ch1)
  case b2=>
   have x1' :=x1 m om
   have x2' :=x2 m om
   exact SX (cj8 @a64.eq_1 (Eq.symm hAe) a5 n0 n5 d8 x1' x2')
 have nn:=ch1.next
 have CA:Chg (pJ Γ) h h1:=kI (fV gA) ch1
 have b5:cont h1 h.next=some pc:=(qJ ch1 om (fun q=>by have:=ltT.2.2 _ q;omega)).trans a5
 have b6:cont h1 (h.next+1)=some [.int .i64 0,.int .i64 0,.int .i64 0]:=(qJ ch1 om (fun q=>by have:=ltT.2.2 _ q;omega)).trans a6
 rcases hv with ⟨rfl,G1⟩|⟨lv,q,i,kk,rfl,fa⟩
 ·obtain ⟨h2,h2e⟩:∃x,x=(h1.push (.cells [.int .i64 0,.int .i64 0,.int .i64 0,.int .i64 0])).set h1.next (.cells [.int .i64 0,.int .i64 0,.int .i64 0,.int .i64 0]):=⟨_,rfl⟩
  have g2:aP h1 h2:=by rw [h2e];exact gw2
  have n2:h2.next=h1.next+1:=by rw [h2e];simp
  have c5:=(aF g2 om).trans b5
  have c6:=(aF g2 om).trans b6
  by_cases co:t=HT
  case neg=>
   have be:jI t [111,98,106,101,99,116]=false:=by rw [jV];simpa [HT] using co
   obtain ⟨m3,x3⟩:=vB H 11 h2
   refine Out.pan 11 h2 om (Ev.call H.f64 H.o64 ⟨m1+m2+m3,fun m hm=> ?b3⟩) (sR CA g2)
   case b3=>
    have x1' :=x1 m om
    have x2' :=x2 m om
    have x3' :=x3 m om
    simp only [Ao] at x2'
    exact SX (qC @a64.eq_1 (Eq.symm hAe) a5 n0 n5 d8 x1' x2' (Eq.symm h2e) c5 be x3')
  have be:jI t [111,98,106,101,99,116]=true:=by rw [jV];simpa [HT] using co
  obtain ⟨m3,x3⟩:=uZ H 11 h2
  obtain ⟨h3,h3e⟩:∃x,x=h2.set (h.next+1) (.cells [.int .i64 (-1),.int .i64 0,.int .i64 0]):=⟨_,rfl⟩
  have z6:cont h3 (h.next+1)=some [.int .i64 (-1),.int .i64 0,.int .i64 0]:=by rw [h3e];exact aG om
  refine Out.ret (tgA none) h3 (Ev.call H.f64 H.o64 ⟨m1+m2+m3,fun m hm=> ?b4⟩) (by rw [h3e];exact rX (sR CA g2) om (.inr om) _)
   ⟨S',none,rfl,ext,(T1.grow g2).wH fun j hj w=> ?T4,W1,⟨by simpa [Ov] using c8,.inl ⟨rfl,by simpa [KK] using co,G1⟩⟩,fun v lv pt w=>by cases w⟩
  case T4=>
   have:j<h.next:=by rcases w with rfl|rfl|w;omega;omega;exact ltT.2.2 j w
   rw [h3e,aE _ _ _ _ om om]
  case b4=>
   have x1' :=x1 m om
   have x2' :=x2 m om
   have x3' :=x3 m om
   simp only [Ao] at x2'
   exact SX (dI @a64.eq_1 (Eq.symm hAe) a5 n0 n5 d8 x1' x2' (Eq.symm h2e) c5 c6 be x3' (Eq.symm h3e) z6 @tgA.eq_1 @tgA.eq_2)
 ·obtain ⟨⟨w,c,u,hw,hwn,hcu,hm⟩,hno⟩:=fa
  obtain ⟨hq,⟨o,hco,hdf⟩,_⟩:=CP hm
  obtain ⟨dd,hdd,hfx,_⟩:=xH hdf
  have hon:=(W1.part c.length w c u (Nat.le_refl _) hwn hcu q o hco).1
  have hlv:=BD O lv ha om
  obtain ⟨h2,h2e⟩:∃x,x=(h1.push (.cells [.int .i64 0,.int .i64 0,.int .i64 0,.int .i64 0])).set h1.next (.cells [.int .i64 (lv:Nat),.int .i64 (q:Nat),.int .i64 (i:Nat),.int .i64 (kk:Nat)]):=⟨_,rfl⟩
  have g2:aP h1 h2:=by rw [h2e];exact gw2
  have n2:h2.next=h1.next+1:=by rw [h2e];simp
  have c6:=(aF g2 om).trans b6
  have c7:cont h2 h1.next=some [.int .i64 (lv:Nat),.int .i64 (q:Nat),.int .i64 (i:Nat),.int .i64 (kk:Nat)]:=by rw [h2e];exact aG (by simp)
  have T2:=T1.grow g2
  obtain ⟨m3,x3⟩:=Om H O T2 ha (k:=lv) om
  rw [hw] at x3
  obtain ⟨m4,x4⟩:=xV H O T2 hwn (by rw [hcu];simp)
  obtain ⟨cw,tkw,vu,cwA,w15,w16,wu,_⟩:=uQ O T2 hwn hcu
  have ic:pT 1 (.sl tkw (ints c)) (.int .i64 (q:Nat))= .ok (.ep [.int .i64 (o:Nat)] 0):=rN (.sl _ _) hco
  obtain ⟨tk,v2,tT⟩:=T2.t_
  have ik:=Γ.at tk hon
  obtain ⟨vc',vu',bk,_⟩:=T2.d_ o hon
  obtain ⟨vd',k2,rvd⟩:=FU (O.ok o hon) (S' o).busy vc' vu' (S' o).off (S' o).cl
  obtain ⟨vn,vs,vp,vy,hie,_⟩:=Ey (O.ok o hon) (S' o).busy vc' vu' (S' o).off (S' o).cl k2 hdd
  have xe:=Γ.D3 tk
  have ec:=vH tkw c
  have ve:=jS rvd
  by_cases c1:iR dd=1
  case neg=>
   have d1:=dF c1
   obtain ⟨m5,x5⟩:=vB H 11 h2
   refine Out.pan 11 h2 om (Ev.call H.f64 H.o64 ⟨m1+m2+m3+m4+m5,fun m hm=> ?b5⟩) (sR CA g2)
   case b5=>
    have x1' :=x1 m om
    have x2' :=x2 m om
    have x3' :=x3 m om
    have x4' :=x4 m om
    have x5' :=x5 m om
    simp only [Ao] at x2'
    exact SX (dI @a64.eq_1 (Eq.symm hAe) a5 n0 n5 d8 x1' x2' (Eq.symm h2e) c7 x3' x4' cwA w15 ic tT (cj9 ik bk k2 hie xe ec ve d1 x5'))
  have d1:=dT c1
  obtain ⟨m5,x5⟩:=uZ H 11 h2
  have hnd:=(BS (O.ok o hon) (List.mem_of_getElem? hdd)).pat c1
  obtain ⟨v,th,har,how,lk⟩:=Ka O T2 hon hdd (by intro w;rw [w] at hnd;simp at hnd)
  obtain ⟨h3,h3e⟩:∃x,x=h2.set (h.next+1) (.cells [.int .i64 (v:Nat),.int .i64 (lv:Nat),.int .i64 (q:Nat)]):=⟨_,rfl⟩
  have z6:cont h3 (h.next+1)=some [.int .i64 (v:Nat),.int .i64 (lv:Nat),.int .i64 (q:Nat)]:=by rw [h3e];exact aG om
  refine Out.ret (tgA (some (v,lv,q))) h3 (Ev.call H.f64 H.o64 ⟨m1+m2+m3+m4+m5,fun m hm=> ?b6⟩) (by rw [h3e];exact rX (sR CA g2) om (.inr om) _)
   ⟨S',some (v,lv,q),rfl,ext,T2.wH fun j hj w=> ?T6,W1,⟨by simpa [Ov] using c8,.inr ⟨lv,q,i,kk,w,c,u,o,dd,v,⟨⟨w,c,u,hw,hwn,hcu,hm⟩,hno⟩,hw,hcu,hco,hon,hdd,c1,th,rfl⟩⟩,fun v' lv' pt' w' => ?st⟩
  case T6=>
   have:j<h.next:=by rcases w with rfl|rfl|w;omega;omega;exact ltT.2.2 j w
   rw [h3e,aE _ _ _ _ om om]
  case st=>
   cases w'
   exact ⟨th.1,o,har,w,c,u,hw,hwn,hcu,hco⟩
  case b6=>
   have x1' :=x1 m om
   have x2' :=x2 m om
   have x3' :=x3 m om
   have x4' :=x4 m om
   have x5' :=x5 m om
   simp only [Ao] at x2'
   exact SK (dI @a64.eq_1 (Eq.symm hAe) a5 n0 n5 d8 x1' x2' (Eq.symm h2e) c7 c6 x3' x4' cwA w15 ic (xJ tT ik bk k2 hie xe ec ve d1 x5' lk (Eq.symm h3e) z6 @tgA.eq_1 @tgA.eq_2))
end Go.Ly
namespace Go.Ly
open Go Go.Am Go.Fs Go.Gn
variable {fns:Go.Am.F} {orc:Orc}
def BdQ (Γ:Tb) (S:Nat→DY) (c:List Nat) (q:Nat) (s:List UInt8) (o:Nat) (v:AV) (h' :aD):Prop:=∃S' t,v=tgA t∧Ext S S' ∧TB Γ S' h' ∧WF Γ S' ∧AP Γ S' c q s t∧B4 Γ S' (o:Int) t
theorem Ma (H:Has fns orc) {Γ:Tb} (O:Γ.Ok) {N:Nat} (C:HF fns orc Γ N) {S:Nat→DY} {h:aD} (T:TB Γ S h) (W:WF Γ S) (hN:opn S Γ.n≤N) {w0:Nat} (hw0:w0<Γ.n) {c u0:List Nat} (hcu:(S w0).ch=some (c,u0)) {vc:AV} (hx:iP vc (ints c)) {q o:Nat} (hq:c[q]? =some o)
  {s:List UInt8} {i k:Nat} (hdf:pN (aU (Γ.D o).pd) s=some (i,k)) {dd:kV} (hdd:(aU (Γ.D o).pd)[i]? =some dd) (hb:(qP dd).length=1∨(wM dd).length=1):
  Out fns orc (pJ Γ) (.call 66 [.ptr Γ.tb 0,vc,.int .i64 (q:Nat),.str s] .plain h) h (BdQ Γ S c q s o):=by
 have hO:=O.lt
 obtain ⟨hon,uo,hch⟩:=W.part c.length w0 c u0 (Nat.le_refl _) hw0 hcu q o hq
 have iq:=rN hx hq
 have ltT:=T.lt
 obtain ⟨hA,hAe⟩:∃x,x=h.push (.cells [.int .i64 0,.int .i64 0,.int .i64 0]):=⟨_,rfl⟩
 have gA:aP h hA:=by rw [hAe];exact gw2
 have nA:hA.next=h.next+1:=by rw [hAe];simp
 have a8:cont hA h.next=some [.int .i64 0,.int .i64 0,.int .i64 0]:=by rw [hAe];exact ctp
 obtain ⟨hB,hBe⟩:∃x,x=hA.push (.cells [.int .i64 0,.int .i64 0,.int .i64 0,.int .i64 0]):=⟨_,rfl⟩
 have gB:aP hA hB:=by rw [hBe];exact gw2
 have nB:hB.next=h.next+2:=by rw [hBe];simp [nA]
 have b9:hB.get (h.next+1)=some (.cells [.int .i64 0,.int .i64 0,.int .i64 0,.int .i64 0]):=by rw [hBe];exact aT _ _ _ om om
 have TB' :=T.grow (gA.trans gB)
 obtain ⟨tk,v2,tT⟩:=TB'.t_
 obtain ⟨vc',vu',bk,_⟩:=TB'.d_ o hon
 have ik:=Γ.at tk hon
 obtain ⟨vd',k2,rvd⟩:=FU (O.ok o hon) (S o).busy vc' vu' (S o).off (S o).cl
 obtain ⟨bn1,bn2⟩:=qB (O.ok o hon)
 obtain ⟨hC,gC,m1,x1⟩:=zW H rvd bn1 bn2 s bk k2
 rw [hdf] at x1
 have nC:=gC.next
 have c9:hC.get (h.next+1)=some (.cells [.int .i64 0,.int .i64 0,.int .i64 0,.int .i64 0]):=(gC.get _ om).trans b9
 have c9' :=AY c9
 have tC:=(aF gC (aO tT)).trans tT
 have bC:=(aF gC (aO bk)).trans bk
 have z2:allEq (Me CY) [.int .i64 0,.int .i64 0,.int .i64 0,.int .i64 0] [.int .i64 0,.int .i64 0,.int .i64 0,.int .i64 0]=true:=rfl
 have z3:allEq (Me CY) [.int .i64 0,.aC,.aC,.aC,.aC] [.int .i64 0,.aC,.aC,.aC,.aC]=true:=rfl
 have xe:=Γ.D3 tk
 have ve:=jS rvd
 obtain ⟨hD,hDe⟩:∃x,x=hC.set (h.next+1) (.cells [.int .i64 0,.int .i64 0,.int .i64 (i:Nat),.int .i64 (k:Nat)]):=⟨_,rfl⟩
 have nD:hD.next=hC.next:=by rw [hDe];simp
 have d9:cont hD (h.next+1)=some [.int .i64 0,.int .i64 0,.int .i64 (i:Nat),.int .i64 (k:Nat)]:=by rw [hDe];exact aG om
 have gD:aP hA hD:=by rw [hDe];exact (gB.trans gC).set om om _
 obtain ⟨vn,vs,vp,vy,hie,rn,rp,ry,deq,kn,ks,kp,ky⟩:=Ey (O.ok o hon) (S o).busy vc' vu' (S o).off (S o).cl k2 hdd
 obtain ⟨hE,hEe⟩:∃x,x=hD.push (.cells [.int .i64 0,.aC,.aC,.aC,.aC]):=⟨_,rfl⟩
 have gE:aP hD hE:=by rw [hEe];exact gw2
 have nE:hE.next=hC.next+1:=by rw [hEe];simp [nD]
 have e11:hE.get hC.next=some (.cells [.int .i64 0,.aC,.aC,.aC,.aC]):=by rw [hEe];exact aT _ _ _ om om
 have e11' :=AY e11
 have e9:=(aF gE om).trans d9
 have gAE:=gD.trans gE
 have tE:=(aF gAE (by rw [nA];omega)).trans ((aF gB (by rw [nA];omega)).symm.trans tT)
 have bE:=(aF gAE (by have:=ltT.2.2 _ ⟨o,hon,rfl⟩;omega:Γ.loc o<hA.next)).trans ((aF gB (by have:=ltT.2.2 _ ⟨o,hon,rfl⟩;omega)).symm.trans bk)
 obtain ⟨hF,hFe⟩:∃x,x=hE.set hC.next (.cells [.int .i64 (iR dd),vn,vs,vp,vy]):=⟨_,rfl⟩
 have nF:hF.next=hC.next+1:=by rw [hFe];simp [nE]
 have sF:stC hE 5 hC.next 0 (.agg [.int .i64 (iR dd),vn,vs,vp,vy]) (cont hE hC.next)= .ok hF:=by
  rw [hFe]
  simp only [e11',iO,AV.cells,List.length_cons,List.length_nil,List.all_cons,List.all_nil,bJ,kn,ks,kp,ky,cI]
  rfl
 have f11:cont hF hC.next=some [.int .i64 (iR dd),vn,vs,vp,vy]:=by rw [hFe];exact aG om
 have gF:aP hA hF:=by rw [hFe];exact gAE.set om om _
 have f8:=(aF gF om).trans a8
 have f9:cont hF (h.next+1)=some [.int .i64 0,.int .i64 0,.int .i64 (i:Nat),.int .i64 (k:Nat)]:=by rw [hFe];exact (aK om om).trans e9
 have TF:=T.grow (gA.trans gF)
 have tF:=(aF gF (by rw [nA];omega)).trans ((aF gAE (by rw [nA];omega)).symm.trans tE)
 have ly:∀hp,nJ hp .sl vy= .ok (qP dd).length:=fun hp=>by have:=ry.len hp;simpa using this
 have ey:=jS ry
 have ep:=jS rp
 by_cases c1:(qP dd).length=1
 ·have d1:decide ((((qP dd).length:Nat):Int)=1)=true:=dT om
  obtain ⟨v,th,har,how,lk⟩:=Ka O TF hon hdd (by intro w;rw [w] at c1;simp at c1)
  obtain ⟨hG,hGe⟩:∃x,x=hF.set h.next (.cells [.int .i64 (v:Nat),.int .i64 0,.int .i64 (q:Nat)]):=⟨_,rfl⟩
  have g8:cont hG h.next=some [.int .i64 (v:Nat),.int .i64 0,.int .i64 (q:Nat)]:=by rw [hGe];exact aG om
  refine Out.ret (tgA (some (v,0,q))) hG (Ev.call H.f66 H.o66 ⟨m1,fun m hm=> ?b1⟩) (by rw [hGe];exact rX (fV (gA.trans gF)) om (.inr om) _)
   ⟨S,some (v,0,q),rfl,.refl _,TF.wH fun j hj w=> ?T1,W,⟨o,i,k,dd,hq,hon,hdf,hdd,.inl ⟨c1,v,th,rfl⟩⟩,fun v' lv' pt' w' => ?st⟩
  case T1=>
   have:j<h.next:=by rcases w with rfl|rfl|w;omega;omega;exact ltT.2.2 j w
   rw [hGe,aE _ _ _ _ om om]
  case st=>
   cases w'
   refine ⟨th.1,o,har,o,_,uo,rfl,hon,hch, ?_⟩
   rw [List.getElem?_take]
   simpa using hq
  case b1=>
   have x1' :=x1 m om
   simp only [AQ] at x1'
   exact SK (dI @a66.eq_1 (Eq.symm hAe) nA (Eq.symm hBe) iq tT ik bk x1' b9 c9 c9' z2 z3 @iV.eq_1 @iV.eq_2 (dI (Eq.symm hDe) nD tC bC k2 hie xe ve deq (Eq.symm hEe) d9 e9 tE bE e11 sF (qC f11 ly d1 ey tF f9 lk f8 (Eq.symm hGe) g8 @tgA.eq_1 @tgA.eq_2)))
 ·have d1:decide ((((qP dd).length:Nat):Int)=1)=false:=dF om
  have hp1:=hb.resolve_left c1
  obtain ⟨e,he⟩:=List.length_eq_one_iff.1 hp1
  rw [he] at rp
  obtain ⟨ys,hys,hyl,hyg⟩:=jZ rp
  obtain ⟨ce,hce,rve⟩:=hyg 0 (by simp)
  have ipe:pT 8 vp (.int .i64 0)= .ok (.ep ce 0):=kT (i:=0) hys hce (pW rve)
  have l8:bN (some 8) ce 0= .ok (.agg ce):=wJ (pW rve)
  have ee:=AR rve
  rcases GH H O C TF W hN (a:=(o:Int)) ⟨by omega,by omega⟩ rve with ⟨v,h1,⟨m2,x2⟩,ch1,S',t,rfl,ext,T1,W1,mr,st⟩|⟨e',h1,hpe,⟨m2,x2⟩,ch1⟩
  case inr=>
   refine Out.pan e' h1 hpe (Ev.call H.f66 H.o66 ⟨m1+m2,fun m hm=> ?b2⟩) (kI (fV (gA.trans gF)) ch1)
   case b2=>
    have x1' :=x1 m om
    have x2' :=x2 m om
    simp only [AQ] at x1'
    exact SR (dI @a66.eq_1 (Eq.symm hAe) nA (Eq.symm hBe) iq tT ik bk x1' b9 c9 c9' z2 z3 @iV.eq_1 @iV.eq_2 (dI (Eq.symm hDe) nD tC bC k2 hie xe ve deq (Eq.symm hEe) d9 e9 tE bE e11 sF (tR f11 ly d1 ey ep ipe l8 ee x2' @ldS)))
  have nn:=ch1.next
  have y8:cont h1 h.next=some [.int .i64 0,.int .i64 0,.int .i64 0]:=(qJ ch1 om (fun w=>by have:=ltT.2.2 _ w;omega)).trans f8
  obtain ⟨x,y,z,HX⟩:∃x y z:Int,tgA t= .agg [.int .i64 x,.int .i64 y,.int .i64 z]:=by
   cases t with
   |none=>exact ⟨_,_,_,rfl⟩
   |some p=>obtain ⟨p1,p2,p3⟩:=p;exact ⟨_,_,_,rfl⟩
  obtain ⟨hG,hGe⟩:∃w,w=h1.set h.next (.cells [.int .i64 x,.int .i64 y,.int .i64 z]):=⟨_,rfl⟩
  have g8:cont hG h.next=some [.int .i64 x,.int .i64 y,.int .i64 z]:=by rw [hGe];exact aG om
  refine Out.ret (tgA t) hG (Ev.call H.f66 H.o66 ⟨m1+m2,fun m hm=> ?b3⟩) (by rw [hGe];exact rX (kI (fV (gA.trans gF)) ch1) om (.inr om) _)
   ⟨S',t,rfl,ext,T1.wH fun j hj w=> ?T3,W1,⟨o,i,k,dd,hq,hon,hdf,hdd,.inr ⟨c1,e,by rw [he];rfl,mr⟩⟩,st⟩
  case T3=>
   have:j<h.next:=by rcases w with rfl|rfl|w;omega;omega;exact ltT.2.2 j w
   rw [hGe,aE _ _ _ _ om om]
  case b3=>
   have x1' :=x1 m om
   have x2' :=x2 m om
   simp only [AQ] at x1'
   rw [HX] at x2'
   rw [HX]
   exact SR (dI @a66.eq_1 (Eq.symm hAe) nA (Eq.symm hBe) iq tT ik bk x1' b9 c9 c9' z2 z3 @iV.eq_1 @iV.eq_2 (dI (Eq.symm hDe) nD tC bC k2 hie xe ve deq (Eq.symm hEe) d9 e9 tE bE e11 sF (wK f11 ly d1 ey ep ipe l8 ee x2' y8 (Eq.symm hGe) g8 @ldS)))
end Go.Ly
namespace Go.Ly
open Go Go.Am Go.Fs Go.Gn
variable {fns:Go.Am.F} {orc:Orc}
theorem Kl {tk:Tk} {xs:List AV} (hw:Ab 1 xs) {n:Nat} (hn:n≤xs.length):∃tk',tN false 1 (.sl tk xs) none (some (.int .i64 (n:Int))) none= .ok (.sl tk' (xs.take n)):=by
 have h3:mR 1 xs=true:=by
  cases xs with
  |nil=>rfl
  |cons x xs=>simp only [mR];rw [hw x (by simp)];rfl
 have e:ile (n:Int) ((xs.length:Nat):Int)=true:=by rw [jE];exact dT om
 refine ⟨Ea tk none xs.length n 0 xs.length, ?_⟩
 simp only [tN,PD,h3,Go.Am.bound,tP,aM,yH,e,uP,Bool.true_and,if_true,List.drop_zero]
theorem Ff {c:List Nat} (hc:0<c.length) (tk:Tk):∃tk',tN false 1 (.sl tk (ints c)) none (some (.int .i64 ((c.length:Int) -1))) none= .ok (.sl tk' (ints c.dropLast)):=by
 obtain ⟨tk',h⟩:=Kl (tk:=tk) (yV c) (n:=c.length -1) (by rw [mQ];omega)
 refine ⟨tk', ?_⟩
 rw [show ((c.length:Int) -1)=((c.length -1:Nat):Int) by omega,h,List.dropLast_eq_take]
 simp [ints,List.map_take]
theorem IF {Γ:Tb} {s:List UInt8}:∀(c:List Nat) (i:Nat) (acc:List Nat) (q:Nat),q∈A1 Γ s c i acc→q∈acc∨∃d i' k x,i≤q∧c[q -i]? =some d∧pN (aU (Γ.D d).pd) s=some (i',k)∧(aU (Γ.D d).pd)[i']? =some x∧(iR x=2∨iR x=3∨iR x=4)
 |[],i,acc,q,h=> .inl h
 |d::r,i,acc,q,h=>by
  simp only [A1] at h
  rcases IF r (i+1) _ q h with h|⟨d',i',k,x,h1,h2,h3⟩
  ·have here:∀i' k x,pN (aU (Γ.D d).pd) s=some (i',k)→(aU (Γ.D d).pd)[i']? =some x→(iR x=2∨iR x=3∨iR x=4)→q=i→q∈acc∨∃d' i' k x,i≤q∧(d::r)[q -i]? =some d' ∧pN (aU (Γ.D d').pd) s=some (i',k)∧(aU (Γ.D d').pd)[i']? =some x∧(iR x=2∨iR x=3∨iR x=4):=by
    rintro i' k x g1 g2 g3 rfl
    exact .inr ⟨d,i',k,x,Nat.le_refl _,by simp,g1,g2,g3⟩
   split at h
   ·exact .inl h
   ·rename_i i' k hf
    split at h
    ·exact .inl h
    ·rename_i x hx
     split at h
     ·rename_i c2
      exact here i' k x hf hx (.inl c2) (by simpa using h)
     ·split at h
      ·rename_i c3
       rcases List.mem_append.1 h with h|h
       ·exact .inl h
       ·exact here i' k x hf hx (.inr c3.1) (by simpa using h)
      ·exact .inl h
  ·refine .inr ⟨d',i',k,x,by omega, ?_,h3⟩
   rw [show q -i=(q -(i+1))+1 by omega,List.getElem?_cons_succ]
   exact h2
theorem Fk {Γ:Tb} {s:List UInt8} {c:List Nat} {q:Nat} (h:q∈pV Γ s c):∃d i' k x,c[q]? =some d∧pN (aU (Γ.D d).pd) s=some (i',k)∧(aU (Γ.D d).pd)[i']? =some x∧(iR x=2∨iR x=3∨iR x=4):=by
 rcases IF c 0 [] q h with h|⟨d,i',k,x,_,h⟩
 ·cases h
 ·exact ⟨d,i',k,x,by simpa using h⟩
theorem EE {D:DS} (k:D.Ok) {d:kV} (hd:d∈aU D.pd) (hk:iR d=2∨iR d=3∨iR d=4):(qP d).length=1∨(wM d).length=1:=by
 rcases (BS k hd).X1 om with h|h
 ·exact .inr h.2
 ·exact .inl h.2
theorem BG {Γ:Tb} {S:Nat→DY} (W:WF Γ S) {a:Int} {l p k pt r:Nat} (h:PlK Γ S a l p k) {ck uk:List Nat} (hk:(S k).ch=some (ck,uk)) (hr:ck[pt]? =some r):PlK Γ S a l pt r:=by
 obtain ⟨w,c,u,h1,h2,h3,h4⟩:=h
 obtain ⟨_,u',h5⟩:=W.part c.length w c u (Nat.le_refl _) h2 h3 p k h4
 rw [hk] at h5
 cases h5
 refine ⟨w,c,u,h1,h2,h3, ?_⟩
 rw [List.getElem?_take] at hr
 split at hr
 ·exact hr
 ·cases hr
def AhQ (Γ:Tb) (S:Nat→DY) (i:Nat) (v:AV) (h' :aD):Prop:=∃S' t,v=tgA t∧Ext S S' ∧TB Γ S' h' ∧WF Γ S' ∧D2 Γ S' i t∧B4 Γ S' (Γ.D i).ar t∧(t≠none→0≤(Γ.D i).ar)
theorem Q2 (H:Has fns orc) {Γ:Tb} (O:Γ.Ok) {N:Nat} (C:HF fns orc Γ N) {S:Nat→DY} {h:aD} (T:TB Γ S h) (W:WF Γ S) (hN:opn S Γ.n≤N) {i:Nat} (hi:i<Γ.n) {e:pO} (hp:BT (Γ.D i).pd=[e]):
  Out fns orc (pJ Γ) (.call 60 [.ptr Γ.tb 0,.ptr (Γ.loc i) 0] .plain h) h (AhQ Γ S i):=by
 have hO:=O.lt
 have ar:=O.ar i hi
 have ltT:=T.lt
 obtain ⟨hA,hAe⟩:∃x,x=h.push (.cells [.int .i64 0,.int .i64 0,.int .i64 0]):=⟨_,rfl⟩
 have gA:aP h hA:=by rw [hAe];exact gw2
 have nA:hA.next=h.next+1:=by rw [hAe];simp
 have a4:cont hA h.next=some [.int .i64 0,.int .i64 0,.int .i64 0]:=by rw [hAe];exact ctp
 have TA:=T.grow gA
 obtain ⟨vc,vu,bk,_⟩:=TA.d_ i hi
 obtain ⟨vp,k1,rvp⟩:=Ye (O.ok i hi) (S i).busy vc vu (S i).off (S i).cl
 have k8:=HU (O.ok i hi) (S i).busy vc vu (S i).off (S i).cl
 rw [hp] at rvp
 have lp:∀hp,nJ hp .sl vp= .ok 1:=fun hp=>by have:=rvp.len hp;simpa using this
 have ep:=jS rvp
 obtain ⟨ys,hys,hyl,hyg⟩:=jZ rvp
 obtain ⟨ce,hce,rve⟩:=hyg 0 (by simp)
 have ipe:pT 8 vp (.int .i64 0)= .ok (.ep ce 0):=kT (i:=0) hys hce (pW rve)
 have l8:bN (some 8) ce 0= .ok (.agg ce):=wJ (pW rve)
 have ee:=AR rve
 have o1:decide (((1:Nat):Int)=1)=true:=rfl
 by_cases c0:(Γ.D i).ar<0
 ·have d0:=dT c0
  simp only [List.map_cons,List.map_nil,List.getElem_cons_zero] at rve
  generalize hbx:bx (Γ.D i) (S i).busy vc vu (S i).off (S i).cl=cc at bk k1 k8
  cases rve with| @exp k op n man ex t al dl va vd r1 r2=>
  have j0:nth [AV.int .i64 k,.int .i64 op,.int .i64 n,.int .i64 man,.int .i64 ex,.str t,va,vd] 0=some (.int .i64 k):=rfl
  have YR:k=8∧t=HT→Out fns orc (pJ Γ) (.call 60 [.ptr Γ.tb 0,.ptr (Γ.loc i) 0] .plain h) h (AhQ Γ S i):=by
   rintro ⟨c8,co⟩
   have d8:=dT c8
   have be:jI t [111,98,106,101,99,116]=true:=by rw [jV];simpa [HT] using co
   obtain ⟨m1,x1⟩:=uZ H 11 hA
   obtain ⟨hG,hGe⟩:∃x,x=hA.set h.next (.cells [.int .i64 (-1),.int .i64 0,.int .i64 0]):=⟨_,rfl⟩
   have g4:cont hG h.next=some [.int .i64 (-1),.int .i64 0,.int .i64 0]:=by rw [hGe];exact aG om
   refine Out.ret (tgA none) hG (Ev.call H.f60 H.o60 ⟨m1,fun m hm=> ?b1⟩) (by rw [hGe];exact rX (fV gA) om (.inr om) _)
    ⟨S,none,rfl,.refl _,TA.wH fun j hj w=> ?T1,W,.inl ⟨_,hp,.inl ⟨c0,c8,co,rfl⟩⟩,(by intro v lv pt w;cases w),fun w=>absurd rfl w⟩
   case T1=>
    have:j<h.next:=by rcases w with rfl|rfl|w;omega;omega;exact ltT.2.2 j w
    rw [hGe,aE _ _ _ _ om om]
   case b1=>
    have x1' :=x1 m hm
    exact SX (dI @a60.eq_1 (Eq.symm hAe) bk k1 k8 lp o1 d0 ipe d8 be x1' a4 (Eq.symm hGe) g4 @tgA.eq_1 @tgA.eq_2)
  have bad:(¬k=8)∨(k=8∧¬t=HT)→Out fns orc (pJ Γ) (.call 60 [.ptr Γ.tb 0,.ptr (Γ.loc i) 0] .plain h) h (AhQ Γ S i):=by
   intro cc
   obtain ⟨m1,x1⟩:=vB H 11 hA
   refine Out.pan 11 hA om (Ev.call H.f60 H.o60 ⟨m1,fun m hm=> ?b2⟩) (fV gA)
   case b2=>
    have x1' :=x1 m hm
    rcases cc with c8|⟨c8,co⟩
    ·have d8:=dF c8
     exact SX (sC @a60.eq_1 (Eq.symm hAe) bk k1 k8 lp o1 d0 ipe d8 x1')
    ·have d8:=dT c8
     have be:jI t [111,98,106,101,99,116]=false:=by rw [jV];simpa [HT] using co
     exact SX (qC @a60.eq_1 (Eq.symm hAe) bk k1 k8 lp o1 d0 ipe d8 be x1')
  by_cases c8:k=8
  ·by_cases co:t=HT
   ·exact YR ⟨c8,co⟩
   ·exact bad (.inr ⟨c8,co⟩)
  ·exact bad (.inl c8)
 ·have d0:=dF c0
  rcases GH H O C TA W hN (a:=(Γ.D i).ar) ⟨by omega,by omega⟩ rve with ⟨v,h1,⟨m2,x2⟩,ch1,S',t,rfl,ext,T1,W1,mr,st⟩|⟨e',h1,hpe,⟨m2,x2⟩,ch1⟩
  case inr=>
   refine Out.pan e' h1 hpe (Ev.call H.f60 H.o60 ⟨m2,fun m hm=> ?b3⟩) (kI (fV gA) ch1)
   case b3=>
    have x2' :=x2 m hm
    exact SR (zZ @a60.eq_1 (Eq.symm hAe) bk k1 k8 lp o1 d0 ipe l8 ep ee x2' @ldS)
  have nn:=ch1.next
  have y4:cont h1 h.next=some [.int .i64 0,.int .i64 0,.int .i64 0]:=(qJ ch1 om (fun w=>by have:=ltT.2.2 _ w;omega)).trans a4
  obtain ⟨x,y,z,HX⟩:∃x y z:Int,tgA t= .agg [.int .i64 x,.int .i64 y,.int .i64 z]:=by
   cases t with
   |none=>exact ⟨_,_,_,rfl⟩
   |some p=>obtain ⟨p1,p2,p3⟩:=p;exact ⟨_,_,_,rfl⟩
  obtain ⟨hG,hGe⟩:∃w,w=h1.set h.next (.cells [.int .i64 x,.int .i64 y,.int .i64 z]):=⟨_,rfl⟩
  have g4:cont hG h.next=some [.int .i64 x,.int .i64 y,.int .i64 z]:=by rw [hGe];exact aG om
  refine Out.ret (tgA t) hG (Ev.call H.f60 H.o60 ⟨m2,fun m hm=> ?b4⟩) (by rw [hGe];exact rX (kI (fV gA) ch1) om (.inr om) _)
   ⟨S',t,rfl,ext,T1.wH fun j hj w=> ?T3,W1,.inl ⟨e,hp,.inr ⟨by omega,mr⟩⟩,st,fun _=>by omega⟩
  case T3=>
   have:j<h.next:=by rcases w with rfl|rfl|w;omega;omega;exact ltT.2.2 j w
   rw [hGe,aE _ _ _ _ om om]
  case b4=>
   have x2' :=x2 m hm
   rw [HX] at x2'
   rw [HX]
   exact SR (dI @a60.eq_1 (Eq.symm hAe) bk k1 k8 lp o1 d0 ipe l8 ep ee x2' y4 (Eq.symm hGe) g4 @ldS)
end Go.Ly
namespace Go.Ly
open Go Go.Am Go.Fs Go.Gn
variable {fns:Go.Am.F} {orc:Orc}
theorem Bi (t:Tg):∃x y z:Int,tgA t= .agg [.int .i64 x,.int .i64 y,.int .i64 z]:=by
 cases t with
 |none=>exact ⟨_,_,_,rfl⟩
 |some p=>obtain ⟨p1,p2,p3⟩:=p;exact ⟨_,_,_,rfl⟩
theorem xY {Γ:Tb} {s:List UInt8}:∀(c:List Nat) (i:Nat) (acc:List Nat),(A1 Γ s c i acc).length≤acc.length+c.length+1
 |[],i,acc=>by simp only [A1];omega
 |d::r,i,acc=>by
  simp only [A1]
  split
  ·have:=xY (Γ:=Γ) (s:=s) r (i+1) acc;simp at*;omega
  ·split
   ·have:=xY (Γ:=Γ) (s:=s) r (i+1) acc;simp at*;omega
   ·split
    ·have:=xY (Γ:=Γ) (s:=s) r (i+1) [i];simp at*;omega
    ·split
     ·have:=xY (Γ:=Γ) (s:=s) r (i+1) (acc++[i]);simp at*;omega
     ·have:=xY (Γ:=Γ) (s:=s) r (i+1) acc;simp at*;omega
theorem Q3 (H:Has fns orc) {Γ:Tb} (O:Γ.Ok) {N:Nat} (C:HF fns orc Γ N) {S:Nat→DY} {h:aD} (T:TB Γ S h) (W:WF Γ S) (hN:opn S Γ.n≤N) {i:Nat} (hi:i<Γ.n) (hp:(BT (Γ.D i).pd).length≠1):
  Out fns orc (pJ Γ) (.call 60 [.ptr Γ.tb 0,.ptr (Γ.loc i) 0] .plain h) h (AhQ Γ S i):=by
 have hO:=O.lt
 have ar:=O.ar i hi
 have ltT:=T.lt
 obtain ⟨hA,hAe⟩:∃x,x=h.push (.cells [.int .i64 0,.int .i64 0,.int .i64 0]):=⟨_,rfl⟩
 have gA:aP h hA:=by rw [hAe];exact gw2
 have nA:hA.next=h.next+1:=by rw [hAe];simp
 have a4:cont hA h.next=some [.int .i64 0,.int .i64 0,.int .i64 0]:=by rw [hAe];exact ctp
 have TA:=T.grow gA
 obtain ⟨vc,vu,bk,_⟩:=TA.d_ i hi
 obtain ⟨vp,k1,rvp⟩:=Ye (O.ok i hi) (S i).busy vc vu (S i).off (S i).cl
 have k8:=HU (O.ok i hi) (S i).busy vc vu (S i).off (S i).cl
 have k9:=nbx9 (O.ok i hi) (S i).busy vc vu (S i).off (S i).cl
 obtain ⟨vn,k10,rn⟩:=V2 (O.ok i hi) (S i).busy vc vu (S i).off (S i).cl
 have lp:∀hp,nJ hp .sl vp= .ok (BT (Γ.D i).pd).length:=fun hp=>by have:=rvp.len hp;simpa using this
 have o1:decide ((((BT (Γ.D i).pd).length:Nat):Int)=1)=false:=dF om
 by_cases ck:iR (Γ.D i).ow=3∨iR (Γ.D i).ow=4
 case neg=>
  have d3:=dF (fun q=>ck (.inl q))
  have d4:=dF (fun q=>ck (.inr q))
  obtain ⟨hG,hGe⟩:∃x,x=hA.set h.next (.cells [.int .i64 (-1),.int .i64 0,.int .i64 0]):=⟨_,rfl⟩
  have g4:cont hG h.next=some [.int .i64 (-1),.int .i64 0,.int .i64 0]:=by rw [hGe];exact aG om
  refine Out.ret (tgA none) hG (Ev.call H.f60 H.o60 ⟨0,fun m hm=> ?b1⟩) (by rw [hGe];exact rX (fV gA) om (.inr om) _)
   ⟨S,none,rfl,.refl _,TA.wH fun j hj w=> ?T1,W,.inr (.inl ⟨hp,ck,rfl⟩),(by intro v lv pt w;cases w),fun w=>absurd rfl w⟩
  case T1=>
   have:j<h.next:=by rcases w with rfl|rfl|w;omega;omega;exact ltT.2.2 j w
   rw [hGe,aE _ _ _ _ om om]
  case b1=>
   exact SX (zZ @a60.eq_1 (Eq.symm hAe) bk k1 lp o1 k9 d3 d4 a4 (Eq.symm hGe) g4 @tgA.eq_1 @tgA.eq_2)
 have eor:(decide (iR (Γ.D i).ow=3)=true∧∃b,decide (iR (Γ.D i).ow=4)=b)∨(decide (iR (Γ.D i).ow=3)=false∧decide (iR (Γ.D i).ow=4)=true):=by
  by_cases q:iR (Γ.D i).ow=3
  ·exact .inl ⟨dT q,_,rfl⟩
  ·exact .inr ⟨dF q,dT (ck.resolve_left q)⟩
 have YO:0≤(Γ.D i).ar:=by
  rcases (O.ok i hi).ow with q|q
  ·rw [q] at ck;simp [Av,iR] at ck
  ·exact q
 obtain ⟨a,ha⟩:∃a:Nat,(Γ.D i).ar=(a:Int):=⟨(Γ.D i).ar.toNat,by omega⟩
 rw [ha] at k8
 have han:a<Γ.n:=om
 have lnm:∀hp,nJ hp .sl vn= .ok (fR (Γ.D i).ow).length:=fun hp=>by rw [bO rn hp,List.length_map]
 by_cases cn:(fR (Γ.D i).ow).length=1
 case neg=>
  have dn:decide ((((fR (Γ.D i).ow).length:Nat):Int)=1)=false:=dF om
  obtain ⟨m1,x1⟩:=vB H 11 hA
  refine Out.pan 11 hA om (Ev.call H.f60 H.o60 ⟨m1,fun m hm=> ?b2⟩) (fV gA)
  case b2=>
   have x1' :=x1 m hm
   rcases eor with ⟨d3,b,d4⟩|⟨d3,d4⟩<;>exact SX (wK @a60.eq_1 (Eq.symm hAe) bk k1 lp o1 k9 d3 d4 k10 lnm dn x1')
 obtain ⟨s,hs⟩:=List.length_eq_one_iff.1 cn
 have dn:decide ((((fR (Γ.D i).ow).length:Nat):Int)=1)=true:=dT om
 have in0:pT 1 vn (.int .i64 0)= .ok (.ep [.str s] 0):=oX (i:=0) rn (by rw [hs];rfl) rfl
 have vne:=vC rn
 obtain ⟨m1,x1⟩:=uZ H 11 hA
 rcases C S hA a TA W hN han with ⟨v,h1,⟨m2,x2⟩,ch1,rfl,S1,Tt,T1,W1,hch⟩|⟨e',h1,hpe,⟨m2,x2⟩,ch1⟩
 case inr=>
  refine Out.pan e' h1 hpe (Ev.call H.f60 H.o60 ⟨m1+m2,fun m hm=> ?b3⟩) (kI (fV gA) ch1)
  case b3=>
   have x1' :=x1 m om
   have x2' :=x2 m om
   rcases eor with ⟨d3,b,d4⟩|⟨d3,d4⟩<;>exact SX (xJ @a60.eq_1 (Eq.symm hAe) bk k1 k8 lp o1 k9 d3 d4 k10 lnm dn x1' x2')
 have CA:=kI (fV gA:Chg (pJ Γ) h hA) ch1
 obtain ⟨⟨c,u⟩,hcu⟩:=Option.ne_none_iff_exists'.1 hch
 obtain ⟨cw,tkw,vuw,cwA,w15,w16,wu,_⟩:=uQ O T1 han hcu
 have F1:=W1 a han c u hcu
 obtain ⟨c0,hc0,hnc0⟩:=W1.last han hcu
 have hcl:0<c.length:=by rw [hc0];simp
 have hcn:∀d∈c,d<Γ.n:=fun d hd=>by
  obtain ⟨q,hq⟩:=tX hd
  exact (W1.part c.length a c u (Nat.le_refl _) han hcu q d hq).1
 obtain ⟨tk',dl⟩:=Ff hcl tkw
 have w1:IntKind.wrap .i64 ((c.length:Int) -1)=(c.length:Int) -1:=pE (by have:=F1.max;omega) (by have:=F1.max;omega)
 have lc:∀hp,nJ hp .sl (.sl tkw (ints c))= .ok c.length:=fun hp=>by rw [iI,mQ]
 have ec:=vH tkw c
 obtain ⟨vc1,vu1,bk1,_⟩:=T1.d_ i hi
 obtain ⟨vn1,Sy,rn1⟩:=V2 (O.ok i hi) (S1 i).busy vc1 vu1 (S1 i).off (S1 i).cl
 have k8' :=HU (O.ok i hi) (S1 i).busy vc1 vu1 (S1 i).off (S1 i).cl
 rw [ha] at k8'
 have in1:pT 1 vn1 (.int .i64 0)= .ok (.ep [.str s] 0):=oX (i:=0) rn1 (by rw [hs];rfl) rfl
 have Re:=vC rn1
 obtain ⟨h2,vL,g2,⟨m3,x3⟩,rl⟩:=CE H O (S:=S1) s (.sl tk' (ints c.dropLast)) (fun d hd=>hcn d (List.dropLast_subset c hd)) (by have:=F1.max;simp;omega) T1
 have T2:=T1.grow g2
 have ll:∀hp,nJ hp .sl vL= .ok (pV Γ s c.dropLast).length:=fun hp=>by rw [bO rl hp,mQ]
 have nn1:=ch1.next
 have nn2:=g2.next
 by_cases cl:pV Γ s c.dropLast=[]
 ·have dl0:decide ((0:Int)<(((pV Γ s c.dropLast).length:Nat):Int))=false:=dF (by rw [cl];simp)
  obtain ⟨m4,x4⟩:=vB H 11 h2
  refine Out.pan 11 h2 om (Ev.call H.f60 H.o60 ⟨m1+m2+m3+m4,fun m hm=> ?b4⟩) (sR CA g2)
  case b4=>
   have x1' :=x1 m om
   have x2' :=x2 m om
   have x3' :=x3 m om
   have x4' :=x4 m om
   rcases eor with ⟨d3,b,d4⟩|⟨d3,d4⟩<;>exact SX (dI @a60.eq_1 (Eq.symm hAe) bk k1 k8 lp o1 k9 d3 d4 k10 lnm dn x1' x2' cwA (wK w15 lc w1 dl bk1 Sy in1 Re ec x3' ll dl0 x4'))
 have pl:0<(pV Γ s c.dropLast).length:=List.length_pos_iff.2 cl
 have dl0:decide ((0:Int)<(((pV Γ s c.dropLast).length:Nat):Int))=true:=dT om
 obtain ⟨m4,x4⟩:=uZ H 11 h2
 obtain ⟨q,hq⟩:∃q,(pV Γ s c.dropLast).getLast? =some q:=⟨_,List.getLast?_eq_some_getLast cl⟩
 have hq' :(pV Γ s c.dropLast)[(pV Γ s c.dropLast).length -1]? =some q:=by rw [←List.getLast?_eq_getElem?];exact hq
 have hqm:q∈pV Γ s c.dropLast:=List.mem_of_getElem? hq'
 obtain ⟨o,i',kk,x,g1,gf,gx,gk⟩:=Fk hqm
 have hco:c[q]? =some o:=by
  rw [List.getElem?_dropLast] at g1
  split at g1
  ·exact g1
  ·cases g1
 have hon:=hcn o (List.mem_of_getElem? hco)
 have llb:(pV Γ s c.dropLast).length<10000000:=by
  have:=xY (Γ:=Γ) (s:=s) c.dropLast 0 []
  have:=F1.max
  simp only [pV]
  simp at*
  omega
 have w2:IntKind.wrap .i64 ((((pV Γ s c.dropLast).length:Nat):Int) -1)=(((pV Γ s c.dropLast).length -1:Nat):Int):=by rw [pE om om];omega
 have iq:=rN rl hq'
 rcases Ma H O C T2 W1 (by have:=zG Tt Γ.n;omega) han hcu (.sl tkw (ints c)) hco gf gx (EE (O.ok o hon) (List.mem_of_getElem? gx) gk) with ⟨v,h3,⟨m5,x5⟩,ch3,S3,t0,rfl,Fc,T3,W3,br,st⟩|⟨e',h3,hpe,⟨m5,x5⟩,ch3⟩
 case inr=>
  refine Out.pan e' h3 hpe (Ev.call H.f60 H.o60 ⟨m1+m2+m3+m4+m5,fun m hm=> ?b5⟩) (kI (sR CA g2) ch3)
  case b5=>
   have x1' :=x1 m om
   have x2' :=x2 m om
   have x3' :=x3 m om
   have x4' :=x4 m om
   have x5' :=x5 m om
   have bk2:=(aF g2 (aO bk1)).trans bk1
   rcases eor with ⟨d3,b,d4⟩|⟨d3,d4⟩<;>exact SX (dI @a60.eq_1 (Eq.symm hAe) bk k1 k8 lp o1 k9 d3 d4 k10 lnm dn x1' x2' cwA (dI w15 lc w1 dl bk1 Sy in1 Re ec x3' ll dl0 x4' w2 iq bk2 x5'))
 have nn3:=ch3.next
 have C3:=kI (sR CA g2) ch3
 have y4:cont h3 h.next=some [.int .i64 0,.int .i64 0,.int .i64 0]:=(qJ ch3 om (fun w=>by have:=ltT.2.2 _ w;omega)).trans ((aF g2 om).trans ((qJ ch1 om (fun w=>by have:=ltT.2.2 _ w;omega)).trans a4))
 have cu3:=(Tt.trans Fc).le
 have opn3:opn S3 Γ.n≤N:=by have:=zG Tt Γ.n;have:=zG Fc Γ.n;omega
 have ahR:∀S' t,Ext S3 S' →((t0=none∧t=none)∨(∃v pt,t0=some (v,0,pt)∧t=t0)∨∃v lv pt lv' p,t0=some (v,lv,pt)∧0<lv∧vY Γ S' (Γ.D i).ar lv 0 q lv' p∧t=some (v,lv',pt))→D2 Γ S' i t:=fun S' t ex hh=>
  .inr (.inr ⟨hp,ck,s,a,c,u,q,t0,hs,ha,(Fc.trans ex).le.ch hcu,hq,br.le ex.le,hh⟩)
 have plq:PlK Γ S3 (Γ.D i).ar 0 q o:=⟨a,c,u,ha,han,Fc.le.ch hcu,hco⟩
 by_cases cz:∃v lv pt,t0=some (v,lv,pt)∧0<lv
 ·obtain ⟨v,lv,pt,rfl,hlv⟩:=cz
  obtain ⟨hvn,r,hvr,w,cw2,uw2,z1,z2,z3,z4⟩:=st v lv pt rfl
  have hlvb:=BD O lv (a:=(o:Int)) ⟨by omega,by omega⟩ om
  obtain ⟨hB,hBe⟩:∃x,x=(h3.push (.cells [.int .i64 0,.int .i64 0,.int .i64 0])).set h3.next (.cells [.int .i64 (v:Nat),.int .i64 (lv:Nat),.int .i64 (pt:Nat)]):=⟨_,rfl⟩
  have gB:aP h3 hB:=by rw [hBe];exact gw2
  have nB:hB.next=h3.next+1:=by rw [hBe];simp
  have b8:cont hB h3.next=some [.int .i64 (v:Nat),.int .i64 (lv:Nat),.int .i64 (pt:Nat)]:=by rw [hBe];exact aG (by simp)
  have b4:=(aF gB om).trans y4
  have TB' :=T3.grow gB
  obtain ⟨vc3,vu3,bk3,_⟩:=TB'.d_ i hi
  have k83:=HU (O.ok i hi) (S3 i).busy vc3 vu3 (S3 i).off (S3 i).cl
  have dv:decide (0≤((v:Nat):Int))=true:=dT om
  have dlv:decide ((0:Int)<((lv:Nat):Int))=true:=dT om
  rcases DV H O C TB' W3 opn3 (a:=(Γ.D i).ar) ⟨by omega,by omega⟩ (n:=lv) om plq with ⟨_,h5,⟨m6,x6⟩,ch5,S5,lv',p',k',rfl,Xn,T5,W5,cl5,pk,uk⟩|⟨e',h5,hpe,⟨m6,x6⟩,ch5⟩
  case inr=>
   refine Out.pan e' h5 hpe (Ev.call H.f60 H.o60 ⟨m1+m2+m3+m4+m5+m6,fun m hm=> ?b6⟩) (kI (sR C3 gB) ch5)
   case b6=>
    have x1' :=x1 m om
    have x2' :=x2 m om
    have x3' :=x3 m om
    have x4' :=x4 m om
    have x5' :=x5 m om
    have x6' :=x6 m om
    simp only [Int.ofNat_zero] at x6'
    have bk2:=(aF g2 (aO bk1)).trans bk1
    simp only [tgA] at x5'
    rcases eor with ⟨d3,b,d4⟩|⟨d3,d4⟩<;>exact SX (dI @a60.eq_1 (Eq.symm hAe) bk k1 k8 lp o1 k9 d3 d4 k10 lnm dn x1' x2' cwA (dI w15 lc w1 dl bk1 Sy in1 Re ec x3' ll dl0 x4' w2 iq bk2 (cj8 x5' (Eq.symm hBe) b8 bk3 k83 dv dlv x6')))
  have nn5:=ch5.next
  have C5:=kI (sR C3 gB) ch5
  have f8:cont h5 h3.next=some [.int .i64 (v:Nat),.int .i64 (lv:Nat),.int .i64 (pt:Nat)]:=(qJ ch5 om (fun w=>by have:=ltT.2.2 _ w;omega)).trans b8
  have f4:cont h5 h.next=some [.int .i64 0,.int .i64 0,.int .i64 0]:=(qJ ch5 om (fun w=>by have:=ltT.2.2 _ w;omega)).trans b4
  obtain ⟨h6,h6e⟩:∃x,x=h5.set h3.next (.cells [.int .i64 (v:Nat),.int .i64 (lv' :Nat),.int .i64 (pt:Nat)]):=⟨_,rfl⟩
  have n6:h6.next=h5.next:=by rw [h6e];simp
  have x8:cont h6 h3.next=some [.int .i64 (v:Nat),.int .i64 (lv' :Nat),.int .i64 (pt:Nat)]:=by rw [h6e];exact aG om
  have x44:cont h6 h.next=some [.int .i64 0,.int .i64 0,.int .i64 0]:=by rw [h6e];exact (aK om om).trans f4
  obtain ⟨h7,h7e⟩:∃x,x=h6.set h.next (.cells [.int .i64 (v:Nat),.int .i64 (lv' :Nat),.int .i64 (pt:Nat)]):=⟨_,rfl⟩
  have z4' :cont h7 h.next=some [.int .i64 (v:Nat),.int .i64 (lv' :Nat),.int .i64 (pt:Nat)]:=by rw [h7e];exact aG om
  have hkw:k' =w:=om
  subst hkw
  refine Out.ret (tgA (some (v,lv',pt))) h7 (Ev.call H.f60 H.o60 ⟨m1+m2+m3+m4+m5+m6,fun m hm=> ?b7⟩) (by rw [h7e,h6e];exact rX (rX C5 om (.inr om) _) (by simp;omega) (.inr om) _)
   ⟨S5,some (v,lv',pt),rfl,(Tt.trans Fc).trans Xn,T5.wH fun j hj w=> ?T7,W5,ahR S5 _ Xn (.inr (.inr ⟨v,lv,pt,lv',p',rfl,hlv,cl5,rfl⟩)), ?st7,fun _=>YO⟩
  case T7=>
   have:j<h.next:=by rcases w with rfl|rfl|w;omega;omega;exact ltT.2.2 j w
   rw [h7e,aE _ _ _ _ om om,h6e,aE _ _ _ _ om om]
  case st7=>
   rintro v1 lv1 pt1 w1
   cases w1
   exact ⟨hvn,r,hvr,BG W5 pk (Xn.le.ch z3) z4⟩
  case b7=>
   have x1' :=x1 m om
   have x2' :=x2 m om
   have x3' :=x3 m om
   have x4' :=x4 m om
   have x5' :=x5 m om
   have x6' :=x6 m om
   simp only [Int.ofNat_zero] at x6'
   have bk2:=(aF g2 (aO bk1)).trans bk1
   simp only [tgA] at x5'
   rcases eor with ⟨d3,b,d4⟩|⟨d3,d4⟩<;>exact SX (dI @a60.eq_1 (Eq.symm hAe) bk k1 k8 lp o1 k9 d3 d4 k10 lnm dn x1' x2' cwA (dI w15 lc w1 dl bk1 Sy in1 Re ec x3' ll dl0 x4' w2 iq bk2 (Bd x5' (Eq.symm hBe) b8 bk3 k83 dv dlv x6' f8 (Eq.symm h6e) x8 x44 (Eq.symm h7e) z4' @tgA.eq_1 @tgA.eq_2)))
 ·obtain ⟨x,y,z,HX⟩:=Bi t0
  obtain ⟨hB,hBe⟩:∃w,w=(h3.push (.cells [.int .i64 0,.int .i64 0,.int .i64 0])).set h3.next (.cells [.int .i64 x,.int .i64 y,.int .i64 z]):=⟨_,rfl⟩
  have gB:aP h3 hB:=by rw [hBe];exact gw2
  have nB:hB.next=h3.next+1:=by rw [hBe];simp
  have b8:cont hB h3.next=some [.int .i64 x,.int .i64 y,.int .i64 z]:=by rw [hBe];exact aG (by simp)
  have b4:=(aF gB om).trans y4
  obtain ⟨h7,h7e⟩:∃w,w=hB.set h.next (.cells [.int .i64 x,.int .i64 y,.int .i64 z]):=⟨_,rfl⟩
  have z4' :cont h7 h.next=some [.int .i64 x,.int .i64 y,.int .i64 z]:=by rw [h7e];exact aG om
  have cond:(decide (0≤x)=false∧∃b,decide (0<y)=b)∨(decide (0≤x)=true∧decide (0<y)=false):=by
   cases t0 with
   |none=>cases HX;exact .inl ⟨rfl,_,rfl⟩
   |some p=>
    obtain ⟨v,lv,pt⟩:=p
    cases HX
    exact .inr ⟨dT om,dF (fun w=>cz ⟨v,lv,pt,rfl,by omega⟩)⟩
  refine Out.ret (tgA t0) h7 (Ev.call H.f60 H.o60 ⟨m1+m2+m3+m4+m5,fun m hm=> ?b8⟩) (by rw [h7e];exact rX (sR C3 gB) om (.inr om) _)
   ⟨S3,t0,rfl,Tt.trans Fc,(T3.grow gB).wH fun j hj w=> ?T8,W3,ahR S3 _ (.refl _) ?hh, ?st8,fun _=>YO⟩
  case T8=>
   have:j<h.next:=by rcases w with rfl|rfl|w;omega;omega;exact ltT.2.2 j w
   rw [h7e,aE _ _ _ _ om om]
  case hh=>
   cases t0 with
   |none=>exact .inl ⟨rfl,rfl⟩
   |some p=>
    obtain ⟨v,lv,pt⟩:=p
    obtain rfl:lv=0:=Nat.eq_zero_of_not_pos fun w=>cz ⟨v,lv,pt,rfl,w⟩
    exact .inr (.inl ⟨v,pt,rfl,rfl⟩)
  case st8=>
   rintro v lv pt rfl
   obtain rfl:lv=0:=Nat.eq_zero_of_not_pos fun w=>cz ⟨v,lv,pt,rfl,w⟩
   obtain ⟨hvn,r,hvr,w,cw2,uw2,z1,z2,z3,z4⟩:=st v 0 pt rfl
   have:w=o:=by simp only [upF] at z1;omega
   subst this
   exact ⟨hvn,r,hvr,BG W3 plq z3 z4⟩
  case b8=>
   have x1' :=x1 m om
   have x2' :=x2 m om
   have x3' :=x3 m om
   have x4' :=x4 m om
   have x5' :=x5 m om
   have bk2:=(aF g2 (aO bk1)).trans bk1
   rw [HX] at x5'
   rw [HX]
   rcases cond with ⟨dv,bb,dlv⟩|⟨dv,dlv⟩<;>rcases eor with ⟨d3,b,d4⟩|⟨d3,d4⟩<;>exact SX (dI @a60.eq_1 (Eq.symm hAe) bk k1 k8 lp o1 k9 d3 d4 k10 lnm dn x1' x2' cwA (dI w15 lc w1 dl bk1 Sy in1 Re ec x3' ll dl0 x4' w2 iq bk2 (cj8 x5' (Eq.symm hBe) b8 dv dlv b4 (Eq.symm h7e) z4')))
theorem Uc (H:Has fns orc) {Γ:Tb} (O:Γ.Ok) {N:Nat} (C:HF fns orc Γ N) {S:Nat→DY} {h:aD} (T:TB Γ S h) (W:WF Γ S) (hN:opn S Γ.n≤N) {i:Nat} (hi:i<Γ.n):
  Out fns orc (pJ Γ) (.call 60 [.ptr Γ.tb 0,.ptr (Γ.loc i) 0] .plain h) h (AhQ Γ S i):=by
 by_cases c:(BT (Γ.D i).pd).length=1
 ·obtain ⟨e,he⟩:=List.length_eq_one_iff.1 c
  exact Q2 H O C T W hN hi he
 ·exact Q3 H O C T W hN hi c
end Go.Ly
namespace Go.Ly
open Go Go.Am Go.Fs Go.Gn
variable {fns:Go.Am.F} {orc:Orc}
theorem FG (H:Has fns orc) {k:Int} {vn vs vp vy:AV} (h:aD):
  ∃h',aP h h' ∧∀m,2≤m→eval fns orc m (.call 68 [.agg [.int .i64 k,vn,vs,vp,vy]] .plain h)= .ok (.call (.ret (.bool (xW k))) .plain h'):=by
 refine ⟨h.push (.cells [.int .i64 k,vn,vs,vp,vy]),.push _ _,fW (n:=0) H.f68 H.o68 fun m _=> ?b⟩
 case b=>
  by_cases c5:k=5
  ·have d5:=dT c5
   have e:xW k=true:=dT (.inl c5)
   exact SX (cj3 @a68.eq_1 d5 e)
  ·by_cases c6:k=6
   ·have d5:=dF c5
    have d6:=dT c6
    have e:xW k=true:=dT (.inr (.inl c6))
    exact SX (cj4 @a68.eq_1 d5 d6 e)
   ·by_cases c7:k=7
    ·have d5:=dF c5
     have d6:=dF c6
     have d7:=dT c7
     have e:xW k=true:=dT (.inr (.inr (.inl c7)))
     exact SX (cj5 @a68.eq_1 d5 d6 d7 e)
    ·by_cases c8:k=8
     ·have d5:=dF c5
      have d6:=dF c6
      have d7:=dF c7
      have d8:=dT c8
      have e:xW k=true:=dT (.inr (.inr (.inr (.inl c8))))
      exact SX (cj6 @a68.eq_1 d5 d6 d7 d8 e)
     ·have d5:=dF c5
      have d6:=dF c6
      have d7:=dF c7
      have d8:=dF c8
      by_cases c9:k=9
      ·have d9:=dT c9
       have e:xW k=true:=dT (.inr (.inr (.inr (.inr c9))))
       exact SX (cj7 @a68.eq_1 d5 d6 d7 d8 d9 e)
      ·have d9:=dF c9
       have e:xW k=false:=dF om
       exact SX (cj7 @a68.eq_1 d5 d6 d7 d8 d9 e)
theorem FK (d:kV) (l:List kV):lB (d::l)=(if xW (iR d) then (fR d).length else 0)+lB l:=rfl
theorem LS {l:List kV} {i:Nat} (hi:i<l.length):lB (l.drop i)=(if xW (iR l[i]) then (fR l[i]).length else 0)+lB (l.drop (i+1)):=by rw [List.drop_eq_getElem_cons hi,FK]
theorem JI (H:Has fns orc) {l:List kV} {v:AV} {xs:List AV} (hx:iP v xs) (hxl:xs.length=l.length) (hg:∀i (hi:i<l.length),∃c,xs[i]? =some (.agg c)∧RV (.decl l[i]) (.agg c)) (hn:l.length<10000000) (hc:lB l<10000000):
  ∀(k i z:Nat) (h:aD),i+k=l.length→z+lB (l.drop i)=lB l→∃h' ts,aP h h' ∧Ev fns orc (.code 62 none (.loop p62x110100) ⟨[(3,.int .i64 (z:Nat)),(6,v),(7,.int .i64 (l.length:Nat)),(8,.int .i64 (i:Nat))],[],.plain,h⟩) (.code (.exit 0) ⟨ts,[],.plain,h'⟩)∧cH ts 3= .int .i64 (lB l:Nat):=by
 intro k
 induction k with
 |zero=>
  intro i z h hi hz
  have e:i=l.length:=om
  rw [e,List.drop_length] at hz
  have hz:z=lB l:=by simpa [lB] using hz
  have d:decide ((i:Int)<((l.length:Nat):Int))=false:=dF om
  refine ⟨h, ?ts,.refl _,Ev.code ⟨0,fun m _=> ?b0⟩, ?t⟩
  case b0=>
   exact SX (cj2 d @aI)
  case t=>rw [←hz];rfl
 |succ k ih=>
  intro i z h hi hz
  have hlt:i<l.length:=om
  have d:decide ((i:Int)<((l.length:Nat):Int))=true:=dT om
  obtain ⟨c,hcc,rv⟩:=hg i hlt
  rw [LS hlt] at hz
  have hcl:=pG rv
  have hck:=uG rv
  have hia:=kT hx hcc hcl
  generalize l[i]=dd at rv hz
  cases rv with| @decl kk n s p ds vn vs vp vy r0 r1 r2 r3=>
  simp only [iR,fR] at hz
  have q:∀hp,nJ hp .sl vn= .ok n.length:=fun hp=>by rw [bO r0 hp,List.length_map]
  have kn:=qL r0
  have ks:=aS r1
  have kp:=aS r2
  have ky:=aS r3
  obtain ⟨hA,hAe⟩:∃x,x=(h.push (.cells [.int .i64 0,.aC,.aC,.aC,.aC])).set h.next (.cells [.int .i64 kk,vn,vs,vp,vy]):=⟨_,rfl⟩
  have gA:aP h hA:=by rw [hAe];exact gw2
  have cA:cont hA h.next=some [.int .i64 kk,vn,vs,vp,vy]:=by rw [hAe];exact aG (by simp)
  obtain ⟨hB,gB,e1⟩:=FG (k:=kk) (vn:=vn) (vs:=vs) (vp:=vp) (vy:=vy) H hA
  have cB:=(aF gB (aO cA)).trans cA
  have w:IntKind.wrap .i64 ((i:Int)+1)=((i+1:Nat):Int):=sH hlt om
  cases ck:xW kk with
  |true=>
   rw [ck] at e1
   simp only [ck,if_true] at hz
   have w2:IntKind.wrap .i64 ((z:Int)+(n.length:Int))=((z+n.length:Nat):Int):=by rw [pE om om];rfl
   obtain ⟨h',ts,g,⟨n3,e3⟩,t3⟩:=ih (i+1) (z+n.length) hB om om
   refine ⟨h',ts,(gA.trans gB).trans g,Ev.code ⟨n3+2,fun m hm=> ?b1⟩,t3⟩
   case b1=>
    have e1' :=e1 m om
    have e3' :=e3 m om
    exact SXe (zZ d hia kn ks kp ky (Eq.symm hAe) cA e1' cB q w w2 @aI) e3'
  |false=>
   rw [ck] at e1
   simp only [ck] at hz
   obtain ⟨h',ts,g,⟨n3,e3⟩,t3⟩:=ih (i+1) z hB om (by simpa using hz)
   refine ⟨h',ts,(gA.trans gB).trans g,Ev.code ⟨n3+2,fun m hm=> ?b2⟩,t3⟩
   case b2=>
    have e1' :=e1 m om
    have e3' :=e3 m om
    exact SXe (wK d hia kn ks kp ky (Eq.symm hAe) cA e1' cB q w @aI) e3'
theorem Hj (H:Has fns orc) {l:List kV} {v:AV} (hv:RVs (l.map Part.decl) v) (hn:l.length<10000000) (hc:lB l<10000000) (h:aD):
  ∃h',aP h h' ∧Ev fns orc (.call 62 [v] .plain h) (.call (.ret (.int .i64 (lB l:Nat))) .plain h'):=by
 obtain ⟨ys,hy,hyl,hyg⟩:=jZ hv
 simp only [List.length_map,List.getElem_map] at hyl hyg
 obtain ⟨h',ts,g,⟨n,e⟩,t⟩:=JI H hy hyl hyg hn hc l.length 0 0 h om (by simp)
 refine ⟨h',g,Ev.call H.f62 H.o62 ⟨n,fun m hm=> ?b⟩⟩
 case b=>
  have q:∀hp,nJ hp .sl v= .ok l.length:=fun hp=>by have:=hv.len hp;simpa using this
  have e1' :cG (eval fns orc m) 62 none (.loop p62x110100) _=_:=e (m+1) om
  simp only [Int.ofNat_zero] at e1'
  exact SX (cj4 @a62.eq_1 q e1' t)
theorem yZ {D:DS} (k:D.Ok):lB (aU D.pd)<10000000:=by
 have h:=k.nd
 cases hp:D.pd with|mk s pl dl el b il xl=>
 rw [hp,xD] at h
 simp only [aU]
 have:∀dl:List kV,lB dl≤tot (dl.map Part.decl):=by
  intro dl
  induction dl with
  |nil=>exact Nat.le_refl _
  |cons d dl ih=>
   rw [FK,List.map_cons,Gl]
   have:=Cr (p:=d)
   split<;>omega
 have:=this dl
 omega
theorem E7 (H:Has fns orc) {v:AV} {c:List Nat} (hv:iP v (ints c)) (hl:c.length<10000000) (h:aD):
  ∃h' v',aP h h' ∧(∀m,2≤m→eval fns orc m (.call 21 [v] .plain h)= .ok (.call (.ret v') .plain h'))∧uU h' v' (ints c)∧∀t,jK v' =some t→h.next≤t:=by
 generalize hxs:ints c=xs at hv
 have hw:Ab 1 xs:=hxs▸yV c
 have hln:xs.length=c.length:=by rw [←hxs,mQ]
 cases hv with
 |nil=>
  refine ⟨h,.aC,.refl _,fun m hm=>fW (n:=0) H.f21 H.o21 (fun m _=> ?b1) m hm,.inl .nil,fun t w=>by cases w⟩
  exact SX @a21.eq_1
 |sl tk xs=>
  cases xs with
  |nil=>
   refine ⟨h,.sl .full [],.refl _,fun m hm=>fW (n:=0) H.f21 H.o21 (fun m _=> ?b2) m hm,.inr rfl,fun t w=>by cases w⟩
   exact SX (tR @a21.eq_1 @mT.eq_1 @oO.eq_1 @oO.eq_2 @oO.eq_3 @oO.eq_4 @uE.eq_1 @uE.eq_2 @uE.eq_3 @uE.eq_4)
  |cons x xs=>
   have e1:qK 1 (x::xs)=true:=B1 hw
   have e2:(Nat.ble 1 1 && qK 1 (x::xs))=true:=by rw [e1];rfl
   have e3:(Nat.ble ((([]:List AV).length+(x::xs).length)*1) lX && mR 1 [])=true:=by
    simp only [mR,Bool.and_true]
    rw [Nat.ble_eq]
    simp [lX] at hln⊢
    omega
   have ap:mT h 1 (.sl .full []) (.sl tk (x::xs))= .ok (.sl (.opn h.next (x::xs).length) (x::xs),h.push (.tok (x::xs).length)):=by
    have e4:([]:List AV).length+(x::xs).length=(x::xs).length:=by simp
    rw [e4] at e3
    simp only [mT,oO,aM,e2,wD,yN,List.nil_append,e4,e3]
   refine ⟨h.push (.tok (x::xs).length),.sl (.opn h.next (x::xs).length) (x::xs),.push _ _,fun m hm=>fW (n:=0) H.f21 H.o21 (fun m _=> ?b3) m hm,.inl (.opn _ _ (Dp _ _) (by simp)),fun t w=>by simp only [jK,Option.some.injEq] at w;omega⟩
   exact SX (cj2 @a21.eq_1 ap)
section
variable {D:DS} (k:D.Ok) (b:Bool) (vc vu:AV) (off cl:Int)
include k
theorem X8 (b' :Bool):cI 14 [.bool b'] (bx D b vc vu off cl)=some (bx D b' vc vu off cl):=by
 obtain ⟨s,vp,vd,ve,hb,vi,vx,kk,vn,vs,vq,vy,h1,h2,_⟩:=sX k
 simp only [bx,h1,h2,List.cons_append,List.nil_append,cI]
theorem ov15 (v:AV):cI 15 [v] (bx D b vc vu off cl)=some (bx D b v vu off cl):=by
 obtain ⟨s,vp,vd,ve,hb,vi,vx,kk,vn,vs,vq,vy,h1,h2,_⟩:=sX k
 simp only [bx,h1,h2,List.cons_append,List.nil_append,cI]
theorem ov16 (v:AV):cI 16 [v] (bx D b vc vu off cl)=some (bx D b vc v off cl):=by
 obtain ⟨s,vp,vd,ve,hb,vi,vx,kk,vn,vs,vq,vy,h1,h2,_⟩:=sX k
 simp only [bx,h1,h2,List.cons_append,List.nil_append,cI]
theorem ov17 (z:Int):cI 17 [.int .i64 z] (bx D b vc vu off cl)=some (bx D b vc vu z cl):=by
 obtain ⟨s,vp,vd,ve,hb,vi,vx,kk,vn,vs,vq,vy,h1,h2,_⟩:=sX k
 simp only [bx,h1,h2,List.cons_append,List.nil_append,cI]
theorem ov18 (z:Int):cI 18 [.int .i64 z] (bx D b vc vu off cl)=some (bx D b vc vu off z):=by
 obtain ⟨s,vp,vd,ve,hb,vi,vx,kk,vn,vs,vq,vy,h1,h2,_⟩:=sX k
 simp only [bx,h1,h2,List.cons_append,List.nil_append,cI]
end
def upd (S:Nat→DY) (i:Nat) (d:DY):Nat→DY:=fun j=>if j=i then d else S j
theorem yQ (S:Nat→DY) (i:Nat) (d:DY):upd S i d i=d:=by simp [upd]
theorem A3 (S:Nat→DY) {i j:Nat} (d:DY) (h:j≠i):upd S i d j=S j:=by simp [upd,h]
theorem TB.upd {Γ:Tb} (O:Γ.Ok) {S:Nat→DY} {h h' :aD} (T:TB Γ S h) {i:Nat} (hi:i<Γ.n) (d:DY) {vc vu:AV} (hc:cont h' (Γ.loc i)=some (bx (Γ.D i) d.busy vc vu d.off d.cl)) (he:d.cc=bx (Γ.D i) d.busy vc vu d.off d.cl) (hv:ChV d.ch vc vu)
  (ho:∀j,j<h.next→j≠Γ.loc i→(j=Γ.tb∨j=Γ.mb∨pJ Γ j)→h'.get j=h.get j) (hne:Γ.tb≠Γ.loc i∧Γ.mb≠Γ.loc i):TB Γ (upd S i d) h' :=by
 obtain ⟨l1,l2,l3⟩:=T.lt
 refine ⟨?_,T.m_.imp fun c w=>(ho _ l2 hne.2 (.inr (.inl rfl))).trans w,fun j hj=> ?_,fun j hj=> ?_⟩
 ·obtain ⟨tk,v2,w⟩:=T.t_
  exact ⟨tk,v2,(aH (ho _ l1 hne.1 (.inl rfl))).trans w⟩
 ·by_cases e:j=i
  ·subst e
   rw [yQ]
   exact ⟨vc,vu,hc,hv⟩
  ·rw [A3 _ _ e]
   obtain ⟨vc',vu',w,kk⟩:=T.d_ j hj
   exact ⟨vc',vu',(aH (ho _ (aO w) (fun q=>e (O.inj j i hj hi q)) (.inr (.inr ⟨j,hj,rfl⟩)))).trans w,kk⟩
 ·by_cases e:j=i
  ·subst e
   rw [yQ,he]
   exact hc
  ·rw [A3 _ _ e]
   exact (aH (ho _ (aO (T.e_ j hj)) (fun q=>e (O.inj j i hj hi q)) (.inr (.inr ⟨j,hj,rfl⟩)))).trans (T.e_ j hj)
theorem TB.ne {Γ:Tb} (O:Γ.Ok) {S:Nat→DY} {h:aD} (T:TB Γ S h) {i:Nat} (hi:i<Γ.n):Γ.tb≠Γ.loc i∧Γ.mb≠Γ.loc i:=by
 obtain ⟨vc,vu,w,_⟩:=T.d_ i hi
 obtain ⟨tk,v2,w2⟩:=T.t_
 obtain ⟨c,w3⟩:=T.m_
 have hl:=C4 (O.ok i hi) (S i).busy vc vu (S i).off (S i).cl
 refine ⟨fun e=> ?_,fun e=> ?_⟩
 ·rw [e,w] at w2
  have:=Option.some.inj w2
  rw [this] at hl
  simp at hl
 ·rw [e,gM w] at w3
  cases w3
end Go.Ly
end
