/- Parts of a proof. -/
import Derived.Test.YtcdjfccgahefaaaGreatDoorD
import Derived.Test.YtcdjfccgahefaaaGreatDoorZ1
set_option linter.all false
set_option maxHeartbeats 8000000
set_option maxRecDepth 20000
noncomputable section
namespace Go.Ly
open Go Go.Am Go.Fs Go.Gn
variable {fns:Go.Am.F} {orc:Orc}
theorem Im {Γ:Tb} (w:Nat):upF Γ 1 (w:Int)=(Γ.D w).ar:=by
 have:¬((w:Int)<0):=om
 simp [upF,this]
theorem NY {Γ:Tb} {S:Nat→DY} (O:Γ.Ok) (W:WF Γ S) (K:zP S) {w:Nat} (hw:w<Γ.n) {c u:List Nat} (hc:(S w).ch=some (c,u)) {pt k t:Nat} (hk:c[pt]? =some k) (ht:u[pt]? =some t) {r:Nat} (hr:(Γ.D k).ar=(r:Int)):
  ∃b cb ub,upF Γ (1+t) (w:Int)=((b:Nat):Int)∧b<Γ.n∧(S b).ch=some (cb,ub)∧r∈cb:=by
 have own:k=w→t=0→∃b cb ub,upF Γ (1+t) (w:Int)=((b:Nat):Int)∧b<Γ.n∧(S b).ch=some (cb,ub)∧r∈cb:=by
  rintro rfl rfl
  have h1:=O.ar k hw
  have hrn:r<Γ.n:=om
  obtain ⟨⟨cb,ub⟩,hb⟩:=Option.ne_none_iff_exists'.1 (K r)
  exact ⟨r,cb,ub,(Im k).trans hr,hrn,hb,List.mem_of_getElem? (W.Ry hrn hb).1⟩
 obtain ⟨tg,_,hs⟩:=(W w hw c u hc).shape
 rcases hs with ⟨_,rfl,rfl,_⟩|⟨x,lv,p,cx,ux,u0,_,_,_,rfl,rfl,_,_,hl,_,_,h10⟩
 ·cases pt with
  |zero=>simp at hk ht;exact own hk.symm ht.symm
  |succ pt=>simp at hk
 ·by_cases q:pt<cx.length
  ·rw [List.getElem?_append_left q] at hk
   rw [List.getElem?_append_left om] at ht
   obtain ⟨b,cb,ub,r',h1,h2,h3,h4,h5⟩:=h10 pt k t hk ht
   obtain rfl:r' =r:=om
   exact ⟨b,cb,ub,by rw [zW,Im];exact h1,h2,h3,h5⟩
  ·rw [List.getElem?_append_right om] at hk ht
   rw [hl] at ht
   cases e:pt -cx.length with
   |zero=>rw [e] at hk ht;simp at hk ht;exact own hk.symm ht.symm
   |succ j=>rw [e] at hk;simp at hk
theorem Ww (H:Has fns orc) {Γ:Tb} {S:Nat→DY} {h:aD} (O:Γ.Ok) (K:zP S) (W:WF Γ S) (T:TB Γ S h) {a:Int} (ha: -1≤a∧a<(Γ.n:Int)) {lv pt w k t r:Nat} {c u:List Nat} (hw:upF Γ lv a=(w:Int)) (hwn:w<Γ.n)
  (hcu:(S w).ch=some (c,u)) (hk:c[pt]? =some k) (ht:u[pt]? =some t) (hr:(Γ.D k).ar=(r:Int)):
  ∃(p b:Nat) (cb ub:List Nat) (h' :aD),aR h h' ∧Ev fns orc (.call 25 [.ptr Γ.tb 0,.int .i64 a,.agg [.int .i64 (lv:Nat),.int .i64 (pt:Nat)]] .plain h) (.call (.ret (.agg [.int .i64 ((lv+1+t:Nat):Int),.int .i64 (p:Nat)])) .plain h')∧
   upF Γ (lv+1+t) a=(b:Int)∧b<Γ.n∧(S b).ch=some (cb,ub)∧cb[p]? =some r∧wQ (fun x:Nat=>decide ((Γ.D k).ar=(x:Int))) cb=some p:=by
 have hO:=O.lt
 have hlv:=Bu O lv ha om
 have F:=W w hwn c u hcu
 have hkn:=(W.part c.length w c u (Nat.le_refl _) hwn hcu pt k hk).1
 have htb:=F.ub t (List.mem_of_getElem? ht)
 obtain ⟨b,cb,ub,hb,hbn,hcb,hrb⟩:=NY O W K hwn hcu hk ht hr
 have hb' :upF Γ (lv+1+t) a=(b:Int):=by rw [show lv+1+t=lv+(1+t) from by omega,zW,hw];exact hb
 obtain ⟨hA,hAe⟩:∃x,x=(h.push (.cells [.int .i64 (lv:Nat),.int .i64 (pt:Nat)])).push (.cells [.int .i64 0,.int .i64 0]):=⟨_,rfl⟩
 have gA:aR h hA:=by rw [hAe];exact gw2
 have nA:hA.next=h.next+2:=by rw [hAe];simp
 have a5:cont hA h.next=some [.int .i64 (lv:Nat),.int .i64 (pt:Nat)]:=by rw [hAe];exact ctp
 have a6:cont hA (h.next+1)=some [.int .i64 0,.int .i64 0]:=by rw [hAe];exact ctp
 have TA:=T.grow gA
 obtain ⟨n1,e1⟩:=HP H O TA ha (k:=lv) om
 rw [hw] at e1
 obtain ⟨n2,e2⟩:=vO H O TA hwn (by rw [hcu];simp)
 obtain ⟨cw,tkw,vu,cwA,w15,w16,wu,_⟩:=rY O TA hwn hcu
 have iu:=pX wu ht
 have ic:oG 1 (.sl tkw (ints c)) (.int .i64 (pt:Nat))= .ok (.ep [.int .i64 (k:Nat)] 0):=pX (.sl _ _) hk
 obtain ⟨tk,v2,tT⟩:=TA.t_
 have ik:=Γ.at tk hkn
 obtain ⟨vc',vu',bk,_⟩:=TA.d_ k hkn
 have k8:=FA (O.ok k hkn) (S k).busy vc' vu' (S k).off (S k).cl
 have xe:=Γ.CU tk
 have eu:=uS wu
 have ec:=uJ tkw c
 have w1:IntKind.wrap .i64 ((lv:Int)+1)=((lv+1:Nat):Int):=by rw [mW om om];rfl
 have w2:IntKind.wrap .i64 (((lv+1:Nat):Int)+(t:Int))=((lv+1+t:Nat):Int):=by rw [mW om om];rfl
 obtain ⟨n3,e3⟩:=HP H O TA ha (k:=lv+1+t) om
 rw [hb'] at e3
 have d:decide (0≤((b:Nat):Int))=true:=dT om
 obtain ⟨n4,e4⟩:=tN H 11 hA
 obtain ⟨n5,e5⟩:=vO H O TA hbn (by rw [hcb];simp)
 obtain ⟨c1b,tkb,vub,cB,b15,_⟩:=rY O TA hbn hcb
 have lcb:=(W b hbn cb ub hcb).max
 obtain ⟨n6,e6⟩:=H2 H (v:= .sl tkb (ints cb)) (.sl _ _) om (Γ.D k).ar hA
 cases cf:wQ (fun x:Nat=>decide ((Γ.D k).ar=(x:Int))) cb with
 |none=>
  have:=Bg cf r hrb
  simp [hr] at this
 |some p=>
  rw [cf] at e6
  obtain ⟨n7,e7⟩:=tN H 11 hA
  have dn:decide (0≤((p:Nat):Int))=true:=dT om
  obtain ⟨r',hr1,hr2,_⟩:=Ah cf
  obtain rfl:r' =r:=by simp at hr2;omega
  obtain ⟨h2,h2e⟩:∃x,x=hA.set (h.next+1) (.cells [.int .i64 ((lv+1+t:Nat):Int),.int .i64 (p:Nat)]):=⟨_,rfl⟩
  have x2:cont h2 (h.next+1)=some [.int .i64 ((lv+1+t:Nat):Int),.int .i64 (p:Nat)]:=by rw [h2e];exact aH om
  refine ⟨p,b,cb,ub,h2, ?g4,Ev.call H.f25 H.o25 ⟨n1+n2+n3+n4+n5+n6+n7,fun m hm=> ?b4⟩,hb',hbn,hcb,hr1,cf⟩
  case g4=>exact ⟨by rw [h2e];simp;omega,fun i hi=>by rw [h2e,aE _ _ _ _ om om];exact gA.get i hi⟩
  case b4=>
   have e1' :=e1 m om
   have e2' :=e2 m om
   have e3' :=e3 m om
   have e4' :=e4 m om
   have e5' :=e5 m om
   have e6' :=e6 m om
   have e7' :=e7 m om
   simp only [DA] at e6'
   exact SX (dD @a25.eq_1 (Eq.symm hAe) a5 e1' e2' cwA w16 w15 iu ic tT ik bk k8 xe eu (vU ec w1 w2 e3' d e4' e5' cB b15 e6' dn e7' a6 (Eq.symm h2e) x2))
end Go.Ly
namespace Go.Ly
open Go Go.Am Go.Fs Go.Gn
variable {fns:Go.Am.F} {orc:Orc}
def stp (Γ:Tb) (S:Nat→DY) (a:Int) (x:Nat×Nat):Option (Nat×Nat):=
 match (S (upF Γ x.1 a).toNat).ch with
 |none=>none
 |some q=>match q.1[x.2]?,q.2[x.2]? with
  |some k,some t=>if (Γ.D k).ar<0 then none else match (S (upF Γ (x.1+1+t) a).toNat).ch with
   |none=>none
   |some z=>(wQ (fun z:Nat=>decide ((Γ.D k).ar=(z:Int))) z.1).map fun p=>(x.1+1+t,p)
  |_,_=>none
def itr (Γ:Tb) (S:Nat→DY) (a:Int):Nat→Nat×Nat→Option (Nat×Nat)
 |0,x=>some x
 |n+1,x=>(stp Γ S a x).bind (itr Γ S a n)
theorem Gz {Γ:Tb} {S:Nat→DY} {a:Int}:∀(n:Nat) (x:Nat×Nat),itr Γ S a (n+1) x=(itr Γ S a n x).bind (stp Γ S a)
 |0,x=>by
  show (stp Γ S a x).bind (itr Γ S a 0)=stp Γ S a x
  cases stp Γ S a x<;>rfl
 |n+1,x=>by
  rw [itr,itr]
  cases stp Γ S a x with
  |none=>rfl
  |some y=>exact Gz n y
def At (Γ:Tb) (S:Nat→DY) (a:Int) (x:Nat×Nat) (w:Nat) (c u:List Nat) (k t:Nat):Prop:=upF Γ x.1 a=(w:Int)∧w<Γ.n∧(S w).ch=some (c,u)∧c[x.2]? =some k∧u[x.2]? =some t
theorem Ox {Γ:Tb} {S:Nat→DY} (W:WF Γ S) {a:Int} {x:Nat×Nat} {w:Nat} {c u:List Nat} {k:Nat} (h1:upF Γ x.1 a=(w:Int)) (h2:w<Γ.n) (h3:(S w).ch=some (c,u)) (h4:c[x.2]? =some k):∃t,At Γ S a x w c u k t:=by
 have F:=W w h2 c u h3
 obtain ⟨hpt,_⟩:=List.getElem?_eq_some_iff.1 h4
 exact ⟨u[x.2]'(by rw [F.len];exact hpt),h1,h2,h3,h4,List.getElem?_eq_getElem (by rw [F.len];exact hpt)⟩
theorem F4 {Γ:Tb} {S:Nat→DY} {a:Int} {x:Nat×Nat} {w:Nat} {c u:List Nat} {k t:Nat} (h:At Γ S a x w c u k t) (n:(Γ.D k).ar<0):stp Γ S a x=none:=by
 obtain ⟨h1,_,h3,h4,h5⟩:=h
 simp only [stp,h1,Int.toNat_natCast,h3,h4,h5,n,if_true]
theorem Vh (H:Has fns orc) {Γ:Tb} {S:Nat→DY} {h:aD} (O:Γ.Ok) (K:zP S) (W:WF Γ S) (T:TB Γ S h) {a:Int} (ha: -1≤a∧a<(Γ.n:Int)) {x:Nat×Nat} {w:Nat} {c u:List Nat} {k t:Nat} (A:At Γ S a x w c u k t) (n:¬(Γ.D k).ar<0):
  ∃p h',aR h h' ∧Ev fns orc (.call 25 [.ptr Γ.tb 0,.int .i64 a,.agg [.int .i64 (x.1:Nat),.int .i64 (x.2:Nat)]] .plain h) (.call (.ret (.agg [.int .i64 ((x.1+1+t:Nat):Int),.int .i64 (p:Nat)])) .plain h')∧
   stp Γ S a x=some (x.1+1+t,p)∧∃w' c' u' k' t',At Γ S a (x.1+1+t,p) w' c' u' k' t' ∧(k' :Int)=(Γ.D k).ar:=by
 obtain ⟨h1,h2,h3,h4,h5⟩:=id A
 have hr:(Γ.D k).ar=((Γ.D k).ar.toNat:Int):=om
 obtain ⟨p,b,cb,ub,h',g,ev,e1,e2,e3,e4,e5⟩:=Ww H O K W T ha h1 h2 h3 h4 h5 hr
 obtain ⟨t',A'⟩:=Ox W (x:=(x.1+1+t,p)) e1 e2 e3 e4
 refine ⟨p,h',g,ev, ?_,b,cb,ub,_,t',A',hr.symm⟩
 simp only [stp,h1,Int.toNat_natCast,h3,h4,h5,n,if_false,e1,e3,e5,Option.map_some]
theorem Qa (H:Has fns orc) {Γ:Tb} {S:Nat→DY} (O:Γ.Ok) (K:zP S) (W:WF Γ S) {a:Int} (ha: -1≤a∧a<(Γ.n:Int)) {n b:Nat} (hn:n<1000000000) (nb:¬pE Γ b) (nt:b≠Γ.tb) (nm:b≠Γ.mb):
  ∀(j i:Nat) (h:aD) (x:Nat×Nat) (w:Nat) (c u:List Nat) (k t:Nat),i+j=n→TB Γ S h→cont h b=some [.int .i64 (x.1:Nat),.int .i64 (x.2:Nat)]→At Γ S a x w c u k t→
   ∃h',Chg (fun z=>z=b) h h' ∧((∃y ts,itr Γ S a j x=some y∧Ev fns orc (.code 10 none (.loop p10x1110100) ⟨[(0,.ptr Γ.tb 0),(1,.int .i64 a),(10,.ptr b 0),(41,.int .i64 (n:Nat)),(42,.int .i64 (i:Nat))],[],.plain,h⟩) (.code (.exit 0) ⟨ts,[],.plain,h'⟩)∧cX ts 10= .ptr b 0∧cont h' b=some [.int .i64 (y.1:Nat),.int .i64 (y.2:Nat)])∨
    (itr Γ S a j x=none∧Ev fns orc (.code 10 none (.loop p10x1110100) ⟨[(0,.ptr Γ.tb 0),(1,.int .i64 a),(10,.ptr b 0),(41,.int .i64 (n:Nat)),(42,.int .i64 (i:Nat))],[],.plain,h⟩) (.code .ret ⟨[(8,.int .i64 0),(9,.int .i64 5)],[],.plain,h'⟩))):=by
 have HB:Has fns orc:=H
 intro j
 induction j with
 |zero=>
  intro i h x w c u k t hi T hb A
  have d:decide ((i:Int)<((n:Nat):Int))=false:=dF om
  refine ⟨h,.refl _ _,.inl ⟨x, ?ts,rfl,Ev.code ⟨0,fun m _=> ?b0⟩, ?t6,hb⟩⟩
  case b0=>
   exact SX (cj2 d @aI)
  case t6=>rfl
 |succ j ih=>
  intro i h x w c u k t hi T hb A
  obtain ⟨hw,hwn,hcu,hk,ht⟩:=id A
  have d:decide ((i:Int)<((n:Nat):Int))=true:=dT om
  have hO:=O.lt
  have hlv:=Bu O x.1 ha om
  have hkn:=(W.part c.length w c u (Nat.le_refl _) hwn hcu x.2 k hk).1
  obtain ⟨n1,e1⟩:=HP HB O T ha (k:=x.1) om
  rw [hw] at e1
  obtain ⟨cw,tkw,vu,cwA,w15,w16,wu,_⟩:=rY O T hwn hcu
  have ic:oG 1 (.sl tkw (ints c)) (.int .i64 (x.2:Nat))= .ok (.ep [.int .i64 (k:Nat)] 0):=pX (.sl _ _) hk
  obtain ⟨tk,v2,tT⟩:=T.t_
  have iw:=Γ.at tk hwn
  have ik:=Γ.at tk hkn
  obtain ⟨vc',vu',bk,_⟩:=T.d_ k hkn
  have k8:=FA (O.ok k hkn) (S k).busy vc' vu' (S k).off (S k).cl
  have xe:=Γ.CU tk
  have ec:=uJ tkw c
  have lb:=aT hb
  by_cases q:(Γ.D k).ar<0
  ·have dq:=dT q
   refine ⟨h,.refl _ _,.inr ⟨by rw [itr,F4 A q];rfl,Ev.code ⟨n1,fun m hm=> ?b1⟩⟩⟩
   case b1=>
    have e1' :=e1 m om
    exact SX (vU d hb e1' tT iw cwA w15 ic ik bk k8 xe ec dq @aI)
  ·have dq:=dF q
   obtain ⟨p,h1,g1,⟨n2,e2⟩,sp,w',c',u',k',t',A',_⟩:=Vh HB O K W T ha A q
   have nn:=g1.next
   have b1:cont h1 b=some [.int .i64 (x.1:Nat),.int .i64 (x.2:Nat)]:=(aF g1 lb).trans hb
   obtain ⟨h2,h2e⟩:∃z,z=h1.set b (.cells [.int .i64 ((x.1+1+t:Nat):Int),.int .i64 (p:Nat)]):=⟨_,rfl⟩
   have x2:cont h2 b=some [.int .i64 ((x.1+1+t:Nat):Int),.int .i64 (p:Nat)]:=by rw [h2e];exact aH om
   have C2:Chg (fun z=>z=b) h h2:=by rw [h2e];exact qV (P:=fun z=>z=b) (fM g1) (Nat.lt_of_lt_of_le lb g1.next) (.inl rfl) _
   have T2:TB Γ S h2:=(T.grow g1).vT fun j hj w=>by
    rw [h2e,aE _ _ _ _ om ?_]
    rintro rfl
    rcases w with w|w|w
    ·exact nt w
    ·exact nm w
    ·exact nb w
   have wr:IntKind.wrap .i64 ((i:Int)+1)=((i+1:Nat):Int):=by rw [mW om om];rfl
   have step:∀ans,Ev fns orc (.code 10 none (.loop p10x1110100) ⟨[(0,.ptr Γ.tb 0),(1,.int .i64 a),(10,.ptr b 0),(41,.int .i64 (n:Nat)),(42,.int .i64 ((i+1:Nat):Int))],[],.plain,h2⟩) ans→
     Ev fns orc (.code 10 none (.loop p10x1110100) ⟨[(0,.ptr Γ.tb 0),(1,.int .i64 a),(10,.ptr b 0),(41,.int .i64 (n:Nat)),(42,.int .i64 (i:Nat))],[],.plain,h⟩) ans:=by
    rintro ans ⟨n3,e3⟩
    refine Ev.code ⟨n1+n2+n3,fun m hm=> ?bt⟩
    case bt=>
     have e1' :=e1 m om
     have e2' :=e2 m om
     have e3' :=e3 m om
     exact SXe (dD d hb e1' tT iw cwA w15 ic ik bk k8 xe ec dq e2' b1 (cj3 (Eq.symm h2e) wr @aI)) e3'
   obtain ⟨h',ch,r⟩:=ih (i+1) h2 _ w' c' u' k' t' om T2 x2 A'
   refine ⟨h',jV C2 ch, ?_⟩
   have er:itr Γ S a (j+1) x=itr Γ S a j (x.1+1+t,p):=by rw [itr,sp];rfl
   rw [er]
   rcases r with ⟨y,ts,r1,r2,r3⟩|⟨r1,r2⟩
   ·exact .inl ⟨y,ts,r1,step _ r2,r3⟩
   ·exact .inr ⟨r1,step _ r2⟩
end Go.Ly
namespace Go.Ly
open Go Go.Am Go.Fs Go.Gn
variable {fns:Go.Am.F} {orc:Orc}
theorem Eg (H:Has fns orc) {Γ:Tb} {S:Nat→DY} {h:aD} (M:Made Γ S h) {i:Nat} (hi:i<Γ.n) {c u:List Nat} (hc:(S i).ch=some (c,u)) {pt:Nat} (hp:pt<c.length) {L:Nat} (hL:L<1000000000):
  ∃h',aR h h' ∧((∃y:Nat×Nat,itr Γ S (i:Int) L (0,pt)=some y∧Ev fns orc (.call 10 [.ptr Γ.tb 0,.int .i64 (i:Nat),.int .i64 (pt:Nat),.int .i64 (L:Nat)] .plain h) (.call (.ret (.tup [.int .i64 (y.1:Nat),.int .i64 0])) .plain h'))∨
   (itr Γ S (i:Int) L (0,pt)=none∧Ev fns orc (.call 10 [.ptr Γ.tb 0,.int .i64 (i:Nat),.int .i64 (pt:Nat),.int .i64 (L:Nat)] .plain h) (.call (.ret (.tup [.int .i64 0,.int .i64 5])) .plain h'))):=by
 have HB:Has fns orc:=H
 have O:=M.ok
 have T:=M.tb
 have hO:=O.lt
 have hh:=ML HB M (i:Int)
 have q:inT Γ (i:Int)=true:=by simp [inT];omega
 rw [q] at hh
 obtain ⟨tk,v2,tT⟩:=T.t_
 have ii:=Γ.at tk hi
 obtain ⟨cw,tkw,vu,cwA,w15,w16,wu,_⟩:=rY O T hi hc
 have la:∀hp,mK hp .sl (.sl tkw (ints c))= .ok c.length:=fun hp=>by rw [fW,kV]
 have d1:decide ((pt:Int)<0)=false:=dF om
 have d2:decide (((c.length:Nat):Int)≤(pt:Int))=false:=dF om
 have d3:decide ((L:Int)<0)=false:=dF om
 obtain ⟨hA,hAe⟩:∃x,x=(h.push (.cells [.int .i64 0,.int .i64 0])).set h.next (.cells [.int .i64 0,.int .i64 (pt:Nat)]):=⟨_,rfl⟩
 have gA:aR h hA:=by rw [hAe];exact gw2
 have nA:hA.next=h.next+1:=by rw [hAe];simp
 have a0:cont hA h.next=some [.int .i64 0,.int .i64 (pt:Nat)]:=by rw [hAe];exact aH (by simp)
 have ltT:=T.lt
 obtain ⟨t,A⟩:=Ox M.wf (a:=(i:Int)) (x:=(0,pt)) (by rfl) hi hc (List.getElem?_eq_getElem hp)
 obtain ⟨h',ch,r⟩:=Qa H O M.all M.wf (a:=(i:Int)) om hL (b:=h.next) (pE.not T (Nat.le_refl _)) om om L 0 hA (0,pt) _ _ _ _ _ om (T.grow gA) a0 A
 have g' :aR h h' :=⟨by have:=ch.next;omega,fun j hj=>(ch.get j om om).trans (gA.get j hj)⟩
 refine ⟨h',g', ?_⟩
 rcases r with ⟨y,ts,r1,⟨n1,e1⟩,t6,c6⟩|⟨r1,⟨n1,e1⟩⟩
 ·refine .inl ⟨y,r1,Ev.call H.f10 H.o10 ⟨n1+2,fun m hm=> ?b1⟩⟩
  case b1=>
   have e1' :bZ (eval fns orc m) 10 none (.loop p10x1110100) _=_:=e1 (m+1) om
   have hh' :=hh m om
   simp only [Int.ofNat_zero] at e1'
   exact SX (yL @a10.eq_1 hh' tT ii cwA w15 la d1 d2 d3 (Eq.symm hAe) e1' t6 c6)
 ·refine .inr ⟨r1,Ev.call H.f10 H.o10 ⟨n1+2,fun m hm=> ?b2⟩⟩
  case b2=>
   have e1' :bZ (eval fns orc m) 10 none (.loop p10x1110100) _=_:=e1 (m+1) om
   have hh' :=hh m om
   simp only [Int.ofNat_zero] at e1'
   exact SX (qD @a10.eq_1 hh' tT ii cwA w15 la d1 d2 d3 (Eq.symm hAe) e1')
theorem Qm (H:Has fns orc) {Γ:Tb} {S:Nat→DY} (O:Γ.Ok) {l:AV} {rs:List AV} (hl:iK l rs) (R:JH Γ S rs) {i:Nat} (hi:i<Γ.n) {L:Nat} (hL:L<1000000000) (h:aD):
  Ev fns orc (.call 11 [l,.int .i64 (i:Nat),.int .i64 (L:Nat)] .plain h) (.call (.ret (.int .i64 (upF Γ L (i:Int)))) .plain h):=by
 have hO:=O.lt
 have key:∀(k j:Nat) (a:Int),j+k=L→ -1≤a∧a<(Γ.n:Int)→∃n ts,cX ts 1= .int .i64 (upF Γ k a)∧∀m,n≤m→bZ (eval fns orc m) 11 none (.loop p11x10100) ⟨[(0,l),(1,.int .i64 a),(2,.int .i64 (L:Nat)),(7,.int .i64 (j:Nat))],[],.plain,h⟩= .ok (.code (.exit 0) ⟨ts,[],.plain,h⟩):=by
  intro k
  induction k with
  |zero=>
   intro j a hj ha
   have d:decide ((j:Int)<((L:Nat):Int))=false:=dF om
   refine ⟨0, ?ts0, ?t0,fun m _=> ?b0⟩
   case b0=>
    rw [aI]
    exact SX d
   case t0=>rfl
  |succ k ih=>
   intro j a hj ha
   have d:decide ((j:Int)<((L:Nat):Int))=true:=dT om
   by_cases c:0≤a
   ·have dc:=dT c
    obtain ⟨b,rfl⟩:∃b:Nat,a=(b:Int):=⟨a.toNat,by omega⟩
    have hb:b<Γ.n:=om
    obtain ⟨vc,vu,vv,c2,u2,vs2,rj,_⟩:=R.get hb
    have ia:=jZ hl rj (sz:=7) rfl
    have ar:=O.ar b hb
    obtain ⟨n,ts,t1,e⟩:=ih (j+1) (Γ.D b).ar om om
    have wr:IntKind.wrap .i64 ((j:Int)+1)=((j+1:Nat):Int):=by rw [mW om om];rfl
    have eu:upF Γ (k+1) (b:Int)=upF Γ k (Γ.D b).ar:=by
     have:¬((b:Int)<0):=om
     simp only [upF,this,if_false,Int.toNat_natCast]
    refine ⟨n+1,ts,by rw [eu];exact t1,fun m hm=> ?b1⟩
    case b1=>
     obtain ⟨m,rfl⟩:∃z,m=z+1:=⟨m -1,by omega⟩
     have e' :eval fns orc (m+1) (.code 11 none (.loop p11x10100) _)=_:=e m om
     rw [aI]
     exact SXe (cj4 d dc ia wr) e'
   ·have dc:=dF c
    refine ⟨0, ?ts2, ?t2,fun m _=> ?b2⟩
    case b2=>
     rw [aI]
     exact SX (cj2 d dc)
    case t2=>rw [Cv Γ _ om];rfl
 obtain ⟨n,ts,t1,e⟩:=key L 0 (i:Int) om om
 refine Ev.call H.f11 H.o11 ⟨n,fun m hm=> ?b⟩
 case b=>
  have e' :=e m hm
  simp only [Int.ofNat_zero] at e'
  exact SX (cj3 @a11.eq_1 e' t1)
end Go.Ly
namespace Go.Ly
open Go Go.Am Go.Fs Go.Gn
variable {fns:Go.Am.F} {orc:Orc}
theorem F3 {Γ:Tb} {S:Nat→DY} (O:Γ.Ok) (K:zP S) (W:WF Γ S) {a:Int} {x:Nat×Nat} {w:Nat} {c u:List Nat} {k t:Nat} (A:At Γ S a x w c u k t) (n:¬(Γ.D k).ar<0):
  ∃p,stp Γ S a x=some (x.1+1+t,p)∧∃w' c' u' k' t',At Γ S a (x.1+1+t,p) w' c' u' k' t' ∧(k' :Int)=(Γ.D k).ar:=by
 obtain ⟨h1,h2,h3,h4,h5⟩:=id A
 have hr:(Γ.D k).ar=((Γ.D k).ar.toNat:Int):=om
 obtain ⟨b,cb,ub,e1,e2,e3,e4⟩:=NY O W K h2 h3 h4 h5 hr
 have e1' :upF Γ (x.1+1+t) a=(b:Int):=by rw [show x.1+1+t=x.1+(1+t) from by omega,zW,h1];exact e1
 cases cf:wQ (fun z:Nat=>decide ((Γ.D k).ar=(z:Int))) cb with
 |none=>
  have:=Bg cf _ e4
  simp only [decide_eq_false_iff_not] at this
  omega
 |some p=>
  obtain ⟨r',q1,q2,_⟩:=Ah cf
  have q3:(Γ.D k).ar=(r' :Int):=of_decide_eq_true q2
  obtain ⟨t',A'⟩:=Ox W (x:=(x.1+1+t,p)) e1' e2 e3 q1
  refine ⟨p, ?_,b,cb,ub,r',t',A',q3.symm⟩
  simp only [stp,h1,Int.toNat_natCast,h3,h4,h5,n,if_false,e1',e3,cf,Option.map_some]
theorem Vg {Γ:Tb} {S:Nat→DY} {a:Int} {x y:Nat×Nat} (h:stp Γ S a x=some y):x.1<y.1:=by
 unfold stp at h
 split at h
 ·cases h
 ·split at h
  ·split at h
   ·cases h
   ·split at h
    ·cases h
    ·rw [Option.map_eq_some_iff] at h
     obtain ⟨p,_,rfl⟩:=h
     show x.1<x.1+1+_
     omega
  ·cases h
theorem Kw {Γ:Tb} {S:Nat→DY} (O:Γ.Ok) (K:zP S) (W:WF Γ S) {i:Nat}:∀(k l p w:Nat) (c u:List Nat),upF Γ l (i:Int)=(w:Int)→w<Γ.n→(S w).ch=some (c,u)→c[p]? =some w→
  (0≤upF Γ (l+k) (i:Int)∧∃q,itr Γ S (i:Int) k (l,p)=some (l+k,q))∨(upF Γ (l+k) (i:Int)<0∧itr Γ S (i:Int) k (l,p)=none)
 |0,l,p,w,c,u,h1,h2,h3,h4=> .inl ⟨by rw [Nat.add_zero,h1];omega,p,rfl⟩
 |k+1,l,p,w,c,u,h1,h2,h3,h4=>by
  have hu:u[p]? =some 0:=by
   obtain ⟨c0,e,hn⟩:=W.last h2 h3
   have hl:=(W.Ry h2 h3).2
   subst e
   by_cases q:p<c0.length
   ·rw [List.getElem?_append_left q] at h4
    exact absurd (List.mem_of_getElem? h4) hn
   ·obtain ⟨hp,_⟩:=List.getElem?_eq_some_iff.1 h4
    simp at hp hl
    obtain rfl:p=c0.length:=om
    exact hl
  have A:At Γ S (i:Int) (l,p) w c u w 0:=⟨h1,h2,h3,h4,hu⟩
  have u1:upF Γ (l+1) (i:Int)=(Γ.D w).ar:=by rw [zW,h1,Im]
  have ea:l+(k+1)=l+1+k:=om
  by_cases q:(Γ.D w).ar<0
  ·refine .inr ⟨?_,by rw [itr,F4 A q];rfl⟩
   rw [ea,zW,u1,Cv Γ _ q]
   exact q
  ·obtain ⟨p',sp,w',c',u',k',t',A',e⟩:=F3 O K W A q
   obtain ⟨g1,g2,g3,g4,_⟩:=A'
   have e2:(w' :Int)=(Γ.D w).ar:=g1.symm.trans u1
   obtain rfl:k' =w' :=om
   have r:=Kw O K W k (l+1) p' k' c' u' g1 g2 g3 g4
   have ei:itr Γ S (i:Int) (k+1) (l,p)=itr Γ S (i:Int) k (l+1,p'):=by rw [itr,sp];rfl
   rw [ea,ei]
   exact r
section
variable (H:Has fns orc) (X:yO orc) {Γ:Tb} {S:Nat→DY} {i:Nat} (hi:i<Γ.n) {c u:List Nat} (hc:(S i).ch=some (c,u)) {pt:Nat} (hp:pt<c.length) {L:Nat} (hL:L≤60)
include H X hi hc hp hL
theorem OK:∀(k j:Nat) (h:aD) (y:Nat×Nat),Made Γ S h→j+1+k=L+1→itr Γ S (i:Int) j (0,pt)=some y→
  ∃h' n,(∃ts,∀m,n≤m→bZ (eval fns orc m) 4 none (.loop p4x11111111111110100) ⟨[(1,.int .i64 (i:Nat)),(2,.int .i64 (pt:Nat)),(3,.int .i64 (L:Nat)),(9,.ptr Γ.tb 0),(15,.int .i64 (y.1:Nat)),(16,.int .i64 ((j+1:Nat):Int))],[],.plain,h⟩= .ok (.code (.exit 0) ⟨ts,[],.plain,h'⟩))∨
   (∀m,n≤m→bZ (eval fns orc m) 4 none (.loop p4x11111111111110100) ⟨[(1,.int .i64 (i:Nat)),(2,.int .i64 (pt:Nat)),(3,.int .i64 (L:Nat)),(9,.ptr Γ.tb 0),(15,.int .i64 (y.1:Nat)),(16,.int .i64 ((j+1:Nat):Int))],[],.plain,h⟩= .ok (.code .ret ⟨[(8,.bool true)],[],.plain,h'⟩)):=by
 obtain ⟨g,g1,g2⟩:=id X
 intro k
 induction k with
 |zero=>
  intro j h y M hj hy
  have d:decide (((j+1:Nat):Int)≤((L:Nat):Int))=false:=dF om
  refine ⟨h,0,.inl ⟨?ts0,fun m _=> ?b0⟩⟩
  case b0=>
   rw [aI]
   exact SX d
 |succ k ih=>
  intro j h y M hj hy
  have d:decide (((j+1:Nat):Int)≤((L:Nat):Int))=true:=dT om
  obtain ⟨h1,gr,r⟩:=Eg H M hi hc hp (L:=j+1) om
  rcases r with ⟨z,q,⟨n1,e1⟩⟩|⟨q,⟨n1,e1⟩⟩
  ·rw [Gz,hy] at q
   have lt:=Vg (show stp Γ S (i:Int) y=some z from q)
   have d2:decide ((z.1:Int)≤(y.1:Int))=false:=dF om
   have wr:IntKind.wrap .i64 (((j+1:Nat):Int)+1)=((j+1+1:Nat):Int):=by rw [mW om om];rfl
   have q' :itr Γ S (i:Int) (j+1) (0,pt)=some z:=by rw [Gz,hy];exact q
   obtain ⟨h',n,⟨ts,e⟩|e⟩:=ih (j+1) h1 z (M.grow gr) om q'
   ·refine ⟨h',n+n1+1,.inl ⟨ts,fun m hm=> ?b1⟩⟩
    case b1=>
     obtain ⟨m,rfl⟩:∃z,m=z+1:=⟨m -1,by omega⟩
     have e1' :=e1 (m+1) om
     have e' :eval fns orc (m+1) (.code 4 none (.loop p4x11111111111110100) _)=_:=e m om
     rw [aI]
     exact SXe (cj4 d e1' d2 wr) e'
   ·refine ⟨h',n+n1+1,.inr fun m hm=> ?b2⟩
    case b2=>
     obtain ⟨m,rfl⟩:∃z,m=z+1:=⟨m -1,by omega⟩
     have e1' :=e1 (m+1) om
     have e' :eval fns orc (m+1) (.code 4 none (.loop p4x11111111111110100) _)=_:=e m om
     rw [aI]
     exact SXe (cj4 d e1' d2 wr) e'
  ·refine ⟨h1,n1+2,.inr fun m hm=> ?b3⟩
   case b3=>
    have e1' :=e1 m om
    have os:=wA (fns:=fns) g1 g2 h1 m om
    rw [aI]
    exact SX (cj3 d e1' os)
end
end Go.Ly
namespace Go.Ly
open Go Go.Am Go.Fs Go.Gn
variable {fns:Go.Am.F} {orc:Orc}
theorem I7 {Γ:Tb} {S:Nat→DY} {a:Int} {x:Nat×Nat}:itr Γ S a 1 x=stp Γ S a x:=by
 show (stp Γ S a x).bind (itr Γ S a 0)=_
 cases stp Γ S a x<;>rfl
theorem OJ (H:Has fns orc) (X:yO orc) {Γ:Tb} {S:Nat→DY} {i:Nat} (hi:i<Γ.n) {c u:List Nat} (hc:(S i).ch=some (c,u)) {pt:Nat} (hp:pt<c.length) {L:Nat} (hL:L≤60) {h:aD} (M:Made Γ S h) {l:AV} {rs:List AV} (hl:iK l rs) (R:JH Γ S rs):
  ∃h' n,∀m,n≤m→bZ (eval fns orc m) 4 none p4x11111 ⟨[(1,.int .i64 (i:Nat)),(2,.int .i64 (pt:Nat)),(3,.int .i64 (L:Nat)),(9,.ptr Γ.tb 0),(10,l),(55,.bool false)],[],.plain,h⟩= .ok (.code .ret ⟨[(8,.bool true)],[],.plain,h'⟩):=by
 have HB:Has fns orc:=H
 have O:=M.ok
 have W:=M.wf
 have hO:=O.lt
 obtain ⟨g,s1,s2⟩:=id X
 obtain ⟨h1,g1,r1⟩:=Eg H M hi hc (pt:=c.length -1) om (L:=L) om
 obtain ⟨na,ea⟩:=Qm H O hl R hi (L:=L) om h1
 obtain ⟨h2,g2,r2⟩:=Eg H (M.grow g1) hi hc hp (L:=0) om
 obtain ⟨n2,e2⟩:Ev fns orc (.call 10 [.ptr Γ.tb 0,.int .i64 (i:Nat),.int .i64 (pt:Nat),.int .i64 0] .plain h1) (.call (.ret (.tup [.int .i64 0,.int .i64 0])) .plain h2):=by
  rcases r2 with ⟨y,q,ev⟩|⟨q,_⟩
  ·simp only [itr,Option.some.injEq] at q
   subst q
   exact ev
  ·cases q
 obtain ⟨h3,g3,r3⟩:=Eg H ((M.grow g1).grow g2) hi hc hp (L:=1) om
 rw [show ((1:Nat):Int)=1 from rfl] at r3
 have M3:=((M.grow g1).grow g2).grow g3
 have hk:c[pt]? =some c[pt]:=List.getElem?_eq_getElem hp
 obtain ⟨t,A⟩:=Ox W (a:=(i:Int)) (x:=(0,pt)) (by rfl) hi hc hk
 have hkn:=(W.part c.length i c u (Nat.le_refl _) hi hc pt _ hk).1
 have ht:=A.2.2.2.2
 have tb:=(W i hi c u hc).ub t (List.mem_of_getElem? ht)
 obtain ⟨vc,vu,vv,c2,u2,vs2,ri,rc,hvc,hvu,_⟩:=R.get hi
 rw [hc] at rc
 cases rc
 obtain ⟨vc',vu',vv',c3,u3,vs3,rk,_⟩:=R.get hkn
 have ia:=jZ hl ri (sz:=7) rfl
 have ik:=jZ hl rk (sz:=7) rfl
 have la:∀hp,mK hp .sl vc= .ok c.length:=fun hp=>by rw [bJ hvc hp,kV]
 have ic:=pX hvc hk
 have iu:=pX hvu ht
 have lc:=(W i hi c u hc).max
 have wl:IntKind.wrap .i64 (((c.length:Nat):Int) -1)=((c.length -1:Nat):Int):=by rw [mW om om];omega
 have wu:IntKind.wrap .i64 (1+((t:Nat):Int))=((0+1+t:Nat):Int):=by rw [mW om om];omega
 have dl:decide ((L:Int)=(L:Int))=true:=dT rfl
 have du:decide (((0+1+t:Nat):Int)=((0+1+t:Nat):Int))=true:=dT rfl
 have fst:∃(n1:Nat) (e:Bool),decide (upF Γ L (i:Int)<0)=e∧∀m,n1≤m→eval fns orc m (.call 10 [.ptr Γ.tb 0,.int .i64 (i:Nat),.int .i64 ((c.length -1:Nat):Int),.int .i64 (L:Nat)] .plain h)= .ok (.call (.ret (.tup [.int .i64 (if e then 0 else (L:Nat)),.int .i64 (if e then 5 else 0)])) .plain h1):=by
  have hl1:=(W.Ry hi hc).1
  rcases Kw O M.all W L 0 (c.length -1) i c u rfl hi hc hl1 with ⟨nn,q,eq⟩|⟨nn,eq⟩
  ·rw [Nat.zero_add] at nn eq
   rcases r1 with ⟨y,w,⟨n1,e1⟩⟩|⟨w,_⟩
   ·rw [eq] at w
    cases w
    exact ⟨n1,false,dF om,e1⟩
   ·rw [eq] at w;cases w
  ·rw [Nat.zero_add] at nn
   rcases r1 with ⟨y,w,_⟩|⟨w,⟨n1,e1⟩⟩
   ·rw [eq] at w;cases w
   ·exact ⟨n1,true,dT nn,e1⟩
 obtain ⟨n1,e,de,e1⟩:=fst
 rcases r3 with ⟨y,q,⟨n3,e3⟩⟩|⟨q,⟨n3,e3⟩⟩
 ·rw [I7] at q
  have dk:decide ((Γ.D c[pt]).ar<0)=false:=dF fun w=>by rw [F4 A w] at q;cases q
  obtain ⟨p,sp,_⟩:=F3 O M.all W A (of_decide_eq_false dk)
  have hy:itr Γ S (i:Int) 1 (0,pt)=some y:=by rw [I7];exact q
  rw [sp] at q
  cases q
  by_cases hL1:1≤L
  ·obtain ⟨h4,n4,⟨ts,e4⟩|e4⟩:=OK H X hi hc hp hL (L -1) 1 h3 _ M3 om hy
   ·refine ⟨h4,n1+na+n2+n3+n4+2,fun m hm=> ?b1⟩
    case b1=>
     have ea' :=ea m om
     have e1' :=e1 m om
     have e2' :=e2 m om
     have e3' :=e3 m om
     have e4' :=e4 m om
     simp only [show ((1+1:Nat):Int)=2 from rfl] at e4'
     have os:=wA (fns:=fns) s1 s2 h4 m om
     cases e<;>exact SX (dD ia la wl e1' ea' de dl e2' e3' ic ik dk iu wu du e4' os)
   ·refine ⟨h4,n1+na+n2+n3+n4+2,fun m hm=> ?b2⟩
    case b2=>
     have ea' :=ea m om
     have e1' :=e1 m om
     have e2' :=e2 m om
     have e3' :=e3 m om
     have e4' :=e4 m om
     simp only [show ((1+1:Nat):Int)=2 from rfl] at e4'
     cases e<;>exact SX (Bl ia la wl e1' ea' de dl e2' e3' ic ik dk iu wu du e4')
  ·have d2:decide ((2:Int)≤((L:Nat):Int))=false:=dF om
   refine ⟨h3,n1+na+n2+n3+2,fun m hm=> ?b3⟩
   case b3=>
    have ea' :=ea m om
    have e1' :=e1 m om
    have e2' :=e2 m om
    have e3' :=e3 m om
    have os:=wA (fns:=fns) s1 s2 h3 m om
    cases e<;>exact SX (dD ia la wl e1' ea' de dl e2' e3' ic ik dk iu wu du d2 (cj2 @aI os))
 ·rw [I7] at q
  have dk:decide ((Γ.D c[pt]).ar<0)=true:=dT (Int.not_le.1 fun w=>by
   obtain ⟨p,sp,_⟩:=F3 O M.all W A om
   rw [sp] at q
   cases q)
  refine ⟨h3,n1+na+n2+n3+2,fun m hm=> ?b4⟩
  case b4=>
   have ea' :=ea m om
   have e1' :=e1 m om
   have e2' :=e2 m om
   have e3' :=e3 m om
   have os:=wA (fns:=fns) s1 s2 h3 m om
   cases e<;>exact SX (wB ia la wl e1' ea' de dl e2' e3' ic ik dk os)
end Go.Ly
namespace Go.Ly
open Go Go.Am Go.Fs Go.Gn
variable {fns:Go.Am.F} {orc:Orc}
theorem Va (X:yO orc) {Γ:Tb} {S:Nat→DY} {l:AV} {rs:List AV} (hl:iK l rs) (R:JH Γ S rs) (a p L:Int) (tb:AV) (h:aD):
  (∀m,2≤m→bZ (eval fns orc m) 4 none p4x11110 ⟨[(1,.int .i64 a),(2,.int .i64 p),(3,.int .i64 L),(9,tb),(10,l)],[],.plain,h⟩= .ok (.code .ret ⟨[(8,.bool true)],[],.plain,h⟩))∨
  (∃(i pt k:Nat) (c u:List Nat),a=(i:Int)∧p=(pt:Int)∧L=(k:Int)∧i<Γ.n∧(S i).ch=some (c,u)∧pt<c.length∧k≤60∧
   ∀m,bZ (eval fns orc m) 4 none p4x11110 ⟨[(1,.int .i64 (i:Nat)),(2,.int .i64 (pt:Nat)),(3,.int .i64 (k:Nat)),(9,tb),(10,l)],[],.plain,h⟩= .ok (.code .normal ⟨[(1,.int .i64 (i:Nat)),(2,.int .i64 (pt:Nat)),(3,.int .i64 (k:Nat)),(9,tb),(10,l),(55,.bool false)],[],.plain,h⟩)):=by
 obtain ⟨g,s1,s2⟩:=id X
 have os:=wA (fns:=fns) s1 s2 h
 have lx:∀hp,mK hp .sl l= .ok Γ.n:=fun hp=>by rw [bJ hl hp,R.1]
 cases d1:decide (a<0) with
 |true=>
  refine .inl fun m hm=> ?b1
  case b1=>
   have os' :=os m om
   exact SX (cj2 d1 os')
 |false=>
 cases d2:decide (((Γ.n:Nat):Int)≤a) with
 |true=>
  refine .inl fun m hm=> ?b2
  case b2=>
   have os' :=os m om
   exact SX (cj4 d1 lx d2 os')
 |false=>
 cases d3:decide (p<0) with
 |true=>
  refine .inl fun m hm=> ?b3
  case b3=>
   have os' :=os m om
   exact SX (cj5 d1 lx d2 d3 os')
 |false=>
 have q1:=of_decide_eq_false d1
 have q2:=of_decide_eq_false d2
 have q3:=of_decide_eq_false d3
 obtain ⟨i,rfl⟩:∃i:Nat,a=(i:Int):=⟨a.toNat,by omega⟩
 obtain ⟨pt,rfl⟩:∃i:Nat,p=(i:Int):=⟨p.toNat,by omega⟩
 have hi:i<Γ.n:=om
 obtain ⟨vc,vu,vv,c,u,vs2,ri,hc,hvc,hvu,_⟩:=R.get hi
 have ia:=jZ hl ri (sz:=7) rfl
 have la:∀hp,mK hp .sl vc= .ok c.length:=fun hp=>by rw [bJ hvc hp,kV]
 cases d4:decide (((c.length:Nat):Int)≤(pt:Int)) with
 |true=>
  refine .inl fun m hm=> ?b4
  case b4=>
   have os' :=os m om
   exact SX (cj8 d1 lx d2 d3 ia la d4 os')
 |false=>
 cases d5:decide (L<0) with
 |true=>
  refine .inl fun m hm=> ?b5
  case b5=>
   have os' :=os m om
   exact SX (cj9 d1 lx d2 d3 ia la d4 d5 os')
 |false=>
 cases d6:decide (60<L) with
 |true=>
  refine .inl fun m hm=> ?b6
  case b6=>
   have os' :=os m om
   exact SX (uK d1 lx d2 d3 ia la d4 d5 d6 os')
 |false=>
 have q4:=of_decide_eq_false d4
 have q5:=of_decide_eq_false d5
 have q6:=of_decide_eq_false d6
 obtain ⟨k,rfl⟩:∃i:Nat,L=(i:Int):=⟨L.toNat,by omega⟩
 refine .inr ⟨i,pt,k,c,u,rfl,rfl,rfl,hi,hc,by omega,by omega,fun m=> ?b7⟩
 case b7=>
  exact SX (cj9 d1 lx d2 d3 ia la d4 d5 d6)
theorem Vc (H:Has fns orc) (N:vP fns orc) (X:yO orc) {d:pG} {cs:List AV} (hv:RV (.desc d) (.agg cs)) (hs:wE (.desc d)) (hn:(Part.desc d).nodes<5000000) (a p L:Int) (h:aD):
  ∃h',Ev fns orc (.call 4 [.agg cs,.int .i64 a,.int .i64 p,.int .i64 L] .plain h) (.call (.ret (.bool true)) .plain h'):=by
 have HB:Has fns orc:=H
 have hcl:=kU hv
 have p7:takeN 7 cs=some cs:=by rw [←hcl];exact aX cs
 obtain ⟨g,s1,s2⟩:=id X
 obtain ⟨h1,h1e⟩:∃x,x=h.push (.cells cs):=⟨_,rfl⟩
 have x1:cont h1 h.next=some cs:=by rw [h1e];exact aS om om
 obtain ⟨h2,g2,⟨n2,e2⟩|⟨Γ,S,⟨n2,e2⟩,M⟩⟩:=N5 HB N hv hs hn h1
 ·have os:=wA (fns:=fns) s1 s2 h2
  refine ⟨h2,Ev.call H.f4 H.o4 ⟨n2+2,fun m hm=> ?b1⟩⟩
  case b1=>
   have os' :=os m om
   have e2' :=e2 m om
   exact SX (cj7 @a4.eq_1 hcl p7 (Eq.symm h1e) x1 e2' os')
 ·obtain ⟨h3,l,rs,g3,⟨n3,e3⟩,hl,hlen,zJ⟩:=Lk HB M
  have R:JH Γ S rs:=⟨hlen,zJ⟩
  rcases Va (fns:=fns) X hl R a p L (.ptr Γ.tb 0) h3 with eg|⟨i,pt,k,c,u,rfl,rfl,rfl,hi,hc,hp,hk,eg⟩
  ·refine ⟨h3,Ev.call H.f4 H.o4 ⟨n2+n3+2,fun m hm=> ?b2⟩⟩
   case b2=>
    have e2' :=e2 m om
    have e3' :=e3 m om
    have eg' :=eg m om
    exact SX (cj8 @a4.eq_1 hcl p7 (Eq.symm h1e) x1 e2' e3' eg')
  ·obtain ⟨h4,n4,e4⟩:=OJ H X hi hc hp hk (M.grow g3) hl R
   refine ⟨h4,Ev.call H.f4 H.o4 ⟨n2+n3+n4+2,fun m hm=> ?b3⟩⟩
   case b3=>
    have e2' :=e2 m om
    have e3' :=e3 m om
    have eg' :=eg m
    have e4' :=e4 m om
    exact SX (cj9 @a4.eq_1 hcl p7 (Eq.symm h1e) x1 e2' e3' eg' e4')
end Go.Ly
end
