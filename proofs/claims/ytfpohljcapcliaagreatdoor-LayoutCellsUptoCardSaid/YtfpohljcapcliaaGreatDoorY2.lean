/- Parts of a proof. -/
import Derived.Test.YtfpohljcapcliaaGreatDoorD
import Derived.Test.YtfpohljcapcliaaGreatDoorY1
set_option linter.all false
set_option maxHeartbeats 16000000
noncomputable section
namespace Go.Ly
open Go Go.Am Go.Fs Go.Gn
variable {fns:Go.Am.F} {orc:Orc}
def cfL (Γ:Tb) (a e q b12 b13:Nat) (x33 x34 x35 x74 x75 x76:AV):fN:=[(0,.ptr Γ.tb 0),(1,.int .i64 (a:Nat)),(4,.ptr (Γ.loc a) 0),(5,.int .i64 (e:Nat)),(11,.int .i64 (q:Nat)),(12,.ptr b12 0),(13,.ptr b13 0),(33,x33),(34,x34),(35,x35),(74,x74),(75,x75),(76,x76)]
def cfM (Γ:Tb) (a e q b12 b13 b14:Nat) (x33 x34 x35 x74 x75 x76:AV):fN:=[(0,.ptr Γ.tb 0),(1,.int .i64 (a:Nat)),(4,.ptr (Γ.loc a) 0),(5,.int .i64 (e:Nat)),(11,.int .i64 (q:Nat)),(12,.ptr b12 0),(13,.ptr b13 0),(14,.ptr b14 0),(33,x33),(34,x34),(35,x35),(74,x74),(75,x75),(76,x76)]
def Pm (Γ:Tb) (S:Nat→DY) (a e q:Nat) (told Bh:Tg):Prop:=told=none∨∃vo lo po vn ln pn,told=some (vo,lo,po)∧Bh=some (vn,ln,pn)∧Pj Γ S a e q vo lo vn ln pn
section
variable (H:Has fns orc) {Γ:Tb} (O:Γ.Ok) {S:Nat→DY} (K:Cg S) (W:WF Γ S) {h:aD} (T:TB Γ S h) {a e:Nat} (ha:a<Γ.n) {x33 x34 x35 x74 x75 x76:AV} {c u:List Nat} (hcu:(S a).ch=some (c,u)) (he:c[e]? =some a) {q o:Nat} (hq:c[q]? =some o) {b12 b13:Nat}
include H O K W T ha hcu he hq
theorem XB {ts:fN} (k:K10 Γ a e x33 x34 x35 x74 x75 x76 ts) {vo lo po vn ln pn:Nat} (t11:cH ts 11= .int .i64 (q:Nat)) (t12:cH ts 12= .ptr b12 0) (t13:cH ts 13= .ptr b13 0)
  (c12:cont h b12=some [.int .i64 (vo:Nat),.int .i64 (lo:Nat),.int .i64 (po:Nat)]) (c13:cont h b13=some [.int .i64 (vn:Nat),.int .i64 (ln:Nat),.int .i64 (pn:Nat)]) (hvo:vo<Γ.n) (so:B4 Γ S (o:Int) (some (vo,lo,po))) (sn:B4 Γ S (a:Int) (some (vn,ln,pn)))
  {co uo cn un:List Nat} (hco:(S vo).ch=some (co,uo)) (hcn:(S vn).ch=some (cn,un)) (hb:Bf cn co=true):
  Piece fns orc Γ a e x33 x34 x35 x74 x75 x76 cf8 ts h (Pj Γ S a e q vo lo vn ln pn):=by
 obtain ⟨k0,k1,k4,k5,k33,k34,k35,k74,k75,k76⟩:=k
 have hO:=O.lt
 have hon:=(W.part c.length a c u (Nat.le_refl _) ha hcu q o hq).1
 obtain ⟨_,ro,hro,wo,_,_,p1,p2,_⟩:=so vo lo po rfl
 have hlo:=BD O lo (a:=(o:Int)) ⟨by omega,by omega⟩ om
 obtain ⟨hvn,rn,hrn,wn,cw,uw,p3,p4,p5,p6⟩:=sn vn ln pn rfl
 have hln:=BD O ln (a:=(a:Int)) ⟨by omega,by omega⟩ om
 have ar: -1≤(a:Int)∧(a:Int)<(Γ.n:Int):=⟨by omega,by omega⟩
 have ple:PlK Γ S a 0 e a:=⟨a,c,u,rfl,ha,hcu,he⟩
 have plq:PlK Γ S a 0 q o:=⟨a,c,u,rfl,ha,hcu,hq⟩
 obtain ⟨hA,hAe⟩:∃x,x=(h.push (.cells [.int .i64 0,.int .i64 0])).set h.next (.cells [.int .i64 0,.int .i64 (e:Nat)]):=⟨_,rfl⟩
 have gA:aP h hA:=by rw [hAe];exact gw2
 have nA:hA.next=h.next+1:=by rw [hAe];simp
 have a14:cont hA h.next=some [.int .i64 0,.int .i64 (e:Nat)]:=by rw [hAe];exact aG (by simp)
 have a12:=(aF gA (aO c12)).trans c12
 have a13:=(aF gA (aO c13)).trans c13
 have TA:=T.grow gA
 by_cases c0:0<ln
 case neg=>
  have d:decide ((0:Int)<((ln:Nat):Int))=false:=dF om
  refine Piece.step (Pb H O K W TA ha (ts:=cfM Γ a e q b12 b13 h.next x33 x34 x35 x74 x75 x76++[(135,.bool false)]) ⟨rfl,rfl,rfl,rfl,rfl,rfl,rfl,rfl,rfl,rfl⟩ rfl rfl rfl rfl a12 a13 (sl:=0) (sp:=e) a14 hvo hvn om hco hcn hb ple plq) gA ?_ ⟨0,fun m hm=> ?b1⟩
  ·rintro ⟨n,l,p,l2,p2,h1,h2,h3,h4⟩
   exact ⟨0,e,n,l,p,l2,p2,co,uo,cn,un,hco,hcn,hb,h1,.inl ⟨by omega,rfl,rfl⟩,h2,h3,h4⟩
  case b1=>
   exact SX (dI @NT @cfM.eq_1 k0 k1 k4 k5 k33 k34 k35 k74 k75 k76 t11 t12 t13 (Eq.symm hAe) (cj2 a13 d))
 have d:decide ((0:Int)<((ln:Nat):Int))=true:=dT om
 rcases NN H O K W TA ar (n:=ln) om ple with ⟨_,h1,⟨m1,x1⟩,g1,l1,p1',k',rfl,cl1,pk,uk⟩|⟨er,h1,hpe,⟨m1,x1⟩,ch1⟩
 case inr=>
  refine .inr ⟨er, ?ts2,h1,hpe,⟨m1,fun m hm=> ?b2⟩,Be gA ch1⟩
  case b2=>
   have x1' :=x1 m hm
   simp only [Int.ofNat_zero] at x1'
   exact SX (dI @NT k0 k1 k4 k5 k33 k34 k35 k74 k75 k76 t11 t12 t13 (Eq.symm hAe) a13 (cj4 a14 d x1' @qG))
 have n1:=g1.next
 have b12' :=(aF g1 (aO a12)).trans a12
 have Y0 :=(aF g1 (aO a13)).trans a13
 have b14:=(aF g1 (aO a14)).trans a14
 obtain ⟨h2,h2e⟩:∃x,x=h1.set h.next (.cells [.int .i64 (l1:Nat),.int .i64 (pn:Nat)]):=⟨_,rfl⟩
 have g2:aP h h2:=by rw [h2e];exact (gA.trans g1).set om om _
 have ne12:b12≠h.next:=fun w=>by have:=aO c12;omega
 have ne13:b13≠h.next:=fun w=>by have:=aO c13;omega
 have e12:cont h2 b12=some [.int .i64 (vo:Nat),.int .i64 (lo:Nat),.int .i64 (po:Nat)]:=by rw [h2e,aK om ne12];exact b12'
 have e13:cont h2 b13=some [.int .i64 (vn:Nat),.int .i64 (ln:Nat),.int .i64 (pn:Nat)]:=by rw [h2e,aK om ne13];exact Y0
 have e14:cont h2 h.next=some [.int .i64 (l1:Nat),.int .i64 (pn:Nat)]:=by rw [h2e];exact aG om
 have hkw:k' =wn:=om
 subst hkw
 have pln:=BG W pk p5 p6
 refine Piece.step (Pb H O K W (T.grow g2) ha (ts:=cfM Γ a e q b12 b13 h.next x33 x34 x35 x74 x75 x76) ⟨rfl,rfl,rfl,rfl,rfl,rfl,rfl,rfl,rfl,rfl⟩ rfl rfl rfl rfl e12 e13 (sl:=l1) (sp:=pn) e14 hvo hvn om hco hcn hb pln plq) g2 ?_ ⟨m1,fun m hm=> ?b3⟩
 ·rintro ⟨n,l,p,l2,p2,h1,h2,h3,h4⟩
  exact ⟨l1,pn,n,l,p,l2,p2,co,uo,cn,un,hco,hcn,hb,h1,.inr ⟨c0,rfl,p1',cl1⟩,h2,h3,h4⟩
 case b3=>
  have x1' :=x1 m hm
  simp only [Int.ofNat_zero] at x1'
  exact SX (dI @NT @cfM.eq_1 k0 k1 k4 k5 k33 k34 k35 k74 k75 k76 t11 t12 t13 (Eq.symm hAe) (cj8 a13 a14 d x1' Y0 b14 (Eq.symm h2e) @qG))
theorem XC {ts:fN} (k:K10 Γ a e x33 x34 x35 x74 x75 x76 ts) {told Bh:Tg} {y1 y2 y3 z1 z2 z3:Int} (t11:cH ts 11= .int .i64 (q:Nat)) (t12:cH ts 12= .ptr b12 0) (t13:cH ts 13= .ptr b13 0)
  (hy:tgA told= .agg [.int .i64 y1,.int .i64 y2,.int .i64 y3]) (hz:tgA Bh= .agg [.int .i64 z1,.int .i64 z2,.int .i64 z3]) (c12:cont h b12=some [.int .i64 y1,.int .i64 y2,.int .i64 y3]) (c13:cont h b13=some [.int .i64 z1,.int .i64 z2,.int .i64 z3]) (so:B4 Γ S (o:Int) told) (sn:B4 Γ S (a:Int) Bh):
  Piece fns orc Γ a e x33 x34 x35 x74 x75 x76 cf6 ts h (Pm Γ S a e q told Bh):=by
 have k' :=k
 obtain ⟨k0,k1,k4,k5,k33,k34,k35,k74,k75,k76⟩:=k
 cases told with
 |none=>
  cases hy
  have d:decide ((-1:Int)<0)=true:=rfl
  refine .inl ⟨.exit 3, ?ts1,h,⟨0,fun m hm=> ?b1⟩,.refl _,.inr rfl, ?kk,.inl rfl⟩
  case b1=>
   exact SX (Bd @TS k0 k1 k4 k5 k33 k34 k35 k74 k75 k76 t11 t12 t13 c12 d)
  case kk=>exact ⟨rfl,rfl,rfl,rfl,rfl,rfl,rfl,rfl,rfl,rfl⟩
 |some p=>
  obtain ⟨vo,lo,po⟩:=p
  cases hy
  have d:decide (((vo:Nat):Int)<0)=false:=dF om
  obtain ⟨hvo,_⟩:=so vo lo po rfl
  have to7:∃n,∀m,n≤m→cG (eval fns orc m) 40 none cf6 ⟨ts,[],.plain,h⟩=cG (eval fns orc m) 40 none cf7 ⟨cfL Γ a e q b12 b13 x33 x34 x35 x74 x75 x76++[(117,.bool false)],[],.plain,h⟩:=⟨0,fun m hm=>by
   exact SX (dI @TS @cfL.eq_1 k0 k1 k4 k5 k33 k34 k35 k74 k75 k76 t11 t12 t13 c12 d)⟩
  have bad:(Bh=none∨∃vn ln pn co uo cn un,Bh=some (vn,ln,pn)∧vn<Γ.n∧(S vo).ch=some (co,uo)∧(S vn).ch=some (cn,un)∧Bf cn co=false)→Piece fns orc Γ a e x33 x34 x35 x74 x75 x76 cf7 (cfL Γ a e q b12 b13 x33 x34 x35 x74 x75 x76++[(117,.bool false)]) h (Pm Γ S a e q (some (vo,lo,po)) Bh):=by
   obtain ⟨m1,x1⟩:=vB H 11 h
   rintro (rfl|⟨vn,ln,pn,co,uo,cn,un,rfl,hvn,hco,hcn,hb⟩)
   ·cases hz
    have d2:decide (0≤(-1:Int))=false:=rfl
    refine .inr ⟨11, ?ts2,h,by omega,⟨m1,fun m hm=> ?b2⟩,.refl _ _⟩
    case b2=>
     have x1' :=x1 m hm
     exact SX (cj5 @NU @cfL.eq_1 c13 d2 x1')
   ·cases hz
    have d2:decide (0≤((vn:Nat):Int))=true:=dT om
    obtain ⟨m2,x2⟩:=N1 H O W T hvn hvo hcn hco
    rw [hb] at x2
    refine .inr ⟨11, ?ts3,h,by omega,⟨m1+m2,fun m hm=> ?b3⟩,.refl _ _⟩
    case b3=>
     have x1' :=x1 m om
     have x2' :=x2 m om
     exact SX (cj7 @NU @cfL.eq_1 c12 c13 d2 x2' x1')
  cases Bh with
  |none=>exact Piece.step (bad (.inl rfl)) (.refl _) id to7
  |some p=>
   obtain ⟨vn,ln,pn⟩:=p
   obtain ⟨hvn,_⟩:=sn vn ln pn rfl
   obtain ⟨⟨co,uo⟩,hco⟩:=Option.ne_none_iff_exists'.1 (K vo)
   obtain ⟨⟨cn,un⟩,hcn⟩:=Option.ne_none_iff_exists'.1 (K vn)
   cases hb:Bf cn co with
   |false=>exact Piece.step (bad (.inr ⟨vn,ln,pn,co,uo,cn,un,rfl,hvn,hco,hcn,hb⟩)) (.refl _) id to7
   |true=>
    cases hz
    have d2:decide (0≤((vn:Nat):Int))=true:=dT om
    obtain ⟨m1,x1⟩:=uZ H 11 h
    obtain ⟨m2,x2⟩:=N1 H O W T hvn hvo hcn hco
    rw [hb] at x2
    refine Piece.step (Piece.step (XB H O K W T ha hcu he hq (ts:=cfL Γ a e q b12 b13 x33 x34 x35 x74 x75 x76) ⟨rfl,rfl,rfl,rfl,rfl,rfl,rfl,rfl,rfl,rfl⟩ rfl rfl rfl c12 c13 hvo so sn hco hcn hb) (.refl _) (fun r=> .inr ⟨vo,lo,po,vn,ln,pn,rfl,rfl,r⟩) ⟨m1+m2,fun m hm=> ?b4⟩) (.refl _) id to7
    case b4=>
     have x1' :=x1 m om
     have x2' :=x2 m om
     exact SX (cj7 @NU @cfL.eq_1 c12 c13 d2 x2' x1')
end
end Go.Ly
namespace Go.Ly
open Go Go.Am Go.Fs Go.Gn
variable {fns:Go.Am.F} {orc:Orc}
def Mm (Γ:Tb) (S:Nat→DY) (a:Nat) (c:List Nat) (s:List UInt8):Prop:=∃q told Bh,(pV Γ s c.dropLast).getLast? =some q∧AP Γ S c q s told∧AP Γ S c (c.length -1) s Bh∧Pm Γ S a (c.length -1) q told Bh
section
variable (H:Has fns orc) {Γ:Tb} (O:Γ.Ok) {S:Nat→DY} (K:Cg S) (W:WF Γ S) {h:aD} (T:TB Γ S h) {a e:Nat} (ha:a<Γ.n) {x33 x34 x35 x74 x75 x76:AV} {c u:List Nat} (hcu:(S a).ch=some (c,u)) (he:c[e]? =some a)
include H O K W T ha hcu he
theorem XD {q o:Nat} (hq:c[q]? =some o) {ts:fN} (k:K10 Γ a e x33 x34 x35 x74 x75 x76 ts) {s:List UInt8} (t9:cH ts 9= .str s) (t11:cH ts 11= .int .i64 (q:Nat))
  {i1 k1' i2 k2' :Nat} {d1 d2:kV} (f1:pN (aU (Γ.D o).pd) s=some (i1,k1')) (g1' :(aU (Γ.D o).pd)[i1]? =some d1) (b1' :(qP d1).length=1∨(wM d1).length=1)
  (f2:pN (aU (Γ.D a).pd) s=some (i2,k2')) (g2' :(aU (Γ.D a).pd)[i2]? =some d2) (b2' :(qP d2).length=1∨(wM d2).length=1):
  Piece fns orc Γ a e x33 x34 x35 x74 x75 x76 cf5 ts h (∃told Bh,AP Γ S c q s told∧AP Γ S c e s Bh∧Pm Γ S a e q told Bh):=by
 obtain ⟨k0,k1,k4,k5,k33,k34,k35,k74,k75,k76⟩:=k
 have ltT:=T.lt
 obtain ⟨hP,hPe⟩:∃x,x=(h.push (.cells [.int .i64 0,.int .i64 0,.int .i64 0])).push (.cells [.int .i64 0,.int .i64 0,.int .i64 0]):=⟨_,rfl⟩
 have gP:aP h hP:=by rw [hPe];exact gw2
 have nP:hP.next=h.next+2:=by rw [hPe];simp
 have z3:allEq (Me CY) [.int .i64 0,.int .i64 0,.int .i64 0] [.int .i64 0,.int .i64 0,.int .i64 0]=true:=rfl
 have p12:hP.get h.next=some (.cells [.int .i64 0,.int .i64 0,.int .i64 0]):=by rw [hPe,aV _ _ _ (by simp)];exact aT _ _ _ om om
 have p13:hP.get (h.next+1)=some (.cells [.int .i64 0,.int .i64 0,.int .i64 0]):=by rw [hPe];exact aT _ _ _ (by simp) (by simp)
 have TP:=T.grow gP
 obtain ⟨cc,tkc,vuc,ccP,y15,_⟩:=uQ O TP ha hcu
 have ec:=vH tkc c
 rcases N2 H O K W TP ha hcu (vc:= .sl tkc (ints c)) (.sl _ _) hq f1 g1' b1' with ⟨_,h1,⟨m1,x1⟩,g1,told,rfl,br1,st1⟩|⟨er,h1,hpe,⟨m1,x1⟩,ch1⟩
 case inr=>
  refine .inr ⟨er, ?ts1,h1,hpe,⟨m1,fun m hm=> ?b1⟩,Be gP ch1⟩
  case b1=>
   have x1' :=x1 m hm
   exact SX (dI @NV k0 k1 k4 k5 k33 k34 k35 k74 k75 k76 t9 t11 (Eq.symm hPe) nP p12 (cj9 p13 z3 @iV.eq_1 @iV.eq_2 ccP y15 ec x1' @qG))
 have T1:=TP.grow g1
 have n1:=g1.next
 have c1:=(aF g1 (aO ccP)).trans ccP
 have q12:=(g1.get _ (by omega:h.next<hP.next)).trans p12
 have q13:=(g1.get _ (by omega:h.next+1<hP.next)).trans p13
 rcases N2 H O K W T1 ha hcu (vc:= .sl tkc (ints c)) (.sl _ _) he f2 g2' b2' with ⟨_,h2,⟨m2,x2⟩,g2,Bh,rfl,br2,st2⟩|⟨er,h2,hpe,⟨m2,x2⟩,ch2⟩
 case inr=>
  refine .inr ⟨er, ?ts2,h2,hpe,⟨m1+m2,fun m hm=> ?b2⟩,Be (gP.trans g1) ch2⟩
  case b2=>
   have x1' :=x1 m om
   have x2' :=x2 m om
   exact SX (dI @NV k0 k1 k4 k5 k33 k34 k35 k74 k75 k76 t9 t11 (Eq.symm hPe) nP p12 (wK p13 q12 q13 z3 @iV.eq_1 @iV.eq_2 ccP y15 ec x1' c1 x2' @qG))
 have n2:=g2.next
 have r12:=(g2.get _ om).trans q12
 have r13:=(g2.get _ om).trans q13
 obtain ⟨y1,y2,y3,hy⟩:=Bi told
 obtain ⟨z1,z2,z3',hz⟩:=Bi Bh
 have r12c:=AY r12
 obtain ⟨h3,h3e⟩:∃x,x=h2.set h.next (.cells [.int .i64 y1,.int .i64 y2,.int .i64 y3]):=⟨_,rfl⟩
 have n3:h3.next=h2.next:=by rw [h3e];simp
 have s12:cont h3 h.next=some [.int .i64 y1,.int .i64 y2,.int .i64 y3]:=by rw [h3e];exact aG om
 have s13:cont h3 (h.next+1)=some [.int .i64 0,.int .i64 0,.int .i64 0]:=by rw [h3e];exact (aK om om).trans (AY r13)
 obtain ⟨h4,h4e⟩:∃x,x=h3.set (h.next+1) (.cells [.int .i64 z1,.int .i64 z2,.int .i64 z3']):=⟨_,rfl⟩
 have w12:cont h4 h.next=some [.int .i64 y1,.int .i64 y2,.int .i64 y3]:=by rw [h4e];exact (aK om om).trans s12
 have w13:cont h4 (h.next+1)=some [.int .i64 z1,.int .i64 z2,.int .i64 z3']:=by rw [h4e];exact aG om
 have g4:aP h h4:=by rw [h4e,h3e];exact (((gP.trans g1).trans g2).set om om _).set om (by simp;omega) _
 refine Piece.step (XC H O K W (T.grow g4) ha hcu he hq (ts:=cfL Γ a e q h.next (h.next+1) x33 x34 x35 x74 x75 x76) ⟨rfl,rfl,rfl,rfl,rfl,rfl,rfl,rfl,rfl,rfl⟩ rfl rfl rfl hy hz w12 w13 st1 st2) g4 (fun r=>⟨told,Bh,br1,br2,r⟩) ⟨m1+m2,fun m hm=> ?b3⟩
 case b3=>
  have x1' :=x1 m om
  have x2' :=x2 m om
  rw [hy] at x1'
  rw [hz] at x2'
  exact SX (dI @NV @cfL.eq_1 k0 k1 k4 k5 k33 k34 k35 k74 k75 k76 t9 t11 (Eq.symm hPe) nP (dI p12 p13 q12 q13 r12 r13 r12c z3 @iV.eq_1 @iV.eq_2 ccP y15 ec x1' c1 x2' (cj4 (Eq.symm h3e) s13 (Eq.symm h4e) @qG)))
theorem Xw (hel:e=c.length -1) {ts:fN} (k:K10 Γ a e x33 x34 x35 x74 x75 x76 ts) {s:List UInt8} {j:Nat} {XR:List AV} (t74:iP x74 XR) (hj:XR[j]? =some (.str s)) (t76:x76= .int .i64 (j:Nat))
  {i2 k2' :Nat} {d2:kV} (f2:pN (aU (Γ.D a).pd) s=some (i2,k2')) (g2' :(aU (Γ.D a).pd)[i2]? =some d2) (b2' :(qP d2).length=1∨(wM d2).length=1):
  Piece fns orc Γ a e x33 x34 x35 x74 x75 x76 cfY ts h (Mm Γ S a c s):=by
 obtain ⟨k0,k1,k4,k5,k33,k34,k35,k74,k75,k76⟩:=k
 have F:=W a ha c u hcu
 obtain ⟨c0,hc0,_⟩:=W.last ha hcu
 have hcl:0<c.length:=by rw [hc0];simp
 have hcn:∀d∈c,d<Γ.n:=fun d hd=>by
  obtain ⟨q,hq⟩:=tX hd
  exact (W.part c.length a c u (Nat.le_refl _) ha hcu q d hq).1
 obtain ⟨cc,tkc,vuc,ccP,y15,_⟩:=uQ O T ha hcu
 obtain ⟨tk',dl⟩:=Ff hcl tkc
 rw [show ((c.length:Int) -1)=((e:Nat):Int) by omega] at dl
 have ia:=oX t74 hj rfl
 obtain ⟨h1,vL,g1,⟨m1,x1⟩,rl⟩:=CE H O (S:=S) s (.sl tk' (ints c.dropLast)) (fun d hd=>hcn d (List.dropLast_subset c hd)) (by have:=F.max;simp;omega) T
 have ll:∀hp,nJ hp .sl vL= .ok (pV Γ s c.dropLast).length:=fun hp=>by rw [bO rl hp,mQ]
 by_cases cl:pV Γ s c.dropLast=[]
 ·have dl0:decide ((0:Int)<(((pV Γ s c.dropLast).length:Nat):Int))=false:=dF (by rw [cl];simp)
  obtain ⟨m2,x2⟩:=vB H 11 h1
  refine .inr ⟨11, ?ts1,h1,by omega,⟨m1+m2,fun m hm=> ?b1⟩,fV g1⟩
  case b1=>
   have x1' :=x1 m om
   have x2' :=x2 m om
   exact SX (dI @TO t76 k0 k1 k4 k5 k33 k34 k35 k74 k75 k76 ia ccP y15 dl (cj4 x1' ll dl0 x2'))
 have pl:0<(pV Γ s c.dropLast).length:=List.length_pos_iff.2 cl
 have dl0:decide ((0:Int)<(((pV Γ s c.dropLast).length:Nat):Int))=true:=dT om
 obtain ⟨m2,x2⟩:=uZ H 11 h1
 obtain ⟨q,hq⟩:∃q,(pV Γ s c.dropLast).getLast? =some q:=⟨_,List.getLast?_eq_some_getLast cl⟩
 have hq' :(pV Γ s c.dropLast)[(pV Γ s c.dropLast).length -1]? =some q:=by rw [←List.getLast?_eq_getElem?];exact hq
 obtain ⟨o,i',kk,x,g1',gf,gx,gk⟩:=Fk (List.mem_of_getElem? hq')
 have hco:c[q]? =some o:=by
  rw [List.getElem?_dropLast] at g1'
  split at g1'
  ·exact g1'
  ·cases g1'
 have hon:=hcn o (List.mem_of_getElem? hco)
 have llb:(pV Γ s c.dropLast).length<10000000:=by
  have:=xY (Γ:=Γ) (s:=s) c.dropLast 0 []
  have:=F.max
  simp only [pV]
  simp at*
  omega
 have w2:IntKind.wrap .i64 ((((pV Γ s c.dropLast).length:Nat):Int) -1)=(((pV Γ s c.dropLast).length -1:Nat):Int):=by rw [pE om om];omega
 have iq:=rN rl hq'
 refine Piece.step (XD H O K W (T.grow g1) ha hcu he hco (ts:=[(0,.ptr Γ.tb 0),(1,.int .i64 (a:Nat)),(4,.ptr (Γ.loc a) 0),(5,.int .i64 (e:Nat)),(9,.str s),(11,.int .i64 (q:Nat)),(33,x33),(34,x34),(35,x35),(74,x74),(75,x75),(76,x76)]) ⟨rfl,rfl,rfl,rfl,rfl,rfl,rfl,rfl,rfl,rfl⟩ rfl rfl gf gx (EE (O.ok o hon) (List.mem_of_getElem? gx) gk) f2 g2' b2') g1 ?_ ⟨m1+m2,fun m hm=> ?b2⟩
 ·rintro ⟨told,Bh,r1,r2,r3⟩
  subst hel
  exact ⟨q,told,Bh,hq,r1,r2,r3⟩
 case b2=>
  have x1' :=x1 m om
  have x2' :=x2 m om
  exact SX (dI @TO t76 k0 k1 k4 k5 k33 k34 k35 k74 k75 k76 ia ccP y15 dl (cj6 x1' ll dl0 x2' w2 iq))
end
end Go.Ly
namespace Go.Ly
open Go Go.Am Go.Fs Go.Gn
variable {fns:Go.Am.F} {orc:Orc}
def PC (fns:Go.Am.F) (orc:Orc) (Γ:Tb) (f:FuncId) (c:AC) (ts:fN) (h:aD) (R:Am.Exit→fN→Prop):Prop:=
 (∃x ts' h',(∃n,∀m,n≤m→cG (eval fns orc m) f none c ⟨ts,[],.plain,h⟩= .ok (.code x ⟨ts',[],.plain,h'⟩))∧aP h h' ∧R x ts')∨
 (∃er ts' h',0<er∧(∃n,∀m,n≤m→cG (eval fns orc m) f none c ⟨ts,[],.plain,h⟩= .ok (.code (.panic (irr er)) ⟨ts',[],.plain,h'⟩))∧Chg (pJ Γ) h h')
theorem PC.step {Γ:Tb} {f:FuncId} {c c' :AC} {ts ts' :fN} {h h' :aD} {R R' :Am.Exit→fN→Prop} (p:PC fns orc Γ f c' ts' h' R') (g:aP h h') (q:∀x t,R' x t→R x t)
  (e1:∃n,∀m,n≤m→cG (eval fns orc m) f none c ⟨ts,[],.plain,h⟩=cG (eval fns orc m) f none c' ⟨ts',[],.plain,h'⟩):PC fns orc Γ f c ts h R:=by
 obtain ⟨n1,e1⟩:=e1
 rcases p with ⟨x,t2,h2,⟨n2,e2⟩,g2,hq⟩|⟨er,t2,h2,he,⟨n2,e2⟩,ch⟩
 ·exact .inl ⟨x,t2,h2,⟨n1+n2,fun m hm=>(e1 m om).trans (e2 m om)⟩,g.trans g2,q _ _ hq⟩
 ·exact .inr ⟨er,t2,h2,he,⟨n1+n2,fun m hm=>(e1 m om).trans (e2 m om)⟩,Be g ch⟩
theorem PC.again {Γ:Tb} {f:FuncId} {c C:AC} {ts ts' :fN} {h h' :aD} {R R' :Am.Exit→fN→Prop} (p:PC fns orc Γ f (.loop c) ts' h' R') (g:aP h h') (q:∀x t,R' x t→R x t)
  (e1:∃n,∀m,n≤m→cG (eval fns orc m) f none C ⟨ts,[],.plain,h⟩=eval fns orc m (.code f none (.loop c) ⟨ts',[],.plain,h'⟩)):PC fns orc Γ f C ts h R:=by
 obtain ⟨n1,e1⟩:=e1
 have lift:∀{r:Ans},(∃n,∀m,n≤m→cG (eval fns orc m) f none (.loop c) ⟨ts',[],.plain,h'⟩= .ok r)→∃n,∀m,n≤m→cG (eval fns orc m) f none C ⟨ts,[],.plain,h⟩= .ok r:=by
  rintro r ⟨n2,e2⟩
  refine ⟨n1+n2+1,fun m hm=> ?_⟩
  rw [e1 m om]
  obtain ⟨k,rfl⟩:∃k,m=k+1:=⟨m -1,by omega⟩
  exact e2 k om
 rcases p with ⟨x,t2,h2,e2,g2,hq⟩|⟨er,t2,h2,he,e2,ch⟩
 ·exact .inl ⟨x,t2,h2,lift e2,g.trans g2,q _ _ hq⟩
 ·exact .inr ⟨er,t2,h2,he,lift e2,Be g ch⟩
def cfN:AC:=p40x111001100111100
def cfX:AC:=p40x111001100
def Xy:AC:=p40x11100110011
def Xx:AC:=p40x111001100111
theorem NR:cfN= .seq p40x1110011001111000 (.seq p40x11100110011110010 (.seq (.block 3 cfY) p40x111001100111100111)):=rfl
theorem JP:cfX= .seq p40x1110011000 (.seq p40x11100110010 Xy):=rfl
theorem Gd:Xy= .seq p40x111001100110 Xx:=rfl
def cfT (Γ:Tb) (a e:Nat) (x33 x34 x35 x74:AV) (len j:Nat):fN:=[(0,.ptr Γ.tb 0),(1,.int .i64 (a:Nat)),(4,.ptr (Γ.loc a) 0),(5,.int .i64 (e:Nat)),(33,x33),(34,x34),(35,x35),(74,x74),(75,.int .i64 (len:Nat)),(76,.int .i64 (j:Nat))]
structure K7 (Γ:Tb) (a e:Nat) (x33 x34 x35:AV) (ts:fN):Prop where
 k0:cH ts 0= .ptr Γ.tb 0
 k1:cH ts 1= .int .i64 (a:Nat)
 k4:cH ts 4= .ptr (Γ.loc a) 0
 k5:cH ts 5= .int .i64 (e:Nat)
 k33:cH ts 33=x33
 k34:cH ts 34=x34
 k35:cH ts 35=x35
def Mn (Γ:Tb) (S:Nat→DY) (a:Nat) (c:List Nat) (x:kV):Prop:=
 (iR x=2→(wM x).length=1→∃e t,(wM x)[0]? =some e∧CH Γ S (a:Int) e t)∧
 (xX (iR x)=true→¬((qP x).length=1∧∃d,(qP x)[0]? =some d∧(BT d).length=0)→∀s∈fR x,Mm Γ S a c s)
section
variable (H:Has fns orc) {Γ:Tb} (O:Γ.Ok) {S:Nat→DY} (K:Cg S) (W:WF Γ S) {a e:Nat} (ha:a<Γ.n) {c u:List Nat} (hcu:(S a).ch=some (c,u)) (he:c[e]? =some a) (hel:e=c.length -1) (hD:uT Γ a c.dropLast)
 {i:Nat} {x:kV} (hi:(aU (Γ.D a).pd)[i]? =some x)
include H O K W ha hcu he hel hD hi
theorem Xz (hbk:xX (iR x)=true) {x33 x34 x35 vn:AV} (hvn:iP vn ((fR x).map AV.str)):∀(k j:Nat) (h:aD),j+k=(fR x).length→TB Γ S h→∀ts,K7 Γ a e x33 x34 x35 ts→cH ts 74=vn→cH ts 75= .int .i64 ((fR x).length:Nat)→cH ts 76= .int .i64 (j:Nat)→
  PC fns orc Γ 40 (.loop cfN) ts h fun y t=>y= .exit 2∧K7 Γ a e x33 x34 x35 t∧∀q s,j≤q→(fR x)[q]? =some s→Mm Γ S a c s:=by
 have hnn:=(qB (O.ok a ha)).2 x (List.mem_of_getElem? hi)
 intro k
 induction k with
 |zero=>
  rintro j h hj T ts ⟨k0,k1,k4,k5,k33,k34,k35⟩ t74 t75 t76
  have d:decide ((j:Int)<(((fR x).length:Nat):Int))=false:=dF om
  refine .inl ⟨.exit 2, ?ts0,h,⟨0,fun m _=> ?b0⟩,.refl _,rfl, ?kk,fun q s h1 h2=>by have:=(List.getElem?_eq_some_iff.1 h2).1;omega⟩
  case b0=>
   rw [aI]
   exact SX (qC @NR k0 k1 k4 k5 k33 k34 k35 t74 t75 t76 d)
  case kk=>exact ⟨rfl,rfl,rfl,rfl,rfl,rfl,rfl⟩
 |succ k ih=>
  rintro j h hj T ts ⟨k0,k1,k4,k5,k33,k34,k35⟩ t74 t75 t76
  have hlt:j<(fR x).length:=om
  have d:decide ((j:Int)<(((fR x).length:Nat):Int))=true:=dT om
  obtain ⟨s,hs⟩:∃s,(fR x)[j]? =some s:=⟨_,List.getElem?_eq_getElem hlt⟩
  have w:IntKind.wrap .i64 ((j:Int)+1)=((j+1:Nat):Int):=sH hlt om
  have dok:=hD i x j s hi hs
  have hb2:=EE (O.ok a ha) (List.mem_of_getElem? hi) (by have:=of_decide_eq_true hbk;omega)
  rcases Xw H O K W T ha hcu he hel (ts:=cfT Γ a e x33 x34 x35 vn (fR x).length j++[(77,.bool true)]) (x33:=x33) (x34:=x34) (x35:=x35) (x74:=vn) (x75:= .int .i64 ((fR x).length:Nat)) (x76:= .int .i64 (j:Nat)) ⟨rfl,rfl,rfl,rfl,rfl,rfl,rfl,rfl,rfl,rfl⟩ (s:=s) (j:=j) hvn (by simp [hs]) rfl dok.1 hi hb2 with ⟨y,t1,h1,⟨n1,e1⟩,g1,hy,⟨q0,q1,q4,q5,q33,q34,q35,q74,q75,q76⟩,cn⟩|⟨er,t1,h1,hpe,⟨n1,e1⟩,ch1⟩
  ·have step:∃n,∀m,n≤m→cG (eval fns orc m) 40 none (.loop cfN) ⟨ts,[],.plain,h⟩=eval fns orc m (.code 40 none (.loop cfN) ⟨cfT Γ a e x33 x34 x35 vn (fR x).length (j+1),[],.plain,h1⟩):=by
    refine ⟨n1,fun m hm=> ?_⟩
    have e1' :=e1 m hm
    simp only [cfT,List.cons_append,List.nil_append] at e1'
    rw [aI]
    rcases hy with rfl|rfl<;>exact SX (dI @NR @cfT.eq_1 k0 k1 k4 k5 k33 k34 k35 t74 t75 t76 d e1' q0 q1 (cj9 q4 q5 q33 q34 q35 q74 q75 q76 w))
   have R:=ih (j+1) h1 om (T.grow g1) (cfT Γ a e x33 x34 x35 vn (fR x).length (j+1)) ⟨rfl,rfl,rfl,rfl,rfl,rfl,rfl⟩ rfl rfl rfl
   refine PC.again R g1 ?_ step
   rintro y t ⟨r1,r2,r3⟩
   refine ⟨r1,r2,fun q s' hq hs' => ?_⟩
   by_cases e:q=j
   ·subst e
    rw [hs] at hs'
    cases hs'
    exact cn
   ·exact r3 q s' om hs'
  ·refine .inr ⟨er, ?ts2,h1,hpe,⟨n1,fun m hm=> ?b2⟩,ch1⟩
   case b2=>
    have e1' :=e1 m hm
    simp only [cfT,List.cons_append,List.nil_append] at e1'
    rw [aI]
    exact SX (zZ @NR @cfT.eq_1 k0 k1 k4 k5 k33 k34 k35 t74 t75 t76 d e1')
end
end Go.Ly
namespace Go.Ly
open Go Go.Am Go.Fs Go.Gn
variable {fns:Go.Am.F} {orc:Orc}
theorem O9:Xx= .seq p40x1110011001110 (.block 2 (.loop cfN)):=rfl
def cfD:AC:=p40x11100
theorem NS:cfD= .seq p40x111000 (.seq p40x1110010 (.seq (.block 1 cfX) p40x11100111)):=rfl
theorem O8:a40.body= .seq p40x0 (.seq p40x10 (.seq p40x110 (.block 0 (.loop cfD)))):=rfl
theorem TN:a40.results=[]:=rfl
section
variable (H:Has fns orc) {Γ:Tb} (O:Γ.Ok) {S:Nat→DY} (K:Cg S) (W:WF Γ S) {a e:Nat} (ha:a<Γ.n) {c u:List Nat} (hcu:(S a).ch=some (c,u)) (he:c[e]? =some a) (hel:e=c.length -1) (hD:uT Γ a c.dropLast)
include H O K W ha hcu he hel hD
theorem Pa {i:Nat} {x:kV} (hi:(aU (Γ.D a).pd)[i]? =some x) {x33 x34 x35 vn vs vp vy:AV} (hvn:iP vn ((fR x).map AV.str)) (ry:RVs ((qP x).map Part.desc) vy) {h:aD} (T:TB Γ S h) {ts:fN} (k:K7 Γ a e x33 x34 x35 ts) {b7:Nat} (t7:cH ts 7= .ptr b7 0) (c7:cont h b7=some [.int .i64 (iR x),vn,vs,vp,vy]):
  PC fns orc Γ 40 Xy ts h fun y t=>(y= .normal∨y= .exit 1)∧K7 Γ a e x33 x34 x35 t∧(xX (iR x)=true→¬((qP x).length=1∧∃d,(qP x)[0]? =some d∧(BT d).length=0)→∀s∈fR x,Mm Γ S a c s):=by
 obtain ⟨k0,k1,k4,k5,k33,k34,k35⟩:=k
 obtain ⟨h1,g1,e1⟩:=Mb (k:=iR x) (vn:=vn) (vs:=vs) (vp:=vp) (vy:=vy) H h
 have d7:=(aF g1 (aO c7)).trans c7
 have ly:∀hp,nJ hp .sl vy= .ok (qP x).length:=fun hp=>by have:=ry.len hp;simpa using this
 have ln:∀hp,nJ hp .sl vn= .ok (fR x).length:=fun hp=>by rw [bO hvn hp,List.length_map]
 cases hbk:xX (iR x) with
 |false=>
  rw [hbk] at e1
  refine .inl ⟨.exit 1, ?ts0,h1,⟨2,fun m hm=> ?b0⟩,g1,.inr rfl, ?kk0,fun w=>by cases w⟩
  case b0=>
   have e1' :=e1 m hm
   exact SX (sC @Gd k0 k1 k4 k5 k33 k34 k35 t7 c7 e1')
  case kk0=>exact ⟨rfl,rfl,rfl,rfl,rfl,rfl,rfl⟩
 |true=>
  rw [hbk] at e1
  have names:∀ts',K7 Γ a e x33 x34 x35 ts' →cH ts' 7= .ptr b7 0→PC fns orc Γ 40 Xx ts' h1 fun y t=>(y= .normal∨y= .exit 1)∧K7 Γ a e x33 x34 x35 t∧∀s∈fR x,Mm Γ S a c s:=by
   rintro ts' ⟨k0,k1,k4,k5,k33,k34,k35⟩ t7
   rcases Xz H O K W ha hcu he hel hD hi hbk hvn (x33:=x33) (x34:=x34) (x35:=x35) (fR x).length 0 h1 om (T.grow g1) (cfT Γ a e x33 x34 x35 vn (fR x).length 0) ⟨rfl,rfl,rfl,rfl,rfl,rfl,rfl⟩ rfl rfl rfl with ⟨_,t2,h2,⟨n2,e2⟩,g2,rfl,kt,cn⟩|⟨er,t2,h2,hpe,⟨n2,e2⟩,ch2⟩
   ·refine .inl ⟨.normal,t2,h2,⟨n2,fun m hm=> ?b1⟩,g2,.inl rfl,kt,fun s hs=> ?q1⟩
    case q1=>
     obtain ⟨q,hq⟩:=tX hs
     exact cn q s (Nat.zero_le _) hq
    case b1=>
     have e2' :=e2 m hm
     simp only [cfT,Int.ofNat_zero] at e2'
     exact SX (qC @O9 k0 k1 k4 k5 k33 k34 k35 t7 d7 ln e2')
   ·refine .inr ⟨er,t2,h2,hpe,⟨n2,fun m hm=> ?b2⟩,ch2⟩
    case b2=>
     have e2' :=e2 m hm
     simp only [cfT,Int.ofNat_zero] at e2'
     exact SX (qC @O9 k0 k1 k4 k5 k33 k34 k35 t7 d7 ln e2')
  by_cases c1:(qP x).length=1
  case neg=>
   have dd:decide ((((qP x).length:Nat):Int)=1)=false:=dF om
   refine PC.step (names ([(0,.ptr Γ.tb 0),(1,.int .i64 (a:Nat)),(4,.ptr (Γ.loc a) 0),(5,.int .i64 (e:Nat)),(7,.ptr b7 0),(33,x33),(34,x34),(35,x35),(72,.bool false)]) ⟨rfl,rfl,rfl,rfl,rfl,rfl,rfl⟩ rfl) g1 (fun y t r=>⟨r.1,r.2.1,fun _ _=>r.2.2⟩) ⟨2,fun m hm=> ?b3⟩
   case b3=>
    have e1' :=e1 m hm
    exact SX (zZ @Gd k0 k1 k4 k5 k33 k34 k35 t7 c7 d7 e1' ly dd)
  have dd:decide ((((qP x).length:Nat):Int)=1)=true:=dT om
  obtain ⟨d0,hd0⟩:=List.length_eq_one_iff.1 c1
  rw [hd0] at ry
  obtain ⟨ys,hys,hyl,hyg⟩:=jZ ry
  obtain ⟨cd,hcd,rvd⟩:=hyg 0 (by simp)
  have icd:pT 7 vy (.int .i64 0)= .ok (.ep cd 0):=kT (i:=0) hys hcd (kW rvd)
  simp only [List.map_cons,List.map_nil,List.getElem_cons_zero] at rvd
  obtain ⟨Us,np,rp⟩:∃Us,nth cd 1=some Us∧RVs ((BT d0).map Part.exp) Us:=by
   cases d0 with|mk s p dl e b i x=>
   cases rvd with|desc r1 r2 r3 r4 r5=>exact ⟨_,rfl,r1⟩
  have Yg:∀hp,nJ hp .sl Us= .ok (BT d0).length:=fun hp=>by have:=rp.len hp;simpa using this
  by_cases c2:(BT d0).length=0
  ·have d2:decide ((((BT d0).length:Nat):Int)=0)=true:=dT om
   refine .inl ⟨.exit 1, ?ts4,h1,⟨2,fun m hm=> ?b4⟩,g1,.inr rfl, ?kk4,fun _ w=>absurd ⟨c1,d0,by rw [hd0];rfl,c2⟩ w⟩
   case b4=>
    have e1' :=e1 m hm
    exact SX (dI @Gd k0 k1 k4 k5 k33 k34 k35 t7 c7 d7 e1' ly dd icd np (cj2 Yg d2))
   case kk4=>exact ⟨rfl,rfl,rfl,rfl,rfl,rfl,rfl⟩
  ·have d2:decide ((((BT d0).length:Nat):Int)=0)=false:=dF om
   refine PC.step (names ([(0,.ptr Γ.tb 0),(1,.int .i64 (a:Nat)),(4,.ptr (Γ.loc a) 0),(5,.int .i64 (e:Nat)),(7,.ptr b7 0),(33,x33),(34,x34),(35,x35),(72,.bool false)]) ⟨rfl,rfl,rfl,rfl,rfl,rfl,rfl⟩ rfl) g1 (fun y t r=>⟨r.1,r.2.1,fun _ _=>r.2.2⟩) ⟨2,fun m hm=> ?b5⟩
   case b5=>
    have e1' :=e1 m hm
    exact SX (dI @Gd k0 k1 k4 k5 k33 k34 k35 t7 c7 d7 e1' ly dd icd np (cj2 Yg d2))
theorem XA {vd:AV} {xs:List AV} (hvd:iP vd xs) (hxl:xs.length=(aU (Γ.D a).pd).length) (hg:∀i (hi:i<(aU (Γ.D a).pd).length),∃c,xs[i]? =some (.agg c)∧RV (.decl (aU (Γ.D a).pd)[i]) (.agg c)):
  ∀(k i:Nat) (h:aD),i+k=(aU (Γ.D a).pd).length→TB Γ S h→∀ts,K7 Γ a e vd (.int .i64 ((aU (Γ.D a).pd).length:Nat)) (.int .i64 (i:Nat)) ts→
   PC fns orc Γ 40 (.loop cfD) ts h fun y _=>y= .exit 0∧∀(i' :Nat) x,i≤i' →(aU (Γ.D a).pd)[i']? =some x→Mn Γ S a c x:=by
 have hbd:=(qB (O.ok a ha)).1
 have hO:=O.lt
 intro k
 induction k with
 |zero=>
  rintro i h hi T ts ⟨k0,k1,k4,k5,k33,k34,k35⟩
  have d:decide ((i:Int)<(((aU (Γ.D a).pd).length:Nat):Int))=false:=dF om
  refine .inl ⟨.exit 0, ?ts,h,⟨0,fun m _=> ?b0⟩,.refl _,rfl,fun i' x h1 h2=>by have:=(List.getElem?_eq_some_iff.1 h2).1;omega⟩
  case b0=>
   rw [aI]
   exact SX (cj9 @NS k0 k1 k4 k5 k33 k34 k35 d)
 |succ k ih=>
  rintro i h hi T ts ⟨k0,k1,k4,k5,k33,k34,k35⟩
  have hlt:i<(aU (Γ.D a).pd).length:=om
  have d:decide ((i:Int)<(((aU (Γ.D a).pd).length:Nat):Int))=true:=dT om
  have w:IntKind.wrap .i64 ((i:Int)+1)=((i+1:Nat):Int):=sH hlt om
  obtain ⟨cc,hcc,rv⟩:=hg i hlt
  have hcl:=pG rv
  have hck:=uG rv
  have hia:=kT hvd hcc hcl
  have p5:takeN 5 cc=some cc:=by rw [←hcl];exact aW cc
  have hst:=mW h (sz:=5) (z:=kF) rfl hcl hck
  obtain ⟨hA,hAe⟩:∃x,x=(h.push (.cells kF)).set h.next (.cells cc):=⟨_,rfl⟩
  rw [←hAe] at hst
  simp only [kF] at hst
  have gA:aP h hA:=by rw [hAe];exact gw2
  have cA:cont hA h.next=some cc:=by rw [hAe];exact aG (by simp)
  obtain ⟨x,hx0⟩:∃x,(aU (Γ.D a).pd)[i]? =some x:=⟨_,List.getElem?_eq_getElem hlt⟩
  have hxe:(aU (Γ.D a).pd)[i]=x:=by rw [List.getElem?_eq_getElem hlt] at hx0;exact Option.some.inj hx0
  rw [hxe] at rv
  obtain ⟨vn,vs,vp,vy,hcv,r0,rp,ry⟩:∃vn vs vp vy,cc=[.int .i64 (iR x),vn,vs,vp,vy]∧iP vn ((fR x).map AV.str)∧RVs ((wM x).map Part.exp) vp∧RVs ((qP x).map Part.desc) vy:=by
   cases x with|mk k n s p y=>
   cases rv with|decl r0 r1 r2 r3=>
   exact ⟨_,_,_,_,rfl,r0,r2,r3⟩
  rw [hcv] at cA
  have lp:∀hp,nJ hp .sl vp= .ok (wM x).length:=fun hp=>by have:=rp.len hp;simpa using this
  have one:PC fns orc Γ 40 cfX ([(0,.ptr Γ.tb 0),(1,.int .i64 (a:Nat)),(4,.ptr (Γ.loc a) 0),(5,.int .i64 (e:Nat)),(33,vd),(34,.int .i64 ((aU (Γ.D a).pd).length:Nat)),(35,.int .i64 (i:Nat)),(36,.bool true)]) h fun y t=>(y= .normal∨y= .exit 1)∧K7 Γ a e vd (.int .i64 ((aU (Γ.D a).pd).length:Nat)) (.int .i64 (i:Nat)) t∧Mn Γ S a c x:=by
   have skip:¬(iR x=2∧(wM x).length=1)→PC fns orc Γ 40 cfX ([(0,.ptr Γ.tb 0),(1,.int .i64 (a:Nat)),(4,.ptr (Γ.loc a) 0),(5,.int .i64 (e:Nat)),(33,vd),(34,.int .i64 ((aU (Γ.D a).pd).length:Nat)),(35,.int .i64 (i:Nat)),(36,.bool true)]) h fun y t=>(y= .normal∨y= .exit 1)∧K7 Γ a e vd (.int .i64 ((aU (Γ.D a).pd).length:Nat)) (.int .i64 (i:Nat)) t∧Mn Γ S a c x:=by
    intro cn
    refine PC.step (Pa H O K W ha hcu he hel hD hx0 r0 ry (T.grow gA) (ts:=[(0,.ptr Γ.tb 0),(1,.int .i64 (a:Nat)),(4,.ptr (Γ.loc a) 0),(5,.int .i64 (e:Nat)),(7,.ptr h.next 0),(33,vd),(34,.int .i64 ((aU (Γ.D a).pd).length:Nat)),(35,.int .i64 (i:Nat)),(47,.bool false)]) ⟨rfl,rfl,rfl,rfl,rfl,rfl,rfl⟩ rfl cA) gA (fun y t r=>⟨r.1,r.2.1,fun w1 w2=>absurd ⟨w1,w2⟩ cn,r.2.2⟩) ⟨0,fun m hm=> ?b1⟩
    case b1=>
     by_cases c2:iR x=2
     ·have d2:=dT c2
      have dp:decide ((((wM x).length:Nat):Int)=1)=false:=dF (fun q=>cn ⟨c2,by omega⟩)
      exact SV (cj9 @JP hia @ldS p5 hst cA d2 lp dp)
     ·have d2:=dF c2
      exact SV (cj7 @JP hia @ldS p5 hst cA d2)
   by_cases c2:iR x=2∧(wM x).length=1
   case neg=>exact skip c2
   obtain ⟨c2,cp⟩:=c2
   have d2:=dT c2
   have dp:decide ((((wM x).length:Nat):Int)=1)=true:=dT om
   obtain ⟨e0,he0⟩:=List.length_eq_one_iff.1 cp
   rw [he0] at rp
   obtain ⟨ys,hys,hyl,hyg⟩:=jZ rp
   obtain ⟨ce,hce,rve⟩:=hyg 0 (by simp)
   have ipe:pT 8 vp (.int .i64 0)= .ok (.ep ce 0):=kT (i:=0) hys hce (pW rve)
   have p8:takeN 8 ce=some ce:=by rw [←pW rve];exact aW ce
   rcases WH H O K W (T.grow gA) (a:=(a:Int)) ⟨by omega,by omega⟩ rve with ⟨_,h1,⟨m1,x1⟩,g1,t,rfl,mr,st⟩|⟨er,h1,hpe,⟨m1,x1⟩,ch1⟩
   ·refine PC.step (Pa H O K W ha hcu he hel hD hx0 r0 ry ((T.grow gA).grow g1) (ts:=[(0,.ptr Γ.tb 0),(1,.int .i64 (a:Nat)),(4,.ptr (Γ.loc a) 0),(5,.int .i64 (e:Nat)),(7,.ptr h.next 0),(33,vd),(34,.int .i64 ((aU (Γ.D a).pd).length:Nat)),(35,.int .i64 (i:Nat))]) ⟨rfl,rfl,rfl,rfl,rfl,rfl,rfl⟩ rfl ((aF g1 (aO cA)).trans cA)) (gA.trans g1) (fun y t' r=>⟨r.1,r.2.1,fun _ _=>⟨e0,t,by rw [he0];rfl,mr⟩,r.2.2⟩) ⟨m1,fun m hm=> ?b2⟩
    case b2=>
     have x1' :=x1 m hm
     exact SV (qC @JP hia @ldS p5 hst cA d2 lp dp ipe p8 x1')
   ·refine .inr ⟨er, ?ts3,h1,hpe,⟨m1,fun m hm=> ?b3⟩,Be gA ch1⟩
    case b3=>
     have x1' :=x1 m hm
     exact SV (qC @JP hia @ldS p5 hst cA d2 lp dp ipe p8 x1')
  rcases one with ⟨y,t1,h1,⟨n1,e1⟩,g1,hy,⟨q0,q1,q4,q5,q33,q34,q35⟩,cd⟩|⟨er,t1,h1,hpe,⟨n1,e1⟩,ch1⟩
  ·refine PC.again (ih (i+1) h1 om (T.grow g1) [(0,.ptr Γ.tb 0),(1,.int .i64 (a:Nat)),(4,.ptr (Γ.loc a) 0),(5,.int .i64 (e:Nat)),(33,vd),(34,.int .i64 ((aU (Γ.D a).pd).length:Nat)),(35,.int .i64 ((i+1:Nat):Int))] ⟨rfl,rfl,rfl,rfl,rfl,rfl,rfl⟩) g1 ?_ ⟨n1,fun m hm=> ?b4⟩
   ·rintro y t ⟨r1,r2⟩
    refine ⟨r1,fun i' x' hq hx' => ?_⟩
    by_cases e:i' =i
    ·subst e
     rw [hx0] at hx'
     cases hx'
     exact cd
    ·exact r2 i' x' om hx'
   case b4=>
    have e1' :=e1 m hm
    rw [aI]
    rcases hy with rfl|rfl<;>exact SX (dI @NS k0 k1 k4 k5 k33 k34 k35 d e1' q0 q1 q4 q5 q33 q34 (cj2 q35 w))
  ·refine .inr ⟨er, ?ts5,h1,hpe,⟨n1,fun m hm=> ?b5⟩,ch1⟩
   case b5=>
    have e1' :=e1 m hm
    rw [aI]
    exact SX (tR @NS k0 k1 k4 k5 k33 k34 k35 d e1')
end
theorem H8 (H:Has fns orc) {Γ:Tb} (O:Γ.Ok) {S:Nat→DY} (K:Cg S) (W:WF Γ S) {h:aD} (T:TB Γ S h) {a:Nat} (ha:a<Γ.n) {c u:List Nat} (hcu:(S a).ch=some (c,u)) (hD:uT Γ a c.dropLast):
  Uk fns orc Γ (.call 40 [.ptr Γ.tb 0,.int .i64 (a:Nat)] .plain h) h fun v=>v=jC∧∀x∈aU (Γ.D a).pd,Mn Γ S a c x:=by
 have F:=W a ha c u hcu
 obtain ⟨c0,hc0,_⟩:=W.last ha hcu
 have hcl:0<c.length:=by rw [hc0];simp
 obtain ⟨tk,v2,tT⟩:=T.t_
 have hia:=Γ.at tk ha
 obtain ⟨vc,vu,bk,hv⟩:=T.d_ a ha
 rw [hcu] at hv
 obtain ⟨tkw,rfl⟩:=CC hv
 have k:=O.ok a ha
 have n15:=Fz k (S a).busy (.sl tkw (ints c)) vu (S a).off (S a).cl
 obtain ⟨vd,n2,rvd⟩:=FU k (S a).busy (.sl tkw (ints c)) vu (S a).off (S a).cl
 have w1:IntKind.wrap .i64 ((c.length:Int) -1)=((c.length -1:Nat):Int):=by have:=F.max;rw [pE om om];omega
 have lc:∀hp,nJ hp .sl (.sl tkw (ints c))= .ok c.length:=fun hp=>by rw [iI,mQ]
 have ld:∀hp,nJ hp .sl vd= .ok (aU (Γ.D a).pd).length:=fun hp=>by have:=rvd.len hp;simpa using this
 obtain ⟨ys,hy,hyl,hyg⟩:=jZ rvd
 simp only [List.length_map,List.getElem_map] at hyl hyg
 have he:c[c.length -1]? =some a:=by rw [hc0];simp
 rcases XA H O K W ha hcu he rfl hD hy hyl hyg (aU (Γ.D a).pd).length 0 h om T [(0,.ptr Γ.tb 0),(1,.int .i64 (a:Nat)),(4,.ptr (Γ.loc a) 0),(5,.int .i64 ((c.length -1:Nat):Int)),(33,vd),(34,.int .i64 ((aU (Γ.D a).pd).length:Nat)),(35,.int .i64 0)] ⟨rfl,rfl,rfl,rfl,rfl,rfl,rfl⟩ with ⟨_,t1,h1,⟨n1,e1⟩,g1,rfl,ok⟩|⟨er,t1,h1,hpe,⟨n1,e1⟩,ch1⟩
 ·refine .inl ⟨jC,h1,Ev.call H.f40 H.o40 ⟨n1,fun m hm=> ?b1⟩,g1,rfl,fun x hx=> ?q1⟩
  case q1=>
   obtain ⟨q,hq⟩:=tX hx
   exact ok q x (Nat.zero_le _) hq
  case b1=>
   have e1' :=e1 m hm
   exact SX (qC @O8 @TN tT hia bk n15 n2 lc w1 ld e1' @jC.eq_1)
 ·refine .inr ⟨er,h1,hpe,Ev.call H.f40 H.o40 ⟨n1,fun m hm=> ?b2⟩,ch1⟩
  case b2=>
   have e1' :=e1 m hm
   exact SX (sC @O8 @TN tT hia bk n15 n2 lc w1 ld e1')
end Go.Ly
namespace Go.Ly
open Go Go.Am Go.Fs Go.Gn
variable {fns:Go.Am.F} {orc:Orc}
structure VR where
 s:List UInt8
 q:Nat
 part:Nat
 t:Tg
def tLv:Tg→Int
 |none=>0
 |some (_,lv,_)=>(lv:Nat)
def tDs:Tg→Int
 |none=> -1
 |some (v,_,_)=>(v:Nat)
def vA (v:VR):AV:= .agg [.str v.s,.int .i64 (v.q:Nat),.int .i64 (v.part:Nat),.int .i64 (tLv v.t),.int .i64 (tDs v.t)]
def VOk (Γ:Tb) (S:Nat→DY) (c:List Nat) (v:VR):Prop:=(pV Γ v.s c).getLast? =some v.part∧AP Γ S c v.part v.s v.t
theorem Oj (l:List VR):Ab 5 (l.map vA):=fun x hx=>by obtain ⟨v,_,rfl⟩:=List.mem_map.1 hx;rfl
def PB (fns:Go.Am.F) (orc:Orc) (Γ:Tb) (f:FuncId) (b0:Nat) (c:AC) (ts:fN) (h:aD) (R:Am.Exit→fN→aD→Prop):Prop:=
 (∃x ts' h',(∃n,∀m,n≤m→cG (eval fns orc m) f none c ⟨ts,[],.plain,h⟩= .ok (.code x ⟨ts',[],.plain,h'⟩))∧(h.next≤h'.next∧∀j,j<b0→h'.get j=h.get j)∧R x ts' h')∨
 (∃er ts' h',0<er∧(∃n,∀m,n≤m→cG (eval fns orc m) f none c ⟨ts,[],.plain,h⟩= .ok (.code (.panic (irr er)) ⟨ts',[],.plain,h'⟩))∧(h.next≤h'.next∧∀j,j<b0→¬pJ Γ j→h'.get j=h.get j))
theorem PB.step {Γ:Tb} {f:FuncId} {b0:Nat} {c c' :AC} {ts ts' :fN} {h h' :aD} {R R' :Am.Exit→fN→aD→Prop} (p:PB fns orc Γ f b0 c' ts' h' R') (g:h.next≤h'.next∧∀j,j<b0→h'.get j=h.get j) (q:∀x t hh,R' x t hh→R x t hh)
  (e1:∃n,∀m,n≤m→cG (eval fns orc m) f none c ⟨ts,[],.plain,h⟩=cG (eval fns orc m) f none c' ⟨ts',[],.plain,h'⟩):PB fns orc Γ f b0 c ts h R:=by
 obtain ⟨n1,e1⟩:=e1
 rcases p with ⟨x,t2,h2,⟨n2,e2⟩,g2,hq⟩|⟨er,t2,h2,he,⟨n2,e2⟩,ch⟩
 ·exact .inl ⟨x,t2,h2,⟨n1+n2,fun m hm=>(e1 m om).trans (e2 m om)⟩,⟨Nat.le_trans g.1 g2.1,fun j hj=>(g2.2 j hj).trans (g.2 j hj)⟩,q _ _ _ hq⟩
 ·exact .inr ⟨er,t2,h2,he,⟨n1+n2,fun m hm=>(e1 m om).trans (e2 m om)⟩,⟨Nat.le_trans g.1 ch.1,fun j hj hn=>(ch.2 j hj hn).trans (g.2 j hj)⟩⟩
theorem PB.again {Γ:Tb} {f:FuncId} {b0:Nat} {c C:AC} {ts ts' :fN} {h h' :aD} {R R' :Am.Exit→fN→aD→Prop} (p:PB fns orc Γ f b0 (.loop c) ts' h' R') (g:h.next≤h'.next∧∀j,j<b0→h'.get j=h.get j) (q:∀x t hh,R' x t hh→R x t hh)
  (e1:∃n,∀m,n≤m→cG (eval fns orc m) f none C ⟨ts,[],.plain,h⟩=eval fns orc m (.code f none (.loop c) ⟨ts',[],.plain,h'⟩)):PB fns orc Γ f b0 C ts h R:=by
 obtain ⟨n1,e1⟩:=e1
 have lift:∀{r:Ans},(∃n,∀m,n≤m→cG (eval fns orc m) f none (.loop c) ⟨ts',[],.plain,h'⟩= .ok r)→∃n,∀m,n≤m→cG (eval fns orc m) f none C ⟨ts,[],.plain,h⟩= .ok r:=by
  rintro r ⟨n2,e2⟩
  refine ⟨n1+n2+1,fun m hm=> ?_⟩
  rw [e1 m om]
  obtain ⟨k,rfl⟩:∃k,m=k+1:=⟨m -1,by omega⟩
  exact e2 k om
 rcases p with ⟨x,t2,h2,e2,g2,hq⟩|⟨er,t2,h2,he,e2,ch⟩
 ·exact .inl ⟨x,t2,h2,lift e2,⟨Nat.le_trans g.1 g2.1,fun j hj=>(g2.2 j hj).trans (g.2 j hj)⟩,q _ _ _ hq⟩
 ·exact .inr ⟨er,t2,h2,he,lift e2,⟨Nat.le_trans g.1 ch.1,fun j hj hn=>(ch.2 j hj hn).trans (g.2 j hj)⟩⟩
def Ic (b0:Nat) (vs:List VR) (t:AV) (h:aD):Prop:=Acc h t (vs.map vA)∧∀k,jK t=some k→b0≤k
theorem Ic.grow {b0:Nat} {vs:List VR} {t:AV} {a b:aD} (v:Ic b0 vs t a) (g:aP a b):Ic b0 vs t b:=⟨v.1.grow g,v.2⟩
def fuZ:AC:=p41x110100110011001100111001100
structure F12 (Γ:Tb) (vc:AV) (q:Nat) (x16 x17 x18 x33 x34 x35 x43 x44 x45:AV) (ts:fN):Prop where
 k0:cH ts 0= .ptr Γ.tb 0
 k1:cH ts 1=vc
 k6:cH ts 6= .int .i64 (q:Nat)
 k16:cH ts 16=x16
 k17:cH ts 17=x17
 k18:cH ts 18=x18
 k33:cH ts 33=x33
 k34:cH ts 34=x34
 k35:cH ts 35=x35
 k43:cH ts 43=x43
 k44:cH ts 44=x44
 k45:cH ts 45=x45
theorem Md {Γ:Tb} {s:List UInt8}:∀(c:List Nat) (i:Nat) (acc:List Nat),acc≠[]→A1 Γ s c i acc≠[]
 |[],_,_,h=>h
 |d::r,i,acc,h=>by
  simp only [A1]
  refine Md r (i+1) _ ?_
  split
  ·exact h
  ·split
   ·exact h
   ·split
    ·simp
    ·split
     ·simp
     ·exact h
theorem FM {Γ:Tb} {s:List UInt8}:∀(c:List Nat) (i:Nat) (acc:List Nat) (q d i' k:Nat) (x:kV),c[q]? =some d→pN (aU (Γ.D d).pd) s=some (i',k)→(aU (Γ.D d).pd)[i']? =some x→iR x=2→A1 Γ s c i acc≠[]
 |[],_,_,q,_,_,_,_,h,_,_,_=>by simp at h
 |e::r,i,acc,q,d,i',k,x,h,h1,h2,h3=>by
  simp only [A1]
  cases q with
  |zero=>
   simp at h
   subst h
   simp only [h1,h2,h3,if_true]
   exact Md r _ _ (by simp)
  |succ q=>exact FM r (i+1) _ q d i' k x (by simpa using h) h1 h2 h3
section
variable (H:Has fns orc) {Γ:Tb} (O:Γ.Ok) {S:Nat→DY} (K:Cg S) (W:WF Γ S) {a:Nat} (ha:a<Γ.n) {c u:List Nat} (hcu:(S a).ch=some (c,u)) {b0:Nat}
include H O K W ha hcu
theorem Xi {h:aD} (T:TB Γ S h) (hle:b0≤h.next) {vc x16 x17 x18 x33 x34 x35 x43 x44 x45:AV} {q:Nat} {ts:fN} (hvc:iP vc (ints c)) (k:F12 Γ vc q x16 x17 x18 x33 x34 x35 x43 x44 x45 ts) {XS:List AV} {j:Nat} {s:List UInt8} (t43:iP x43 XS) (hj:XS[j]? =some (.str s)) (t45:x45= .int .i64 (j:Nat)) {vs:List VR} {x5:AV} (t5:cH ts 5=x5) (va:Ic b0 vs x5 h) (hvl:vs.length<200000100) (hne:pV Γ s c≠[]):
  PB fns orc Γ 41 b0 fuZ ts h fun x t h' =>x= .normal∧F12 Γ vc q x16 x17 x18 x33 x34 x35 x43 x44 x45 t∧∃v,v.s=s∧v.q=q∧VOk Γ S c v∧∃y5,cH t 5=y5∧Ic b0 (vs++[v]) y5 h' :=by
 obtain ⟨k0,k1,k6,k16,k17,k18,k33,k34,k35,k43,k44,k45⟩:=k
 have F:=W a ha c u hcu
 have hcn:∀d∈c,d<Γ.n:=fun d hd=>by
  obtain ⟨q,hq⟩:=tX hd
  exact (W.part c.length a c u (Nat.le_refl _) ha hcu q d hq).1
 have ia:=oX t43 hj rfl
 obtain ⟨h1,vL,g1,⟨m1,x1⟩,rl⟩:=CE H O (S:=S) s hvc hcn (by have:=F.max;omega) T
 have T1:=T.grow g1
 have ll:∀hp,nJ hp .sl vL= .ok (pV Γ s c).length:=fun hp=>by rw [bO rl hp,mQ]
 have pl:0<(pV Γ s c).length:=List.length_pos_iff.2 hne
 obtain ⟨p,hp⟩:∃p,(pV Γ s c).getLast? =some p:=⟨_,List.getLast?_eq_some_getLast hne⟩
 have hp' :(pV Γ s c)[(pV Γ s c).length -1]? =some p:=by rw [←List.getLast?_eq_getElem?];exact hp
 obtain ⟨o,i',kk,x,hco,gf,gx,gk⟩:=Fk (List.mem_of_getElem? hp')
 have hon:=hcn o (List.mem_of_getElem? hco)
 have llb:(pV Γ s c).length<10000000:=by
  have:=xY (Γ:=Γ) (s:=s) c 0 []
  have:=F.max
  simp only [pV]
  simp at*
  omega
 have w2:IntKind.wrap .i64 ((((pV Γ s c).length:Nat):Int) -1)=(((pV Γ s c).length -1:Nat):Int):=by rw [pE om om];omega
 have iq:=rN rl hp'
 obtain ⟨hA,hAe⟩:∃x,x=(h1.push (.cells [.str [],.int .i64 0,.int .i64 0,.int .i64 0,.int .i64 0])).set h1.next (.cells [.str s,.int .i64 (q:Nat),.int .i64 (p:Nat),.int .i64 0,.int .i64 (-1)]):=⟨_,rfl⟩
 have gA:aP h1 hA:=by rw [hAe];exact gw2
 have nA:hA.next=h1.next+1:=by rw [hAe];simp
 have a14:cont hA h1.next=some [.str s,.int .i64 (q:Nat),.int .i64 (p:Nat),.int .i64 0,.int .i64 (-1)]:=by rw [hAe];exact aG (by simp)
 rcases N2 H O K W (T1.grow gA) ha hcu hvc hco gf gx (EE (O.ok o hon) (List.mem_of_getElem? gx) gk) with ⟨_,h2,⟨m2,x2⟩,g2,t,rfl,br,st⟩|⟨er,h2,hpe,⟨m2,x2⟩,ch2⟩
 case inr=>
  refine .inr ⟨er, ?ts1,h2,hpe,⟨m1+m2,fun m hm=> ?b1⟩,⟨by have:=ch2.next;have:=g1.next;omega,fun j hj hn=> ?g1⟩⟩
  case g1=>rw [ch2.get j (by have:=g1.next;omega) hn,gA.get j (by have:=g1.next;omega),g1.get j om]
  case b1=>
   have x1' :=x1 m om
   have x2' :=x2 m om
   exact SX (dI @fuZ.eq_1 t45 k0 k1 k6 k16 k17 k18 k33 k34 k35 k43 k44 k45 t5 ia (cj6 x1' ll w2 iq (Eq.symm hAe) x2'))
 have n1:=g1.next
 have n2:=g2.next
 have gg:=(g1.trans gA).trans g2
 have b14:=(aF g2 (aO a14)).trans a14
 obtain ⟨y1,y2,y3,hy⟩:=Bi t
 obtain ⟨hB,hBe⟩:∃x,x=(h2.push (.cells [.int .i64 0,.int .i64 0,.int .i64 0])).set h2.next (.cells [.int .i64 y1,.int .i64 y2,.int .i64 y3]):=⟨_,rfl⟩
 have gB:aP h2 hB:=by rw [hBe];exact gw2
 have nB:hB.next=h2.next+1:=by rw [hBe];simp
 have c15:cont hB h2.next=some [.int .i64 y1,.int .i64 y2,.int .i64 y3]:=by rw [hBe];exact aG (by simp)
 have c14:=(aF gB (aO b14)).trans b14
 have fin:∀(hC:aD) (lvv dss:Int),tLv t=lvv→tDs t=dss→aP h hC→h1.next<hC.next→cont hC h1.next=some [.str s,.int .i64 (q:Nat),.int .i64 (p:Nat),.int .i64 lvv,.int .i64 dss]→
   ∃y5 hD,mT hC 5 x5 (.sl .full [.agg [.str s,.int .i64 (q:Nat),.int .i64 (p:Nat),.int .i64 lvv,.int .i64 dss]])= .ok (y5,hD)∧(h.next≤hD.next∧∀j,j<b0→hD.get j=h.get j)∧Ic b0 (vs++[⟨s,q,p,t⟩]) y5 hD:=by
  intro hC lvv dss e1 e2 gC hlt hc
  obtain ⟨y5,hD,ap,a1,gD,tk⟩:=sG (va.grow gC).1 (n:=5) (v:=vA ⟨s,q,p,t⟩) om (Oj vs) rfl (by rw [List.length_map];omega)
  refine ⟨y5,hD,by rw [←e1,←e2];exact ap,⟨by have:=gC.next;have:=gD.next;omega,fun j hj=> ?_⟩,by simpa using a1,fun k hk=> ?_⟩
  ·rw [gD.get j (by have:=gC.next;omega) (fun q=>by have:=va.2 j q;omega),gC.get j om]
  ·rcases tk k hk with q|q
   ·exact va.2 k q
   ·have:=gC.next;omega
 by_cases c0:0≤y1
 ·have d:=dT c0
  obtain ⟨v,lv,pt,rfl⟩:∃v lv pt,t=some (v,lv,pt):=by
   cases t with
   |none=>cases hy;exact absurd c0 om
   |some p=>obtain ⟨v,lv,pt⟩:=p;exact ⟨v,lv,pt,rfl⟩
  cases hy
  obtain ⟨hC,hCe⟩:∃x,x=hB.set h1.next (.cells [.str s,.int .i64 (q:Nat),.int .i64 (p:Nat),.int .i64 (lv:Nat),.int .i64 (-1)]):=⟨_,rfl⟩
  have gC:aP h hC:=by rw [hCe];exact (gg.trans gB).set om om _
  have nC:hC.next=hB.next:=by rw [hCe];simp
  have d14:cont hC h1.next=some [.str s,.int .i64 (q:Nat),.int .i64 (p:Nat),.int .i64 (lv:Nat),.int .i64 (-1)]:=by rw [hCe];exact aG om
  have d15:cont hC h2.next=some [.int .i64 (v:Nat),.int .i64 (lv:Nat),.int .i64 (pt:Nat)]:=by rw [hCe];exact (aK om om).trans c15
  obtain ⟨hD,hDe⟩:∃x,x=hC.set h1.next (.cells [.str s,.int .i64 (q:Nat),.int .i64 (p:Nat),.int .i64 (lv:Nat),.int .i64 (v:Nat)]):=⟨_,rfl⟩
  have gD:aP h hD:=by rw [hDe];exact gC.set om om _
  have e14:cont hD h1.next=some [.str s,.int .i64 (q:Nat),.int .i64 (p:Nat),.int .i64 (lv:Nat),.int .i64 (v:Nat)]:=by rw [hDe];exact aG om
  obtain ⟨y5,hE,ap,g5,va'⟩:=fin hD (lv:Nat) (v:Nat) rfl rfl gD (by rw [hDe];simp;omega) e14
  refine .inl ⟨.normal, ?ts2,hE,⟨m1+m2,fun m hm=> ?b2⟩,g5,rfl, ?kk2,⟨s,q,p,some (v,lv,pt)⟩,rfl,rfl,⟨hp,br⟩,y5, ?t5',va'⟩
  case b2=>
   have x1' :=x1 m om
   have x2' :=x2 m om
   simp only [tgA] at x2'
   exact SX (dI @fuZ.eq_1 t45 k0 k1 k6 k16 k17 k18 k33 k34 k35 k43 k44 k45 t5 ia (Bd x1' ll w2 iq (Eq.symm hAe) x2' (Eq.symm hBe) c15 c14 d (Eq.symm hCe) d14 d15 (Eq.symm hDe) e14 ap))
  case kk2=>exact ⟨rfl,rfl,rfl,rfl,rfl,rfl,rfl,rfl,rfl,rfl,rfl,by rw [t45];rfl⟩
  case t5' =>rfl
 ·have d:=dF c0
  obtain rfl:t=none:=by
   cases t with
   |none=>rfl
   |some p=>obtain ⟨v,lv,pt⟩:=p;cases hy;exact absurd om c0
  cases hy
  obtain ⟨y5,hE,ap,g5,va'⟩:=fin hB 0 (-1) rfl rfl (gg.trans gB) om c14
  refine .inl ⟨.normal, ?ts3,hE,⟨m1+m2,fun m hm=> ?b3⟩,g5,rfl, ?kk3,⟨s,q,p,none⟩,rfl,rfl,⟨hp,br⟩,y5, ?t6',va'⟩
  case b3=>
   have x1' :=x1 m om
   have x2' :=x2 m om
   simp only [tgA] at x2'
   exact SX (dI @fuZ.eq_1 t45 k0 k1 k6 k16 k17 k18 k33 k34 k35 k43 k44 k45 t5 ia (sC x1' ll w2 iq (Eq.symm hAe) x2' (Eq.symm hBe) c15 c14 d ap))
  case kk3=>exact ⟨rfl,rfl,rfl,rfl,rfl,rfl,rfl,rfl,rfl,rfl,rfl,by rw [t45];rfl⟩
  case t6' =>rfl
end
end Go.Ly
namespace Go.Ly
open Go Go.Am Go.Fs Go.Gn
variable {fns:Go.Am.F} {orc:Orc}
def fuN:AC:=p41x11010011001100110011100
theorem Nv:fuN= .seq p41x110100110011001100111000 (.seq p41x1101001100110011001110010 (.seq (.block 5 fuZ) p41x11010011001100110011100111)):=rfl
def fuD:AC:=p41x11010011001100
theorem JA:fuD= .seq p41x110100110011000 (.seq p41x1101001100110010 (.seq (.block 3 (.seq p41x1101001100110011000 (.seq p41x11010011001100110010 (.seq p41x110100110011001100110 (.block 4 (.loop fuN)))))) p41x11010011001100111)):=rfl
def fuC:AC:=p41x110100
theorem Nw:fuC= .seq p41x1101000 (.seq p41x11010010 (.seq (.block 1 (.seq p41x11010011000 (.seq p41x110100110010 (.block 2 (.loop fuD))))) p41x110100111)):=rfl
theorem OZ:a41.body= .seq p41x0 (.seq p41x10 (.seq (.seq p41x1100 (.block 0 (.loop fuC))) p41x111)):=rfl
theorem Tl:a41.results=[.tmp 4]:=rfl
structure F9 (Γ:Tb) (vc:AV) (q:Nat) (x16 x17 x18 x33 x34 x35:AV) (ts:fN):Prop where
 k0:cH ts 0= .ptr Γ.tb 0
 k1:cH ts 1=vc
 k6:cH ts 6= .int .i64 (q:Nat)
 k16:cH ts 16=x16
 k17:cH ts 17=x17
 k18:cH ts 18=x18
 k33:cH ts 33=x33
 k34:cH ts 34=x34
 k35:cH ts 35=x35
def Ci (dl:List kV):List (List UInt8):=dl.flatMap fun x=>if iR x=2 then fR x else []
theorem Fv (x:kV) (dl:List kV):Ci (x::dl)=(if iR x=2 then fR x else [])++Ci dl:=rfl
def HI (Γ:Tb):List Nat→Nat→List (Nat×List UInt8)
 |[],_=>[]
 |d::r,q=>(Ci (aU (Γ.D d).pd)).map (fun s=>(q,s))++HI Γ r (q+1)
def Uv (v:VR):Nat×List UInt8:=(v.q,v.s)
theorem Pv (dl:List kV):(Ci dl).length≤tot (dl.map Part.decl):=by
 induction dl with
 |nil=>exact Nat.le_refl _
 |cons d dl ih=>
  rw [Fv,List.map_cons,Gl,List.length_append]
  have:=Cr (p:=d)
  split
  ·omega
  ·simp only [List.length_nil];omega
def EM (Γ:Tb) (S:Nat→DY) (c:List Nat) (b0:Nat) (vs:List VR) (keys:List (Nat×List UInt8)) (t:AV) (h:aD):Prop:=∃new,new.map Uv=keys∧(∀v∈new,VOk Γ S c v)∧Ic b0 (vs++new) t h
theorem EM.trans {Γ:Tb} {S:Nat→DY} {c:List Nat} {b0:Nat} {vs new:List VR} {k1 k2:List (Nat×List UInt8)} {t:AV} {h:aD} (h1:new.map Uv=k1) (h2:∀v∈new,VOk Γ S c v) (m:EM Γ S c b0 (vs++new) k2 t h):EM Γ S c b0 vs (k1++k2) t h:=by
 obtain ⟨n2,a1,a2,a3⟩:=m
 exact ⟨new++n2,by simp [h1,a1],fun v hv=>by rcases List.mem_append.1 hv with q|q;exact h2 v q;exact a2 v q,by simpa using a3⟩
section
variable (H:Has fns orc) {Γ:Tb} (O:Γ.Ok) {S:Nat→DY} (K:Cg S) (W:WF Γ S) {a:Nat} (ha:a<Γ.n) {c u:List Nat} (hcu:(S a).ch=some (c,u)) {b0:Nat} (hb0:Γ.tb<b0∧Γ.mb<b0∧∀j,pJ Γ j→j<b0)
include H O K W ha hcu hb0
theorem Xj {vc x16 x17 x18 x33 x34 x35:AV} {q:Nat} (hvc:iP vc (ints c)) {names:List (List UInt8)} {vn:AV} (hvn:iP vn (names.map AV.str)) (hnn:names.length<10000000) (hne:∀s∈names,pV Γ s c≠[]):
  ∀(k j:Nat) (h:aD) (vs:List VR) (x5:AV) (ts:fN),j+k=names.length→TB Γ S h→b0≤h.next→F9 Γ vc q x16 x17 x18 x33 x34 x35 ts→cH ts 5=x5→cH ts 43=vn→cH ts 44= .int .i64 (names.length:Nat)→cH ts 45= .int .i64 (j:Nat)→Ic b0 vs x5 h→vs.length+k≤200000000→
   PB fns orc Γ 41 b0 (.loop fuN) ts h fun x t h' =>x= .exit 4∧F9 Γ vc q x16 x17 x18 x33 x34 x35 t∧EM Γ S c b0 vs ((names.drop j).map fun s=>(q,s)) (cH t 5) h' :=by
 intro k
 induction k with
 |zero=>
  rintro j h vs x5 ts hj T hle ⟨k0,k1,k6,k16,k17,k18,k33,k34,k35⟩ t5 t43 t44 t45 va hvl
  have d:decide ((j:Int)<((names.length:Nat):Int))=false:=dF om
  refine .inl ⟨.exit 4, ?ts0,h,⟨0,fun m _=> ?b0⟩,⟨Nat.le_refl _,fun _ _=>rfl⟩,rfl, ?kk,[], ?nn,(by intro v hv;cases hv), ?va⟩
  case b0=>
   rw [aI]
   exact SX (xJ @Nv k0 k1 k6 k16 k17 k18 k33 k34 k35 t5 t43 t44 t45 d)
  case kk=>exact ⟨rfl,rfl,rfl,rfl,rfl,rfl,rfl,rfl,rfl⟩
  case nn=>rw [List.drop_eq_nil_of_le om];rfl
  case va=>rw [List.append_nil];exact va
 |succ k ih=>
  rintro j h vs x5 ts hj T hle ⟨k0,k1,k6,k16,k17,k18,k33,k34,k35⟩ t5 t43 t44 t45 va hvl
  have hlt:j<names.length:=om
  have d:decide ((j:Int)<((names.length:Nat):Int))=true:=dT om
  obtain ⟨s,hs⟩:∃s,names[j]? =some s:=⟨_,List.getElem?_eq_getElem hlt⟩
  have hse:names[j]=s:=by rw [List.getElem?_eq_getElem hlt] at hs;exact Option.some.inj hs
  have w:IntKind.wrap .i64 ((j:Int)+1)=((j+1:Nat):Int):=sH hlt om
  rcases Xi H O K W ha hcu (b0:=b0) T hle (vc:=vc) (q:=q) (x16:=x16) (x17:=x17) (x18:=x18) (x33:=x33) (x34:=x34) (x35:=x35) (x43:=vn) (x44:= .int .i64 (names.length:Nat)) (x45:= .int .i64 (j:Nat)) (ts:=[(0,.ptr Γ.tb 0),(1,vc),(5,x5),(6,.int .i64 (q:Nat)),(16,x16),(17,x17),(18,x18),(33,x33),(34,x34),(35,x35),(43,vn),(44,.int .i64 (names.length:Nat)),(45,.int .i64 (j:Nat)),(46,.bool true)]) hvc ⟨rfl,rfl,rfl,rfl,rfl,rfl,rfl,rfl,rfl,rfl,rfl,rfl⟩ (j:=j) (s:=s) hvn (by simp [hs]) rfl rfl va om (hne s (List.mem_of_getElem? hs)) with ⟨x,t1,h1,⟨n1,e1⟩,g1,rfl,⟨q0,q1,q6,q16,q17,q18,q33,q34,q35,q43,q44,q45⟩,v,rfl,rfl,vok,y5,ty,va'⟩|⟨er,t1,h1,hpe,⟨n1,e1⟩,ch1⟩
  ·have T1:TB Γ S h1:=T.wH fun j hj w=>g1.2 j (by rcases w with w|w|w;omega;omega;exact hb0.2.2 j w)
   refine PB.again (ih (j+1) h1 (vs++[v]) y5 [(0,.ptr Γ.tb 0),(1,vc),(5,y5),(6,.int .i64 (v.q:Nat)),(16,x16),(17,x17),(18,x18),(33,x33),(34,x34),(35,x35),(43,vn),(44,.int .i64 (names.length:Nat)),(45,.int .i64 ((j+1:Nat):Int))] om T1 om ⟨rfl,rfl,rfl,rfl,rfl,rfl,rfl,rfl,rfl⟩ rfl rfl rfl rfl va' (by simp;omega)) g1 ?_ ⟨n1,fun m hm=> ?b1⟩
   ·rintro x t hh ⟨r1,r2,r3⟩
    refine ⟨r1,r2, ?_⟩
    rw [List.drop_eq_getElem_cons hlt,List.map_cons,hse]
    exact EM.trans (new:=[v]) rfl (fun v' hv' =>by rw [List.mem_singleton.1 hv'];exact vok) r3
   case b1=>
    have e1' :=e1 m hm
    rw [aI]
    exact SX (dI @Nv k0 k1 k6 k16 k17 k18 k33 k34 k35 t5 t43 t44 t45 d e1' (zZ q0 q1 q6 q16 q17 q18 q33 q34 q35 q43 q44 q45 ty w))
  ·refine .inr ⟨er, ?ts2,h1,hpe,⟨n1,fun m hm=> ?b2⟩,ch1⟩
   case b2=>
    have e1' :=e1 m hm
    rw [aI]
    exact SX (Bd @Nv k0 k1 k6 k16 k17 k18 k33 k34 k35 t5 t43 t44 t45 d e1')
theorem Xk {vc x16 x17 x18:AV} {q dd:Nat} (hvc:iP vc (ints c)) (hq:c[q]? =some dd) (hdd:dd<Γ.n) {c1:List Nat} (hD:uT Γ dd c1) {vd:AV} {xs:List AV} (hvd:iP vd xs) (hxl:xs.length=(aU (Γ.D dd).pd).length) (hg:∀i (hi:i<(aU (Γ.D dd).pd).length),∃c,xs[i]? =some (.agg c)∧RV (.decl (aU (Γ.D dd).pd)[i]) (.agg c)):
  ∀(k i:Nat) (h:aD) (vs:List VR) (x5:AV) (ts:fN),i+k=(aU (Γ.D dd).pd).length→TB Γ S h→b0≤h.next→F9 Γ vc q x16 x17 x18 vd (.int .i64 ((aU (Γ.D dd).pd).length:Nat)) (.int .i64 (i:Nat)) ts→cH ts 5=x5→Ic b0 vs x5 h→vs.length+(Ci ((aU (Γ.D dd).pd).drop i)).length≤200000000→
   PB fns orc Γ 41 b0 (.loop fuD) ts h fun x t h' =>x= .exit 2∧(cH t 0= .ptr Γ.tb 0∧cH t 1=vc∧cH t 16=x16∧cH t 17=x17∧cH t 18=x18)∧EM Γ S c b0 vs ((Ci ((aU (Γ.D dd).pd).drop i)).map fun s=>(q,s)) (cH t 5) h' :=by
 have hbd:=qB (O.ok dd hdd)
 intro k
 induction k with
 |zero=>
  rintro i h vs x5 ts hi T hle ⟨k0,k1,k6,k16,k17,k18,k33,k34,k35⟩ t5 va hvl
  have d:decide ((i:Int)<(((aU (Γ.D dd).pd).length:Nat):Int))=false:=dF om
  refine .inl ⟨.exit 2, ?ts0,h,⟨0,fun m _=> ?b0⟩,⟨Nat.le_refl _,fun _ _=>rfl⟩,rfl, ?kk,[], ?nn,(by intro v hv;cases hv), ?va⟩
  case b0=>
   rw [aI]
   exact SX (qC @JA k0 k1 k6 k16 k17 k18 k33 k34 k35 t5 d)
  case kk=>exact ⟨rfl,rfl,rfl,rfl,rfl⟩
  case nn=>rw [List.drop_eq_nil_of_le om];rfl
  case va=>rw [List.append_nil];exact va
 |succ k ih=>
  rintro i h vs x5 ts hi T hle ⟨k0,k1,k6,k16,k17,k18,k33,k34,k35⟩ t5 va hvl
  have hlt:i<(aU (Γ.D dd).pd).length:=om
  have d:decide ((i:Int)<(((aU (Γ.D dd).pd).length:Nat):Int))=true:=dT om
  have w:IntKind.wrap .i64 ((i:Int)+1)=((i+1:Nat):Int):=sH hlt om
  obtain ⟨cc,hcc,rv⟩:=hg i hlt
  have hcl:=pG rv
  have hck:=uG rv
  have hia:=kT hvd hcc hcl
  have p5:takeN 5 cc=some cc:=by rw [←hcl];exact aW cc
  have hst:=mW h (sz:=5) (z:=kF) rfl hcl hck
  obtain ⟨hA,hAe⟩:∃x,x=(h.push (.cells kF)).set h.next (.cells cc):=⟨_,rfl⟩
  rw [←hAe] at hst
  simp only [kF] at hst
  have gA:aP h hA:=by rw [hAe];exact gw2
  have nA:=gA.next
  have cA:cont hA h.next=some cc:=by rw [hAe];exact aG (by simp)
  obtain ⟨x,hx0⟩:∃x,(aU (Γ.D dd).pd)[i]? =some x:=⟨_,List.getElem?_eq_getElem hlt⟩
  have hxe:(aU (Γ.D dd).pd)[i]=x:=by rw [List.getElem?_eq_getElem hlt] at hx0;exact Option.some.inj hx0
  rw [hxe] at rv
  rw [List.drop_eq_getElem_cons hlt,hxe,Fv] at hvl⊢
  obtain ⟨vn,vs',vp,vy,hcv,r0⟩:∃vn vs vp vy,cc=[.int .i64 (iR x),vn,vs,vp,vy]∧iP vn ((fR x).map AV.str):=by
   cases x with|mk k n s p y=>
   cases rv with|decl r0 r1 r2 r3=>
   exact ⟨_,_,_,_,rfl,r0⟩
  rw [hcv] at cA
  have ln:∀hp,nJ hp .sl vn= .ok (fR x).length:=fun hp=>by rw [bO r0 hp,List.length_map]
  have TA:=T.grow gA
  by_cases c2:iR x=2
  case neg=>
   have d2:=dF c2
   rw [if_neg c2,List.nil_append] at hvl⊢
   refine PB.again (ih (i+1) hA vs x5 [(0,.ptr Γ.tb 0),(1,vc),(5,x5),(6,.int .i64 (q:Nat)),(16,x16),(17,x17),(18,x18),(33,vd),(34,.int .i64 ((aU (Γ.D dd).pd).length:Nat)),(35,.int .i64 ((i+1:Nat):Int))] om TA om ⟨rfl,rfl,rfl,rfl,rfl,rfl,rfl,rfl,rfl⟩ rfl (va.grow gA) hvl) ⟨nA,fun j hj=>gA.get j om⟩ (fun _ _ _ r=>r) ⟨0,fun m hm=> ?b1⟩
   case b1=>
    rw [aI]
    exact SV (dI @JA k0 k1 k6 k16 k17 k18 k33 k34 k35 t5 d hia @ldS p5 hst (cj3 cA d2 w))
  have d2:=dT c2
  rw [if_pos c2] at hvl⊢
  have hne:∀s∈fR x,pV Γ s c≠[]:=fun s hs=>by
   obtain ⟨j,hj⟩:=tX hs
   exact FM c 0 [] q dd i j x hq (hD i x j s hx0 hj).1 hx0 c2
  rcases Xj H O K W ha hcu hb0 (x16:=x16) (x17:=x17) (x18:=x18) (x33:=vd) (x34:= .int .i64 ((aU (Γ.D dd).pd).length:Nat)) (x35:= .int .i64 (i:Nat)) (q:=q) hvc r0 (hbd.2 x (List.mem_of_getElem? hx0)) hne (fR x).length 0 hA vs x5 [(0,.ptr Γ.tb 0),(1,vc),(5,x5),(6,.int .i64 (q:Nat)),(16,x16),(17,x17),(18,x18),(33,vd),(34,.int .i64 ((aU (Γ.D dd).pd).length:Nat)),(35,.int .i64 (i:Nat)),(43,vn),(44,.int .i64 ((fR x).length:Nat)),(45,.int .i64 0)] om TA om ⟨rfl,rfl,rfl,rfl,rfl,rfl,rfl,rfl,rfl⟩ rfl rfl rfl rfl (va.grow gA) (by simp at hvl;omega) with ⟨y,t1,h1,⟨n1,e1⟩,g1,rfl,⟨q0,q1,q6,q16,q17,q18,q33,q34,q35⟩,new,hk1,hk2,va1⟩|⟨er,t1,h1,hpe,⟨n1,e1⟩,ch1⟩
  ·have T1:TB Γ S h1:=TA.wH fun j hj w=>g1.2 j (by rcases w with w|w|w;omega;omega;exact hb0.2.2 j w)
   have hnl:new.length=(fR x).length:=by have:=congrArg List.length hk1;simpa using this
   refine PB.again (ih (i+1) h1 (vs++new) (cH t1 5) [(0,.ptr Γ.tb 0),(1,vc),(5,cH t1 5),(6,.int .i64 (q:Nat)),(16,x16),(17,x17),(18,x18),(33,vd),(34,.int .i64 ((aU (Γ.D dd).pd).length:Nat)),(35,.int .i64 ((i+1:Nat):Int))] om T1 om ⟨rfl,rfl,rfl,rfl,rfl,rfl,rfl,rfl,rfl⟩ rfl va1 (by simp at hvl⊢;omega)) ⟨by omega,fun j hj=>(g1.2 j hj).trans (gA.get j om)⟩ ?_ ⟨n1,fun m hm=> ?b2⟩
   ·rintro y t hh ⟨r1,r2,r3⟩
    refine ⟨r1,r2, ?_⟩
    rw [List.map_append]
    exact EM.trans (by simpa using hk1) hk2 r3
   case b2=>
    have e1' :=e1 m hm
    rw [aI]
    exact SV (dI @JA k0 k1 k6 k16 k17 k18 k33 k34 k35 t5 d hia @ldS p5 hst (zZ cA d2 ln e1' q0 q1 q6 q16 q17 q18 q33 q34 q35 w))
  ·refine .inr ⟨er, ?ts3,h1,hpe,⟨n1,fun m hm=> ?b3⟩,⟨by omega,fun j hj hn=>(ch1.2 j hj hn).trans (gA.get j om)⟩⟩
   case b3=>
    have e1' :=e1 m hm
    rw [aI]
    exact SV (dI @JA k0 k1 k6 k16 k17 k18 k33 k34 k35 t5 d hia @ldS p5 hst (cj4 cA d2 ln e1'))
omit H K W ha hcu hb0 in
theorem IJ:∀(l:List Nat) (q:Nat),(∀d∈l,d<Γ.n)→(HI Γ l q).length≤5000000*l.length
 |[],_,_=>by simp [HI]
 |d::r,q,h=>by
  have h1:=IJ r (q+1) (fun e he=>h e (List.mem_cons_of_mem _ he))
  have h2:=Pv (aU (Γ.D d).pd)
  have h3:=(O.ok d (h d (List.mem_cons_self ..))).nd
  cases hp:(Γ.D d).pd with|mk s pl dl el b il xl=>
  rw [hp,xD] at h3
  rw [hp] at h2
  simp only [aU] at h2
  simp only [HI,hp,aU,List.length_append,List.length_map,List.length_cons]
  omega
theorem Xl (hDA:∀d,d<Γ.n→∃c1,uT Γ d c1) {vc:AV} (hvc:iP vc (ints c)):
  ∀(k i:Nat) (h:aD) (vs:List VR) (x5:AV) (ts:fN),i+k=c.length→TB Γ S h→b0≤h.next→(cH ts 0= .ptr Γ.tb 0∧cH ts 1=vc∧cH ts 16=vc∧cH ts 17= .int .i64 (c.length:Nat)∧cH ts 18= .int .i64 (i:Nat))→cH ts 5=x5→Ic b0 vs x5 h→vs.length+(HI Γ (c.drop i) i).length≤200000000→
   PB fns orc Γ 41 b0 (.loop fuC) ts h fun x t h' =>x= .exit 0∧EM Γ S c b0 vs (HI Γ (c.drop i) i) (cH t 5) h' :=by
 have F:=W a ha c u hcu
 intro k
 induction k with
 |zero=>
  rintro i h vs x5 ts hi T hle ⟨k0,k1,k16,k17,k18⟩ t5 va hvl
  have d:decide ((i:Int)<((c.length:Nat):Int))=false:=dF om
  refine .inl ⟨.exit 0, ?ts0,h,⟨0,fun m _=> ?b0⟩,⟨Nat.le_refl _,fun _ _=>rfl⟩,rfl,[], ?nn,(by intro v hv;cases hv), ?va⟩
  case b0=>
   rw [aI]
   exact SX (cj8 @Nw k0 k1 k16 k17 k18 t5 d)
  case nn=>rw [List.drop_eq_nil_of_le om];rfl
  case va=>rw [List.append_nil];exact va
 |succ k ih=>
  rintro i h vs x5 ts hi T hle ⟨k0,k1,k16,k17,k18⟩ t5 va hvl
  have hlt:i<c.length:=om
  have d:decide ((i:Int)<((c.length:Nat):Int))=true:=dT om
  have w:IntKind.wrap .i64 ((i:Int)+1)=((i+1:Nat):Int):=sH hlt (by have:=F.max;omega)
  obtain ⟨dd,hq⟩:∃dd,c[i]? =some dd:=⟨_,List.getElem?_eq_getElem hlt⟩
  have hqe:c[i]=dd:=by rw [List.getElem?_eq_getElem hlt] at hq;exact Option.some.inj hq
  have hdd:=(W.part c.length a c u (Nat.le_refl _) ha hcu i dd hq).1
  have hia:=rN hvc hq
  rw [List.drop_eq_getElem_cons hlt,hqe,HI] at hvl⊢
  obtain ⟨c1,hD⟩:=hDA dd hdd
  obtain ⟨tk,v2,tT⟩:=T.t_
  have hib:=Γ.at tk hdd
  obtain ⟨vc',vu,bk,_⟩:=T.d_ dd hdd
  obtain ⟨vd,n2,rvd⟩:=FU (O.ok dd hdd) (S dd).busy vc' vu (S dd).off (S dd).cl
  have ld:∀hp,nJ hp .sl vd= .ok (aU (Γ.D dd).pd).length:=fun hp=>by have:=rvd.len hp;simpa using this
  obtain ⟨ys,hy,hyl,hyg⟩:=jZ rvd
  simp only [List.length_map,List.getElem_map] at hyl hyg
  rcases Xk H O K W ha hcu hb0 (x16:=vc) (x17:= .int .i64 (c.length:Nat)) (x18:= .int .i64 (i:Nat)) hvc hq hdd hD hy hyl hyg (aU (Γ.D dd).pd).length 0 h vs x5 [(0,.ptr Γ.tb 0),(1,vc),(5,x5),(6,.int .i64 (i:Nat)),(16,vc),(17,.int .i64 (c.length:Nat)),(18,.int .i64 (i:Nat)),(33,vd),(34,.int .i64 ((aU (Γ.D dd).pd).length:Nat)),(35,.int .i64 0)] om T hle ⟨rfl,rfl,rfl,rfl,rfl,rfl,rfl,rfl,rfl⟩ rfl va (by simp at hvl⊢;omega) with ⟨y,t1,h1,⟨n1,e1⟩,g1,rfl,⟨q0,q1,q16,q17,q18⟩,new,hk1,hk2,va1⟩|⟨er,t1,h1,hpe,⟨n1,e1⟩,ch1⟩
  ·have T1:TB Γ S h1:=T.wH fun j hj w=>g1.2 j (by rcases w with w|w|w;omega;omega;exact hb0.2.2 j w)
   have hnl:new.length=(Ci (aU (Γ.D dd).pd)).length:=by have:=congrArg List.length hk1;simpa using this
   refine PB.again (ih (i+1) h1 (vs++new) (cH t1 5) [(0,.ptr Γ.tb 0),(1,vc),(5,cH t1 5),(16,vc),(17,.int .i64 (c.length:Nat)),(18,.int .i64 ((i+1:Nat):Int))] om T1 om ⟨rfl,rfl,rfl,rfl,rfl⟩ rfl va1 (by simp at hvl⊢;omega)) g1 ?_ ⟨n1,fun m hm=> ?b2⟩
   ·rintro y t hh ⟨r1,r2⟩
    exact ⟨r1,EM.trans (by simpa using hk1) hk2 r2⟩
   case b2=>
    have e1' :=e1 m hm
    rw [aI]
    exact SX (dI @Nw k0 k1 k16 k17 k18 t5 d hia tT hib bk n2 ld e1' q0 (cj5 q1 q16 q17 q18 w))
  ·refine .inr ⟨er, ?ts3,h1,hpe,⟨n1,fun m hm=> ?b3⟩,ch1⟩
   case b3=>
    have e1' :=e1 m hm
    rw [aI]
    exact SX (xJ @Nw k0 k1 k16 k17 k18 t5 d hia tT hib bk n2 ld e1')
end
def Q9 (Γ:Tb) (S:Nat→DY) (c:List Nat) (vs:List VR):Prop:=vs.map Uv=HI Γ c 0∧∀v∈vs,VOk Γ S c v
theorem Lz (H:Has fns orc) {Γ:Tb} (O:Γ.Ok) {S:Nat→DY} (K:Cg S) (W:WF Γ S) {h:aD} (T:TB Γ S h) {a:Nat} (ha:a<Γ.n) {c u:List Nat} (hcu:(S a).ch=some (c,u)) (hDA:∀d,d<Γ.n→∃c1,uT Γ d c1) {vc:AV} (hvc:iP vc (ints c)):
  Uk fns orc Γ (.call 41 [.ptr Γ.tb 0,vc] .plain h) h fun v=>∃vs,iP v (vs.map vA)∧Q9 Γ S c vs:=by
 have hcn:∀d∈c,d<Γ.n:=fun d hd=>by
  obtain ⟨q,hq⟩:=tX hd
  exact (W.part c.length a c u (Nat.le_refl _) ha hcu q d hq).1
 have lc:∀hp,nJ hp .sl vc= .ok c.length:=fun hp=>by rw [bO hvc hp,mQ]
 have hm:=(W a ha c u hcu).max
 have hv:=IJ O (Γ:=Γ) c 0 hcn
 rcases Xl H O K W ha hcu (b0:=h.next) T.lt hDA hvc c.length 0 h [] .aC [(0,.ptr Γ.tb 0),(1,vc),(5,.aC),(16,vc),(17,.int .i64 (c.length:Nat)),(18,.int .i64 0)] om T (Nat.le_refl _) ⟨rfl,rfl,rfl,rfl,rfl⟩ rfl ⟨.nil,fun k w=>by cases w⟩ (by simp;omega) with ⟨y,t1,h1,⟨n1,e1⟩,g1,rfl,vs,hk1,hk2,va1⟩|⟨er,t1,h1,hpe,⟨n1,e1⟩,ch1⟩
 ·refine .inl ⟨cH t1 5,h1,Ev.call H.f41 H.o41 ⟨n1,fun m hm=> ?b1⟩,⟨g1.1,g1.2⟩,vs,(show uU h1 _ _ from .inl va1.1).E6,by simpa using hk1,hk2⟩
  case b1=>
   have e1' :=e1 m hm
   exact SX (cj4 @OZ @Tl lc e1')
 ·refine .inr ⟨er,h1,hpe,Ev.call H.f41 H.o41 ⟨n1,fun m hm=> ?b2⟩,⟨ch1.1,ch1.2⟩⟩
  case b2=>
   have e1' :=e1 m hm
   exact SX (cj4 @OZ @Tl lc e1')
end Go.Ly
end
