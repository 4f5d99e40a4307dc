/- Parts of a proof. -/
import Derived.Test.YtgcjkhpfnapklaaGreatDoorD
import Derived.Test.YtgcjkhpfnapklaaGreatDoorY1
set_option linter.all false
set_option maxHeartbeats 16000000
noncomputable section
namespace Go.Ly
open Go Go.Am Go.Fs Go.Gn
variable {fns:Go.Am.F} {orc:Orc}
def cfL (Γ:Tb) (a e q b12 b13:Nat) (x33 x34 x35 x74 x75 x76:AV):iH:=[(0,.ptr Γ.tb 0),(1,.int .i64 (a:Nat)),(4,.ptr (Γ.loc a) 0),(5,.int .i64 (e:Nat)),(11,.int .i64 (q:Nat)),(12,.ptr b12 0),(13,.ptr b13 0),(33,x33),(34,x34),(35,x35),(74,x74),(75,x75),(76,x76)]
def cfM (Γ:Tb) (a e q b12 b13 b14:Nat) (x33 x34 x35 x74 x75 x76:AV):iH:=[(0,.ptr Γ.tb 0),(1,.int .i64 (a:Nat)),(4,.ptr (Γ.loc a) 0),(5,.int .i64 (e:Nat)),(11,.int .i64 (q:Nat)),(12,.ptr b12 0),(13,.ptr b13 0),(14,.ptr b14 0),(33,x33),(34,x34),(35,x35),(74,x74),(75,x75),(76,x76)]
def NT (Γ:Tb) (S:Nat→DY) (a e q:Nat) (told AR:Tg):Prop:=told=none∨∃vo lo po vn ln pn,told=some (vo,lo,po)∧AR=some (vn,ln,pn)∧NS Γ S a e q vo lo vn ln pn
section
variable (H:Has fns orc) {Γ:Tb} (O:Γ.Ok) {S:Nat→DY} (K:BM S) (W:WF Γ S) {h:aD} (T:TB Γ S h) {a e:Nat} (ha:a<Γ.n) {x33 x34 x35 x74 x75 x76:AV} {c u:List Nat} (hcu:(S a).ch=some (c,u)) (he:c[e]? =some a) {q o:Nat} (hq:c[q]? =some o) {b12 b13:Nat}
include H O K W T ha hcu he hq
theorem VM {ts:iH} (k:K10 Γ a e x33 x34 x35 x74 x75 x76 ts) {vo lo po vn ln pn:Nat} (t11:fX ts 11= .int .i64 (q:Nat)) (t12:fX ts 12= .ptr b12 0) (t13:fX ts 13= .ptr b13 0)
  (c12:cont h b12=some [.int .i64 (vo:Nat),.int .i64 (lo:Nat),.int .i64 (po:Nat)]) (c13:cont h b13=some [.int .i64 (vn:Nat),.int .i64 (ln:Nat),.int .i64 (pn:Nat)]) (hvo:vo<Γ.n) (so:BC Γ S (o:Int) (some (vo,lo,po))) (sn:BC Γ S (a:Int) (some (vn,ln,pn)))
  {co uo cn un:List Nat} (hco:(S vo).ch=some (co,uo)) (hcn:(S vn).ch=some (cn,un)) (hb:A7 cn co=true):
  Piece fns orc Γ a e x33 x34 x35 x74 x75 x76 cf8 ts h (NS Γ S a e q vo lo vn ln pn):=by
 obtain ⟨k0,k1,k4,k5,k33,k34,k35,k74,k75,k76⟩:=k
 have hO:=O.lt
 have hon:=(W.part c.length a c u (Nat.le_refl _) ha hcu q o hq).1
 obtain ⟨_,ro,hro,wo,_,_,p1,p2,_⟩:=so vo lo po rfl
 have hlo:=CW O lo (a:=(o:Int)) ⟨by omega,by omega⟩ om
 obtain ⟨hvn,rn,hrn,wn,cw,uw,p3,p4,p5,p6⟩:=sn vn ln pn rfl
 have hln:=CW O ln (a:=(a:Int)) ⟨by omega,by omega⟩ om
 have ar: -1≤(a:Int)∧(a:Int)<(Γ.n:Int):=⟨by omega,by omega⟩
 have ple:PlK Γ S a 0 e a:=⟨a,c,u,rfl,ha,hcu,he⟩
 have plq:PlK Γ S a 0 q o:=⟨a,c,u,rfl,ha,hcu,hq⟩
 obtain ⟨hA,hAe⟩:∃x,x=(h.push (.cells [.int .i64 0,.int .i64 0])).set h.next (.cells [.int .i64 0,.int .i64 (e:Nat)]):=⟨_,rfl⟩
 have gA:dB h hA:=by rw [hAe];exact gw2
 have nA:hA.next=h.next+1:=by rw [hAe];simp
 have a14:cont hA h.next=some [.int .i64 0,.int .i64 (e:Nat)]:=by rw [hAe];exact aH (by simp)
 have a12:=(aF gA (dD c12)).trans c12
 have a13:=(aF gA (dD c13)).trans c13
 have TA:=T.grow gA
 by_cases c0:0<ln
 case neg=>
  have d:decide ((0:Int)<((ln:Nat):Int))=false:=dF om
  refine Piece.step (NJ H O K W TA ha (ts:=cfM Γ a e q b12 b13 h.next x33 x34 x35 x74 x75 x76++[(135,.bool false)]) ⟨rfl,rfl,rfl,rfl,rfl,rfl,rfl,rfl,rfl,rfl⟩ rfl rfl rfl rfl a12 a13 (sl:=0) (sp:=e) a14 hvo hvn om hco hcn hb ple plq) gA ?_ ⟨0,fun m hm=> ?b1⟩
  ·rintro ⟨n,l,p,l2,p2,h1,h2,h3,h4⟩
   exact ⟨0,e,n,l,p,l2,p2,co,uo,cn,un,hco,hcn,hb,h1,.inl ⟨by omega,rfl,rfl⟩,h2,h3,h4⟩
  case b1=>
   exact SX (gU @MF @cfM.eq_1 k0 k1 k4 k5 k33 k34 k35 k74 k75 k76 t11 t12 t13 (Eq.symm hAe) (cj2 a13 d))
 have d:decide ((0:Int)<((ln:Nat):Int))=true:=dT om
 rcases Mz H O K W TA ar (n:=ln) om ple with ⟨_,h1,⟨m1,x1⟩,g1,l1,p1',k',rfl,cl1,pk,uk⟩|⟨er,h1,hpe,⟨m1,x1⟩,ch1⟩
 case inr=>
  refine .inr ⟨er, ?ts2,h1,hpe,⟨m1,fun m hm=> ?b2⟩,AN gA ch1⟩
  case b2=>
   have x1' :=x1 m hm
   simp only [Int.ofNat_zero] at x1'
   exact SX (gU @MF k0 k1 k4 k5 k33 k34 k35 k74 k75 k76 t11 t12 t13 (Eq.symm hAe) a13 (cj4 a14 d x1' @qW))
 have n1:=g1.next
 have b12' :=(aF g1 (dD a12)).trans a12
 have Xn :=(aF g1 (dD a13)).trans a13
 have b14:=(aF g1 (dD a14)).trans a14
 obtain ⟨h2,h2e⟩:∃x,x=h1.set h.next (.cells [.int .i64 (l1:Nat),.int .i64 (pn:Nat)]):=⟨_,rfl⟩
 have g2:dB h h2:=by rw [h2e];exact (gA.trans g1).set om om _
 have ne12:b12≠h.next:=fun w=>by have:=dD c12;omega
 have ne13:b13≠h.next:=fun w=>by have:=dD c13;omega
 have e12:cont h2 b12=some [.int .i64 (vo:Nat),.int .i64 (lo:Nat),.int .i64 (po:Nat)]:=by rw [h2e,aO om ne12];exact b12'
 have e13:cont h2 b13=some [.int .i64 (vn:Nat),.int .i64 (ln:Nat),.int .i64 (pn:Nat)]:=by rw [h2e,aO om ne13];exact Xn
 have e14:cont h2 h.next=some [.int .i64 (l1:Nat),.int .i64 (pn:Nat)]:=by rw [h2e];exact aH om
 have hkw:k' =wn:=om
 subst hkw
 have pln:=Bf W pk p5 p6
 refine Piece.step (NJ H O K W (T.grow g2) ha (ts:=cfM Γ a e q b12 b13 h.next x33 x34 x35 x74 x75 x76) ⟨rfl,rfl,rfl,rfl,rfl,rfl,rfl,rfl,rfl,rfl⟩ rfl rfl rfl rfl e12 e13 (sl:=l1) (sp:=pn) e14 hvo hvn om hco hcn hb pln plq) g2 ?_ ⟨m1,fun m hm=> ?b3⟩
 ·rintro ⟨n,l,p,l2,p2,h1,h2,h3,h4⟩
  exact ⟨l1,pn,n,l,p,l2,p2,co,uo,cn,un,hco,hcn,hb,h1,.inr ⟨c0,rfl,p1',cl1⟩,h2,h3,h4⟩
 case b3=>
  have x1' :=x1 m hm
  simp only [Int.ofNat_zero] at x1'
  exact SX (gU @MF @cfM.eq_1 k0 k1 k4 k5 k33 k34 k35 k74 k75 k76 t11 t12 t13 (Eq.symm hAe) (cj8 a13 a14 d x1' Xn b14 (Eq.symm h2e) @qW))
theorem VN {ts:iH} (k:K10 Γ a e x33 x34 x35 x74 x75 x76 ts) {told AR:Tg} {y1 y2 y3 z1 z2 z3:Int} (t11:fX ts 11= .int .i64 (q:Nat)) (t12:fX ts 12= .ptr b12 0) (t13:fX ts 13= .ptr b13 0)
  (hy:tgA told= .agg [.int .i64 y1,.int .i64 y2,.int .i64 y3]) (hz:tgA AR= .agg [.int .i64 z1,.int .i64 z2,.int .i64 z3]) (c12:cont h b12=some [.int .i64 y1,.int .i64 y2,.int .i64 y3]) (c13:cont h b13=some [.int .i64 z1,.int .i64 z2,.int .i64 z3]) (so:BC Γ S (o:Int) told) (sn:BC Γ S (a:Int) AR):
  Piece fns orc Γ a e x33 x34 x35 x74 x75 x76 cf6 ts h (NT Γ S a e q told AR):=by
 have k' :=k
 obtain ⟨k0,k1,k4,k5,k33,k34,k35,k74,k75,k76⟩:=k
 cases told with
 |none=>
  cases hy
  have d:decide ((-1:Int)<0)=true:=rfl
  refine .inl ⟨.exit 3, ?ts1,h,⟨0,fun m hm=> ?b1⟩,.refl _,.inr rfl, ?kk,.inl rfl⟩
  case b1=>
   exact SX (BL @RQ k0 k1 k4 k5 k33 k34 k35 k74 k75 k76 t11 t12 t13 c12 d)
  case kk=>exact ⟨rfl,rfl,rfl,rfl,rfl,rfl,rfl,rfl,rfl,rfl⟩
 |some p=>
  obtain ⟨vo,lo,po⟩:=p
  cases hy
  have d:decide (((vo:Nat):Int)<0)=false:=dF om
  obtain ⟨hvo,_⟩:=so vo lo po rfl
  have to7:∃n,∀m,n≤m→fV (eval fns orc m) 29 none cf6 ⟨ts,[],.plain,h⟩=fV (eval fns orc m) 29 none cf7 ⟨cfL Γ a e q b12 b13 x33 x34 x35 x74 x75 x76++[(117,.bool false)],[],.plain,h⟩:=⟨0,fun m hm=>by
   exact SX (gU @RQ @cfL.eq_1 k0 k1 k4 k5 k33 k34 k35 k74 k75 k76 t11 t12 t13 c12 d)⟩
  have bad:(AR=none∨∃vn ln pn co uo cn un,AR=some (vn,ln,pn)∧vn<Γ.n∧(S vo).ch=some (co,uo)∧(S vn).ch=some (cn,un)∧A7 cn co=false)→Piece fns orc Γ a e x33 x34 x35 x74 x75 x76 cf7 (cfL Γ a e q b12 b13 x33 x34 x35 x74 x75 x76++[(117,.bool false)]) h (NT Γ S a e q (some (vo,lo,po)) AR):=by
   obtain ⟨m1,x1⟩:=uM H 11 h
   rintro (rfl|⟨vn,ln,pn,co,uo,cn,un,rfl,hvn,hco,hcn,hb⟩)
   ·cases hz
    have d2:decide (0≤(-1:Int))=false:=rfl
    refine .inr ⟨11, ?ts2,h,by omega,⟨m1,fun m hm=> ?b2⟩,.refl _ _⟩
    case b2=>
     have x1' :=x1 m hm
     exact SX (cj5 @MG @cfL.eq_1 c13 d2 x1')
   ·cases hz
    have d2:decide (0≤((vn:Nat):Int))=true:=dT om
    obtain ⟨m2,x2⟩:=MN H O W T hvn hvo hcn hco
    rw [hb] at x2
    refine .inr ⟨11, ?ts3,h,by omega,⟨m1+m2,fun m hm=> ?b3⟩,.refl _ _⟩
    case b3=>
     have x1' :=x1 m om
     have x2' :=x2 m om
     exact SX (cj7 @MG @cfL.eq_1 c12 c13 d2 x2' x1')
  cases AR with
  |none=>exact Piece.step (bad (.inl rfl)) (.refl _) id to7
  |some p=>
   obtain ⟨vn,ln,pn⟩:=p
   obtain ⟨hvn,_⟩:=sn vn ln pn rfl
   obtain ⟨⟨co,uo⟩,hco⟩:=Option.ne_none_iff_exists'.1 (K vo)
   obtain ⟨⟨cn,un⟩,hcn⟩:=Option.ne_none_iff_exists'.1 (K vn)
   cases hb:A7 cn co with
   |false=>exact Piece.step (bad (.inr ⟨vn,ln,pn,co,uo,cn,un,rfl,hvn,hco,hcn,hb⟩)) (.refl _) id to7
   |true=>
    cases hz
    have d2:decide (0≤((vn:Nat):Int))=true:=dT om
    obtain ⟨m1,x1⟩:=uL H 11 h
    obtain ⟨m2,x2⟩:=MN H O W T hvn hvo hcn hco
    rw [hb] at x2
    refine Piece.step (Piece.step (VM H O K W T ha hcu he hq (ts:=cfL Γ a e q b12 b13 x33 x34 x35 x74 x75 x76) ⟨rfl,rfl,rfl,rfl,rfl,rfl,rfl,rfl,rfl,rfl⟩ rfl rfl rfl c12 c13 hvo so sn hco hcn hb) (.refl _) (fun r=> .inr ⟨vo,lo,po,vn,ln,pn,rfl,rfl,r⟩) ⟨m1+m2,fun m hm=> ?b4⟩) (.refl _) id to7
    case b4=>
     have x1' :=x1 m om
     have x2' :=x2 m om
     exact SX (cj7 @MG @cfL.eq_1 c12 c13 d2 x2' x1')
end
end Go.Ly
namespace Go.Ly
open Go Go.Am Go.Fs Go.Gn
variable {fns:Go.Am.F} {orc:Orc}
def Ld (Γ:Tb) (S:Nat→DY) (a:Nat) (c:List Nat) (s:List UInt8):Prop:=∃q told AR,(qB Γ s c.dropLast).getLast? =some q∧Ak Γ S c q s told∧Ak Γ S c (c.length -1) s AR∧NT Γ S a (c.length -1) q told AR
section
variable (H:Has fns orc) {Γ:Tb} (O:Γ.Ok) {S:Nat→DY} (K:BM S) (W:WF Γ S) {h:aD} (T:TB Γ S h) {a e:Nat} (ha:a<Γ.n) {x33 x34 x35 x74 x75 x76:AV} {c u:List Nat} (hcu:(S a).ch=some (c,u)) (he:c[e]? =some a)
include H O K W T ha hcu he
theorem VO {q o:Nat} (hq:c[q]? =some o) {ts:iH} (k:K10 Γ a e x33 x34 x35 x74 x75 x76 ts) {s:List UInt8} (t9:fX ts 9= .str s) (t11:fX ts 11= .int .i64 (q:Nat))
  {i1 k1' i2 k2' :Nat} {d1 d2:mZ} (f1:qL (eP (Γ.D o).pd) s=some (i1,k1')) (g1' :(eP (Γ.D o).pd)[i1]? =some d1) (b1' :(rM d1).length=1∨(vW d1).length=1)
  (f2:qL (eP (Γ.D a).pd) s=some (i2,k2')) (g2' :(eP (Γ.D a).pd)[i2]? =some d2) (b2' :(rM d2).length=1∨(vW d2).length=1):
  Piece fns orc Γ a e x33 x34 x35 x74 x75 x76 cf5 ts h (∃told AR,Ak Γ S c q s told∧Ak Γ S c e s AR∧NT Γ S a e q told AR):=by
 obtain ⟨k0,k1,k4,k5,k33,k34,k35,k74,k75,k76⟩:=k
 have ltT:=T.lt
 obtain ⟨hP,hPe⟩:∃x,x=(h.push (.cells [.int .i64 0,.int .i64 0,.int .i64 0])).push (.cells [.int .i64 0,.int .i64 0,.int .i64 0]):=⟨_,rfl⟩
 have gP:dB h hP:=by rw [hPe];exact gw2
 have nP:hP.next=h.next+2:=by rw [hPe];simp
 have z3:allEq (KU Cm) [.int .i64 0,.int .i64 0,.int .i64 0] [.int .i64 0,.int .i64 0,.int .i64 0]=true:=rfl
 have p12:hP.get h.next=some (.cells [.int .i64 0,.int .i64 0,.int .i64 0]):=by rw [hPe,aP _ _ _ (by simp)];exact aL _ _ _ om om
 have p13:hP.get (h.next+1)=some (.cells [.int .i64 0,.int .i64 0,.int .i64 0]):=by rw [hPe];exact aL _ _ _ (by simp) (by simp)
 have TP:=T.grow gP
 obtain ⟨cc,tkc,vuc,ccP,y15,_⟩:=uR O TP ha hcu
 have ec:=vF tkc c
 rcases MP H O K W TP ha hcu (vc:= .sl tkc (ints c)) (.sl _ _) hq f1 g1' b1' with ⟨_,h1,⟨m1,x1⟩,g1,told,rfl,br1,st1⟩|⟨er,h1,hpe,⟨m1,x1⟩,ch1⟩
 case inr=>
  refine .inr ⟨er, ?ts1,h1,hpe,⟨m1,fun m hm=> ?b1⟩,AN gP ch1⟩
  case b1=>
   have x1' :=x1 m hm
   exact SX (gU @MH k0 k1 k4 k5 k33 k34 k35 k74 k75 k76 t9 t11 (Eq.symm hPe) nP p12 (cj9 p13 z3 @iU.eq_1 @iU.eq_2 ccP y15 ec x1' @qW))
 have T1:=TP.grow g1
 have n1:=g1.next
 have c1:=(aF g1 (dD ccP)).trans ccP
 have q12:=(g1.get _ (by omega:h.next<hP.next)).trans p12
 have q13:=(g1.get _ (by omega:h.next+1<hP.next)).trans p13
 rcases MP H O K W T1 ha hcu (vc:= .sl tkc (ints c)) (.sl _ _) he f2 g2' b2' with ⟨_,h2,⟨m2,x2⟩,g2,AR,rfl,br2,st2⟩|⟨er,h2,hpe,⟨m2,x2⟩,ch2⟩
 case inr=>
  refine .inr ⟨er, ?ts2,h2,hpe,⟨m1+m2,fun m hm=> ?b2⟩,AN (gP.trans g1) ch2⟩
  case b2=>
   have x1' :=x1 m om
   have x2' :=x2 m om
   exact SX (gU @MH k0 k1 k4 k5 k33 k34 k35 k74 k75 k76 t9 t11 (Eq.symm hPe) nP p12 (vM p13 q12 q13 z3 @iU.eq_1 @iU.eq_2 ccP y15 ec x1' c1 x2' @qW))
 have n2:=g2.next
 have r12:=(g2.get _ om).trans q12
 have r13:=(g2.get _ om).trans q13
 obtain ⟨y1,y2,y3,hy⟩:=AS told
 obtain ⟨z1,z2,z3',hz⟩:=AS AR
 have r12c:=Av r12
 obtain ⟨h3,h3e⟩:∃x,x=h2.set h.next (.cells [.int .i64 y1,.int .i64 y2,.int .i64 y3]):=⟨_,rfl⟩
 have n3:h3.next=h2.next:=by rw [h3e];simp
 have s12:cont h3 h.next=some [.int .i64 y1,.int .i64 y2,.int .i64 y3]:=by rw [h3e];exact aH om
 have s13:cont h3 (h.next+1)=some [.int .i64 0,.int .i64 0,.int .i64 0]:=by rw [h3e];exact (aO om om).trans (Av r13)
 obtain ⟨h4,h4e⟩:∃x,x=h3.set (h.next+1) (.cells [.int .i64 z1,.int .i64 z2,.int .i64 z3']):=⟨_,rfl⟩
 have w12:cont h4 h.next=some [.int .i64 y1,.int .i64 y2,.int .i64 y3]:=by rw [h4e];exact (aO om om).trans s12
 have w13:cont h4 (h.next+1)=some [.int .i64 z1,.int .i64 z2,.int .i64 z3']:=by rw [h4e];exact aH om
 have g4:dB h h4:=by rw [h4e,h3e];exact (((gP.trans g1).trans g2).set om om _).set om (by simp;omega) _
 refine Piece.step (VN H O K W (T.grow g4) ha hcu he hq (ts:=cfL Γ a e q h.next (h.next+1) x33 x34 x35 x74 x75 x76) ⟨rfl,rfl,rfl,rfl,rfl,rfl,rfl,rfl,rfl,rfl⟩ rfl rfl rfl hy hz w12 w13 st1 st2) g4 (fun r=>⟨told,AR,br1,br2,r⟩) ⟨m1+m2,fun m hm=> ?b3⟩
 case b3=>
  have x1' :=x1 m om
  have x2' :=x2 m om
  rw [hy] at x1'
  rw [hz] at x2'
  exact SX (gU @MH @cfL.eq_1 k0 k1 k4 k5 k33 k34 k35 k74 k75 k76 t9 t11 (Eq.symm hPe) nP (gU p12 p13 q12 q13 r12 r13 r12c z3 @iU.eq_1 @iU.eq_2 ccP y15 ec x1' c1 x2' (cj4 (Eq.symm h3e) s13 (Eq.symm h4e) @qW)))
theorem VH (hel:e=c.length -1) {ts:iH} (k:K10 Γ a e x33 x34 x35 x74 x75 x76 ts) {s:List UInt8} {j:Nat} {V2:List AV} (t74:jN x74 V2) (hj:V2[j]? =some (.str s)) (t76:x76= .int .i64 (j:Nat))
  {i2 k2' :Nat} {d2:mZ} (f2:qL (eP (Γ.D a).pd) s=some (i2,k2')) (g2' :(eP (Γ.D a).pd)[i2]? =some d2) (b2' :(rM d2).length=1∨(vW d2).length=1):
  Piece fns orc Γ a e x33 x34 x35 x74 x75 x76 cfY ts h (Ld Γ S a c s):=by
 obtain ⟨k0,k1,k4,k5,k33,k34,k35,k74,k75,k76⟩:=k
 have F:=W a ha c u hcu
 obtain ⟨c0,hc0,_⟩:=W.last ha hcu
 have hcl:0<c.length:=by rw [hc0];simp
 have hcn:∀d∈c,d<Γ.n:=fun d hd=>by
  obtain ⟨q,hq⟩:=tO hd
  exact (W.part c.length a c u (Nat.le_refl _) ha hcu q d hq).1
 obtain ⟨cc,tkc,vuc,ccP,y15,_⟩:=uR O T ha hcu
 obtain ⟨tk',dl⟩:=Ez hcl tkc
 rw [show ((c.length:Int) -1)=((e:Nat):Int) by omega] at dl
 have ia:=pY t74 hj rfl
 obtain ⟨h1,vL,g1,⟨m1,x1⟩,rl⟩:=B9 H O (S:=S) s (.sl tk' (ints c.dropLast)) (fun d hd=>hcn d (List.dropLast_subset c hd)) (by have:=F.max;simp;omega) T
 have ll:∀hp,oW hp .sl vL= .ok (qB Γ s c.dropLast).length:=fun hp=>by rw [fI rl hp,mU]
 by_cases cl:qB Γ s c.dropLast=[]
 ·have dl0:decide ((0:Int)<(((qB Γ s c.dropLast).length:Nat):Int))=false:=dF (by rw [cl];simp)
  obtain ⟨m2,x2⟩:=uM H 11 h1
  refine .inr ⟨11, ?ts1,h1,by omega,⟨m1+m2,fun m hm=> ?b1⟩,iP g1⟩
  case b1=>
   have x1' :=x1 m om
   have x2' :=x2 m om
   exact SX (gU @RO t76 k0 k1 k4 k5 k33 k34 k35 k74 k75 k76 ia ccP y15 dl (cj4 x1' ll dl0 x2'))
 have pl:0<(qB Γ s c.dropLast).length:=List.length_pos_iff.2 cl
 have dl0:decide ((0:Int)<(((qB Γ s c.dropLast).length:Nat):Int))=true:=dT om
 obtain ⟨m2,x2⟩:=uL H 11 h1
 obtain ⟨q,hq⟩:∃q,(qB Γ s c.dropLast).getLast? =some q:=⟨_,List.getLast?_eq_some_getLast cl⟩
 have hq' :(qB Γ s c.dropLast)[(qB Γ s c.dropLast).length -1]? =some q:=by rw [←List.getLast?_eq_getElem?];exact hq
 obtain ⟨o,i',kk,x,g1',gf,gx,gk⟩:=EE (List.mem_of_getElem? hq')
 have hco:c[q]? =some o:=by
  rw [List.getElem?_dropLast] at g1'
  split at g1'
  ·exact g1'
  ·cases g1'
 have hon:=hcn o (List.mem_of_getElem? hco)
 have llb:(qB Γ s c.dropLast).length<10000000:=by
  have:=wP (Γ:=Γ) (s:=s) c.dropLast 0 []
  have:=F.max
  simp only [qB]
  simp at*
  omega
 have w2:IntKind.wrap .i64 ((((qB Γ s c.dropLast).length:Nat):Int) -1)=(((qB Γ s c.dropLast).length -1:Nat):Int):=by rw [pN om om];omega
 have iq:=qG rl hq'
 refine Piece.step (VO H O K W (T.grow g1) ha hcu he hco (ts:=[(0,.ptr Γ.tb 0),(1,.int .i64 (a:Nat)),(4,.ptr (Γ.loc a) 0),(5,.int .i64 (e:Nat)),(9,.str s),(11,.int .i64 (q:Nat)),(33,x33),(34,x34),(35,x35),(74,x74),(75,x75),(76,x76)]) ⟨rfl,rfl,rfl,rfl,rfl,rfl,rfl,rfl,rfl,rfl⟩ rfl rfl gf gx (D3 (O.ok o hon) (List.mem_of_getElem? gx) gk) f2 g2' b2') g1 ?_ ⟨m1+m2,fun m hm=> ?b2⟩
 ·rintro ⟨told,AR,r1,r2,r3⟩
  subst hel
  exact ⟨q,told,AR,hq,r1,r2,r3⟩
 case b2=>
  have x1' :=x1 m om
  have x2' :=x2 m om
  exact SX (gU @RO t76 k0 k1 k4 k5 k33 k34 k35 k74 k75 k76 ia ccP y15 dl (cj6 x1' ll dl0 x2' w2 iq))
end
end Go.Ly
namespace Go.Ly
open Go Go.Am Go.Fs Go.Gn
variable {fns:Go.Am.F} {orc:Orc}
def PC (fns:Go.Am.F) (orc:Orc) (Γ:Tb) (f:FuncId) (c:AC) (ts:iH) (h:aD) (R:Am.Exit→iH→Prop):Prop:=
 (∃x ts' h',(∃n,∀m,n≤m→fV (eval fns orc m) f none c ⟨ts,[],.plain,h⟩= .ok (.code x ⟨ts',[],.plain,h'⟩))∧dB h h' ∧R x ts')∨
 (∃er ts' h',0<er∧(∃n,∀m,n≤m→fV (eval fns orc m) f none c ⟨ts,[],.plain,h⟩= .ok (.code (.panic (irr er)) ⟨ts',[],.plain,h'⟩))∧Chg (pS Γ) h h')
theorem PC.step {Γ:Tb} {f:FuncId} {c c' :AC} {ts ts' :iH} {h h' :aD} {R R' :Am.Exit→iH→Prop} (p:PC fns orc Γ f c' ts' h' R') (g:dB h h') (q:∀x t,R' x t→R x t)
  (e1:∃n,∀m,n≤m→fV (eval fns orc m) f none c ⟨ts,[],.plain,h⟩=fV (eval fns orc m) f none c' ⟨ts',[],.plain,h'⟩):PC fns orc Γ f c ts h R:=by
 obtain ⟨n1,e1⟩:=e1
 rcases p with ⟨x,t2,h2,⟨n2,e2⟩,g2,hq⟩|⟨er,t2,h2,he,⟨n2,e2⟩,ch⟩
 ·exact .inl ⟨x,t2,h2,⟨n1+n2,fun m hm=>(e1 m om).trans (e2 m om)⟩,g.trans g2,q _ _ hq⟩
 ·exact .inr ⟨er,t2,h2,he,⟨n1+n2,fun m hm=>(e1 m om).trans (e2 m om)⟩,AN g ch⟩
theorem PC.again {Γ:Tb} {f:FuncId} {c C:AC} {ts ts' :iH} {h h' :aD} {R R' :Am.Exit→iH→Prop} (p:PC fns orc Γ f (.loop c) ts' h' R') (g:dB h h') (q:∀x t,R' x t→R x t)
  (e1:∃n,∀m,n≤m→fV (eval fns orc m) f none C ⟨ts,[],.plain,h⟩=eval fns orc m (.code f none (.loop c) ⟨ts',[],.plain,h'⟩)):PC fns orc Γ f C ts h R:=by
 obtain ⟨n1,e1⟩:=e1
 have lift:∀{r:Ans},(∃n,∀m,n≤m→fV (eval fns orc m) f none (.loop c) ⟨ts',[],.plain,h'⟩= .ok r)→∃n,∀m,n≤m→fV (eval fns orc m) f none C ⟨ts,[],.plain,h⟩= .ok r:=by
  rintro r ⟨n2,e2⟩
  refine ⟨n1+n2+1,fun m hm=> ?_⟩
  rw [e1 m om]
  obtain ⟨k,rfl⟩:∃k,m=k+1:=⟨m -1,by omega⟩
  exact e2 k om
 rcases p with ⟨x,t2,h2,e2,g2,hq⟩|⟨er,t2,h2,he,e2,ch⟩
 ·exact .inl ⟨x,t2,h2,lift e2,g.trans g2,q _ _ hq⟩
 ·exact .inr ⟨er,t2,h2,he,lift e2,AN g ch⟩
def cfN:AC:=p29x111001100111100
def cfX:AC:=p29x111001100
def VJ:AC:=p29x11100110011
def VI:AC:=p29x111001100111
theorem MD:cfN= .seq p29x1110011001111000 (.seq p29x11100110011110010 (.seq (.block 3 cfY) p29x111001100111100111)):=rfl
theorem IU:cfX= .seq p29x1110011000 (.seq p29x11100110010 VJ):=rfl
theorem Fw:VJ= .seq p29x111001100110 VI:=rfl
def cfT (Γ:Tb) (a e:Nat) (x33 x34 x35 x74:AV) (len j:Nat):iH:=[(0,.ptr Γ.tb 0),(1,.int .i64 (a:Nat)),(4,.ptr (Γ.loc a) 0),(5,.int .i64 (e:Nat)),(33,x33),(34,x34),(35,x35),(74,x74),(75,.int .i64 (len:Nat)),(76,.int .i64 (j:Nat))]
structure K7 (Γ:Tb) (a e:Nat) (x33 x34 x35:AV) (ts:iH):Prop where
 k0:fX ts 0= .ptr Γ.tb 0
 k1:fX ts 1= .int .i64 (a:Nat)
 k4:fX ts 4= .ptr (Γ.loc a) 0
 k5:fX ts 5= .int .i64 (e:Nat)
 k33:fX ts 33=x33
 k34:fX ts 34=x34
 k35:fX ts 35=x35
def Lf (Γ:Tb) (S:Nat→DY) (a:Nat) (c:List Nat) (x:mZ):Prop:=
 (kS x=2→(vW x).length=1→∃e t,(vW x)[0]? =some e∧Cb Γ S (a:Int) e t)∧
 (Ax (kS x)=true→¬((rM x).length=1∧∃d,(rM x)[0]? =some d∧(Bt d).length=0)→∀s∈jI x,Ld Γ S a c s)
section
variable (H:Has fns orc) {Γ:Tb} (O:Γ.Ok) {S:Nat→DY} (K:BM S) (W:WF Γ S) {a e:Nat} (ha:a<Γ.n) {c u:List Nat} (hcu:(S a).ch=some (c,u)) (he:c[e]? =some a) (hel:e=c.length -1) (hD:vP Γ a c.dropLast)
 {i:Nat} {x:mZ} (hi:(eP (Γ.D a).pd)[i]? =some x)
include H O K W ha hcu he hel hD hi
theorem VK (hbk:Ax (kS x)=true) {x33 x34 x35 vn:AV} (hvn:jN vn ((jI x).map AV.str)):∀(k j:Nat) (h:aD),j+k=(jI x).length→TB Γ S h→∀ts,K7 Γ a e x33 x34 x35 ts→fX ts 74=vn→fX ts 75= .int .i64 ((jI x).length:Nat)→fX ts 76= .int .i64 (j:Nat)→
  PC fns orc Γ 29 (.loop cfN) ts h fun y t=>y= .exit 2∧K7 Γ a e x33 x34 x35 t∧∀q s,j≤q→(jI x)[q]? =some s→Ld Γ S a c s:=by
 have hnn:=(qK (O.ok a ha)).2 x (List.mem_of_getElem? hi)
 intro k
 induction k with
 |zero=>
  rintro j h hj T ts ⟨k0,k1,k4,k5,k33,k34,k35⟩ t74 t75 t76
  have d:decide ((j:Int)<(((jI x).length:Nat):Int))=false:=dF om
  refine .inl ⟨.exit 2, ?ts0,h,⟨0,fun m _=> ?b0⟩,.refl _,rfl, ?kk,fun q s h1 h2=>by have:=(List.getElem?_eq_some_iff.1 h2).1;omega⟩
  case b0=>
   rw [aJ]
   exact SX (qP @MD k0 k1 k4 k5 k33 k34 k35 t74 t75 t76 d)
  case kk=>exact ⟨rfl,rfl,rfl,rfl,rfl,rfl,rfl⟩
 |succ k ih=>
  rintro j h hj T ts ⟨k0,k1,k4,k5,k33,k34,k35⟩ t74 t75 t76
  have hlt:j<(jI x).length:=om
  have d:decide ((j:Int)<(((jI x).length:Nat):Int))=true:=dT om
  obtain ⟨s,hs⟩:∃s,(jI x)[j]? =some s:=⟨_,List.getElem?_eq_getElem hlt⟩
  have w:IntKind.wrap .i64 ((j:Int)+1)=((j+1:Nat):Int):=tL hlt om
  have dok:=hD i x j s hi hs
  have hb2:=D3 (O.ok a ha) (List.mem_of_getElem? hi) (by have:=of_decide_eq_true hbk;omega)
  rcases VH H O K W T ha hcu he hel (ts:=cfT Γ a e x33 x34 x35 vn (jI x).length j++[(77,.bool true)]) (x33:=x33) (x34:=x34) (x35:=x35) (x74:=vn) (x75:= .int .i64 ((jI x).length:Nat)) (x76:= .int .i64 (j:Nat)) ⟨rfl,rfl,rfl,rfl,rfl,rfl,rfl,rfl,rfl,rfl⟩ (s:=s) (j:=j) hvn (by simp [hs]) rfl dok.1 hi hb2 with ⟨y,t1,h1,⟨n1,e1⟩,g1,hy,⟨q0,q1,q4,q5,q33,q34,q35,q74,q75,q76⟩,cn⟩|⟨er,t1,h1,hpe,⟨n1,e1⟩,ch1⟩
  ·have step:∃n,∀m,n≤m→fV (eval fns orc m) 29 none (.loop cfN) ⟨ts,[],.plain,h⟩=eval fns orc m (.code 29 none (.loop cfN) ⟨cfT Γ a e x33 x34 x35 vn (jI x).length (j+1),[],.plain,h1⟩):=by
    refine ⟨n1,fun m hm=> ?_⟩
    have e1' :=e1 m hm
    simp only [cfT,List.cons_append,List.nil_append] at e1'
    rw [aJ]
    rcases hy with rfl|rfl<;>exact SX (gU @MD @cfT.eq_1 k0 k1 k4 k5 k33 k34 k35 t74 t75 t76 d e1' q0 q1 (cj9 q4 q5 q33 q34 q35 q74 q75 q76 w))
   have R:=ih (j+1) h1 om (T.grow g1) (cfT Γ a e x33 x34 x35 vn (jI x).length (j+1)) ⟨rfl,rfl,rfl,rfl,rfl,rfl,rfl⟩ rfl rfl rfl
   refine PC.again R g1 ?_ step
   rintro y t ⟨r1,r2,r3⟩
   refine ⟨r1,r2,fun q s' hq hs' => ?_⟩
   by_cases e:q=j
   ·subst e
    rw [hs] at hs'
    cases hs'
    exact cn
   ·exact r3 q s' om hs'
  ·refine .inr ⟨er, ?ts2,h1,hpe,⟨n1,fun m hm=> ?b2⟩,ch1⟩
   case b2=>
    have e1' :=e1 m hm
    simp only [cfT,List.cons_append,List.nil_append] at e1'
    rw [aJ]
    exact SX (Af @MD @cfT.eq_1 k0 k1 k4 k5 k33 k34 k35 t74 t75 t76 d e1')
end
end Go.Ly
namespace Go.Ly
open Go Go.Am Go.Fs Go.Gn
variable {fns:Go.Am.F} {orc:Orc}
theorem NH:VI= .seq p29x1110011001110 (.block 2 (.loop cfN)):=rfl
def cfD:AC:=p29x11100
theorem ME:cfD= .seq p29x111000 (.seq p29x1110010 (.seq (.block 1 cfX) p29x11100111)):=rfl
theorem NG:a29.body= .seq p29x0 (.seq p29x10 (.seq p29x110 (.block 0 (.loop cfD)))):=rfl
theorem RM:a29.results=[]:=rfl
section
variable (H:Has fns orc) {Γ:Tb} (O:Γ.Ok) {S:Nat→DY} (K:BM S) (W:WF Γ S) {a e:Nat} (ha:a<Γ.n) {c u:List Nat} (hcu:(S a).ch=some (c,u)) (he:c[e]? =some a) (hel:e=c.length -1) (hD:vP Γ a c.dropLast)
include H O K W ha hcu he hel hD
theorem NI {i:Nat} {x:mZ} (hi:(eP (Γ.D a).pd)[i]? =some x) {x33 x34 x35 vn vs vp vy:AV} (hvn:jN vn ((jI x).map AV.str)) (ry:RVs ((rM x).map Part.desc) vy) {h:aD} (T:TB Γ S h) {ts:iH} (k:K7 Γ a e x33 x34 x35 ts) {b7:Nat} (t7:fX ts 7= .ptr b7 0) (c7:cont h b7=some [.int .i64 (kS x),vn,vs,vp,vy]):
  PC fns orc Γ 29 VJ ts h fun y t=>(y= .normal∨y= .exit 1)∧K7 Γ a e x33 x34 x35 t∧(Ax (kS x)=true→¬((rM x).length=1∧∃d,(rM x)[0]? =some d∧(Bt d).length=0)→∀s∈jI x,Ld Γ S a c s):=by
 obtain ⟨k0,k1,k4,k5,k33,k34,k35⟩:=k
 obtain ⟨h1,g1,e1⟩:=KP (k:=kS x) (vn:=vn) (vs:=vs) (vp:=vp) (vy:=vy) H h
 have d7:=(aF g1 (dD c7)).trans c7
 have ly:∀hp,oW hp .sl vy= .ok (rM x).length:=fun hp=>by have:=ry.len hp;simpa using this
 have ln:∀hp,oW hp .sl vn= .ok (jI x).length:=fun hp=>by rw [fI hvn hp,List.length_map]
 cases hbk:Ax (kS x) with
 |false=>
  rw [hbk] at e1
  refine .inl ⟨.exit 1, ?ts0,h1,⟨2,fun m hm=> ?b0⟩,g1,.inr rfl, ?kk0,fun w=>by cases w⟩
  case b0=>
   have e1' :=e1 m hm
   exact SX (tG @Fw k0 k1 k4 k5 k33 k34 k35 t7 c7 e1')
  case kk0=>exact ⟨rfl,rfl,rfl,rfl,rfl,rfl,rfl⟩
 |true=>
  rw [hbk] at e1
  have names:∀ts',K7 Γ a e x33 x34 x35 ts' →fX ts' 7= .ptr b7 0→PC fns orc Γ 29 VI ts' h1 fun y t=>(y= .normal∨y= .exit 1)∧K7 Γ a e x33 x34 x35 t∧∀s∈jI x,Ld Γ S a c s:=by
   rintro ts' ⟨k0,k1,k4,k5,k33,k34,k35⟩ t7
   rcases VK H O K W ha hcu he hel hD hi hbk hvn (x33:=x33) (x34:=x34) (x35:=x35) (jI x).length 0 h1 om (T.grow g1) (cfT Γ a e x33 x34 x35 vn (jI x).length 0) ⟨rfl,rfl,rfl,rfl,rfl,rfl,rfl⟩ rfl rfl rfl with ⟨_,t2,h2,⟨n2,e2⟩,g2,rfl,kt,cn⟩|⟨er,t2,h2,hpe,⟨n2,e2⟩,ch2⟩
   ·refine .inl ⟨.normal,t2,h2,⟨n2,fun m hm=> ?b1⟩,g2,.inl rfl,kt,fun s hs=> ?q1⟩
    case q1=>
     obtain ⟨q,hq⟩:=tO hs
     exact cn q s (Nat.zero_le _) hq
    case b1=>
     have e2' :=e2 m hm
     simp only [cfT,Int.ofNat_zero] at e2'
     exact SX (qP @NH k0 k1 k4 k5 k33 k34 k35 t7 d7 ln e2')
   ·refine .inr ⟨er,t2,h2,hpe,⟨n2,fun m hm=> ?b2⟩,ch2⟩
    case b2=>
     have e2' :=e2 m hm
     simp only [cfT,Int.ofNat_zero] at e2'
     exact SX (qP @NH k0 k1 k4 k5 k33 k34 k35 t7 d7 ln e2')
  by_cases c1:(rM x).length=1
  case neg=>
   have dd:decide ((((rM x).length:Nat):Int)=1)=false:=dF om
   refine PC.step (names ([(0,.ptr Γ.tb 0),(1,.int .i64 (a:Nat)),(4,.ptr (Γ.loc a) 0),(5,.int .i64 (e:Nat)),(7,.ptr b7 0),(33,x33),(34,x34),(35,x35),(72,.bool false)]) ⟨rfl,rfl,rfl,rfl,rfl,rfl,rfl⟩ rfl) g1 (fun y t r=>⟨r.1,r.2.1,fun _ _=>r.2.2⟩) ⟨2,fun m hm=> ?b3⟩
   case b3=>
    have e1' :=e1 m hm
    exact SX (Af @Fw k0 k1 k4 k5 k33 k34 k35 t7 c7 d7 e1' ly dd)
  have dd:decide ((((rM x).length:Nat):Int)=1)=true:=dT om
  obtain ⟨d0,hd0⟩:=List.length_eq_one_iff.1 c1
  rw [hd0] at ry
  obtain ⟨ys,hys,hyl,hyg⟩:=kZ ry
  obtain ⟨cd,hcd,rvd⟩:=hyg 0 (by simp)
  have icd:qH 7 vy (.int .i64 0)= .ok (.ep cd 0):=mW (i:=0) hys hcd (mC rvd)
  simp only [List.map_cons,List.map_nil,List.getElem_cons_zero] at rvd
  obtain ⟨Sg,np,rp⟩:∃Sg,nth cd 1=some Sg∧RVs ((Bt d0).map Part.exp) Sg:=by
   cases d0 with|mk s p dl e b i x=>
   cases rvd with|desc r1 r2 r3 r4 r5=>exact ⟨_,rfl,r1⟩
  have Wq:∀hp,oW hp .sl Sg= .ok (Bt d0).length:=fun hp=>by have:=rp.len hp;simpa using this
  by_cases c2:(Bt d0).length=0
  ·have d2:decide ((((Bt d0).length:Nat):Int)=0)=true:=dT om
   refine .inl ⟨.exit 1, ?ts4,h1,⟨2,fun m hm=> ?b4⟩,g1,.inr rfl, ?kk4,fun _ w=>absurd ⟨c1,d0,by rw [hd0];rfl,c2⟩ w⟩
   case b4=>
    have e1' :=e1 m hm
    exact SX (gU @Fw k0 k1 k4 k5 k33 k34 k35 t7 c7 d7 e1' ly dd icd np (cj2 Wq d2))
   case kk4=>exact ⟨rfl,rfl,rfl,rfl,rfl,rfl,rfl⟩
  ·have d2:decide ((((Bt d0).length:Nat):Int)=0)=false:=dF om
   refine PC.step (names ([(0,.ptr Γ.tb 0),(1,.int .i64 (a:Nat)),(4,.ptr (Γ.loc a) 0),(5,.int .i64 (e:Nat)),(7,.ptr b7 0),(33,x33),(34,x34),(35,x35),(72,.bool false)]) ⟨rfl,rfl,rfl,rfl,rfl,rfl,rfl⟩ rfl) g1 (fun y t r=>⟨r.1,r.2.1,fun _ _=>r.2.2⟩) ⟨2,fun m hm=> ?b5⟩
   case b5=>
    have e1' :=e1 m hm
    exact SX (gU @Fw k0 k1 k4 k5 k33 k34 k35 t7 c7 d7 e1' ly dd icd np (cj2 Wq d2))
theorem VL {vd:AV} {xs:List AV} (hvd:jN vd xs) (hxl:xs.length=(eP (Γ.D a).pd).length) (hg:∀i (hi:i<(eP (Γ.D a).pd).length),∃c,xs[i]? =some (.agg c)∧RV (.decl (eP (Γ.D a).pd)[i]) (.agg c)):
  ∀(k i:Nat) (h:aD),i+k=(eP (Γ.D a).pd).length→TB Γ S h→∀ts,K7 Γ a e vd (.int .i64 ((eP (Γ.D a).pd).length:Nat)) (.int .i64 (i:Nat)) ts→
   PC fns orc Γ 29 (.loop cfD) ts h fun y _=>y= .exit 0∧∀(i' :Nat) x,i≤i' →(eP (Γ.D a).pd)[i']? =some x→Lf Γ S a c x:=by
 have hbd:=(qK (O.ok a ha)).1
 have hO:=O.lt
 intro k
 induction k with
 |zero=>
  rintro i h hi T ts ⟨k0,k1,k4,k5,k33,k34,k35⟩
  have d:decide ((i:Int)<(((eP (Γ.D a).pd).length:Nat):Int))=false:=dF om
  refine .inl ⟨.exit 0, ?ts,h,⟨0,fun m _=> ?b0⟩,.refl _,rfl,fun i' x h1 h2=>by have:=(List.getElem?_eq_some_iff.1 h2).1;omega⟩
  case b0=>
   rw [aJ]
   exact SX (cj9 @ME k0 k1 k4 k5 k33 k34 k35 d)
 |succ k ih=>
  rintro i h hi T ts ⟨k0,k1,k4,k5,k33,k34,k35⟩
  have hlt:i<(eP (Γ.D a).pd).length:=om
  have d:decide ((i:Int)<(((eP (Γ.D a).pd).length:Nat):Int))=true:=dT om
  have w:IntKind.wrap .i64 ((i:Int)+1)=((i+1:Nat):Int):=tL hlt om
  obtain ⟨cc,hcc,rv⟩:=hg i hlt
  have hcl:=pU rv
  have hck:=tZ rv
  have hia:=mW hvd hcc hcl
  have p5:takeN 5 cc=some cc:=by rw [←hcl];exact eO cc
  have hst:=pX h (sz:=5) (z:=jO) rfl hcl hck
  obtain ⟨hA,hAe⟩:∃x,x=(h.push (.cells jO)).set h.next (.cells cc):=⟨_,rfl⟩
  rw [←hAe] at hst
  simp only [jO] at hst
  have gA:dB h hA:=by rw [hAe];exact gw2
  have cA:cont hA h.next=some cc:=by rw [hAe];exact aH (by simp)
  obtain ⟨x,hx0⟩:∃x,(eP (Γ.D a).pd)[i]? =some x:=⟨_,List.getElem?_eq_getElem hlt⟩
  have hxe:(eP (Γ.D a).pd)[i]=x:=by rw [List.getElem?_eq_getElem hlt] at hx0;exact Option.some.inj hx0
  rw [hxe] at rv
  obtain ⟨vn,vs,vp,vy,hcv,r0,rp,ry⟩:∃vn vs vp vy,cc=[.int .i64 (kS x),vn,vs,vp,vy]∧jN vn ((jI x).map AV.str)∧RVs ((vW x).map Part.exp) vp∧RVs ((rM x).map Part.desc) vy:=by
   cases x with|mk k n s p y=>
   cases rv with|decl r0 r1 r2 r3=>
   exact ⟨_,_,_,_,rfl,r0,r2,r3⟩
  rw [hcv] at cA
  have lp:∀hp,oW hp .sl vp= .ok (vW x).length:=fun hp=>by have:=rp.len hp;simpa using this
  have one:PC fns orc Γ 29 cfX ([(0,.ptr Γ.tb 0),(1,.int .i64 (a:Nat)),(4,.ptr (Γ.loc a) 0),(5,.int .i64 (e:Nat)),(33,vd),(34,.int .i64 ((eP (Γ.D a).pd).length:Nat)),(35,.int .i64 (i:Nat)),(36,.bool true)]) h fun y t=>(y= .normal∨y= .exit 1)∧K7 Γ a e vd (.int .i64 ((eP (Γ.D a).pd).length:Nat)) (.int .i64 (i:Nat)) t∧Lf Γ S a c x:=by
   have skip:¬(kS x=2∧(vW x).length=1)→PC fns orc Γ 29 cfX ([(0,.ptr Γ.tb 0),(1,.int .i64 (a:Nat)),(4,.ptr (Γ.loc a) 0),(5,.int .i64 (e:Nat)),(33,vd),(34,.int .i64 ((eP (Γ.D a).pd).length:Nat)),(35,.int .i64 (i:Nat)),(36,.bool true)]) h fun y t=>(y= .normal∨y= .exit 1)∧K7 Γ a e vd (.int .i64 ((eP (Γ.D a).pd).length:Nat)) (.int .i64 (i:Nat)) t∧Lf Γ S a c x:=by
    intro cn
    refine PC.step (NI H O K W ha hcu he hel hD hx0 r0 ry (T.grow gA) (ts:=[(0,.ptr Γ.tb 0),(1,.int .i64 (a:Nat)),(4,.ptr (Γ.loc a) 0),(5,.int .i64 (e:Nat)),(7,.ptr h.next 0),(33,vd),(34,.int .i64 ((eP (Γ.D a).pd).length:Nat)),(35,.int .i64 (i:Nat)),(47,.bool false)]) ⟨rfl,rfl,rfl,rfl,rfl,rfl,rfl⟩ rfl cA) gA (fun y t r=>⟨r.1,r.2.1,fun w1 w2=>absurd ⟨w1,w2⟩ cn,r.2.2⟩) ⟨0,fun m hm=> ?b1⟩
    case b1=>
     by_cases c2:kS x=2
     ·have d2:=dT c2
      have dp:decide ((((vW x).length:Nat):Int)=1)=false:=dF (fun q=>cn ⟨c2,by omega⟩)
      exact SV (cj9 @IU hia @ldS p5 hst cA d2 lp dp)
     ·have d2:=dF c2
      exact SV (cj7 @IU hia @ldS p5 hst cA d2)
   by_cases c2:kS x=2∧(vW x).length=1
   case neg=>exact skip c2
   obtain ⟨c2,cp⟩:=c2
   have d2:=dT c2
   have dp:decide ((((vW x).length:Nat):Int)=1)=true:=dT om
   obtain ⟨e0,he0⟩:=List.length_eq_one_iff.1 cp
   rw [he0] at rp
   obtain ⟨ys,hys,hyl,hyg⟩:=kZ rp
   obtain ⟨ce,hce,rve⟩:=hyg 0 (by simp)
   have ipe:qH 8 vp (.int .i64 0)= .ok (.ep ce 0):=mW (i:=0) hys hce (qC rve)
   have p8:takeN 8 ce=some ce:=by rw [←qC rve];exact eO ce
   rcases UU H O K W (T.grow gA) (a:=(a:Int)) ⟨by omega,by omega⟩ rve with ⟨_,h1,⟨m1,x1⟩,g1,t,rfl,mr,st⟩|⟨er,h1,hpe,⟨m1,x1⟩,ch1⟩
   ·refine PC.step (NI H O K W ha hcu he hel hD hx0 r0 ry ((T.grow gA).grow g1) (ts:=[(0,.ptr Γ.tb 0),(1,.int .i64 (a:Nat)),(4,.ptr (Γ.loc a) 0),(5,.int .i64 (e:Nat)),(7,.ptr h.next 0),(33,vd),(34,.int .i64 ((eP (Γ.D a).pd).length:Nat)),(35,.int .i64 (i:Nat))]) ⟨rfl,rfl,rfl,rfl,rfl,rfl,rfl⟩ rfl ((aF g1 (dD cA)).trans cA)) (gA.trans g1) (fun y t' r=>⟨r.1,r.2.1,fun _ _=>⟨e0,t,by rw [he0];rfl,mr⟩,r.2.2⟩) ⟨m1,fun m hm=> ?b2⟩
    case b2=>
     have x1' :=x1 m hm
     exact SV (qP @IU hia @ldS p5 hst cA d2 lp dp ipe p8 x1')
   ·refine .inr ⟨er, ?ts3,h1,hpe,⟨m1,fun m hm=> ?b3⟩,AN gA ch1⟩
    case b3=>
     have x1' :=x1 m hm
     exact SV (qP @IU hia @ldS p5 hst cA d2 lp dp ipe p8 x1')
  rcases one with ⟨y,t1,h1,⟨n1,e1⟩,g1,hy,⟨q0,q1,q4,q5,q33,q34,q35⟩,cd⟩|⟨er,t1,h1,hpe,⟨n1,e1⟩,ch1⟩
  ·refine PC.again (ih (i+1) h1 om (T.grow g1) [(0,.ptr Γ.tb 0),(1,.int .i64 (a:Nat)),(4,.ptr (Γ.loc a) 0),(5,.int .i64 (e:Nat)),(33,vd),(34,.int .i64 ((eP (Γ.D a).pd).length:Nat)),(35,.int .i64 ((i+1:Nat):Int))] ⟨rfl,rfl,rfl,rfl,rfl,rfl,rfl⟩) g1 ?_ ⟨n1,fun m hm=> ?b4⟩
   ·rintro y t ⟨r1,r2⟩
    refine ⟨r1,fun i' x' hq hx' => ?_⟩
    by_cases e:i' =i
    ·subst e
     rw [hx0] at hx'
     cases hx'
     exact cd
    ·exact r2 i' x' om hx'
   case b4=>
    have e1' :=e1 m hm
    rw [aJ]
    rcases hy with rfl|rfl<;>exact SX (gU @ME k0 k1 k4 k5 k33 k34 k35 d e1' q0 q1 q4 q5 q33 q34 (cj2 q35 w))
  ·refine .inr ⟨er, ?ts5,h1,hpe,⟨n1,fun m hm=> ?b5⟩,ch1⟩
   case b5=>
    have e1' :=e1 m hm
    rw [aJ]
    exact SX (uP @ME k0 k1 k4 k5 k33 k34 k35 d e1')
end
theorem Hn (H:Has fns orc) {Γ:Tb} (O:Γ.Ok) {S:Nat→DY} (K:BM S) (W:WF Γ S) {h:aD} (T:TB Γ S h) {a:Nat} (ha:a<Γ.n) {c u:List Nat} (hcu:(S a).ch=some (c,u)) (hD:vP Γ a c.dropLast):
  R8 fns orc Γ (.call 29 [.ptr Γ.tb 0,.int .i64 (a:Nat)] .plain h) h fun v=>v=jE∧∀x∈eP (Γ.D a).pd,Lf Γ S a c x:=by
 have F:=W a ha c u hcu
 obtain ⟨c0,hc0,_⟩:=W.last ha hcu
 have hcl:0<c.length:=by rw [hc0];simp
 obtain ⟨tk,v2,tT⟩:=T.t_
 have hia:=Γ.at tk ha
 obtain ⟨vc,vu,bk,hv⟩:=T.d_ a ha
 rw [hcu] at hv
 obtain ⟨tkw,rfl⟩:=B7 hv
 have k:=O.ok a ha
 have n15:=EN k (S a).busy (.sl tkw (ints c)) vu (S a).off (S a).cl
 obtain ⟨vd,n2,rvd⟩:=FY k (S a).busy (.sl tkw (ints c)) vu (S a).off (S a).cl
 have w1:IntKind.wrap .i64 ((c.length:Int) -1)=((c.length -1:Nat):Int):=by have:=F.max;rw [pN om om];omega
 have lc:∀hp,oW hp .sl (.sl tkw (ints c))= .ok c.length:=fun hp=>by rw [fK,mU]
 have ld:∀hp,oW hp .sl vd= .ok (eP (Γ.D a).pd).length:=fun hp=>by have:=rvd.len hp;simpa using this
 obtain ⟨ys,hy,hyl,hyg⟩:=kZ rvd
 simp only [List.length_map,List.getElem_map] at hyl hyg
 have he:c[c.length -1]? =some a:=by rw [hc0];simp
 rcases VL H O K W ha hcu he rfl hD hy hyl hyg (eP (Γ.D a).pd).length 0 h om T [(0,.ptr Γ.tb 0),(1,.int .i64 (a:Nat)),(4,.ptr (Γ.loc a) 0),(5,.int .i64 ((c.length -1:Nat):Int)),(33,vd),(34,.int .i64 ((eP (Γ.D a).pd).length:Nat)),(35,.int .i64 0)] ⟨rfl,rfl,rfl,rfl,rfl,rfl,rfl⟩ with ⟨_,t1,h1,⟨n1,e1⟩,g1,rfl,ok⟩|⟨er,t1,h1,hpe,⟨n1,e1⟩,ch1⟩
 ·refine .inl ⟨jE,h1,Ev.call H.f29 H.o29 ⟨n1,fun m hm=> ?b1⟩,g1,rfl,fun x hx=> ?q1⟩
  case q1=>
   obtain ⟨q,hq⟩:=tO hx
   exact ok q x (Nat.zero_le _) hq
  case b1=>
   have e1' :=e1 m hm
   exact SX (qP @NG @RM tT hia bk n15 n2 lc w1 ld e1' @jE.eq_1)
 ·refine .inr ⟨er,h1,hpe,Ev.call H.f29 H.o29 ⟨n1,fun m hm=> ?b2⟩,ch1⟩
  case b2=>
   have e1' :=e1 m hm
   exact SX (tG @NG @RM tT hia bk n15 n2 lc w1 ld e1')
end Go.Ly
namespace Go.Ly
open Go Go.Am Go.Fs Go.Gn
variable {fns:Go.Am.F} {orc:Orc}
structure VR where
 s:List UInt8
 q:Nat
 part:Nat
 t:Tg
def tLv:Tg→Int
 |none=>0
 |some (_,lv,_)=>(lv:Nat)
def tDs:Tg→Int
 |none=> -1
 |some (v,_,_)=>(v:Nat)
def vA (v:VR):AV:= .agg [.str v.s,.int .i64 (v.q:Nat),.int .i64 (v.part:Nat),.int .i64 (tLv v.t),.int .i64 (tDs v.t)]
def VOk (Γ:Tb) (S:Nat→DY) (c:List Nat) (v:VR):Prop:=(qB Γ v.s c).getLast? =some v.part∧Ak Γ S c v.part v.s v.t
theorem M3 (l:List VR):A9 5 (l.map vA):=fun x hx=>by obtain ⟨v,_,rfl⟩:=List.mem_map.1 hx;rfl
def PB (fns:Go.Am.F) (orc:Orc) (Γ:Tb) (f:FuncId) (b0:Nat) (c:AC) (ts:iH) (h:aD) (R:Am.Exit→iH→aD→Prop):Prop:=
 (∃x ts' h',(∃n,∀m,n≤m→fV (eval fns orc m) f none c ⟨ts,[],.plain,h⟩= .ok (.code x ⟨ts',[],.plain,h'⟩))∧(h.next≤h'.next∧∀j,j<b0→h'.get j=h.get j)∧R x ts' h')∨
 (∃er ts' h',0<er∧(∃n,∀m,n≤m→fV (eval fns orc m) f none c ⟨ts,[],.plain,h⟩= .ok (.code (.panic (irr er)) ⟨ts',[],.plain,h'⟩))∧(h.next≤h'.next∧∀j,j<b0→¬pS Γ j→h'.get j=h.get j))
theorem PB.step {Γ:Tb} {f:FuncId} {b0:Nat} {c c' :AC} {ts ts' :iH} {h h' :aD} {R R' :Am.Exit→iH→aD→Prop} (p:PB fns orc Γ f b0 c' ts' h' R') (g:h.next≤h'.next∧∀j,j<b0→h'.get j=h.get j) (q:∀x t hh,R' x t hh→R x t hh)
  (e1:∃n,∀m,n≤m→fV (eval fns orc m) f none c ⟨ts,[],.plain,h⟩=fV (eval fns orc m) f none c' ⟨ts',[],.plain,h'⟩):PB fns orc Γ f b0 c ts h R:=by
 obtain ⟨n1,e1⟩:=e1
 rcases p with ⟨x,t2,h2,⟨n2,e2⟩,g2,hq⟩|⟨er,t2,h2,he,⟨n2,e2⟩,ch⟩
 ·exact .inl ⟨x,t2,h2,⟨n1+n2,fun m hm=>(e1 m om).trans (e2 m om)⟩,⟨Nat.le_trans g.1 g2.1,fun j hj=>(g2.2 j hj).trans (g.2 j hj)⟩,q _ _ _ hq⟩
 ·exact .inr ⟨er,t2,h2,he,⟨n1+n2,fun m hm=>(e1 m om).trans (e2 m om)⟩,⟨Nat.le_trans g.1 ch.1,fun j hj hn=>(ch.2 j hj hn).trans (g.2 j hj)⟩⟩
theorem PB.again {Γ:Tb} {f:FuncId} {b0:Nat} {c C:AC} {ts ts' :iH} {h h' :aD} {R R' :Am.Exit→iH→aD→Prop} (p:PB fns orc Γ f b0 (.loop c) ts' h' R') (g:h.next≤h'.next∧∀j,j<b0→h'.get j=h.get j) (q:∀x t hh,R' x t hh→R x t hh)
  (e1:∃n,∀m,n≤m→fV (eval fns orc m) f none C ⟨ts,[],.plain,h⟩=eval fns orc m (.code f none (.loop c) ⟨ts',[],.plain,h'⟩)):PB fns orc Γ f b0 C ts h R:=by
 obtain ⟨n1,e1⟩:=e1
 have lift:∀{r:Ans},(∃n,∀m,n≤m→fV (eval fns orc m) f none (.loop c) ⟨ts',[],.plain,h'⟩= .ok r)→∃n,∀m,n≤m→fV (eval fns orc m) f none C ⟨ts,[],.plain,h⟩= .ok r:=by
  rintro r ⟨n2,e2⟩
  refine ⟨n1+n2+1,fun m hm=> ?_⟩
  rw [e1 m om]
  obtain ⟨k,rfl⟩:∃k,m=k+1:=⟨m -1,by omega⟩
  exact e2 k om
 rcases p with ⟨x,t2,h2,e2,g2,hq⟩|⟨er,t2,h2,he,e2,ch⟩
 ·exact .inl ⟨x,t2,h2,lift e2,⟨Nat.le_trans g.1 g2.1,fun j hj=>(g2.2 j hj).trans (g.2 j hj)⟩,q _ _ _ hq⟩
 ·exact .inr ⟨er,t2,h2,he,lift e2,⟨Nat.le_trans g.1 ch.1,fun j hj hn=>(ch.2 j hj hn).trans (g.2 j hj)⟩⟩
def Hq (b0:Nat) (vs:List VR) (t:AV) (h:aD):Prop:=Acc h t (vs.map vA)∧∀k,kL t=some k→b0≤k
theorem Hq.grow {b0:Nat} {vs:List VR} {t:AV} {a b:aD} (v:Hq b0 vs t a) (g:dB a b):Hq b0 vs t b:=⟨v.1.grow g,v.2⟩
def fuZ:AC:=p30x110100110011001100111001100
structure F12 (Γ:Tb) (vc:AV) (q:Nat) (x16 x17 x18 x33 x34 x35 x43 x44 x45:AV) (ts:iH):Prop where
 k0:fX ts 0= .ptr Γ.tb 0
 k1:fX ts 1=vc
 k6:fX ts 6= .int .i64 (q:Nat)
 k16:fX ts 16=x16
 k17:fX ts 17=x17
 k18:fX ts 18=x18
 k33:fX ts 33=x33
 k34:fX ts 34=x34
 k35:fX ts 35=x35
 k43:fX ts 43=x43
 k44:fX ts 44=x44
 k45:fX ts 45=x45
theorem KT {Γ:Tb} {s:List UInt8}:∀(c:List Nat) (i:Nat) (acc:List Nat),acc≠[]→Ay Γ s c i acc≠[]
 |[],_,_,h=>h
 |d::r,i,acc,h=>by
  simp only [Ay]
  refine KT r (i+1) _ ?_
  split
  ·exact h
  ·split
   ·exact h
   ·split
    ·simp
    ·split
     ·simp
     ·exact h
theorem E0 {Γ:Tb} {s:List UInt8}:∀(c:List Nat) (i:Nat) (acc:List Nat) (q d i' k:Nat) (x:mZ),c[q]? =some d→qL (eP (Γ.D d).pd) s=some (i',k)→(eP (Γ.D d).pd)[i']? =some x→kS x=2→Ay Γ s c i acc≠[]
 |[],_,_,q,_,_,_,_,h,_,_,_=>by simp at h
 |e::r,i,acc,q,d,i',k,x,h,h1,h2,h3=>by
  simp only [Ay]
  cases q with
  |zero=>
   simp at h
   subst h
   simp only [h1,h2,h3,if_true]
   exact KT r _ _ (by simp)
  |succ q=>exact E0 r (i+1) _ q d i' k x (by simpa using h) h1 h2 h3
section
variable (H:Has fns orc) {Γ:Tb} (O:Γ.Ok) {S:Nat→DY} (K:BM S) (W:WF Γ S) {a:Nat} (ha:a<Γ.n) {c u:List Nat} (hcu:(S a).ch=some (c,u)) {b0:Nat}
include H O K W ha hcu
theorem Vs {h:aD} (T:TB Γ S h) (hle:b0≤h.next) {vc x16 x17 x18 x33 x34 x35 x43 x44 x45:AV} {q:Nat} {ts:iH} (hvc:jN vc (ints c)) (k:F12 Γ vc q x16 x17 x18 x33 x34 x35 x43 x44 x45 ts) {V5:List AV} {j:Nat} {s:List UInt8} (t43:jN x43 V5) (hj:V5[j]? =some (.str s)) (t45:x45= .int .i64 (j:Nat)) {vs:List VR} {x5:AV} (t5:fX ts 5=x5) (va:Hq b0 vs x5 h) (hvl:vs.length<200000100) (hne:qB Γ s c≠[]):
  PB fns orc Γ 30 b0 fuZ ts h fun x t h' =>x= .normal∧F12 Γ vc q x16 x17 x18 x33 x34 x35 x43 x44 x45 t∧∃v,v.s=s∧v.q=q∧VOk Γ S c v∧∃y5,fX t 5=y5∧Hq b0 (vs++[v]) y5 h' :=by
 obtain ⟨k0,k1,k6,k16,k17,k18,k33,k34,k35,k43,k44,k45⟩:=k
 have F:=W a ha c u hcu
 have hcn:∀d∈c,d<Γ.n:=fun d hd=>by
  obtain ⟨q,hq⟩:=tO hd
  exact (W.part c.length a c u (Nat.le_refl _) ha hcu q d hq).1
 have ia:=pY t43 hj rfl
 obtain ⟨h1,vL,g1,⟨m1,x1⟩,rl⟩:=B9 H O (S:=S) s hvc hcn (by have:=F.max;omega) T
 have T1:=T.grow g1
 have ll:∀hp,oW hp .sl vL= .ok (qB Γ s c).length:=fun hp=>by rw [fI rl hp,mU]
 have pl:0<(qB Γ s c).length:=List.length_pos_iff.2 hne
 obtain ⟨p,hp⟩:∃p,(qB Γ s c).getLast? =some p:=⟨_,List.getLast?_eq_some_getLast hne⟩
 have hp' :(qB Γ s c)[(qB Γ s c).length -1]? =some p:=by rw [←List.getLast?_eq_getElem?];exact hp
 obtain ⟨o,i',kk,x,hco,gf,gx,gk⟩:=EE (List.mem_of_getElem? hp')
 have hon:=hcn o (List.mem_of_getElem? hco)
 have llb:(qB Γ s c).length<10000000:=by
  have:=wP (Γ:=Γ) (s:=s) c 0 []
  have:=F.max
  simp only [qB]
  simp at*
  omega
 have w2:IntKind.wrap .i64 ((((qB Γ s c).length:Nat):Int) -1)=(((qB Γ s c).length -1:Nat):Int):=by rw [pN om om];omega
 have iq:=qG rl hp'
 obtain ⟨hA,hAe⟩:∃x,x=(h1.push (.cells [.str [],.int .i64 0,.int .i64 0,.int .i64 0,.int .i64 0])).set h1.next (.cells [.str s,.int .i64 (q:Nat),.int .i64 (p:Nat),.int .i64 0,.int .i64 (-1)]):=⟨_,rfl⟩
 have gA:dB h1 hA:=by rw [hAe];exact gw2
 have nA:hA.next=h1.next+1:=by rw [hAe];simp
 have a14:cont hA h1.next=some [.str s,.int .i64 (q:Nat),.int .i64 (p:Nat),.int .i64 0,.int .i64 (-1)]:=by rw [hAe];exact aH (by simp)
 rcases MP H O K W (T1.grow gA) ha hcu hvc hco gf gx (D3 (O.ok o hon) (List.mem_of_getElem? gx) gk) with ⟨_,h2,⟨m2,x2⟩,g2,t,rfl,br,st⟩|⟨er,h2,hpe,⟨m2,x2⟩,ch2⟩
 case inr=>
  refine .inr ⟨er, ?ts1,h2,hpe,⟨m1+m2,fun m hm=> ?b1⟩,⟨by have:=ch2.next;have:=g1.next;omega,fun j hj hn=> ?g1⟩⟩
  case g1=>rw [ch2.get j (by have:=g1.next;omega) hn,gA.get j (by have:=g1.next;omega),g1.get j om]
  case b1=>
   have x1' :=x1 m om
   have x2' :=x2 m om
   exact SX (gU @fuZ.eq_1 t45 k0 k1 k6 k16 k17 k18 k33 k34 k35 k43 k44 k45 t5 ia (cj6 x1' ll w2 iq (Eq.symm hAe) x2'))
 have n1:=g1.next
 have n2:=g2.next
 have gg:=(g1.trans gA).trans g2
 have b14:=(aF g2 (dD a14)).trans a14
 obtain ⟨y1,y2,y3,hy⟩:=AS t
 obtain ⟨hB,hBe⟩:∃x,x=(h2.push (.cells [.int .i64 0,.int .i64 0,.int .i64 0])).set h2.next (.cells [.int .i64 y1,.int .i64 y2,.int .i64 y3]):=⟨_,rfl⟩
 have gB:dB h2 hB:=by rw [hBe];exact gw2
 have nB:hB.next=h2.next+1:=by rw [hBe];simp
 have c15:cont hB h2.next=some [.int .i64 y1,.int .i64 y2,.int .i64 y3]:=by rw [hBe];exact aH (by simp)
 have c14:=(aF gB (dD b14)).trans b14
 have fin:∀(hC:aD) (lvv dss:Int),tLv t=lvv→tDs t=dss→dB h hC→h1.next<hC.next→cont hC h1.next=some [.str s,.int .i64 (q:Nat),.int .i64 (p:Nat),.int .i64 lvv,.int .i64 dss]→
   ∃y5 hD,pJ hC 5 x5 (.sl .full [.agg [.str s,.int .i64 (q:Nat),.int .i64 (p:Nat),.int .i64 lvv,.int .i64 dss]])= .ok (y5,hD)∧(h.next≤hD.next∧∀j,j<b0→hD.get j=h.get j)∧Hq b0 (vs++[⟨s,q,p,t⟩]) y5 hD:=by
  intro hC lvv dss e1 e2 gC hlt hc
  obtain ⟨y5,hD,ap,a1,gD,tk⟩:=sX (va.grow gC).1 (n:=5) (v:=vA ⟨s,q,p,t⟩) om (M3 vs) rfl (by rw [List.length_map];omega)
  refine ⟨y5,hD,by rw [←e1,←e2];exact ap,⟨by have:=gC.next;have:=gD.next;omega,fun j hj=> ?_⟩,by simpa using a1,fun k hk=> ?_⟩
  ·rw [gD.get j (by have:=gC.next;omega) (fun q=>by have:=va.2 j q;omega),gC.get j om]
  ·rcases tk k hk with q|q
   ·exact va.2 k q
   ·have:=gC.next;omega
 by_cases c0:0≤y1
 ·have d:=dT c0
  obtain ⟨v,lv,pt,rfl⟩:∃v lv pt,t=some (v,lv,pt):=by
   cases t with
   |none=>cases hy;exact absurd c0 om
   |some p=>obtain ⟨v,lv,pt⟩:=p;exact ⟨v,lv,pt,rfl⟩
  cases hy
  obtain ⟨hC,hCe⟩:∃x,x=hB.set h1.next (.cells [.str s,.int .i64 (q:Nat),.int .i64 (p:Nat),.int .i64 (lv:Nat),.int .i64 (-1)]):=⟨_,rfl⟩
  have gC:dB h hC:=by rw [hCe];exact (gg.trans gB).set om om _
  have nC:hC.next=hB.next:=by rw [hCe];simp
  have d14:cont hC h1.next=some [.str s,.int .i64 (q:Nat),.int .i64 (p:Nat),.int .i64 (lv:Nat),.int .i64 (-1)]:=by rw [hCe];exact aH om
  have d15:cont hC h2.next=some [.int .i64 (v:Nat),.int .i64 (lv:Nat),.int .i64 (pt:Nat)]:=by rw [hCe];exact (aO om om).trans c15
  obtain ⟨hD,hDe⟩:∃x,x=hC.set h1.next (.cells [.str s,.int .i64 (q:Nat),.int .i64 (p:Nat),.int .i64 (lv:Nat),.int .i64 (v:Nat)]):=⟨_,rfl⟩
  have gD:dB h hD:=by rw [hDe];exact gC.set om om _
  have e14:cont hD h1.next=some [.str s,.int .i64 (q:Nat),.int .i64 (p:Nat),.int .i64 (lv:Nat),.int .i64 (v:Nat)]:=by rw [hDe];exact aH om
  obtain ⟨y5,hE,ap,g5,va'⟩:=fin hD (lv:Nat) (v:Nat) rfl rfl gD (by rw [hDe];simp;omega) e14
  refine .inl ⟨.normal, ?ts2,hE,⟨m1+m2,fun m hm=> ?b2⟩,g5,rfl, ?kk2,⟨s,q,p,some (v,lv,pt)⟩,rfl,rfl,⟨hp,br⟩,y5, ?t5',va'⟩
  case b2=>
   have x1' :=x1 m om
   have x2' :=x2 m om
   simp only [tgA] at x2'
   exact SX (gU @fuZ.eq_1 t45 k0 k1 k6 k16 k17 k18 k33 k34 k35 k43 k44 k45 t5 ia (BL x1' ll w2 iq (Eq.symm hAe) x2' (Eq.symm hBe) c15 c14 d (Eq.symm hCe) d14 d15 (Eq.symm hDe) e14 ap))
  case kk2=>exact ⟨rfl,rfl,rfl,rfl,rfl,rfl,rfl,rfl,rfl,rfl,rfl,by rw [t45];rfl⟩
  case t5' =>rfl
 ·have d:=dF c0
  obtain rfl:t=none:=by
   cases t with
   |none=>rfl
   |some p=>obtain ⟨v,lv,pt⟩:=p;cases hy;exact absurd om c0
  cases hy
  obtain ⟨y5,hE,ap,g5,va'⟩:=fin hB 0 (-1) rfl rfl (gg.trans gB) om c14
  refine .inl ⟨.normal, ?ts3,hE,⟨m1+m2,fun m hm=> ?b3⟩,g5,rfl, ?kk3,⟨s,q,p,none⟩,rfl,rfl,⟨hp,br⟩,y5, ?t6',va'⟩
  case b3=>
   have x1' :=x1 m om
   have x2' :=x2 m om
   simp only [tgA] at x2'
   exact SX (gU @fuZ.eq_1 t45 k0 k1 k6 k16 k17 k18 k33 k34 k35 k43 k44 k45 t5 ia (tG x1' ll w2 iq (Eq.symm hAe) x2' (Eq.symm hBe) c15 c14 d ap))
  case kk3=>exact ⟨rfl,rfl,rfl,rfl,rfl,rfl,rfl,rfl,rfl,rfl,rfl,by rw [t45];rfl⟩
  case t6' =>rfl
end
end Go.Ly
namespace Go.Ly
open Go Go.Am Go.Fs Go.Gn
variable {fns:Go.Am.F} {orc:Orc}
def fuN:AC:=p30x11010011001100110011100
theorem Mj:fuN= .seq p30x110100110011001100111000 (.seq p30x1101001100110011001110010 (.seq (.block 5 fuZ) p30x11010011001100110011100111)):=rfl
def fuD:AC:=p30x11010011001100
theorem IF:fuD= .seq p30x110100110011000 (.seq p30x1101001100110010 (.seq (.block 3 (.seq p30x1101001100110011000 (.seq p30x11010011001100110010 (.seq p30x110100110011001100110 (.block 4 (.loop fuN)))))) p30x11010011001100111)):=rfl
def fuC:AC:=p30x110100
theorem Mk:fuC= .seq p30x1101000 (.seq p30x11010010 (.seq (.block 1 (.seq p30x11010011000 (.seq p30x110100110010 (.block 2 (.loop fuD))))) p30x110100111)):=rfl
theorem NA:a30.body= .seq p30x0 (.seq p30x10 (.seq (.seq p30x1100 (.block 0 (.loop fuC))) p30x111)):=rfl
theorem Rl:a30.results=[.tmp 4]:=rfl
structure F9 (Γ:Tb) (vc:AV) (q:Nat) (x16 x17 x18 x33 x34 x35:AV) (ts:iH):Prop where
 k0:fX ts 0= .ptr Γ.tb 0
 k1:fX ts 1=vc
 k6:fX ts 6= .int .i64 (q:Nat)
 k16:fX ts 16=x16
 k17:fX ts 17=x17
 k18:fX ts 18=x18
 k33:fX ts 33=x33
 k34:fX ts 34=x34
 k35:fX ts 35=x35
def CV (dl:List mZ):List (List UInt8):=dl.flatMap fun x=>if kS x=2 then jI x else []
theorem EJ (x:mZ) (dl:List mZ):CV (x::dl)=(if kS x=2 then jI x else [])++CV dl:=rfl
def Jj (Γ:Tb):List Nat→Nat→List (Nat×List UInt8)
 |[],_=>[]
 |d::r,q=>(CV (eP (Γ.D d).pd)).map (fun s=>(q,s))++Jj Γ r (q+1)
def Uw (v:VR):Nat×List UInt8:=(v.q,v.s)
theorem N1 (dl:List mZ):(CV dl).length≤tot (dl.map Part.decl):=by
 induction dl with
 |nil=>exact Nat.le_refl _
 |cons d dl ih=>
  rw [EJ,List.map_cons,FC,List.length_append]
  have:=BW (p:=d)
  split
  ·omega
  ·simp only [List.length_nil];omega
def D9 (Γ:Tb) (S:Nat→DY) (c:List Nat) (b0:Nat) (vs:List VR) (keys:List (Nat×List UInt8)) (t:AV) (h:aD):Prop:=∃new,new.map Uw=keys∧(∀v∈new,VOk Γ S c v)∧Hq b0 (vs++new) t h
theorem D9.trans {Γ:Tb} {S:Nat→DY} {c:List Nat} {b0:Nat} {vs new:List VR} {k1 k2:List (Nat×List UInt8)} {t:AV} {h:aD} (h1:new.map Uw=k1) (h2:∀v∈new,VOk Γ S c v) (m:D9 Γ S c b0 (vs++new) k2 t h):D9 Γ S c b0 vs (k1++k2) t h:=by
 obtain ⟨n2,a1,a2,a3⟩:=m
 exact ⟨new++n2,by simp [h1,a1],fun v hv=>by rcases List.mem_append.1 hv with q|q;exact h2 v q;exact a2 v q,by simpa using a3⟩
section
variable (H:Has fns orc) {Γ:Tb} (O:Γ.Ok) {S:Nat→DY} (K:BM S) (W:WF Γ S) {a:Nat} (ha:a<Γ.n) {c u:List Nat} (hcu:(S a).ch=some (c,u)) {b0:Nat} (hb0:Γ.tb<b0∧Γ.mb<b0∧∀j,pS Γ j→j<b0)
include H O K W ha hcu hb0
theorem Vt {vc x16 x17 x18 x33 x34 x35:AV} {q:Nat} (hvc:jN vc (ints c)) {names:List (List UInt8)} {vn:AV} (hvn:jN vn (names.map AV.str)) (hnn:names.length<10000000) (hne:∀s∈names,qB Γ s c≠[]):
  ∀(k j:Nat) (h:aD) (vs:List VR) (x5:AV) (ts:iH),j+k=names.length→TB Γ S h→b0≤h.next→F9 Γ vc q x16 x17 x18 x33 x34 x35 ts→fX ts 5=x5→fX ts 43=vn→fX ts 44= .int .i64 (names.length:Nat)→fX ts 45= .int .i64 (j:Nat)→Hq b0 vs x5 h→vs.length+k≤200000000→
   PB fns orc Γ 30 b0 (.loop fuN) ts h fun x t h' =>x= .exit 4∧F9 Γ vc q x16 x17 x18 x33 x34 x35 t∧D9 Γ S c b0 vs ((names.drop j).map fun s=>(q,s)) (fX t 5) h' :=by
 intro k
 induction k with
 |zero=>
  rintro j h vs x5 ts hj T hle ⟨k0,k1,k6,k16,k17,k18,k33,k34,k35⟩ t5 t43 t44 t45 va hvl
  have d:decide ((j:Int)<((names.length:Nat):Int))=false:=dF om
  refine .inl ⟨.exit 4, ?ts0,h,⟨0,fun m _=> ?b0⟩,⟨Nat.le_refl _,fun _ _=>rfl⟩,rfl, ?kk,[], ?nn,(by intro v hv;cases hv), ?va⟩
  case b0=>
   rw [aJ]
   exact SX (wS @Mj k0 k1 k6 k16 k17 k18 k33 k34 k35 t5 t43 t44 t45 d)
  case kk=>exact ⟨rfl,rfl,rfl,rfl,rfl,rfl,rfl,rfl,rfl⟩
  case nn=>rw [List.drop_eq_nil_of_le om];rfl
  case va=>rw [List.append_nil];exact va
 |succ k ih=>
  rintro j h vs x5 ts hj T hle ⟨k0,k1,k6,k16,k17,k18,k33,k34,k35⟩ t5 t43 t44 t45 va hvl
  have hlt:j<names.length:=om
  have d:decide ((j:Int)<((names.length:Nat):Int))=true:=dT om
  obtain ⟨s,hs⟩:∃s,names[j]? =some s:=⟨_,List.getElem?_eq_getElem hlt⟩
  have hse:names[j]=s:=by rw [List.getElem?_eq_getElem hlt] at hs;exact Option.some.inj hs
  have w:IntKind.wrap .i64 ((j:Int)+1)=((j+1:Nat):Int):=tL hlt om
  rcases Vs H O K W ha hcu (b0:=b0) T hle (vc:=vc) (q:=q) (x16:=x16) (x17:=x17) (x18:=x18) (x33:=x33) (x34:=x34) (x35:=x35) (x43:=vn) (x44:= .int .i64 (names.length:Nat)) (x45:= .int .i64 (j:Nat)) (ts:=[(0,.ptr Γ.tb 0),(1,vc),(5,x5),(6,.int .i64 (q:Nat)),(16,x16),(17,x17),(18,x18),(33,x33),(34,x34),(35,x35),(43,vn),(44,.int .i64 (names.length:Nat)),(45,.int .i64 (j:Nat)),(46,.bool true)]) hvc ⟨rfl,rfl,rfl,rfl,rfl,rfl,rfl,rfl,rfl,rfl,rfl,rfl⟩ (j:=j) (s:=s) hvn (by simp [hs]) rfl rfl va om (hne s (List.mem_of_getElem? hs)) with ⟨x,t1,h1,⟨n1,e1⟩,g1,rfl,⟨q0,q1,q6,q16,q17,q18,q33,q34,q35,q43,q44,q45⟩,v,rfl,rfl,vok,y5,ty,va'⟩|⟨er,t1,h1,hpe,⟨n1,e1⟩,ch1⟩
  ·have T1:TB Γ S h1:=T.vS fun j hj w=>g1.2 j (by rcases w with w|w|w;omega;omega;exact hb0.2.2 j w)
   refine PB.again (ih (j+1) h1 (vs++[v]) y5 [(0,.ptr Γ.tb 0),(1,vc),(5,y5),(6,.int .i64 (v.q:Nat)),(16,x16),(17,x17),(18,x18),(33,x33),(34,x34),(35,x35),(43,vn),(44,.int .i64 (names.length:Nat)),(45,.int .i64 ((j+1:Nat):Int))] om T1 om ⟨rfl,rfl,rfl,rfl,rfl,rfl,rfl,rfl,rfl⟩ rfl rfl rfl rfl va' (by simp;omega)) g1 ?_ ⟨n1,fun m hm=> ?b1⟩
   ·rintro x t hh ⟨r1,r2,r3⟩
    refine ⟨r1,r2, ?_⟩
    rw [List.drop_eq_getElem_cons hlt,List.map_cons,hse]
    exact D9.trans (new:=[v]) rfl (fun v' hv' =>by rw [List.mem_singleton.1 hv'];exact vok) r3
   case b1=>
    have e1' :=e1 m hm
    rw [aJ]
    exact SX (gU @Mj k0 k1 k6 k16 k17 k18 k33 k34 k35 t5 t43 t44 t45 d e1' (Af q0 q1 q6 q16 q17 q18 q33 q34 q35 q43 q44 q45 ty w))
  ·refine .inr ⟨er, ?ts2,h1,hpe,⟨n1,fun m hm=> ?b2⟩,ch1⟩
   case b2=>
    have e1' :=e1 m hm
    rw [aJ]
    exact SX (BL @Mj k0 k1 k6 k16 k17 k18 k33 k34 k35 t5 t43 t44 t45 d e1')
theorem Vu {vc x16 x17 x18:AV} {q dd:Nat} (hvc:jN vc (ints c)) (hq:c[q]? =some dd) (hdd:dd<Γ.n) {c1:List Nat} (hD:vP Γ dd c1) {vd:AV} {xs:List AV} (hvd:jN vd xs) (hxl:xs.length=(eP (Γ.D dd).pd).length) (hg:∀i (hi:i<(eP (Γ.D dd).pd).length),∃c,xs[i]? =some (.agg c)∧RV (.decl (eP (Γ.D dd).pd)[i]) (.agg c)):
  ∀(k i:Nat) (h:aD) (vs:List VR) (x5:AV) (ts:iH),i+k=(eP (Γ.D dd).pd).length→TB Γ S h→b0≤h.next→F9 Γ vc q x16 x17 x18 vd (.int .i64 ((eP (Γ.D dd).pd).length:Nat)) (.int .i64 (i:Nat)) ts→fX ts 5=x5→Hq b0 vs x5 h→vs.length+(CV ((eP (Γ.D dd).pd).drop i)).length≤200000000→
   PB fns orc Γ 30 b0 (.loop fuD) ts h fun x t h' =>x= .exit 2∧(fX t 0= .ptr Γ.tb 0∧fX t 1=vc∧fX t 16=x16∧fX t 17=x17∧fX t 18=x18)∧D9 Γ S c b0 vs ((CV ((eP (Γ.D dd).pd).drop i)).map fun s=>(q,s)) (fX t 5) h' :=by
 have hbd:=qK (O.ok dd hdd)
 intro k
 induction k with
 |zero=>
  rintro i h vs x5 ts hi T hle ⟨k0,k1,k6,k16,k17,k18,k33,k34,k35⟩ t5 va hvl
  have d:decide ((i:Int)<(((eP (Γ.D dd).pd).length:Nat):Int))=false:=dF om
  refine .inl ⟨.exit 2, ?ts0,h,⟨0,fun m _=> ?b0⟩,⟨Nat.le_refl _,fun _ _=>rfl⟩,rfl, ?kk,[], ?nn,(by intro v hv;cases hv), ?va⟩
  case b0=>
   rw [aJ]
   exact SX (qP @IF k0 k1 k6 k16 k17 k18 k33 k34 k35 t5 d)
  case kk=>exact ⟨rfl,rfl,rfl,rfl,rfl⟩
  case nn=>rw [List.drop_eq_nil_of_le om];rfl
  case va=>rw [List.append_nil];exact va
 |succ k ih=>
  rintro i h vs x5 ts hi T hle ⟨k0,k1,k6,k16,k17,k18,k33,k34,k35⟩ t5 va hvl
  have hlt:i<(eP (Γ.D dd).pd).length:=om
  have d:decide ((i:Int)<(((eP (Γ.D dd).pd).length:Nat):Int))=true:=dT om
  have w:IntKind.wrap .i64 ((i:Int)+1)=((i+1:Nat):Int):=tL hlt om
  obtain ⟨cc,hcc,rv⟩:=hg i hlt
  have hcl:=pU rv
  have hck:=tZ rv
  have hia:=mW hvd hcc hcl
  have p5:takeN 5 cc=some cc:=by rw [←hcl];exact eO cc
  have hst:=pX h (sz:=5) (z:=jO) rfl hcl hck
  obtain ⟨hA,hAe⟩:∃x,x=(h.push (.cells jO)).set h.next (.cells cc):=⟨_,rfl⟩
  rw [←hAe] at hst
  simp only [jO] at hst
  have gA:dB h hA:=by rw [hAe];exact gw2
  have nA:=gA.next
  have cA:cont hA h.next=some cc:=by rw [hAe];exact aH (by simp)
  obtain ⟨x,hx0⟩:∃x,(eP (Γ.D dd).pd)[i]? =some x:=⟨_,List.getElem?_eq_getElem hlt⟩
  have hxe:(eP (Γ.D dd).pd)[i]=x:=by rw [List.getElem?_eq_getElem hlt] at hx0;exact Option.some.inj hx0
  rw [hxe] at rv
  rw [List.drop_eq_getElem_cons hlt,hxe,EJ] at hvl⊢
  obtain ⟨vn,vs',vp,vy,hcv,r0⟩:∃vn vs vp vy,cc=[.int .i64 (kS x),vn,vs,vp,vy]∧jN vn ((jI x).map AV.str):=by
   cases x with|mk k n s p y=>
   cases rv with|decl r0 r1 r2 r3=>
   exact ⟨_,_,_,_,rfl,r0⟩
  rw [hcv] at cA
  have ln:∀hp,oW hp .sl vn= .ok (jI x).length:=fun hp=>by rw [fI r0 hp,List.length_map]
  have TA:=T.grow gA
  by_cases c2:kS x=2
  case neg=>
   have d2:=dF c2
   rw [if_neg c2,List.nil_append] at hvl⊢
   refine PB.again (ih (i+1) hA vs x5 [(0,.ptr Γ.tb 0),(1,vc),(5,x5),(6,.int .i64 (q:Nat)),(16,x16),(17,x17),(18,x18),(33,vd),(34,.int .i64 ((eP (Γ.D dd).pd).length:Nat)),(35,.int .i64 ((i+1:Nat):Int))] om TA om ⟨rfl,rfl,rfl,rfl,rfl,rfl,rfl,rfl,rfl⟩ rfl (va.grow gA) hvl) ⟨nA,fun j hj=>gA.get j om⟩ (fun _ _ _ r=>r) ⟨0,fun m hm=> ?b1⟩
   case b1=>
    rw [aJ]
    exact SV (gU @IF k0 k1 k6 k16 k17 k18 k33 k34 k35 t5 d hia @ldS p5 hst (cj3 cA d2 w))
  have d2:=dT c2
  rw [if_pos c2] at hvl⊢
  have hne:∀s∈jI x,qB Γ s c≠[]:=fun s hs=>by
   obtain ⟨j,hj⟩:=tO hs
   exact E0 c 0 [] q dd i j x hq (hD i x j s hx0 hj).1 hx0 c2
  rcases Vt H O K W ha hcu hb0 (x16:=x16) (x17:=x17) (x18:=x18) (x33:=vd) (x34:= .int .i64 ((eP (Γ.D dd).pd).length:Nat)) (x35:= .int .i64 (i:Nat)) (q:=q) hvc r0 (hbd.2 x (List.mem_of_getElem? hx0)) hne (jI x).length 0 hA vs x5 [(0,.ptr Γ.tb 0),(1,vc),(5,x5),(6,.int .i64 (q:Nat)),(16,x16),(17,x17),(18,x18),(33,vd),(34,.int .i64 ((eP (Γ.D dd).pd).length:Nat)),(35,.int .i64 (i:Nat)),(43,vn),(44,.int .i64 ((jI x).length:Nat)),(45,.int .i64 0)] om TA om ⟨rfl,rfl,rfl,rfl,rfl,rfl,rfl,rfl,rfl⟩ rfl rfl rfl rfl (va.grow gA) (by simp at hvl;omega) with ⟨y,t1,h1,⟨n1,e1⟩,g1,rfl,⟨q0,q1,q6,q16,q17,q18,q33,q34,q35⟩,new,hk1,hk2,va1⟩|⟨er,t1,h1,hpe,⟨n1,e1⟩,ch1⟩
  ·have T1:TB Γ S h1:=TA.vS fun j hj w=>g1.2 j (by rcases w with w|w|w;omega;omega;exact hb0.2.2 j w)
   have hnl:new.length=(jI x).length:=by have:=congrArg List.length hk1;simpa using this
   refine PB.again (ih (i+1) h1 (vs++new) (fX t1 5) [(0,.ptr Γ.tb 0),(1,vc),(5,fX t1 5),(6,.int .i64 (q:Nat)),(16,x16),(17,x17),(18,x18),(33,vd),(34,.int .i64 ((eP (Γ.D dd).pd).length:Nat)),(35,.int .i64 ((i+1:Nat):Int))] om T1 om ⟨rfl,rfl,rfl,rfl,rfl,rfl,rfl,rfl,rfl⟩ rfl va1 (by simp at hvl⊢;omega)) ⟨by omega,fun j hj=>(g1.2 j hj).trans (gA.get j om)⟩ ?_ ⟨n1,fun m hm=> ?b2⟩
   ·rintro y t hh ⟨r1,r2,r3⟩
    refine ⟨r1,r2, ?_⟩
    rw [List.map_append]
    exact D9.trans (by simpa using hk1) hk2 r3
   case b2=>
    have e1' :=e1 m hm
    rw [aJ]
    exact SV (gU @IF k0 k1 k6 k16 k17 k18 k33 k34 k35 t5 d hia @ldS p5 hst (Af cA d2 ln e1' q0 q1 q6 q16 q17 q18 q33 q34 q35 w))
  ·refine .inr ⟨er, ?ts3,h1,hpe,⟨n1,fun m hm=> ?b3⟩,⟨by omega,fun j hj hn=>(ch1.2 j hj hn).trans (gA.get j om)⟩⟩
   case b3=>
    have e1' :=e1 m hm
    rw [aJ]
    exact SV (gU @IF k0 k1 k6 k16 k17 k18 k33 k34 k35 t5 d hia @ldS p5 hst (cj4 cA d2 ln e1'))
omit H K W ha hcu hb0 in
theorem HS:∀(l:List Nat) (q:Nat),(∀d∈l,d<Γ.n)→(Jj Γ l q).length≤5000000*l.length
 |[],_,_=>by simp [Jj]
 |d::r,q,h=>by
  have h1:=HS r (q+1) (fun e he=>h e (List.mem_cons_of_mem _ he))
  have h2:=N1 (eP (Γ.D d).pd)
  have h3:=(O.ok d (h d (List.mem_cons_self ..))).nd
  cases hp:(Γ.D d).pd with|mk s pl dl el b il xl=>
  rw [hp,wE] at h3
  rw [hp] at h2
  simp only [eP] at h2
  simp only [Jj,hp,eP,List.length_append,List.length_map,List.length_cons]
  omega
theorem Vv (hDA:∀d,d<Γ.n→∃c1,vP Γ d c1) {vc:AV} (hvc:jN vc (ints c)):
  ∀(k i:Nat) (h:aD) (vs:List VR) (x5:AV) (ts:iH),i+k=c.length→TB Γ S h→b0≤h.next→(fX ts 0= .ptr Γ.tb 0∧fX ts 1=vc∧fX ts 16=vc∧fX ts 17= .int .i64 (c.length:Nat)∧fX ts 18= .int .i64 (i:Nat))→fX ts 5=x5→Hq b0 vs x5 h→vs.length+(Jj Γ (c.drop i) i).length≤200000000→
   PB fns orc Γ 30 b0 (.loop fuC) ts h fun x t h' =>x= .exit 0∧D9 Γ S c b0 vs (Jj Γ (c.drop i) i) (fX t 5) h' :=by
 have F:=W a ha c u hcu
 intro k
 induction k with
 |zero=>
  rintro i h vs x5 ts hi T hle ⟨k0,k1,k16,k17,k18⟩ t5 va hvl
  have d:decide ((i:Int)<((c.length:Nat):Int))=false:=dF om
  refine .inl ⟨.exit 0, ?ts0,h,⟨0,fun m _=> ?b0⟩,⟨Nat.le_refl _,fun _ _=>rfl⟩,rfl,[], ?nn,(by intro v hv;cases hv), ?va⟩
  case b0=>
   rw [aJ]
   exact SX (cj8 @Mk k0 k1 k16 k17 k18 t5 d)
  case nn=>rw [List.drop_eq_nil_of_le om];rfl
  case va=>rw [List.append_nil];exact va
 |succ k ih=>
  rintro i h vs x5 ts hi T hle ⟨k0,k1,k16,k17,k18⟩ t5 va hvl
  have hlt:i<c.length:=om
  have d:decide ((i:Int)<((c.length:Nat):Int))=true:=dT om
  have w:IntKind.wrap .i64 ((i:Int)+1)=((i+1:Nat):Int):=tL hlt (by have:=F.max;omega)
  obtain ⟨dd,hq⟩:∃dd,c[i]? =some dd:=⟨_,List.getElem?_eq_getElem hlt⟩
  have hqe:c[i]=dd:=by rw [List.getElem?_eq_getElem hlt] at hq;exact Option.some.inj hq
  have hdd:=(W.part c.length a c u (Nat.le_refl _) ha hcu i dd hq).1
  have hia:=qG hvc hq
  rw [List.drop_eq_getElem_cons hlt,hqe,Jj] at hvl⊢
  obtain ⟨c1,hD⟩:=hDA dd hdd
  obtain ⟨tk,v2,tT⟩:=T.t_
  have hib:=Γ.at tk hdd
  obtain ⟨vc',vu,bk,_⟩:=T.d_ dd hdd
  obtain ⟨vd,n2,rvd⟩:=FY (O.ok dd hdd) (S dd).busy vc' vu (S dd).off (S dd).cl
  have ld:∀hp,oW hp .sl vd= .ok (eP (Γ.D dd).pd).length:=fun hp=>by have:=rvd.len hp;simpa using this
  obtain ⟨ys,hy,hyl,hyg⟩:=kZ rvd
  simp only [List.length_map,List.getElem_map] at hyl hyg
  rcases Vu H O K W ha hcu hb0 (x16:=vc) (x17:= .int .i64 (c.length:Nat)) (x18:= .int .i64 (i:Nat)) hvc hq hdd hD hy hyl hyg (eP (Γ.D dd).pd).length 0 h vs x5 [(0,.ptr Γ.tb 0),(1,vc),(5,x5),(6,.int .i64 (i:Nat)),(16,vc),(17,.int .i64 (c.length:Nat)),(18,.int .i64 (i:Nat)),(33,vd),(34,.int .i64 ((eP (Γ.D dd).pd).length:Nat)),(35,.int .i64 0)] om T hle ⟨rfl,rfl,rfl,rfl,rfl,rfl,rfl,rfl,rfl⟩ rfl va (by simp at hvl⊢;omega) with ⟨y,t1,h1,⟨n1,e1⟩,g1,rfl,⟨q0,q1,q16,q17,q18⟩,new,hk1,hk2,va1⟩|⟨er,t1,h1,hpe,⟨n1,e1⟩,ch1⟩
  ·have T1:TB Γ S h1:=T.vS fun j hj w=>g1.2 j (by rcases w with w|w|w;omega;omega;exact hb0.2.2 j w)
   have hnl:new.length=(CV (eP (Γ.D dd).pd)).length:=by have:=congrArg List.length hk1;simpa using this
   refine PB.again (ih (i+1) h1 (vs++new) (fX t1 5) [(0,.ptr Γ.tb 0),(1,vc),(5,fX t1 5),(16,vc),(17,.int .i64 (c.length:Nat)),(18,.int .i64 ((i+1:Nat):Int))] om T1 om ⟨rfl,rfl,rfl,rfl,rfl⟩ rfl va1 (by simp at hvl⊢;omega)) g1 ?_ ⟨n1,fun m hm=> ?b2⟩
   ·rintro y t hh ⟨r1,r2⟩
    exact ⟨r1,D9.trans (by simpa using hk1) hk2 r2⟩
   case b2=>
    have e1' :=e1 m hm
    rw [aJ]
    exact SX (gU @Mk k0 k1 k16 k17 k18 t5 d hia tT hib bk n2 ld e1' q0 (cj5 q1 q16 q17 q18 w))
  ·refine .inr ⟨er, ?ts3,h1,hpe,⟨n1,fun m hm=> ?b3⟩,ch1⟩
   case b3=>
    have e1' :=e1 m hm
    rw [aJ]
    exact SX (wS @Mk k0 k1 k16 k17 k18 t5 d hia tT hib bk n2 ld e1')
end
def Sb (Γ:Tb) (S:Nat→DY) (c:List Nat) (vs:List VR):Prop:=vs.map Uw=Jj Γ c 0∧∀v∈vs,VOk Γ S c v
theorem J9 (H:Has fns orc) {Γ:Tb} (O:Γ.Ok) {S:Nat→DY} (K:BM S) (W:WF Γ S) {h:aD} (T:TB Γ S h) {a:Nat} (ha:a<Γ.n) {c u:List Nat} (hcu:(S a).ch=some (c,u)) (hDA:∀d,d<Γ.n→∃c1,vP Γ d c1) {vc:AV} (hvc:jN vc (ints c)):
  R8 fns orc Γ (.call 30 [.ptr Γ.tb 0,vc] .plain h) h fun v=>∃vs,jN v (vs.map vA)∧Sb Γ S c vs:=by
 have hcn:∀d∈c,d<Γ.n:=fun d hd=>by
  obtain ⟨q,hq⟩:=tO hd
  exact (W.part c.length a c u (Nat.le_refl _) ha hcu q d hq).1
 have lc:∀hp,oW hp .sl vc= .ok c.length:=fun hp=>by rw [fI hvc hp,mU]
 have hm:=(W a ha c u hcu).max
 have hv:=HS O (Γ:=Γ) c 0 hcn
 rcases Vv H O K W ha hcu (b0:=h.next) T.lt hDA hvc c.length 0 h [] .aC [(0,.ptr Γ.tb 0),(1,vc),(5,.aC),(16,vc),(17,.int .i64 (c.length:Nat)),(18,.int .i64 0)] om T (Nat.le_refl _) ⟨rfl,rfl,rfl,rfl,rfl⟩ rfl ⟨.nil,fun k w=>by cases w⟩ (by simp;omega) with ⟨y,t1,h1,⟨n1,e1⟩,g1,rfl,vs,hk1,hk2,va1⟩|⟨er,t1,h1,hpe,⟨n1,e1⟩,ch1⟩
 ·refine .inl ⟨fX t1 5,h1,Ev.call H.f30 H.o30 ⟨n1,fun m hm=> ?b1⟩,⟨g1.1,g1.2⟩,vs,(show uQ h1 _ _ from .inl va1.1).Ga,by simpa using hk1,hk2⟩
  case b1=>
   have e1' :=e1 m hm
   exact SX (cj4 @NA @Rl lc e1')
 ·refine .inr ⟨er,h1,hpe,Ev.call H.f30 H.o30 ⟨n1,fun m hm=> ?b2⟩,⟨ch1.1,ch1.2⟩⟩
  case b2=>
   have e1' :=e1 m hm
   exact SX (cj4 @NA @Rl lc e1')
end Go.Ly
end
