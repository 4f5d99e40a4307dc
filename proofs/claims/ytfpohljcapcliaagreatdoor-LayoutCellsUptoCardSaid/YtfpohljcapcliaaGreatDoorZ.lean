/- Parts of a proof. -/
import Derived.Test.YtfpohljcapcliaaGreatDoorD
import Derived.Test.YtfpohljcapcliaaGreatDoorY2
set_option linter.all false
set_option maxHeartbeats 16000000
noncomputable section
namespace Go.Ly
open Go Go.Am Go.Fs Go.Gn
variable {fns:Go.Am.F} {orc:Orc}
def Bs (B:GB) (ds:List (Nat×DS)) (es:Es):Tb:=
 ⟨ds.length,fun i=>(ds[i]?.map Prod.fst).getD 0,fun i=>(ds[i]?.map Prod.snd).getD ⟨vE,Av,0,0,[],[],.desc vE⟩,B.tb,B.mb,es⟩
theorem rO {B:GB} {ds:List (Nat×DS)} {es:Es} {i:Nat} (hi:i<ds.length):(Bs B ds es).loc i=ds[i].1∧(Bs B ds es).D i=ds[i].2∧(ds.map Prod.snd)[i]? =some ds[i].2:=by
 refine ⟨?_, ?_, ?_⟩<;>simp [Bs,List.getElem?_eq_getElem hi]
theorem Tf {B:GB} {ds:List (Nat×DS)} {es:Es} {h:aD} (T:TG B ds es h) (hn:ds.length<5000000) (h0:0<ds.length) (hD:∀j,j<ds.length→Dn (ds.map Prod.snd) es j):(Bs B ds es).Ok:=by
 refine ⟨h0,by show ds.length<_;omega,fun i hi=> ?_,fun i hi=> ?_,fun i j hi hj e=> ?_,fun e he=> ?_,fun o ho i d hd hn=> ?_⟩
 ·obtain ⟨_,e2,e3⟩:=rO (B:=B) (es:=es) hi
  rw [e2];exact T.g_.ar i _ e3
 ·obtain ⟨_,e2,e3⟩:=rO (B:=B) (es:=es) hi
  rw [e2];exact T.g_.ok i _ e3
 ·rw [(rO hi).1,(rO hj).1] at e
  rcases Nat.lt_trichotomy i j with q|q|q
  ·have:=List.pairwise_iff_getElem.1 T.w_ i j hi hj q;omega
  ·exact q
  ·have:=List.pairwise_iff_getElem.1 T.w_ j i hj hi q;omega
 ·obtain ⟨o,i,v,D,E,h1,h2,h3,h4,h5,h6,h7⟩:=T.g_.es e he
  have ho:o<ds.length:=by have:=(List.getElem?_eq_some_iff.1 h3).1;simpa using this
  have hv:v<ds.length:=by have:=(List.getElem?_eq_some_iff.1 h4).1;simpa using this
  rw [(rO (B:=B) (es:=es) ho).2.2] at h3
  rw [(rO (B:=B) (es:=es) hv).2.2] at h4
  cases h3
  cases h4
  exact ⟨o,i,v,ho,hv,h1,h2,by rw [(rO hv).2.1];exact h5,by rw [(rO ho).2.1,(rO hv).2.1];exact h6,by rw [(rO hv).2.1];exact h7⟩
 ·have q:=rO (B:=B) (es:=es) ho
  rw [q.2.1] at hd
  exact hD o ho _ q.2.2 i d hd hn
def S0 (Γ:Tb):Nat→DY:=fun i=>if i<Γ.n then ⟨false,none,0,0,bx (Γ.D i) false .aC .aC 0 0⟩ else ⟨false,some ([],[]),0,0,[]⟩
theorem Te {B:GB} {ds:List (Nat×DS)} {es:Es} {h:aD} (T:TG B ds es h) (h0:0<ds.length):TB (Bs B ds es) (S0 (Bs B ds es)) h:=by
 have hd:∀i,i<ds.length→cont h ((Bs B ds es).loc i)=some (bx ((Bs B ds es).D i) false .aC .aC 0 0):=fun i hi=>by
  rw [(rO hi).1,(rO hi).2.1]
  exact (T.d_ _ (List.getElem_mem hi)).1
 refine ⟨?_,T.m_,fun i hi=> ?_,fun i hi=> ?_⟩
 ·obtain ⟨sl,h1,h2,_⟩:=T.t_
  have e:(Bs B ds es).xs=ds.map fun e=>AV.ptr e.1 0:=by
   refine List.ext_getElem (by simp [Tb.xs,Bs]) fun i h1 h2=> ?_
   have hi:i<ds.length:=by simpa using h2
   simp [Tb.xs,(rO (B:=B) (es:=es) hi).1]
  rw [←e] at h2
  have hx:(Bs B ds es).xs≠[]:=by rw [e];intro w;rw [List.map_eq_nil_iff] at w;rw [w] at h0;cases h0
  generalize (Bs B ds es).xs=xs at h2 hx
  cases h2 with
  |nil=>exact absurd rfl hx
  |opn t xs q1 q2=>exact ⟨_,.aC,h1⟩
 ·have hi' :i<ds.length:=hi
  refine ⟨.aC,.aC, ?_, ?_⟩
  ·simp only [S0,if_pos hi];exact hd i hi'
  ·simp only [S0,if_pos hi];rfl
 ·simp only [S0,if_pos hi];exact hd i hi
theorem Za {Γ:Tb}:WF Γ (S0 Γ):=fun i hi c u h=>by simp [S0,hi] at h
def KTo (Γ:Tb) (S:Nat→DY) (k:Nat):Prop:=∀i,i<k∨Γ.n≤i→(S i).ch≠none
theorem KTo.ext {Γ:Tb} {S S' :Nat→DY} {k:Nat} (h:KTo Γ S k) (e:Ext S S'):KTo Γ S' k:=fun i hi=>by rw [e.kY (h i hi)];exact h i hi
def nwC:AC:=p15x1111110100
theorem WB (H:Has fns orc) {Γ:Tb} (O:Γ.Ok) {b2 b3:Nat} {ds:List vM}:∀(k i:Nat) (S:Nat→DY) (h:aD),i+k=Γ.n→TB Γ S h→WF Γ S→KTo Γ S i→
  (∃S' h' ts,(∃n,∀m,n≤m→cG (eval fns orc m) 15 none (.loop nwC) ⟨[(2,.ptr b2 0),(3,.ptr b3 0),(7,.ptr Γ.tb 0),(36,.int .i64 (Γ.n:Nat)),(37,.int .i64 (i:Nat))],ds,.plain,h⟩= .ok (.code (.exit 0) ⟨ts,ds,.plain,h'⟩))∧(cH ts 2= .ptr b2 0∧cH ts 3= .ptr b3 0∧cH ts 7= .ptr Γ.tb 0)∧Chg (pJ Γ) h h' ∧TB Γ S' h' ∧WF Γ S' ∧Cg S')∨
  (∃e h' ts,0<e∧(∃n,∀m,n≤m→cG (eval fns orc m) 15 none (.loop nwC) ⟨[(2,.ptr b2 0),(3,.ptr b3 0),(7,.ptr Γ.tb 0),(36,.int .i64 (Γ.n:Nat)),(37,.int .i64 (i:Nat))],ds,.plain,h⟩= .ok (.code (.panic (irr e)) ⟨ts,ds,.plain,h'⟩))∧(cH ts 2= .ptr b2 0∧cH ts 3= .ptr b3 0)∧Chg (pJ Γ) h h'):=by
 have hO:=O.lt
 intro k
 induction k with
 |zero=>
  intro i S h hi T W hk
  have d:decide ((i:Int)<((Γ.n:Nat):Int))=false:=dF om
  refine .inl ⟨S,h, ?ts0,⟨0,fun m _=> ?b0⟩, ?tt,.refl _ _,T,W,fun j=>hk j om⟩
  case b0=>
   rw [aI]
   exact SX (cj2 @nwC.eq_1 d)
  case tt=>exact ⟨rfl,rfl,rfl⟩
 |succ k ih=>
  intro i S h hi T W hk
  have d:decide ((i:Int)<((Γ.n:Nat):Int))=true:=dT om
  have w:IntKind.wrap .i64 ((i:Int)+1)=((i+1:Nat):Int):=by rw [pE om om];rfl
  rcases BV H O _ S h i T W (Nat.le_refl _) om with ⟨v,h1,⟨n1,e1⟩,ch1,rfl,S',ext,T1,W1,hc⟩|⟨e,h1,he,⟨n1,e1⟩,ch1⟩
  ·have hk1:KTo Γ S' (i+1):=fun j hj=>by
    by_cases q:j=i
    ·subst q;exact hc
    ·exact hk.ext ext j om
   have step:∀{r:Ans},(∃n,∀m,n≤m→cG (eval fns orc m) 15 none (.loop nwC) ⟨[(2,.ptr b2 0),(3,.ptr b3 0),(7,.ptr Γ.tb 0),(36,.int .i64 (Γ.n:Nat)),(37,.int .i64 ((i+1:Nat):Int))],ds,.plain,h1⟩= .ok r)→
     ∃n,∀m,n≤m→cG (eval fns orc m) 15 none (.loop nwC) ⟨[(2,.ptr b2 0),(3,.ptr b3 0),(7,.ptr Γ.tb 0),(36,.int .i64 (Γ.n:Nat)),(37,.int .i64 (i:Nat))],ds,.plain,h⟩= .ok r:=by
    rintro r ⟨n2,e2⟩
    refine ⟨n1+n2+1,fun m hm=> ?_⟩
    obtain ⟨j,rfl⟩:∃j,m=j+1:=⟨m -1,by omega⟩
    have e1' :=e1 (j+1) om
    have e2' :eval fns orc (j+1) (.code 15 none (.loop nwC) _)=_:=e2 j om
    simp only [nwC] at e2'
    rw [aI]
    exact SXe (cj4 @nwC.eq_1 d e1' w) e2'
   rcases ih (i+1) S' h1 om T1 W1 hk1 with ⟨S2,h2,ts,e2,tt,ch2,T2,W2,K2⟩|⟨e,h2,ts,he,e2,tp,ch2⟩
   ·exact .inl ⟨S2,h2,ts,step e2,tt,kI ch1 ch2,T2,W2,K2⟩
   ·exact .inr ⟨e,h2,ts,he,step e2,tp,kI ch1 ch2⟩
  ·refine .inr ⟨e,h1, ?ts2,he,⟨n1,fun m hm=> ?b2⟩, ?tp,ch1⟩
   case b2=>
    have e1' :=e1 m hm
    rw [aI]
    exact SX (cj3 @nwC.eq_1 d e1')
   case tp=>exact ⟨rfl,rfl⟩
end Go.Ly
namespace Go.Ly
open Go Go.Am Go.Fs Go.Gn
variable {fns:Go.Am.F} {orc:Orc}
def Checked (Γ:Tb) (S:Nat→DY) (a:Nat):Prop:=∀c u,(S a).ch=some (c,u)→uT Γ a c.dropLast∧∀x∈aU (Γ.D a).pd,Mn Γ S a c x
def nwK:AC:=p15x11111110100
def nwV:AC:=p15x111111110100
section
variable (H:Has fns orc) {Γ:Tb} (O:Γ.Ok) {S:Nat→DY} (K:Cg S) (W:WF Γ S) {b2 b3:Nat} {ds:List vM}
include H O K W
theorem WA {tk0:Tk}:∀(k i:Nat) (h:aD),i+k=Γ.n→TB Γ S h→
  (∃h' ts,(∃n,∀m,n≤m→cG (eval fns orc m) 15 none (.loop nwK) ⟨[(2,.ptr b2 0),(3,.ptr b3 0),(7,.ptr Γ.tb 0),(50,.sl tk0 Γ.xs),(51,.int .i64 (Γ.n:Nat)),(52,.int .i64 (i:Nat))],ds,.plain,h⟩= .ok (.code (.exit 2) ⟨ts,ds,.plain,h'⟩))∧(cH ts 2= .ptr b2 0∧cH ts 3= .ptr b3 0∧cH ts 7= .ptr Γ.tb 0)∧aP h h' ∧∀j,i≤j→j<Γ.n→Checked Γ S j)∨
  (∃e h' ts,0<e∧(∃n,∀m,n≤m→cG (eval fns orc m) 15 none (.loop nwK) ⟨[(2,.ptr b2 0),(3,.ptr b3 0),(7,.ptr Γ.tb 0),(50,.sl tk0 Γ.xs),(51,.int .i64 (Γ.n:Nat)),(52,.int .i64 (i:Nat))],ds,.plain,h⟩= .ok (.code (.panic (irr e)) ⟨ts,ds,.plain,h'⟩))∧(cH ts 2= .ptr b2 0∧cH ts 3= .ptr b3 0)∧Chg (pJ Γ) h h'):=by
 have hO:=O.lt
 intro k
 induction k with
 |zero=>
  intro i h hi T
  have d:decide ((i:Int)<((Γ.n:Nat):Int))=false:=dF om
  refine .inl ⟨h, ?ts0,⟨0,fun m _=> ?b0⟩, ?tt,.refl _,fun j h1 h2=>by omega⟩
  case b0=>
   rw [aI]
   exact SX (cj2 @nwK.eq_1 d)
  case tt=>exact ⟨rfl,rfl,rfl⟩
 |succ k ih=>
  intro i h hi T
  have d:decide ((i:Int)<((Γ.n:Nat):Int))=true:=dT om
  have w:IntKind.wrap .i64 ((i:Int)+1)=((i+1:Nat):Int):=by rw [pE om om];rfl
  have hin:i<Γ.n:=om
  have hia:=Γ.at tk0 hin
  obtain ⟨⟨c,u⟩,hcu⟩:=Option.ne_none_iff_exists'.1 (K i)
  rcases LP H O T W hin hcu with ⟨h1,g1,⟨n1,e1⟩,hD⟩|⟨h1,g1,⟨n1,e1⟩⟩
  case inr=>
   refine .inr ⟨11,h1, ?ts1,by omega,⟨n1,fun m hm=> ?b1⟩, ?tp1,fV g1⟩
   case b1=>
    have e1' :=e1 m hm
    rw [aI]
    exact SX (cj4 @nwK.eq_1 d hia e1')
   case tp1=>exact ⟨rfl,rfl⟩
  rcases H8 H O K W (T.grow g1) hin hcu hD with ⟨_,h2,⟨n2,e2⟩,g2,rfl,hC⟩|⟨e,h2,he,⟨n2,e2⟩,ch2⟩
  case inr=>
   refine .inr ⟨e,h2, ?ts2,he,⟨n1+n2,fun m hm=> ?b2⟩, ?tp2,Be g1 ch2⟩
   case b2=>
    have e1' :=e1 m om
    have e2' :=e2 m om
    rw [aI]
    exact SX (cj5 @nwK.eq_1 d hia e1' e2')
   case tp2=>exact ⟨rfl,rfl⟩
  have ck:Checked Γ S i:=fun c' u' w=>by rw [hcu] at w;cases w;exact ⟨hD,hC⟩
  have step:∀{r:Ans},(∃n,∀m,n≤m→cG (eval fns orc m) 15 none (.loop nwK) ⟨[(2,.ptr b2 0),(3,.ptr b3 0),(7,.ptr Γ.tb 0),(50,.sl tk0 Γ.xs),(51,.int .i64 (Γ.n:Nat)),(52,.int .i64 ((i+1:Nat):Int))],ds,.plain,h2⟩= .ok r)→
    ∃n,∀m,n≤m→cG (eval fns orc m) 15 none (.loop nwK) ⟨[(2,.ptr b2 0),(3,.ptr b3 0),(7,.ptr Γ.tb 0),(50,.sl tk0 Γ.xs),(51,.int .i64 (Γ.n:Nat)),(52,.int .i64 (i:Nat))],ds,.plain,h⟩= .ok r:=by
   rintro r ⟨n3,e3⟩
   refine ⟨n1+n2+n3+1,fun m hm=> ?_⟩
   obtain ⟨j,rfl⟩:∃j,m=j+1:=⟨m -1,by omega⟩
   have e1' :=e1 (j+1) om
   have e2' :=e2 (j+1) om
   have e3' :eval fns orc (j+1) (.code 15 none (.loop nwK) _)=_:=e3 j om
   simp only [nwK] at e3'
   rw [aI]
   exact SXe (cj6 @nwK.eq_1 d hia e1' e2' w) e3'
  rcases ih (i+1) h2 om ((T.grow g1).grow g2) with ⟨h3,ts,e3,tt,g3,all⟩|⟨e,h3,ts,he,e3,tp,ch3⟩
  ·exact .inl ⟨h3,ts,step e3,tt,(g1.trans g2).trans g3,fun j hj hl=>by
    by_cases q:j=i
    ·subst q;exact ck
    ·exact all j om hl⟩
  ·exact .inr ⟨e,h3,ts,he,step e3,tp,Be (g1.trans g2) ch3⟩
def VT (Γ:Tb) (S:Nat→DY) (k:Nat) (vL:List AV):Prop:=vL.length=k∧∀(j:Nat) sv,vL[j]? =some sv→∃vs c u,iP sv (vs.map vA)∧(S j).ch=some (c,u)∧Q9 Γ S c vs
omit H O K W in
theorem Rc {sv:AV} {vs:List VR} (h:iP sv (vs.map vA)):dX sv sv=true:=by
 generalize e:vs.map vA=xs at h
 cases h with
 |nil=>rfl
 |sl tk xs=>
  have:kQ (vs.map vA) (vs.map vA)=true:=by
   induction vs generalizing xs with
   |nil=>simp [kQ]
   |cons v vs ih=>
    have:=ih _ rfl
    simp only [List.map_cons,eM,this,Bool.and_true]
    simp [vA,dX,kQ,kEq,jV,iQ]
  rw [←e]
  simp only [dX,vN,this,Bool.and_self]
omit H O K W in
theorem XZ {k:Nat} {vL:List AV} {v2:AV} {h:aD} (V:VT Γ S k vL) (a:Acc h v2 vL):dX v2 v2=true:=by
 have:kQ vL vL=true:=by
  have hv:∀sv∈vL,dX sv sv=true:=fun sv hs=>by
   obtain ⟨j,hj⟩:=tX hs
   obtain ⟨vs,c,u,h1,_⟩:=V.2 j sv hj
   exact Rc h1
  clear V a
  induction vL with
  |nil=>simp [kQ]
  |cons v vL ih=>simp only [eM,hv v (by simp),ih (fun s hs=>hv s (by simp [hs])),Bool.and_self]
 cases a with
 |nil=>rfl
 |opn t xs h1 h2=>simp only [dX,vN,this,Bool.and_self]
theorem Wy (hCk:∀j,j<Γ.n→Checked Γ S j) (hlo:∀j,pJ Γ j→Γ.tb≤j) (hmb:Γ.tb≤Γ.mb) {tk0:Tk}:∀(k i:Nat) (h:aD) (tk:Tk) (v2:AV) (vL:List AV),i+k=Γ.n→TB Γ S h→cont h Γ.tb=some [.sl tk Γ.xs,.map Γ.mb,v2]→Acc h v2 vL→VT Γ S i vL→(∀t,jK v2=some t→Γ.tb≤t)→
  (∃h' ts tk' v2' vL',(∃n,∀m,n≤m→cG (eval fns orc m) 15 none (.loop nwV) ⟨[(2,.ptr b2 0),(3,.ptr b3 0),(7,.ptr Γ.tb 0),(72,.sl tk0 Γ.xs),(73,.int .i64 (Γ.n:Nat)),(74,.int .i64 (i:Nat))],ds,.plain,h⟩= .ok (.code (.exit 4) ⟨ts,ds,.plain,h'⟩))∧(cH ts 2= .ptr b2 0∧cH ts 3= .ptr b3 0∧cH ts 7= .ptr Γ.tb 0)∧(h.next≤h'.next∧∀j,j<Γ.tb→h'.get j=h.get j)∧TB Γ S h' ∧cont h' Γ.tb=some [.sl tk' Γ.xs,.map Γ.mb,v2']∧iP v2' vL' ∧VT Γ S Γ.n vL')∨
  (∃e h' ts,0<e∧(∃n,∀m,n≤m→cG (eval fns orc m) 15 none (.loop nwV) ⟨[(2,.ptr b2 0),(3,.ptr b3 0),(7,.ptr Γ.tb 0),(72,.sl tk0 Γ.xs),(73,.int .i64 (Γ.n:Nat)),(74,.int .i64 (i:Nat))],ds,.plain,h⟩= .ok (.code (.panic (irr e)) ⟨ts,ds,.plain,h'⟩))∧(cH ts 2= .ptr b2 0∧cH ts 3= .ptr b3 0)∧(h.next≤h'.next∧∀j,j<Γ.tb→h'.get j=h.get j)):=by
 have hO:=O.lt
 intro k
 induction k with
 |zero=>
  intro i h tk v2 vL hi T ht ac V htk
  have d:decide ((i:Int)<((Γ.n:Nat):Int))=false:=dF om
  refine .inl ⟨h, ?ts0,tk,v2,vL,⟨0,fun m _=> ?b0⟩, ?tt,⟨Nat.le_refl _,fun _ _=>rfl⟩,T,ht,(show uU h _ _ from .inl ac).E6,by rw [show i=Γ.n by omega] at V;exact V⟩
  case b0=>
   rw [aI]
   exact SX (cj2 @nwV.eq_1 d)
  case tt=>exact ⟨rfl,rfl,rfl⟩
 |succ k ih=>
  intro i h tk v2 vL hi T ht ac V htk
  have d:decide ((i:Int)<((Γ.n:Nat):Int))=true:=dT om
  have w:IntKind.wrap .i64 ((i:Int)+1)=((i+1:Nat):Int):=by rw [pE om om];rfl
  have hin:i<Γ.n:=om
  have hia:=Γ.at tk0 hin
  obtain ⟨⟨c,u⟩,hcu⟩:=Option.ne_none_iff_exists'.1 (K i)
  obtain ⟨cc,tkc,vu,bc,y15,_⟩:=uQ O T hin hcu
  have ec:=vH tkc c
  have ev2:=XZ V ac
  have hDA:∀d,d<Γ.n→∃c1,uT Γ d c1:=fun d hd=>by
   obtain ⟨⟨c',u'⟩,Vm⟩:=Option.ne_none_iff_exists'.1 (K d)
   exact ⟨_,(hCk d hd c' u' Vm).1⟩
  rcases Lz H O K W T hin hcu hDA (vc:= .sl tkc (ints c)) (.sl _ _) with ⟨sv,h1,⟨n1,e1⟩,g1,vs,hsv,fr⟩|⟨e,h1,he,⟨n1,e1⟩,ch1⟩
  case inr=>
   refine .inr ⟨e,h1, ?ts1,he,⟨n1,fun m hm=> ?b1⟩, ?tp1,⟨ch1.next,fun j hj=>ch1.get j (by have:=T.lt.1;omega) (fun q=>by have:=hlo j q;omega)⟩⟩
   case b1=>
    have e1' :=e1 m hm
    rw [aI]
    exact SX (tR @nwV.eq_1 d hia bc y15 ec ht ev2 e1' @qG)
   case tp1=>exact ⟨rfl,rfl⟩
  have T1:=T.grow g1
  have ht1:=(aF g1 (aO ht)).trans ht
  have scl:sv.cells=[sv]:=uJ hsv
  have sck:sv.bX=true:=qL hsv
  have wv:Ab 1 vL:=fun x hx=>by
   obtain ⟨j,hj⟩:=tX hx
   obtain ⟨_,_,_,q,_⟩:=V.2 j x hj
   rw [uJ q];rfl
  obtain ⟨v2',h2,ap,a2,g2,tk2⟩:=sG (ac.grow g1) (n:=1) (v:=sv) om wv (by rw [scl];rfl) (by have:=V.1;omega)
  have n1x:=g1.next
  have n2x:=g2.next
  have ltt:=aO ht
  have tne:∀t,jK v2=some t→∀{j cs},cont h1 j=some cs→j≠t:=fun t q j cs hc w=>(show uU h1 _ _ from .inl (ac.grow g1)).ne q (w▸hc) rfl
  have ht2:cont h2 Γ.tb=some [.sl tk Γ.xs,.map Γ.mb,v2]:=(aH (g2.get Γ.tb om (fun q=>tne _ q ht1 rfl))).trans ht1
  have X0:=(show uU h2 _ _ from .inl a2).E6
  have v2c:=uJ X0
  have v2k:=qL X0
  obtain ⟨h3,h3e⟩:∃x,x=h2.set Γ.tb (.cells [.sl tk Γ.xs,.map Γ.mb,v2']):=⟨_,rfl⟩
  have ht3:cont h3 Γ.tb=some [.sl tk Γ.xs,.map Γ.mb,v2']:=by rw [h3e];exact aG om
  have n3:h3.next=h2.next:=by rw [h3e];simp
  have oth:∀j,j<h1.next→j≠Γ.tb→jK v2≠some j→h3.get j=h1.get j:=fun j hj h1' h2' =>by rw [h3e,aE _ _ _ _ om h1',g2.get j hj h2']
  have T3:TB Γ S h3:=by
   refine ⟨⟨tk,v2',ht3⟩, ?_,fun j hj=> ?_,fun j hj=> ?_⟩
   ·obtain ⟨clk,hm⟩:=T1.m_
    refine ⟨clk,(oth Γ.mb (aD.mN hm) (fun q=> ?_) (fun q=> ?_)).trans hm⟩
    ·rw [q,gM ht1] at hm;cases hm
    ·obtain ⟨_,h1'⟩:=(show uU h1 _ _ from .inl (ac.grow g1)).tok q
     rw [hm] at h1';cases h1'
   ·obtain ⟨vc,vu',q1,q2⟩:=T1.d_ j hj
    exact ⟨vc,vu',(aH (oth _ (aO q1) (fun q=>(T1.ne O hj).1 q.symm) (fun q=>tne _ q q1 rfl))).trans q1,q2⟩
   ·have q1:=T1.e_ j hj
    exact (aH (oth _ (aO q1) (fun q=>(T1.ne O hj).1 q.symm) (fun q=>tne _ q q1 rfl))).trans q1
  have a3:Acc h3 v2' (vL++[sv]):=by
   have hx:uU h3 v2' (vL++[sv]):=(show uU h2 _ _ from .inl a2).wH fun t q=>by
    rw [h3e]
    exact aE _ _ _ _ om ((show uU h2 _ _ from .inl a2).ne q ht2)
   rcases hx with hx|hx
   ·exact hx
   ·rw [hx] at a2
    exact absurd a2 (by intro q;generalize vL++[sv]=zs at q;cases q)
  have V3:VT Γ S (i+1) (vL++[sv]):=by
   refine ⟨by simp [V.1],fun j sv' hj=> ?_⟩
   by_cases q:j<vL.length
   ·rw [List.getElem?_append_left q] at hj;exact V.2 j sv' hj
   ·have:j=vL.length:=by have:=(List.getElem?_eq_some_iff.1 hj).1;simp at this;omega
    subst this
    simp at hj
    subst hj
    exact ⟨vs,c,u,hsv,by rw [V.1];exact hcu,fr⟩
  have FD:h.next≤h3.next∧∀j,j<Γ.tb→h3.get j=h.get j:=⟨by omega,fun j hj=>by rw [oth j om om (fun q=>by have:=htk j q;omega),g1.get j om]⟩
  have step:∀{r:Ans},(∃n,∀m,n≤m→cG (eval fns orc m) 15 none (.loop nwV) ⟨[(2,.ptr b2 0),(3,.ptr b3 0),(7,.ptr Γ.tb 0),(72,.sl tk0 Γ.xs),(73,.int .i64 (Γ.n:Nat)),(74,.int .i64 ((i+1:Nat):Int))],ds,.plain,h3⟩= .ok r)→
    ∃n,∀m,n≤m→cG (eval fns orc m) 15 none (.loop nwV) ⟨[(2,.ptr b2 0),(3,.ptr b3 0),(7,.ptr Γ.tb 0),(72,.sl tk0 Γ.xs),(73,.int .i64 (Γ.n:Nat)),(74,.int .i64 (i:Nat))],ds,.plain,h⟩= .ok r:=by
   rintro r ⟨n3,e3⟩
   refine ⟨n1+n3+1,fun m hm=> ?_⟩
   obtain ⟨j,rfl⟩:∃j,m=j+1:=⟨m -1,by omega⟩
   have e1' :=e1 (j+1) om
   have e3' :eval fns orc (j+1) (.code 15 none (.loop nwV) _)=_:=e3 j om
   have bs:∀ts,jN h1 ((90,sv)::ts) 1 [.t 90]= .ok (.val (.sl .full [sv]) h1):=fun ts=>by
    have ee:(Nat.beq sv.cells.length 1 && sv.cells.all AV.bX)=true:=by rw [scl];simp [sck]
    simp only [jN,kZ,rJ,dG,Nat.beq,ee,aM]
   simp only [nwV] at e3'
   rw [aI]
   exact SWe (dI @nwV.eq_1 d hia bc y15 ec ht ht1 ht2 ev2 e1' bs ap v2c v2k (Eq.symm h3e) (cj2 w @qG)) e3'
  rcases ih (i+1) h3 tk v2' (vL++[sv]) om T3 ht3 a3 V3 (fun t q=>by rcases tk2 t q with q|q;exact htk t q;omega) with ⟨h4,ts,tk',v2x,vL',e4,tt,g4,T4,ht4,hv4,V4⟩|⟨e,h4,ts,he,e4,tp,ch4⟩
  ·exact .inl ⟨h4,ts,tk',v2x,vL',step e4,tt,⟨by omega,fun j hj=>(g4.2 j hj).trans (FD.2 j hj)⟩,T4,ht4,hv4,V4⟩
  ·exact .inr ⟨e,h4,ts,he,step e4,tp,⟨by omega,fun j hj=>(ch4.2 j hj).trans (FD.2 j hj)⟩⟩
end
end Go.Ly
namespace Go.Ly
open Go Go.Am Go.Fs Go.Gn
variable {fns:Go.Am.F} {orc:Orc}
def Sa:AC:=p15x111111
def U3:AC:=p15x1111111
def Wz:AC:=p15x11111111
theorem KV:a15.body= .seq p15x0 (.seq p15x10 (.seq p15x110 (.seq p15x1110 (.seq p15x11110 (.seq p15x111110 Sa))))):=rfl
theorem OD:Sa= .seq (.seq p15x11111100 (.block 0 (.loop nwC))) U3:=rfl
theorem OC:U3= .seq (.seq p15x111111100 (.block 2 (.loop nwK))) Wz:=rfl
theorem OB:Wz= .seq (.seq p15x1111111100 (.block 4 (.loop nwV))) p15x111111111:=rfl
theorem Jj:a15.results=[.cell 2 none,.cell 3 none]:=rfl
theorem P0 (H:Has fns orc) {b2 b3:Nat} (h:aD):Ev fns orc (.call 35 [.ptr b2 0,.ptr b3 0] .ret h) (.call (.ret jC) .ret h):=by
 refine Ev.call H.f35 H.o35 ⟨0,fun m _=> ?b⟩
 case b=>
  exact SX (cj2 @a35.eq_1 @Bj.eq_def)
theorem P9 (H:Has fns orc) {b2 b3:Nat} {h:aD} {v2:AV} {z e:Int} (c2:cont h b2=some [v2]) (c3:cont h b3=some [.int .i64 z]) (hne:b2≠b3):
  ∃h',Ev fns orc (.call 35 [.ptr b2 0,.ptr b3 0] (.pan (irr e)) h) (.call (.ret jC) (.pan [{v:= .iface 100 (.agg [.int .i64 e]),recovered:=true}]) h')∧cont h' b2=some [.pI]∧cont h' b3=some [.int .i64 e]∧h.next≤h'.next∧∀j,j<h.next→j≠b2→j≠b3→h'.get j=h.get j:=by
 have l2:=aO c2
 have l3:=aO c3
 obtain ⟨hA,hAe⟩:∃x,x=(h.push (.cells [.int .i64 0])).set h.next (.cells [.int .i64 e]):=⟨_,rfl⟩
 have gA:aP h hA:=by rw [hAe];exact gw2
 have nA:hA.next=h.next+1:=by rw [hAe];simp
 have a3:cont hA h.next=some [.int .i64 e]:=by rw [hAe];exact aG (by simp)
 have a2:=(aF gA l2).trans c2
 obtain ⟨hB,hBe⟩:∃x,x=hA.set b2 (.cells [.pI]):=⟨_,rfl⟩
 have nB:hB.next=hA.next:=by rw [hBe];simp
 have b3' :cont hB b3=some [.int .i64 z]:=by rw [hBe,aK om (fun q=>hne q.symm)];exact (aF gA l3).trans c3
 have bx' :cont hB h.next=some [.int .i64 e]:=by rw [hBe,aK om om];exact a3
 obtain ⟨hC,hCe⟩:∃x,x=hB.set b3 (.cells [.int .i64 e]):=⟨_,rfl⟩
 refine ⟨hC,Ev.call H.f35 H.o35 ⟨0,fun m _=> ?b⟩, ?c2, ?c3,by rw [hCe];simp;omega,fun j hj h1 h2=>by rw [hCe,aE _ _ _ _ om h2,hBe,aE _ _ _ _ om h1,gA.get j hj]⟩
 case c2=>rw [hCe,aK om hne,hBe];exact aG om
 case c3=>rw [hCe];exact aG om
 case b=>
  exact SX (xJ @a35.eq_1 @Bj.eq_def @irr.eq_1 @jL.eq_1 @jL.eq_2 @jL.eq_3 @Nat.beq_refl (Eq.symm hAe) a3 a2 (Eq.symm hBe) b3' bx' (Eq.symm hCe) @qG)
def VH (Γ:Tb) (d:pD):Prop:=∃d',(d' =d∨d' =vE)∧∀o,o<Γ.n→Sub (.desc d') (.desc (Γ.D o).pd)
structure Made (Γ:Tb) (S:Nat→DY) (h:aD):Prop where
 ok:Γ.Ok
 all:Cg S
 wf:WF Γ S
 tb:TB Γ S h
 ck:∀j,j<Γ.n→Checked Γ S j
 vt:∃tk v2 vL,cont h Γ.tb=some [.sl tk Γ.xs,.map Γ.mb,v2]∧iP v2 vL∧VT Γ S Γ.n vL
theorem WG (H:Has fns orc) (N:vX fns orc) {d:pD} {c:List AV} (hv:RV (.desc d) (.agg c)) (hs:wP (.desc d)) (hn:(Part.desc d).nodes<5000000) (h:aD):
  ∃h',aP h h' ∧((∃e,e≠0∧Ev fns orc (.call 15 [.agg c] .plain h) (.call (.ret (.tup [.pI,.int .i64 e])) .plain h'))∨
   ∃Γ S,Ev fns orc (.call 15 [.agg c] .plain h) (.call (.ret (.tup [.ptr Γ.tb 0,.int .i64 0])) .plain h')∧Made Γ S h' ∧VH Γ d):=by
 have hcl:=kW hv
 have p7:takeN 7 c=some c:=by rw [←hcl];exact aW c
 obtain ⟨h1,h1e⟩:∃x,x=((h.push (.cells c)).push (.cells [.pI])).push (.cells [.int .i64 0]):=⟨_,rfl⟩
 have g1:aP h h1:=by rw [h1e];exact gw2
 have n1:h1.next=h.next+3:=by rw [h1e];simp
 have x1:cont h1 h.next=some c:=by rw [h1e];exact ctp
 have x2:cont h1 (h.next+1)=some [.pI]:=by rw [h1e];exact ctp
 have x3:cont h1 (h.next+2)=some [.int .i64 0]:=by rw [h1e];exact ctp
 obtain ⟨h2,e,g2,⟨m1,y1⟩,hV⟩:=ML H N hv hs om h1
 have n2:=g2.next
 have z1:=(aF g2 om).trans x1
 have z2:=(aF g2 om).trans x2
 have z3:=(aF g2 om).trans x3
 by_cases ce:e=0
 case neg=>
  have de:=dF ce
  obtain ⟨h3,h3e⟩:∃x,x=h2.set (h.next+1) (.cells [.pI]):=⟨_,rfl⟩
  have w3:cont h3 (h.next+2)=some [.int .i64 0]:=by rw [h3e,aK om om];exact z3
  have w2:cont h3 (h.next+1)=some [.pI]:=by rw [h3e];exact aG om
  obtain ⟨h4,h4e⟩:∃x,x=h3.set (h.next+2) (.cells [.int .i64 e]):=⟨_,rfl⟩
  have v2:cont h4 (h.next+1)=some [.pI]:=by rw [h4e,aK (by rw [h3e];simp;omega) om];exact w2
  have v3:cont h4 (h.next+2)=some [.int .i64 e]:=by rw [h4e];exact aG (by rw [h3e];simp;omega)
  refine ⟨h4, ?g,.inl ⟨e,ce,Ev.call H.f15 H.o15 ⟨m1,fun m hm=> ?b1⟩⟩⟩
  case g=>rw [h4e,h3e];exact ((g1.trans g2).set om om _).set om (by simp;omega) _
  case b1=>
   have y1' :=y1 m hm
   exact SX (wK @KV @Jj (Eq.symm h1e) x1 p7 y1' de z2 (Eq.symm h3e) w3 (Eq.symm h4e) v2 v3)
 have de:=dT ce
 obtain ⟨h3,c',d',e',g3,⟨m2,y2⟩,rv',hd'⟩:=Vt H N hv hs om h2
 have E8 :=kW rv'
 have p7' :takeN 7 c' =some c' :=by rw [←E8];exact aW c'
 have ck' :=A5 rv'
 have n3:=g3.next
 have z13:=(aF g3 om).trans z1
 obtain ⟨h4,h4e⟩:∃x,x=(h3.push (.cells [.str [],.aC,.aC,.aC,.bool false,.aC,.aC])).set h3.next (.cells c'):=⟨_,rfl⟩
 have g4:aP h3 h4:=by rw [h4e];exact gw2
 have n4:h4.next=h3.next+1:=by rw [h4e];simp
 have x5:cont h4 h3.next=some c' :=by rw [h4e];exact aG (by simp)
 have st5:=mW h3 (sz:=7) (z:=kD) (c:=c') rfl E8 ck'
 simp only [kD] at st5
 rw [←h4e] at st5
 obtain ⟨h5,h5e⟩:∃x,x=h4.push (.cells [.aC,.qQ,.aC]):=⟨_,rfl⟩
 have g5:aP h4 h5:=by rw [h5e];exact gw2
 have n5:h5.next=h4.next+1:=by rw [h5e];simp
 have x7:cont h5 h4.next=some [.aC,.qQ,.aC]:=by rw [h5e];exact aR om om
 have x55:=(aF g5 om).trans x5
 have hVd:Valid (.desc d')∧(Part.desc d').nodes<5000000:=by
  rcases hd' with rfl|rfl
  ·exact ⟨hV ce,hn⟩
  ·exact ⟨Mr,by simp [vE,xD,tot]⟩
 obtain ⟨B,dl,es,h6,⟨m3,y3⟩,TG',hBt,hBb,⟨n6,k6,o6⟩,hdl,hDn,l,D,hl0,hDd,hDa⟩:=Qx H rv' hVd.1 hVd.2 x7
 have h0:0<dl.length:=by
  cases dl with
  |nil=>simp at hl0
  |cons x l=>simp
 obtain ⟨Γ,hΓ⟩:∃Γ,Γ=Bs B dl es:=⟨_,rfl⟩
 have O:Γ.Ok:=hΓ▸Tf TG' hdl h0 hDn
 have T6:TB Γ (S0 Γ) h6:=hΓ▸Te TG' h0
 have htb:Γ.tb=h4.next:=by rw [hΓ];exact hBt
 have hmbb:Γ.tb≤Γ.mb:=by rw [hΓ];have:=TG'.bs.2.2;rw [hBb] at this;show B.tb≤B.mb;omega
 have hlo:∀j,pJ Γ j→Γ.tb≤j:=by
  rintro j ⟨k,hk,rfl⟩
  rw [hΓ] at hk⊢
  rw [(rO hk).1]
  have:=(TG'.d_ _ (List.getElem_mem hk)).2.1
  show B.tb≤_
  omega
 have b2' :∀{hh:aD},(∀j,j<Γ.tb→hh.get j=h6.get j)→cont hh (h.next+1)=some [.pI]∧cont hh (h.next+2)=some [.int .i64 0]:=fun {hh} k=>by
  refine ⟨?_, ?_⟩
  ·rw [aH (k _ om),aH (o6 _ om),aF g5 om,aF g4 om,aF g3 om];exact z2
  ·rw [aH (k _ om),aH (o6 _ om),aF g5 om,aF g4 om,aF g3 om];exact z3
 have gr:∀{hh:aD},h6.next≤hh.next→(∀j,j<Γ.tb→hh.get j=h6.get j)→aP h hh:=fun {hh} q k=>⟨by have:=g1.next;omega,fun j hj=>by
  have:=g1.next
  rw [k j om,o6 j om,g5.get j om,g4.get j om,g3.get j om,g2.get j om,g1.get j hj]⟩
 have first:∀m,m1+m2+m3≤m→cG (eval fns orc m) 15 none a15.body ⟨eO 0 [.agg c],[],.plain,h⟩=
   cG (eval fns orc m) 15 none Sa ⟨[(2,.ptr (h.next+1) 0),(3,.ptr (h.next+2) 0),(7,.ptr Γ.tb 0)],[.call 35 [.ptr (h.next+1) 0,.ptr (h.next+2) 0]],.plain,h6⟩:=by
  intro m hm
  have y1' :=y1 m om
  have y2' :=y2 m om
  have y3' :=y3 m om
  have eq7:=AR rv'
  rw [htb]
  exact SR (dI @KV (Eq.symm h1e) x1 p7 y1' de z1 z13 @Hh.eq_def y2' st5 (Eq.symm h5e) x55 p7' eq7 y3' (cj2 @qG @ldS))
 have pan:∀{e:Int} {hp:aD} {ts:fN},0<e→(∃n,∀m,n≤m→cG (eval fns orc m) 15 none Sa ⟨[(2,.ptr (h.next+1) 0),(3,.ptr (h.next+2) 0),(7,.ptr Γ.tb 0)],[.call 35 [.ptr (h.next+1) 0,.ptr (h.next+2) 0]],.plain,h6⟩= .ok (.code (.panic (irr e)) ⟨ts,[.call 35 [.ptr (h.next+1) 0,.ptr (h.next+2) 0]],.plain,hp⟩))→
   (cH ts 2= .ptr (h.next+1) 0∧cH ts 3= .ptr (h.next+2) 0)→h6.next≤hp.next→(∀j,j<Γ.tb→hp.get j=h6.get j)→∃h',aP h h' ∧((∃e,e≠0∧Ev fns orc (.call 15 [.agg c] .plain h) (.call (.ret (.tup [.pI,.int .i64 e])) .plain h'))∨
   ∃Γ S,Ev fns orc (.call 15 [.agg c] .plain h) (.call (.ret (.tup [.ptr Γ.tb 0,.int .i64 0])) .plain h')∧Made Γ S h' ∧VH Γ d):=by
  rintro e hp ts he ⟨m4,y4⟩ ⟨t2,t3⟩ nx kp
  obtain ⟨q2,q3⟩:=b2' kp
  obtain ⟨h7,ev,c2,c3,nn,oo⟩:=P9 H q2 q3 om (e:=e)
  have g7:=gr nx kp
  refine ⟨h7,⟨by have:=g7.next;omega,fun j hj=>(oo j (by have:=g7.next;omega) om om).trans (g7.get j hj)⟩,.inl ⟨e,by omega,Ev.Hq H.f15 H.o15 ⟨m1+m2+m3+m4,fun m hm=>(first m om).trans (y4 m om)⟩ (.panic _) (Ev.Rk ev (Ev.Mv (l:=[.pI,.int .i64 e]) H.f15 ?r))⟩⟩
  case r=>exact SX (cj5 @Jj t2 t3 c2 c3)
 obtain ⟨tk6,v6,t6⟩:=T6.t_
 have lx:∀hp tk,nJ hp .sl (.sl tk Γ.xs)= .ok Γ.n:=fun hp tk=>by rw [iI];simp [Tb.xs]
 have low:∀{a b:aD},h6.next≤a.next→(∀j,j<Γ.tb→a.get j=h6.get j)→Chg (pJ Γ) a b→h6.next≤b.next∧∀j,j<Γ.tb→b.get j=h6.get j:=fun {a b} q k ch=>⟨by have:=ch.next;omega,fun j hj=>(ch.get j om (fun w=>by have:=hlo j w;omega)).trans (k j hj)⟩
 rcases WB H O (b2:=h.next+1) (b3:=h.next+2) (ds:=[.call 35 [.ptr (h.next+1) 0,.ptr (h.next+2) 0]]) Γ.n 0 (S0 Γ) h6 om T6 Za (fun i hi=>by simp only [S0];rw [if_neg om];simp) with ⟨S,h7,ts7,⟨m4,y4⟩,⟨t72,t73,t77⟩,ch7,T7,W7,K7⟩|⟨e,h7,ts,he,⟨m4,y4⟩,tp,ch7⟩
 case inr=>
  have lw:=low (Nat.le_refl _) (fun _ _=>rfl) ch7
  refine pan he ⟨m4,fun m hm=> ?b2⟩ tp lw.1 lw.2
  case b2=>
   have y4' :=y4 m hm
   simp only [Int.ofNat_zero] at y4'
   exact SX (cj4 @OD t6 lx y4')
 have lw7:=low (Nat.le_refl _) (fun _ _=>rfl) ch7
 have to7:∃n,∀m,n≤m→cG (eval fns orc m) 15 none Sa ⟨[(2,.ptr (h.next+1) 0),(3,.ptr (h.next+2) 0),(7,.ptr Γ.tb 0)],[.call 35 [.ptr (h.next+1) 0,.ptr (h.next+2) 0]],.plain,h6⟩=cG (eval fns orc m) 15 none U3 ⟨ts7,[.call 35 [.ptr (h.next+1) 0,.ptr (h.next+2) 0]],.plain,h7⟩:=⟨m4,fun m hm=>by
  have y4' :=y4 m hm
  simp only [Int.ofNat_zero] at y4'
  exact SX (cj4 @OD t6 lx y4')⟩
 obtain ⟨m5,y5⟩:=to7
 obtain ⟨tk7,v7,t7⟩:=T7.t_
 rcases WA H O K7 W7 (b2:=h.next+1) (b3:=h.next+2) (ds:=[.call 35 [.ptr (h.next+1) 0,.ptr (h.next+2) 0]]) (tk0:=tk7) Γ.n 0 h7 om T7 with ⟨h8,ts8,⟨m6,y6⟩,⟨t82,t83,t87⟩,g8,hCk⟩|⟨e,h8,ts,he,⟨m6,y6⟩,tp,ch8⟩
 case inr=>
  have lw:=low lw7.1 lw7.2 ch8
  refine pan he ⟨m5+m6,fun m hm=>(y5 m om).trans ?b3⟩ tp lw.1 lw.2
  case b3=>
   have y6' :=y6 m om
   simp only [Int.ofNat_zero] at y6'
   exact SX (cj7 @OC t72 t73 t77 t7 lx y6')
 have lw8:=low lw7.1 lw7.2 (fV g8)
 have to8:∃n,∀m,n≤m→cG (eval fns orc m) 15 none U3 ⟨ts7,[.call 35 [.ptr (h.next+1) 0,.ptr (h.next+2) 0]],.plain,h7⟩=cG (eval fns orc m) 15 none Wz ⟨ts8,[.call 35 [.ptr (h.next+1) 0,.ptr (h.next+2) 0]],.plain,h8⟩:=⟨m6,fun m hm=>by
  have y6' :=y6 m hm
  simp only [Int.ofNat_zero] at y6'
  exact SX (cj7 @OC t72 t73 t77 t7 lx y6')⟩
 obtain ⟨m7,y7⟩:=to8
 have T8:=T7.grow g8
 obtain ⟨sl0,tt6,_⟩:=TG'.t_
 have t6' :cont h6 Γ.tb=some [.sl tk6 Γ.xs,.map Γ.mb,.aC]:=by
  have:cont h6 Γ.tb=some [sl0,.map B.mb,.aC]:=by rw [hΓ];exact tt6
  rw [t6] at this
  have e:=Option.some.inj this
  rw [t6]
  simp only [List.cons.injEq] at e⊢
  simp [e.2.2.1]
 have ntb:¬pJ Γ Γ.tb:=fun w=>by
  obtain ⟨k,hk,q⟩:=w
  exact (T6.ne O hk).1 q
 have t8:cont h8 Γ.tb=some [.sl tk6 Γ.xs,.map Γ.mb,.aC]:=(aF g8 (by have:=T7.lt.1;omega)).trans ((qJ ch7 (T6.lt.1) ntb).trans t6')
 rcases Wy H O K7 W7 (b2:=h.next+1) (b3:=h.next+2) (ds:=[.call 35 [.ptr (h.next+1) 0,.ptr (h.next+2) 0]]) (fun j hj=>hCk j (Nat.zero_le _) hj) hlo hmbb (tk0:=tk6) Γ.n 0 h8 tk6 .aC [] om T8 t8 .nil ⟨rfl,fun j sv w=>by simp at w⟩ (fun t w=>by cases w) with ⟨h9,ts9,tk9,v9,vL9,⟨m8,y8⟩,⟨t92,t93,t97⟩,g9,T9,t9,sl9,V9⟩|⟨e,h9,ts,he,⟨m8,y8⟩,tp,g9⟩
 case inr=>
  refine pan he ⟨m5+m7+m8,fun m hm=>(y5 m om).trans ((y7 m om).trans ?b4)⟩ tp (by have:=lw8.1;omega) (fun j hj=>(g9.2 j hj).trans (lw8.2 j hj))
  case b4=>
   have y8' :=y8 m om
   simp only [Int.ofNat_zero] at y8'
   exact SX (cj7 @OB t82 t83 t87 t8 lx y8')
 have lw9:h6.next≤h9.next∧∀j,j<Γ.tb→h9.get j=h6.get j:=⟨by have:=lw8.1;omega,fun j hj=>(g9.2 j hj).trans (lw8.2 j hj)⟩
 obtain ⟨q2,q3⟩:=b2' lw9.2
 have l9:=T9.lt.1
 obtain ⟨hX,hXe⟩:∃x,x=h9.set (h.next+1) (.cells [.ptr Γ.tb 0]):=⟨_,rfl⟩
 have nX:hX.next=h9.next:=by rw [hXe];simp
 have X3:cont hX (h.next+2)=some [.int .i64 0]:=by rw [hXe,aK om om];exact q3
 obtain ⟨hY,hYe⟩:∃x,x=hX.set (h.next+2) (.cells [.int .i64 0]):=⟨_,rfl⟩
 have nY:hY.next=h9.next:=by rw [hYe];simp [nX]
 have Y2:cont hY (h.next+1)=some [.ptr Γ.tb 0]:=by rw [hYe,aK om om,hXe];exact aG om
 have Y3:cont hY (h.next+2)=some [.int .i64 0]:=by rw [hYe];exact aG om
 have oY:∀j,j≠h.next+1→j≠h.next+2→hY.get j=h9.get j:=fun j h1 h2=>by rw [hYe,aE _ _ _ _ om h2,hXe,aE _ _ _ _ om h1]
 have g9' :=gr lw9.1 lw9.2
 have TY:TB Γ S hY:=T9.wH fun j hj w=>oY j (by rcases w with w|w|w;omega;omega;have:=hlo j w;omega) (by rcases w with w|w|w;omega;omega;have:=hlo j w;omega)
 refine ⟨hY,⟨by have:=g9'.next;omega,fun j hj=>(oY j om om).trans (g9'.get j hj)⟩,.inr ⟨Γ,S,Ev.Hq H.f15 H.o15 (x:= .ret) (s:=⟨[(2,.ptr (h.next+1) 0),(3,.ptr (h.next+2) 0)],[.call 35 [.ptr (h.next+1) 0,.ptr (h.next+2) 0]],.plain,hY⟩) ⟨m1+m2+m3+m5+m7+m8,fun m hm=>(first m om).trans ((y5 m om).trans ((y7 m om).trans ?b5))⟩ .ret (Ev.Mu (P0 H hY) (Ev.Mv (l:=[.ptr Γ.tb 0,.int .i64 0]) H.f15 ?r5)),⟨O,K7,W7,TY,fun j hj=>hCk j (Nat.zero_le _) hj,tk9,v9,vL9,(aH (oY _ om om)).trans t9,sl9,V9⟩,⟨d',hd',fun o ho=> ?rt⟩⟩⟩
 case rt=>
  rw [hΓ] at ho⊢
  have ho' :o<dl.length:=ho
  rw [(rO ho').2.1]
  have sb:=(TG'.g_.ok o dl[o].2 (rO (B:=B) (es:=es) ho').2.2).sb
  rw [(TG'.d_ _ (List.getElem_mem ho')).2.2,hDa.2] at sb
  exact sb
 case r5=>exact SX (cj3 @Jj Y2 Y3)
 case b5=>
  have y8' :=y8 m om
  simp only [Int.ofNat_zero] at y8'
  exact SX (xJ @OB t82 t83 t87 t8 lx y8' t92 t93 t97 q2 q3 (Eq.symm hXe) X3 (Eq.symm hYe))
end Go.Ly
namespace Go.Ly
open Go Go.Am Go.Fs Go.Gn
variable {fns:Go.Am.F} {orc:Orc}
theorem Mj (H:Has fns orc) {p:Part} {v:AV} (hp:RP p v) (hs:p.own<1000000000) (h:aD):
  ∃h',aP h h' ∧Ev fns orc (.call 71 [v] .plain h) (.call (.ret (.int .i64 p.own)) .plain h'):=by
 obtain ⟨c,hv,rfl⟩:=hp
 refine ⟨h.push (.cells (aX p c)),.push _ _,Ev.call H.f71 H.o71 ⟨0,fun m _=> ?_⟩⟩
 cases hv with
 |decl hn h1 h2=>
  simp only [Part.own] at hs
  have hl:=bO hn
  simp -implicitDefEqProofs (disch:=(first|omega|(simp only [aD.aJ,aD.aL];try omega)|skip)) only [a71,hl,List.length_map,eO,fE,fG,dV,cT,aI,dU,cS,fF,dR,gV,eQ,aM,dJ,iJ,opA,qS,kE,qT,pL,rJ,sB,dG,gU,fP,qM,mC,iZ,gJ,mK,dM,eZ,Nat.beq,lS,mH,eE,vl,rH,eY,eW,dW,fK,fH,fI,bY,iG,iD,cV,fL,fJ,bZ,iE,cU,cX,dA,cW,fM,dL,eT,eU,bP,iB,gZ,cK,eX,eV,bQ,iA,cJ,cP,cQ,cM,eS,dO,aY,dH,aZ,fB,bV,bR,bW,bT,dP,fD,kE,eN,kL,mE,bN,aT,aV,fO,gX,takeN,List.drop_zero,List.drop_succ_cons,rS,oEq,eqA,pR,ki,eP,eH,oneOf,iC,jH,mU,called,List.append_eq,List.nil_append,List.cons_append,List.append_assoc,Nat.zero_add,Nat.add_zero,kN,lK,cI,kR,kG,aQ,aE,aD.aJ,aD.aL,List.length_cons,List.length_nil,Bool.and_true,Bool.true_and,List.all_cons,List.all_nil,bJ,cF,bK,bI,fA,Nat.reduceAdd,Nat.reduceEqDiff,Nat.reduceBEq,ite_true,ite_false,if_true,if_false,iQ,kH,jE,iK,iN,dK,iI,decide_eq_true_eq,decide_true,decide_false,qV,intArith,Int.ofNat_zero,reduceCtorEq,Bool.not_true,Bool.not_false,Bool.false_eq_true,Int.reduceEq,Int.reduceAdd,Int.zero_add,Int.add_zero,lZ,aX,pY,kD,kF,pX,lG,dQ,cR,oG,oI,oJ,oK,KF,KG]
  rw [pE om om]
  simp [Part.own]
 |_=>
  exact SA (cj2 @a71.eq_1 @KF.eq_1)
theorem Gg (H:Has fns orc) {d:pD} {v:AV} (hv:RV (.desc d) v) (h:aD):
  ∃h' v',aP h h' ∧RP (.desc d) v' ∧Ev fns orc (.call 24 [v] .plain h) (.call (.ret v') .plain h'):=by
 cases hv with
 |desc h1 h2 h3 h4 h5=>
  refine ⟨?hh, ?vv, ?g, ?r,Ev.call H.f24 H.o24 ⟨0,fun m _=> ?b⟩⟩
  case b=>
   have c1:=aS h1;have c2:=aS h2;have c3:=aS h3;have c4:=aS h4;have c5:=aS h5
   exact SA (cj7 @a24.eq_1 c1 c2 c3 c4 c5 @KF.eq_1)
  case r=>exact ⟨_,.desc h1 h2 h3 h4 h5,by rfl⟩
  case g=>exact (((aP.refl h).tI _).tI _).set (by simp) (by simp) _
theorem Uh (H:Has fns orc) {d:pO} {v:AV} (hv:RV (.exp d) v) (h:aD):
  ∃h' v',aP h h' ∧RP (.exp d) v' ∧Ev fns orc (.call 108 [v] .plain h) (.call (.ret v') .plain h'):=by
 cases hv with
 |exp h1 h2=>
  refine ⟨?hh, ?vv, ?g, ?r,Ev.call H.f108 H.o108 ⟨0,fun m _=> ?b⟩⟩
  case b=>
   have c1:=aS h1;have c2:=aS h2
   exact SA (cj4 @a108.eq_1 c1 c2 @KF.eq_1)
  case r=>exact ⟨_,.exp h1 h2,by rfl⟩
  case g=>exact (((aP.refl h).tI _).tI _).set (by simp) (by simp) _
theorem Ui (H:Has fns orc) {d:kV} {v:AV} (hv:RV (.decl d) v) (h:aD):
  ∃h' v',aP h h' ∧RP (.decl d) v' ∧Ev fns orc (.call 79 [v] .plain h) (.call (.ret v') .plain h'):=by
 cases hv with
 |decl h0 h1 h2 h3=>
  refine ⟨?hh, ?vv, ?g, ?r,Ev.call H.f79 H.o79 ⟨0,fun m _=> ?b⟩⟩
  case b=>
   have c0:=qL h0;have c1:=aS h1;have c2:=aS h2;have c3:=aS h3
   exact SA (cj6 @a79.eq_1 c0 c1 c2 c3 @KF.eq_1)
  case r=>exact ⟨_,.decl h0 h1 h2 h3,by rfl⟩
  case g=>exact (((aP.refl h).tI _).tI _).set (by simp) (by simp) _
theorem Ug (H:Has fns orc) {d:qN} {v:AV} (hv:RV (.imp d) v) (h:aD):
  ∃h' v',aP h h' ∧RP (.imp d) v' ∧Ev fns orc (.call 109 [v] .plain h) (.call (.ret v') .plain h'):=by
 cases hv with
 |imp h1 h2 h3=>
  refine ⟨?hh, ?vv, ?g, ?r,Ev.call H.f109 H.o109 ⟨0,fun m _=> ?b⟩⟩
  case b=>
   have c1:=aS h1;have c2:=aS h2;have c3:=aS h3
   exact SA (cj5 @a109.eq_1 c1 c2 c3 @KF.eq_1)
  case r=>exact ⟨_,.imp h1 h2 h3,by rfl⟩
  case g=>exact (((aP.refl h).tI _).tI _).set (by simp) (by simp) _
theorem Q6 (H:Has fns orc) {p:Part} {v:AV} (hp:RP p v) (hs:p.kids.length<1000000000) (h:aD):
  ∃h',aP h h' ∧Ev fns orc (.call 72 [v] .plain h) (.call (.ret (.int .i64 p.kids.length)) .plain h'):=by
 obtain ⟨c,hv,rfl⟩:=hp
 cases hv with
 |desc h1 h2 h3 h4 h5=>
  simp only [Part.kids,List.length_append,List.length_map] at hs
  refine ⟨?hh1, ?g1,Ev.call H.f72 H.o72 ⟨0,fun m _=> ?b1⟩⟩
  case b1=>
   have l1:=h1.len;have c1:=aS h1;have l2:=h2.len;have c2:=aS h2;have l3:=h3.len;have c3:=aS h3;have l4:=h4.len;have c4:=aS h4;have l5:=h5.len;have c5:=aS h5
   simp -implicitDefEqProofs (disch:=(first|omega|(simp only [aD.aJ,aD.aL];try omega)|skip)) only [a72,l1,c1,l2,c2,l3,c3,l4,c4,l5,c5,List.length_map,eO,fE,fG,dV,cT,aI,dU,cS,fF,dR,gV,eQ,aM,dJ,iJ,opA,qS,kE,qT,pL,rJ,sB,dG,gU,fP,qM,mC,iZ,gJ,mK,dM,eZ,Nat.beq,lS,mH,eE,vl,rH,eY,eW,dW,fK,fH,fI,bY,iG,iD,cV,fL,fJ,bZ,iE,cU,cX,dA,cW,fM,dL,eT,eU,bP,iB,gZ,cK,eX,eV,bQ,iA,cJ,cP,cQ,cM,eS,dO,aY,dH,aZ,fB,bV,bR,bW,bT,dP,fD,kE,eN,kL,mE,bN,aT,aV,fO,gX,takeN,List.drop_zero,List.drop_succ_cons,rS,oEq,eqA,pR,ki,eP,eH,oneOf,iC,jH,mU,called,List.append_eq,List.nil_append,List.cons_append,List.append_assoc,Nat.zero_add,Nat.add_zero,kN,lK,cI,kR,kG,aQ,aE,aD.aJ,aD.aL,List.length_cons,List.length_nil,Bool.and_true,Bool.true_and,List.all_cons,List.all_nil,bJ,cF,bK,bI,fA,Nat.reduceAdd,Nat.reduceEqDiff,Nat.reduceBEq,ite_true,ite_false,if_true,if_false,iQ,kH,jE,iK,iN,dK,iI,decide_eq_true_eq,decide_true,decide_false,qV,intArith,Int.ofNat_zero,reduceCtorEq,Bool.not_true,Bool.not_false,Bool.false_eq_true,Int.reduceEq,Int.reduceAdd,Int.zero_add,Int.add_zero,lZ,aX,pY,kD,kF,pX,lG,dQ,cR,oG,oI,oJ,oK,KF,KG]
   simp (disch:=omega) only [pE,Part.kids,List.length_append,List.length_map,Int.natCast_add]
   rfl
  case g1=>exact (((aP.refl h).tI _).tI _).set (by simp) (by simp) _
 |decl h0 h1 h2 h3=>
  simp only [Part.kids,List.length_append,List.length_map] at hs
  refine ⟨?hh2, ?g2,Ev.call H.f72 H.o72 ⟨0,fun m _=> ?b2⟩⟩
  case b2=>
   have l1:=h1.len;have c1:=aS h1;have l2:=h2.len;have c2:=aS h2;have l3:=h3.len;have c3:=aS h3
   have c0:=qL h0
   simp -implicitDefEqProofs (disch:=(first|omega|(simp only [aD.aJ,aD.aL];try omega)|skip)) only [a72,l1,c1,l2,c2,l3,c3,List.length_map,c0,eO,fE,fG,dV,cT,aI,dU,cS,fF,dR,gV,eQ,aM,dJ,iJ,opA,qS,kE,qT,pL,rJ,sB,dG,gU,fP,qM,mC,iZ,gJ,mK,dM,eZ,Nat.beq,lS,mH,eE,vl,rH,eY,eW,dW,fK,fH,fI,bY,iG,iD,cV,fL,fJ,bZ,iE,cU,cX,dA,cW,fM,dL,eT,eU,bP,iB,gZ,cK,eX,eV,bQ,iA,cJ,cP,cQ,cM,eS,dO,aY,dH,aZ,fB,bV,bR,bW,bT,dP,fD,kE,eN,kL,mE,bN,aT,aV,fO,gX,takeN,List.drop_zero,List.drop_succ_cons,rS,oEq,eqA,pR,ki,eP,eH,oneOf,iC,jH,mU,called,List.append_eq,List.nil_append,List.cons_append,List.append_assoc,Nat.zero_add,Nat.add_zero,kN,lK,cI,kR,kG,aQ,aE,aD.aJ,aD.aL,List.length_cons,List.length_nil,Bool.and_true,Bool.true_and,List.all_cons,List.all_nil,bJ,cF,bK,bI,fA,Nat.reduceAdd,Nat.reduceEqDiff,Nat.reduceBEq,ite_true,ite_false,if_true,if_false,iQ,kH,jE,iK,iN,dK,iI,decide_eq_true_eq,decide_true,decide_false,qV,intArith,Int.ofNat_zero,reduceCtorEq,Bool.not_true,Bool.not_false,Bool.false_eq_true,Int.reduceEq,Int.reduceAdd,Int.zero_add,Int.add_zero,lZ,aX,pY,kD,kF,pX,lG,dQ,cR,oG,oI,oJ,oK,KF,KG]
   simp (disch:=omega) only [pE,Part.kids,List.length_append,List.length_map,Int.natCast_add]
   rfl
  case g2=>exact (aP.refl h).tI _
 |imp h1 h2 h3=>
  simp only [Part.kids,List.length_append,List.length_map] at hs
  refine ⟨?hh3, ?g3,Ev.call H.f72 H.o72 ⟨0,fun m _=> ?b3⟩⟩
  case b3=>
   have l1:=h1.len;have c1:=aS h1;have l2:=h2.len;have c2:=aS h2;have l3:=h3.len;have c3:=aS h3
   simp -implicitDefEqProofs (disch:=(first|omega|(simp only [aD.aJ,aD.aL];try omega)|skip)) only [a72,l1,c1,l2,c2,l3,c3,List.length_map,eO,fE,fG,dV,cT,aI,dU,cS,fF,dR,gV,eQ,aM,dJ,iJ,opA,qS,kE,qT,pL,rJ,sB,dG,gU,fP,qM,mC,iZ,gJ,mK,dM,eZ,Nat.beq,lS,mH,eE,vl,rH,eY,eW,dW,fK,fH,fI,bY,iG,iD,cV,fL,fJ,bZ,iE,cU,cX,dA,cW,fM,dL,eT,eU,bP,iB,gZ,cK,eX,eV,bQ,iA,cJ,cP,cQ,cM,eS,dO,aY,dH,aZ,fB,bV,bR,bW,bT,dP,fD,kE,eN,kL,mE,bN,aT,aV,fO,gX,takeN,List.drop_zero,List.drop_succ_cons,rS,oEq,eqA,pR,ki,eP,eH,oneOf,iC,jH,mU,called,List.append_eq,List.nil_append,List.cons_append,List.append_assoc,Nat.zero_add,Nat.add_zero,kN,lK,cI,kR,kG,aQ,aE,aD.aJ,aD.aL,List.length_cons,List.length_nil,Bool.and_true,Bool.true_and,List.all_cons,List.all_nil,bJ,cF,bK,bI,fA,Nat.reduceAdd,Nat.reduceEqDiff,Nat.reduceBEq,ite_true,ite_false,if_true,if_false,iQ,kH,jE,iK,iN,dK,iI,decide_eq_true_eq,decide_true,decide_false,qV,intArith,Int.ofNat_zero,reduceCtorEq,Bool.not_true,Bool.not_false,Bool.false_eq_true,Int.reduceEq,Int.reduceAdd,Int.zero_add,Int.add_zero,lZ,aX,pY,kD,kF,pX,lG,dQ,cR,oG,oI,oJ,oK,KF,KG]
   simp (disch:=omega) only [pE,Part.kids,List.length_append,List.length_map,Int.natCast_add]
   rfl
  case g3=>exact (aP.refl h).tI _
 |case h1 h2=>
  simp only [Part.kids,List.length_append,List.length_map] at hs
  refine ⟨?hh4, ?g4,Ev.call H.f72 H.o72 ⟨0,fun m _=> ?b4⟩⟩
  case b4=>
   have l1:=h1.len;have c1:=aS h1;have l2:=h2.len;have c2:=aS h2
   simp -implicitDefEqProofs (disch:=(first|omega|(simp only [aD.aJ,aD.aL];try omega)|skip)) only [a72,l1,c1,l2,c2,List.length_map,eO,fE,fG,dV,cT,aI,dU,cS,fF,dR,gV,eQ,aM,dJ,iJ,opA,qS,kE,qT,pL,rJ,sB,dG,gU,fP,qM,mC,iZ,gJ,mK,dM,eZ,Nat.beq,lS,mH,eE,vl,rH,eY,eW,dW,fK,fH,fI,bY,iG,iD,cV,fL,fJ,bZ,iE,cU,cX,dA,cW,fM,dL,eT,eU,bP,iB,gZ,cK,eX,eV,bQ,iA,cJ,cP,cQ,cM,eS,dO,aY,dH,aZ,fB,bV,bR,bW,bT,dP,fD,kE,eN,kL,mE,bN,aT,aV,fO,gX,takeN,List.drop_zero,List.drop_succ_cons,rS,oEq,eqA,pR,ki,eP,eH,oneOf,iC,jH,mU,called,List.append_eq,List.nil_append,List.cons_append,List.append_assoc,Nat.zero_add,Nat.add_zero,kN,lK,cI,kR,kG,aQ,aE,aD.aJ,aD.aL,List.length_cons,List.length_nil,Bool.and_true,Bool.true_and,List.all_cons,List.all_nil,bJ,cF,bK,bI,fA,Nat.reduceAdd,Nat.reduceEqDiff,Nat.reduceBEq,ite_true,ite_false,if_true,if_false,iQ,kH,jE,iK,iN,dK,iI,decide_eq_true_eq,decide_true,decide_false,qV,intArith,Int.ofNat_zero,reduceCtorEq,Bool.not_true,Bool.not_false,Bool.false_eq_true,Int.reduceEq,Int.reduceAdd,Int.zero_add,Int.add_zero,lZ,aX,pY,kD,kF,pX,lG,dQ,cR,oG,oI,oJ,oK,KF,KG]
   simp (disch:=omega) only [pE,Part.kids,List.length_append,List.length_map,Int.natCast_add]
   rfl
  case g4=>exact (aP.refl h).tI _
 |exp h1 h2=>
  simp only [Part.kids,List.length_append,List.length_map] at hs
  refine ⟨?hh5, ?g5,Ev.call H.f72 H.o72 ⟨0,fun m _=> ?b5⟩⟩
  case b5=>
   have l1:=h1.len;have c1:=aS h1;have l2:=h2.len;have c2:=aS h2
   simp -implicitDefEqProofs (disch:=(first|omega|(simp only [aD.aJ,aD.aL];try omega)|skip)) only [a72,l1,c1,l2,c2,List.length_map,eO,fE,fG,dV,cT,aI,dU,cS,fF,dR,gV,eQ,aM,dJ,iJ,opA,qS,kE,qT,pL,rJ,sB,dG,gU,fP,qM,mC,iZ,gJ,mK,dM,eZ,Nat.beq,lS,mH,eE,vl,rH,eY,eW,dW,fK,fH,fI,bY,iG,iD,cV,fL,fJ,bZ,iE,cU,cX,dA,cW,fM,dL,eT,eU,bP,iB,gZ,cK,eX,eV,bQ,iA,cJ,cP,cQ,cM,eS,dO,aY,dH,aZ,fB,bV,bR,bW,bT,dP,fD,kE,eN,kL,mE,bN,aT,aV,fO,gX,takeN,List.drop_zero,List.drop_succ_cons,rS,oEq,eqA,pR,ki,eP,eH,oneOf,iC,jH,mU,called,List.append_eq,List.nil_append,List.cons_append,List.append_assoc,Nat.zero_add,Nat.add_zero,kN,lK,cI,kR,kG,aQ,aE,aD.aJ,aD.aL,List.length_cons,List.length_nil,Bool.and_true,Bool.true_and,List.all_cons,List.all_nil,bJ,cF,bK,bI,fA,Nat.reduceAdd,Nat.reduceEqDiff,Nat.reduceBEq,ite_true,ite_false,if_true,if_false,iQ,kH,jE,iK,iN,dK,iI,decide_eq_true_eq,decide_true,decide_false,qV,intArith,Int.ofNat_zero,reduceCtorEq,Bool.not_true,Bool.not_false,Bool.false_eq_true,Int.reduceEq,Int.reduceAdd,Int.zero_add,Int.add_zero,lZ,aX,pY,kD,kF,pX,lG,dQ,cR,oG,oI,oJ,oK,KF,KG]
   simp (disch:=omega) only [pE,Part.kids,List.length_append,List.length_map,Int.natCast_add]
   rfl
  case g5=>exact (aP.refl h).tI _
theorem Q8 (H:Has fns orc) {a:List pO} {x l:AV} {ps:List Part} {xs:List AV} {h:aD} (hx:RVs (a.map Part.exp) x) (ha:Acc h l xs) (hp:RPL ps xs) (hn:ps.length+a.length<30000000):
  ∃h' l' xs',Ev fns orc (.call 78 [l,x] .plain h) (.call (.ret l') .plain h')∧Acc h' l' xs' ∧RPL (ps++a.map Part.exp) xs' ∧Aj (jK l) h h' ∧(∀t,jK l' =some t→jK l=some t∨h.next≤t):=by
 obtain ⟨xs0,h1,h2,h3⟩:=jZ hx
 refine N5 H.f78 H.o78 rfl rfl h1 h2 (fun i hi h=> ?_) ha hp (by simpa using hn)
 obtain ⟨c,hc,hr⟩:=h3 i hi
 simp only [List.getElem_map] at hr⊢
 obtain ⟨h',v',g1,r1,e1⟩:=Uh H hr h
 exact ⟨c,hc,pW hr,h',v',g1,r1,e1⟩
theorem Q7 (H:Has fns orc) {a:List qN} {x l:AV} {ps:List Part} {xs:List AV} {h:aD} (hx:RVs (a.map Part.imp) x) (ha:Acc h l xs) (hp:RPL ps xs) (hn:ps.length+a.length<30000000):
  ∃h' l' xs',Ev fns orc (.call 80 [l,x] .plain h) (.call (.ret l') .plain h')∧Acc h' l' xs' ∧RPL (ps++a.map Part.imp) xs' ∧Aj (jK l) h h' ∧(∀t,jK l' =some t→jK l=some t∨h.next≤t):=by
 obtain ⟨xs0,h1,h2,h3⟩:=jZ hx
 refine N5 H.f80 H.o80 rfl rfl h1 h2 (fun i hi h=> ?_) ha hp (by simpa using hn)
 obtain ⟨c,hc,hr⟩:=h3 i hi
 simp only [List.getElem_map] at hr⊢
 obtain ⟨h',v',g1,r1,e1⟩:=Ug H hr h
 exact ⟨c,hc,yR hr,h',v',g1,r1,e1⟩
theorem Oc (H:Has fns orc) {a:List pD} {x l:AV} {ps:List Part} {xs:List AV} {h:aD} (hx:RVs (a.map Part.desc) x) (ha:Acc h l xs) (hp:RPL ps xs) (hn:ps.length+a.length<30000000):
  ∃h' l' xs',Ev fns orc (.call 81 [l,x] .plain h) (.call (.ret l') .plain h')∧Acc h' l' xs' ∧RPL (ps++a.map Part.desc) xs' ∧Aj (jK l) h h' ∧(∀t,jK l' =some t→jK l=some t∨h.next≤t):=by
 obtain ⟨xs0,h1,h2,h3⟩:=jZ hx
 refine N5 H.f81 H.o81 rfl rfl h1 h2 (fun i hi h=> ?_) ha hp (by simpa using hn)
 obtain ⟨c,hc,hr⟩:=h3 i hi
 simp only [List.getElem_map] at hr⊢
 obtain ⟨h',v',g1,r1,e1⟩:=Gg H hr h
 exact ⟨c,hc,kW hr,h',v',g1,r1,e1⟩
end Go.Ly
end
