/- Parts of a proof. -/
import Derived.Test.YtgcjkhpfnapklaaGreatDoorD
import Derived.Test.YtgcjkhpfnapklaaGreatDoorZ1
set_option linter.all false
set_option maxHeartbeats 8000000
set_option maxRecDepth 20000
noncomputable section
namespace Go.Ly
open Go Go.Am Go.Fs Go.Gn
variable {fns:Go.Am.F} {orc:Orc}
def AG (S:Nat→DY) (c:List Nat):Int:=(c.map fun k=>(S k).cl).sum
theorem Hx (S:Nat→DY) (c:List Nat) (k:Nat):AG S (c++[k])=AG S c+(S k).cl:=by simp [AG]
theorem WF.AG {Γ:Tb} {S:Nat→DY} (W:WF Γ S):∀(n i:Nat) (c u:List Nat),c.length≤n→i<Γ.n→(S i).ch=some (c,u)→(S i).off=AG S c.dropLast:=by
 intro n
 induction n with
 |zero=>
  intro i c u hn hi hc
  obtain ⟨c0,rfl,_⟩:=W.last hi hc
  simp at hn
 |succ n ih=>
  intro i c u hn hi hc
  obtain ⟨t,_,⟨_,rfl,rfl,ho⟩|⟨x,lv,pt,cx,ux,u0,_,h1,h2,rfl,rfl,_,ho,_⟩⟩:=(W i hi c u hc).shape
  ·rw [ho];rfl
  ·have h3:=ih x cx ux (by simp at hn;omega) h1 h2
   obtain ⟨c0,rfl,_⟩:=W.last h1 h2
   rw [ho,h3,List.dropLast_concat,List.dropLast_concat,Hx]
theorem GY {α:Type} {c:List α} {q:Nat} (hq:q<c.length):(c.take (q+1)).dropLast=c.take q:=by
 rw [List.dropLast_eq_take,List.length_take,List.take_take]
 congr 1
 omega
theorem N3 {α:Type} {c:List α} {q:Nat} {k:α} (hq:c[q]? =some k):c.take (q+1)=c.take q++[k]:=by
 rw [List.take_add_one,hq];rfl
theorem WF.offq {Γ:Tb} {S:Nat→DY} (W:WF Γ S) {i:Nat} {c u:List Nat} (hi:i<Γ.n) (hc:(S i).ch=some (c,u)) {q k:Nat} (hq:c[q]? =some k):(S k).off=Go.Ly.AG S (c.take q):=by
 obtain ⟨h1,u',h2⟩:=W.part c.length i c u (Nat.le_refl _) hi hc q k hq
 have:=W.AG _ k _ u' (Nat.le_refl _) h1 h2
 rw [GY (List.getElem?_eq_some_iff.1 hq).1] at this
 exact this
theorem WF.Ws {Γ:Tb} {S:Nat→DY} (W:WF Γ S) {i:Nat} {c u:List Nat} (hi:i<Γ.n) (hc:(S i).ch=some (c,u)):c[c.length -1]? =some i∧u[c.length -1]? =some 0:=by
 obtain ⟨t,_,⟨_,rfl,rfl,ho⟩|⟨x,lv,pt,cx,ux,u0,_,h1,h2,rfl,rfl,_,ho,hl,_⟩⟩:=(W i hi c u hc).shape
 ·exact ⟨rfl,rfl⟩
 ·constructor
  ·simp
  ·simp [←hl]
def TS (Γ:Tb) (S:Nat→DY) (rs:List AV):Prop:=rs.length=Γ.n∧∀(j:Nat) r,rs[j]? =some r→Sa Γ S j r
theorem TS.get {Γ:Tb} {S:Nat→DY} {rs:List AV} (R:TS Γ S rs) {j:Nat} (hj:j<Γ.n):∃vc vu vv c u vs,rs[j]? =some (.agg [.int .i64 (Γ.D j).num,.int .i64 (Γ.D j).ar,vc,vu,.int .i64 (S j).off,.int .i64 (S j).cl,vv])∧(S j).ch=some (c,u)∧jN vc (ints c)∧jN vu (ints u)∧jN vv (vs.map vA)∧Sb Γ S c vs:=by
 have hj' :j<rs.length:=by rw [R.1];exact hj
 obtain ⟨vc,vu,vv,c,u,vs,h1,h2⟩:=R.2 j _ (List.getElem?_eq_getElem hj')
 exact ⟨vc,vu,vv,c,u,vs,by rw [List.getElem?_eq_getElem hj',h1],h2⟩
theorem Te {v:AV} {xs:List AV} (h:jN v xs) (hn:xs≠[]):∃tk,v= .sl tk xs:=by
 cases h with
 |nil=>exact absurd rfl hn
 |sl tk xs=>exact ⟨tk,rfl⟩
def lcA:AC:=p3x11110100
def lcB:AC:=p3x111101001001111100
def lcC:AC:=p3x11111
theorem Ng {S:Nat→DY}:∀(c:List Nat),(∀k∈c,0≤(S k).cl∧(S k).cl<10000000)→0≤AG S c∧AG S c≤10000000*(c.length:Int)
 |[],_=>by simp [AG]
 |k::c,h=>by
  have h1:=Ng c (fun k hk=>h k (by simp [hk]))
  have h2:=h k (by simp)
  have:AG S (k::c)=(S k).cl+AG S c:=by simp [AG]
  rw [this,List.length_cons]
  omega
theorem WF.clb {Γ:Tb} (O:Γ.Ok) {S:Nat→DY} (W:WF Γ S) (K:BM S) {k:Nat} (hk:k<Γ.n):0≤(S k).cl∧(S k).cl<10000000:=by
 obtain ⟨⟨c,u⟩,h⟩:=Option.ne_none_iff_exists'.1 (K k)
 rw [(W k hk c u h).cl]
 have:=A4 (O.ok k hk)
 omega
abbrev lcT (v1 v2 v3 v9 l:AV) (i bx n:Nat) (s:Int) (q:Nat):iH:=[(1,v1),(2,v2),(3,v3),(9,v9),(10,l),(11,.int .i64 (i:Nat)),(12,.ptr bx 0),(13,.int .i64 (n:Nat)),(14,.int .i64 s),(15,.int .i64 (q:Nat))]
abbrev PY (Γ:Tb) (S:Nat→DY) (i:Nat) (vc vu vv:AV):List AV:=[.int .i64 (Γ.D i).num,.int .i64 (Γ.D i).ar,vc,vu,.int .i64 (S i).off,.int .i64 (S i).cl,vv]
theorem Ta (H:Has fns orc) {Γ:Tb} {S:Nat→DY} {h:aD} (O:Γ.Ok) (K:BM S) (W:WF Γ S) {l:AV} {rs:List AV} (hl:jN l rs) (R:TS Γ S rs) {i:Nat} (hi:i<Γ.n) {vc vu vv v1 v2 v3 v9:AV} {c u:List Nat} {bx:Nat}
  (hcu:(S i).ch=some (c,u)) (hc:jN vc (ints c)) (hu:jN vu (ints u)) (hb:cont h bx=some (PY Γ S i vc vu vv)):∀(k q:Nat),q+k=c.length→
  ∃n,∀m,n≤m→fV (eval fns orc m) 3 none (.loop lcB) ⟨lcT v1 v2 v3 v9 l i bx c.length (AG S (c.take q)) q,[],.plain,h⟩= .ok (.code (.exit 2) ⟨lcT v1 v2 v3 v9 l i bx c.length (AG S c) c.length++[(81,.bool false)],[],.plain,h⟩):=by
 intro k
 induction k with
 |zero=>
  intro q hq
  obtain rfl:q=c.length:=om
  refine ⟨0,fun m _=> ?b0⟩
  case b0=>
   have d:decide (((c.length:Nat):Int)<((c.length:Nat):Int))=false:=dF om
   rw [aJ,List.take_length]
   exact SX (cj2 @lcB.eq_1 d)
 |succ k ih=>
  intro q hq
  obtain ⟨n1,ih⟩:=ih (q+1) om
  have F:=W i hi c u hcu
  have hlt:q<c.length:=om
  obtain ⟨j,hj⟩:∃j,c[q]? =some j:=⟨c[q],List.getElem?_eq_getElem hlt⟩
  obtain ⟨x,hx⟩:∃x,u[q]? =some x:=⟨u[q]'(by rw [F.len];exact hlt),List.getElem?_eq_getElem _⟩
  obtain ⟨hjn,u',hju⟩:=W.part c.length i c u (Nat.le_refl _) hi hcu q j hj
  obtain ⟨vc',vu',vv',c2,u2,vs2,rj,hj2,hc2,hu2,hv2,_⟩:=R.get hjn
  rw [hju] at hj2
  cases hj2
  have hO:=O.lt
  have hcm:∀k∈c.take q,0≤(S k).cl∧(S k).cl<10000000:=fun k hk=>by
   obtain ⟨q',hq'⟩:=tO (List.mem_of_mem_take hk)
   exact W.clb O K (W.part c.length i c u (Nat.le_refl _) hi hcu q' k hq').1
  have hb1:=Ng _ hcm
  have hb2:=W.clb O K hjn
  have hb3:(c.take q).length≤40:=by rw [List.length_take];have:=F.max;omega
  have ho:=W.offq hi hcu hj
  obtain ⟨tk,rfl⟩:=Te hc (by simp [ints];intro e;rw [e] at hlt;simp at hlt)
  obtain ⟨tk',sl⟩:=FI (tk:=tk) (wK c) (n:=q+1) (by rw [mU];omega)
  obtain ⟨n2,e2⟩:=PU H (va:=vc') (a:=c.take (q+1)) hc2 (vb:= .sl tk' ((ints c).take (q+1))) (b:=c.take (q+1)) (by rw [show ints (c.take (q+1))=(ints c).take (q+1) by simp [ints,List.map_take]];exact .sl _ _) (by rw [List.length_take];have:=F.max;omega) h
  rw [show decide (c.take (q+1)=c.take (q+1))=true from dT rfl] at e2
  have d:decide ((q:Int)<((c.length:Nat):Int))=true:=dT om
  have d1:decide ((j:Int)<0)=false:=dF om
  have d2:decide ((Γ.n:Int)≤(j:Int))=false:=dF om
  have d3:decide ((S j).off=AG S (c.take q))=true:=dT ho
  have d4:decide ((x:Int)<0)=false:=dF om
  have ll:∀hp,oW hp .sl l= .ok Γ.n:=fun hp=>by rw [fI hl hp,R.1]
  have ia1:=qG hc hj
  have ia2:=mW hl rj (sz:=7) rfl
  have ia3:=qG hu hx
  have qc:=qF hc
  have qu:=qF hu
  have qc2:=qF hc2
  have qu2:=qF hu2
  have qv2:=Jh hv2
  have hmx:=F.max
  have w1:IntKind.wrap .i64 ((q:Int)+1)=((q+1:Nat):Int):=by rw [pN om om];rfl
  have w2:IntKind.wrap .i64 (AG S (c.take q)+(S j).cl)=AG S (c.take q)+(S j).cl:=pN om om
  have e4:AG S (c.take (q+1))=AG S (c.take q)+(S j).cl:=by rw [N3 hj,Hx]
  refine ⟨n1+n2+1,fun m hm=> ?b1⟩
  case b1=>
   obtain ⟨m,rfl⟩:∃j,m=j+1:=⟨m -1,by omega⟩
   have ih' :eval fns orc (m+1) (.code 3 none (.loop lcB) _)=_:=ih m om
   have e2' :=e2 (m+1) om
   rw [e4] at ih'
   simp only [lcB,lcT] at ih'
   rw [aJ]
   ((try dsimp only [lcT,PY]);exact SXe (gU @lcB.eq_1 d hb ia1 d1 ll d2 ia2 qc qu qc2 qu2 qv2 w1 sl e2' (cj4 d3 ia3 d4 w2)) ih')
end Go.Ly
namespace Go.Ly
open Go Go.Am Go.Fs Go.Gn
variable {fns:Go.Am.F} {orc:Orc}
abbrev lcO (v1 v2 v3 v9 l:AV) (i:Nat):iH:=[(1,v1),(2,v2),(3,v3),(9,v9),(10,l),(11,.int .i64 (i:Nat))]
theorem Wv {v:AV} {c:List Nat} (h:jN v (ints c)):gX v v=true:=qF h
theorem QP (H:Has fns orc) {Γ:Tb} {S:Nat→DY} (O:Γ.Ok) (K:BM S) (W:WF Γ S) {l:AV} {rs:List AV} (hl:jN l rs) (R:TS Γ S rs) {v1 v2 v3 v9:AV}:∀(k i:Nat) (h:aD),i+k=Γ.n→
  ∃h' n,dB h h' ∧∀m,n≤m→fV (eval fns orc m) 3 none (.loop lcA) ⟨lcO v1 v2 v3 v9 l i,[],.plain,h⟩= .ok (.code (.exit 0) ⟨lcO v1 v2 v3 v9 l Γ.n++[(35,.bool false)],[],.plain,h'⟩):=by
 intro k
 have ll:∀hp,oW hp .sl l= .ok Γ.n:=fun hp=>by rw [fI hl hp,R.1]
 induction k with
 |zero=>
  intro i h hi
  obtain rfl:i=Γ.n:=om
  refine ⟨h,0,.refl _,fun m _=> ?b0⟩
  case b0=>
   have d:decide (((Γ.n:Nat):Int)<((Γ.n:Nat):Int))=false:=dF om
   rw [aJ]
   ((try dsimp only [lcO]);exact SX (cj3 @lcA.eq_1 d ll))
 |succ k ih=>
  intro i h hi
  have hO:=O.lt
  have hlt:i<Γ.n:=om
  obtain ⟨vc,vu,vv,c,u,vs,ri,hcu,hc,hu,hv,_⟩:=R.get hlt
  have F:=W i hlt c u hcu
  obtain ⟨q1,q2⟩:=W.Ws hlt hcu
  have hne:c≠[]:=fun e=>by rw [e] at q1;simp at q1
  have Mc:0<c.length:=List.length_pos_iff.2 hne
  have hmx:=F.max
  have hul:=F.len
  have ia:=mW hl ri (sz:=7) rfl
  have lc:∀hp,oW hp .sl vc= .ok c.length:=fun hp=>by rw [fI hc hp,mU]
  have lu:∀hp,oW hp .sl vu= .ok c.length:=fun hp=>by rw [fI hu hp,mU,hul]
  have s1:=rQ hc;have s2:=rQ hu;have s3:=rQ hv
  have k1:=pO hc;have k2:=pO hu;have k3:=pO hv
  have kn1:=xV hc;have kn2:=xV hu;have kn3:=xV hv
  have qc:=qF hc
  have qu:=qF hu
  have qv:=Jh hv
  have i1:=qG hc q1
  have i2:=qG hu q2
  have w1:IntKind.wrap .i64 ((c.length:Int) -1)=((c.length -1:Nat):Int):=by rw [pN om om];omega
  have w2:IntKind.wrap .i64 ((i:Int)+1)=((i+1:Nat):Int):=by rw [pN om om];rfl
  have d:decide ((i:Int)<((Γ.n:Nat):Int))=true:=dT om
  have d1:decide (((c.length:Nat):Int)=0)=false:=dF om
  have d2:decide ((i:Int)=(i:Int))=true:=dT rfl
  have d3:decide (((c.length:Nat):Int)=((c.length:Nat):Int))=true:=dT rfl
  have d4:decide (((0:Nat):Int)=0)=true:=dT rfl
  have d5:decide ((i:Int)≤(Γ.D i).ar)=false:=dF (by have:=(O.ar i hlt).2;omega)
  obtain ⟨h2,h2e⟩:∃x,x=(h.push (.cells [.int .i64 0,.int .i64 0,.aC,.aC,.int .i64 0,.int .i64 0,.aC])).set h.next (.cells (PY Γ S i vc vu vv)):=⟨_,rfl⟩
  have g2:dB h h2:=by rw [h2e];exact gw2
  have x2:cont h2 h.next=some (PY Γ S i vc vu vv):=by rw [h2e];exact aH (by simp)
  obtain ⟨n1,e1⟩:=Ta H O K W hl R hlt (v1:=v1) (v2:=v2) (v3:=v3) (v9:=v9) hcu hc hu x2 c.length 0 om
  obtain ⟨h3,n3,g3,e3⟩:=ih (i+1) h2 om
  refine ⟨h3,n1+n3+3,g2.trans g3,fun m hm=> ?b1⟩
  case b1=>
   obtain ⟨m,rfl⟩:∃j,m=j+1:=⟨m -1,by omega⟩
   have e3' :eval fns orc (m+1) (.code 3 none (.loop lcA) _)=_:=e3 m om
   have e1' :=e1 (m+1) om
   simp only [lcA,lcO] at e3'
   simp only [lcB,lcT,List.cons_append,List.nil_append,List.take_zero,show AG S []=0 from rfl,Int.ofNat_zero] at e1'
   simp only [PY] at h2e x2
   rw [aJ]
   ((try dsimp only [lcO]);exact SXe (gU @lcA.eq_1 d ll ia s1 s2 s3 k1 k2 k3 kn1 kn2 kn3 qc qu qv (Af (Eq.symm h2e) x2 lc lu d1 w1 i1 d2 d3 i2 d4 d5 e1' w2)) e3')
end Go.Ly
namespace Go.Ly
open Go Go.Am Go.Fs Go.Gn
variable {fns:Go.Am.F} {orc:Orc}
def Dm (orc:Orc):Prop:=∃g,orc 5=some g∧g []=some (.bool true)
def lcD:AC:=p3x1111111111
theorem UZ (X:Dm orc) (a b:Int) (r1 r2 r3 r4:Bool) (p1:r1=true→r2=true→r3=true) (p2:r1=true→r4=true→a=b) (p3:a=b→r1=true) (h:aD) (m:Nat) (hm:2≤m):
  fV (eval fns orc m) 3 none lcD ⟨[(1,.int .i64 a),(2,.int .i64 b),(17,.bool r1),(19,.bool r2),(21,.bool r3),(23,.bool r4),(176,.bool false)],[],.plain,h⟩= .ok (.code .ret ⟨[(8,.bool true)],[],.plain,h⟩):=by
 obtain ⟨g,g1,g2⟩:=X
 have os:=BT (fns:=fns) g1 g2 h m om
 cases da:decide (a=b) with
 |true=>
  have hab:a=b:=of_decide_eq_true da
  have e1:=p3 hab
  subst e1
  cases r2 with
  |true=>
   have:=p1 rfl rfl
   subst this
   cases r4<;>exact SX (cj3 @lcD.eq_1 os da)
  |false=>cases r3<;>cases r4<;>exact SX (cj3 @lcD.eq_1 os da)
 |false=>
  have hab:¬a=b:=of_decide_eq_false da
  cases r1 with
  |false=>cases r2<;>cases r3<;>cases r4<;>exact SX (cj3 @lcD.eq_1 os da)
  |true=>
   cases r4 with
   |true=>exact absurd (p2 rfl rfl) hab
   |false=>
    cases r2 with
    |true=>
     have:=p1 rfl rfl
     subst this
     exact SX (cj3 @lcD.eq_1 os da)
    |false=>cases r3<;>exact SX (cj3 @lcD.eq_1 os da)
theorem GI {a b:List Nat}:A7 a b=true↔b.length≤a.length∧a.take b.length=b:=by unfold A7;simp
theorem MO {a b c:List Nat} (h1:A7 a b=true) (h2:A7 b c=true):A7 a c=true:=by
 rw [GI] at*
 refine ⟨by omega, ?_⟩
 have:=h2.2
 rw [←h1.2,List.take_take,Nat.min_eq_left h2.1] at this
 exact this
theorem Pt {a b:List Nat} (h1:A7 a b=true) (h2:A7 b a=true):a=b:=by
 rw [GI] at*
 have:=h1.2
 rw [List.take_of_length_le om] at this
 exact this
theorem Ps (a:List Nat):A7 a a=true:=by rw [GI];simp
theorem VE {Γ:Tb} {S:Nat→DY} (W:WF Γ S) {i j:Nat} (hi:i<Γ.n) (hj:j<Γ.n) {c u u' :List Nat} (h1:(S i).ch=some (c,u)) (h2:(S j).ch=some (c,u')):i=j:=by
 obtain ⟨c1,e1,_⟩:=W.last hi h1
 obtain ⟨c2,e2,_⟩:=W.last hj h2
 rw [e1] at e2
 have:=List.append_inj_right' e2 rfl
 simpa using this
theorem RN {Γ:Tb} {S:Nat→DY} (W:WF Γ S) {a b c:Int} {r1 r2 r3 r4:Bool} (h1:CfR Γ S a b r1 0) (h2:CfR Γ S b c r2 0) (h3:CfR Γ S a c r3 0) (h4:CfR Γ S b a r4 0):
  (r1=true→r2=true→r3=true)∧(r1=true→r4=true→a=b)∧(a=b→r1=true):=by
 rcases h1 with ⟨_,_,w⟩|⟨i,j,ci,ui,cj,uj,rfl,rfl,hi,hj,hci,hcj,rfl,_⟩
 ·cases w
 rcases h2 with ⟨_,_,w⟩|⟨j2,k,cj2,uj2,ck,uk,e,rfl,hj2,hk,W0,hck,rfl,_⟩
 ·cases w
 obtain rfl:j=j2:=om
 rw [hcj] at W0;cases W0
 rcases h3 with ⟨_,_,w⟩|⟨i2,k2,ci2,ui2,ck2,uk2,e,e',_,_,W9,WY,rfl,_⟩
 ·cases w
 obtain rfl:i=i2:=om
 obtain rfl:k=k2:=om
 rw [hci] at W9;cases W9
 rw [hck] at WY;cases WY
 rcases h4 with ⟨_,_,w⟩|⟨j3,i3,cj3,uj3,ci3,ui3,e,e',_,_,WZ,W8,rfl,_⟩
 ·cases w
 obtain rfl:j=j3:=om
 obtain rfl:i=i3:=om
 rw [hci] at W8;cases W8
 rw [hcj] at WZ;cases WZ
 refine ⟨MO,fun q1 q2=> ?_,fun q=> ?_⟩
 ·have:=Pt q1 q2
  subst this
  rw [VE W hi hj hci hcj]
 ·obtain rfl:i=j:=om
  rw [hci] at hcj;cases hcj
  exact Ps _
theorem U0 (H:Has fns orc) (X:Dm orc) {Γ:Tb} {S:Nat→DY} {h:aD} (M:Made Γ S h) (l:AV) (a b c:Int):
  ∃n,∀m,n≤m→fV (eval fns orc m) 3 none lcC ⟨lcO (.int .i64 a) (.int .i64 b) (.int .i64 c) (.ptr Γ.tb 0) l Γ.n++[(35,.bool false)],[],.plain,h⟩= .ok (.code .ret ⟨[(8,.bool true)],[],.plain,h⟩):=by
 obtain ⟨r1,z1,⟨n1,e1⟩,c1⟩:=Fu H M a b
 obtain ⟨r2,z2,⟨n2,e2⟩,c2⟩:=Fu H M b c
 obtain ⟨r3,z3,⟨n3,e3⟩,c3⟩:=Fu H M a c
 obtain ⟨r4,z4,⟨n4,e4⟩,c4⟩:=Fu H M b a
 obtain ⟨g,g1,g2⟩:=id X
 refine ⟨n1+n2+n3+n4+2,fun m hm=> ?_⟩
 have os:=BT (fns:=fns) g1 g2 h m om
 have e1' :=e1 m om
 have e2' :=e2 m om
 have e3' :=e3 m om
 have e4' :=e4 m om
 cases d1:decide (z1=0) with
 |false=>
  ((try dsimp only [lcO]);exact SX (cj9 @lcC.eq_1 @List.cons_append.{0} @List.nil_append.{0} e1' e2' e3' e4' d1 os))
 |true=>
 cases d2:decide (z2=0) with
 |false=>
  ((try dsimp only [lcO]);exact SX (uP @lcC.eq_1 @List.cons_append.{0} @List.nil_append.{0} e1' e2' e3' e4' d1 d2 os))
 |true=>
 cases d3:decide (z3=0) with
 |false=>
  ((try dsimp only [lcO]);exact SX (tG @lcC.eq_1 @List.cons_append.{0} @List.nil_append.{0} e1' e2' e3' e4' d1 d2 d3 os))
 |true=>
 cases d4:decide (z4=0) with
 |false=>
  ((try dsimp only [lcO]);exact SX (qP @lcC.eq_1 @List.cons_append.{0} @List.nil_append.{0} e1' e2' e3' e4' d1 d2 d3 d4 os))
 |true=>
 rw [of_decide_eq_true d1] at c1
 rw [of_decide_eq_true d2] at c2
 rw [of_decide_eq_true d3] at c3
 rw [of_decide_eq_true d4] at c4
 obtain ⟨p1,p2,p3⟩:=RN M.wf c1 c2 c3 c4
 have eD:=UZ (fns:=fns) X a b r1 r2 r3 r4 p1 p2 p3 h m om
 simp only [lcD] at eD
 ((try dsimp only [lcO]);exact SX (qP @lcC.eq_1 @List.cons_append.{0} @List.nil_append.{0} e1' e2' e3' e4' d1 d2 d3 d4 eD))
theorem Pn (H:Has fns orc) (N:vU fns orc) (X:Dm orc) {d:pW} {cs:List AV} (hv:RV (.desc d) (.agg cs)) (hs:wQ (.desc d)) (hn:(Part.desc d).nodes<5000000) (a b c:Int) (h:aD):
  ∃h',Ev fns orc (.call 3 [.agg cs,.int .i64 a,.int .i64 b,.int .i64 c] .plain h) (.call (.ret (.bool true)) .plain h'):=by
 have hcl:=mC hv
 have p7:takeN 7 cs=some cs:=by rw [←hcl];exact eO cs
 obtain ⟨g,s1,s2⟩:=id X
 obtain ⟨h1,h1e⟩:∃x,x=h.push (.cells cs):=⟨_,rfl⟩
 have x1:cont h1 h.next=some cs:=by rw [h1e];exact cI om om
 obtain ⟨h2,g2,⟨n2,e2⟩|⟨Γ,S,⟨n2,e2⟩,M⟩⟩:=Tc H N hv hs hn h1
 ·have os:=BT (fns:=fns) s1 s2 h2
  refine ⟨h2,Ev.call H.f3 H.o3 ⟨n2+2,fun m hm=> ?b1⟩⟩
  case b1=>
   have os' :=os m om
   have e2' :=e2 m om
   exact SX (cj7 @a3.eq_1 hcl p7 (Eq.symm h1e) x1 e2' os')
 ·obtain ⟨h3,l,rs,g3,⟨n3,e3⟩,hl,hlen,Al⟩:=Rz H M
  obtain ⟨h4,n4,g4,e4⟩:=QP H M.ok M.all M.wf hl (R:=⟨hlen,Al⟩) (v1:= .int .i64 a) (v2:= .int .i64 b) (v3:= .int .i64 c) (v9:= .ptr Γ.tb 0) Γ.n 0 h3 om
  obtain ⟨n5,e5⟩:=U0 H X ((M.grow g3).grow g4) l a b c
  refine ⟨h4,Ev.call H.f3 H.o3 ⟨n2+n3+n4+n5+2,fun m hm=> ?b2⟩⟩
  case b2=>
   have e2' :=e2 m om
   have e3' :=e3 m om
   have e4' :=e4 m om
   have e5' :=e5 m om
   simp only [lcA,lcO,List.cons_append,List.nil_append,Int.ofNat_zero] at e4'
   simp only [lcC,lcO,List.cons_append,List.nil_append] at e5'
   exact SX (cj9 @a3.eq_1 hcl p7 (Eq.symm h1e) x1 e2' e3' e4' e5')
end Go.Ly
end
